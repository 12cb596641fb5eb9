/- append, copy, conversions to bytes, strings over bytes, functions without a body. -/
import Derived.Test.YtkkoidhohapjcaaGreatDoorTcMaps2
import Derived.Laws.Externs
import Derived.Test.YtkkoidhohapjcaaGreatDoorTcDefs
set_option linter.unusedSimpArgs false
set_option linter.unusedVariables false
set_option linter.unusedSectionVars false
namespace Go.Tc
variable [Val]

section
variable {P : Program} {G : Nat} {β : Pl} {H : AHeap} {w : World}

theorem firstCells_run {m : Nat} {x : AV} {v : Value} {n size : Nat} {l : List AV} (hw : WR G β H.get m w) (h : srcCells H n size x = some l) (hx : VR β x v) (hn : ∀ k, srcLen x = some k → n ≤ k) :
    ∃ vs : List Value, (Builtin.firstCells size n v).run P w = .ok vs.toArray w ∧ VRs β l vs := by
  unfold srcCells at h
  split at h
  · cases hx
    split at h
    · cases h; exact ⟨[], rfl, .nil⟩
    · cases h
  · cases hx
    split at h
    · rename_i h0
      cases h
      subst h0
      exact ⟨[], by simp [Builtin.firstCells, loadCells, loadCellsFrom], .nil⟩
    · cases h
  · rename_i b off len cap
    cases hx with
    | @slice _ p _ _ _ c hp hc hl =>
    split at h
    · rename_i h0
      cases h
      subst h0
      exact ⟨[], by simp [Builtin.firstCells, loadCells, loadCellsFrom], .nil⟩
    · obtain ⟨q, vs, hq, hlen, hrun, hvs⟩ := loadN_run (P := P) hw h
      rw [hp] at hq; cases hq
      exact ⟨vs, hrun, hvs⟩
  · cases hx with
    | str s =>
    split at h <;> cases h
    refine ⟨(s.data.toList.take n).map fun b => Value.int .u8 b.toNat, ?_, ?_⟩
    · simp only [Builtin.firstCells, Sem.run_pure]
      congr 1
      apply Array.ext'
      simp [ByteArray.data_extract, List.extract_eq_take_drop]
    · rw [BS.of_nats]
      rw [← List.map_take, List.map_map]
      generalize s.data.toList.take n = r
      induction r with
      | nil => exact .nil
      | cons b r ih => exact .cons (.int _ _) ih
  · cases h

theorem srcLen_run {x : AV} {v : Value} {n : Nat} (h : srcLen x = some n) (hx : VR β x v) : (Builtin.lenOf v).run P w = .ok n w := by
  unfold srcLen at h
  split at h
  · cases h; cases hx; rfl
  · cases h; cases hx; rfl
  · cases h; cases hx; rfl
  · cases hx; cases h; rw [BS.of_len]; rfl
  · cases h

omit [Val] in
theorem growBy_le (need : Nat) : ∀ (k c : Nat), 256 ≤ need → c < need → Builtin.growBy need k c ≤ 3 * need
  | 0, c, h1, h2 => by simp only [Builtin.growBy]; omega
  | k + 1, c, h1, h2 => by
    simp only [Builtin.growBy]
    split
    · omega
    · by_cases h3 : c + (c + 768) / 4 < need
      · exact growBy_le need k _ h1 h3
      · cases k with
        | zero => simp only [Builtin.growBy]; omega
        | succ k => simp only [Builtin.growBy]; rw [if_pos (by omega)]; omega
omit [Val] in
theorem nextslicecap_le (need c : Nat) (h : c < need) : Builtin.nextslicecap need c ≤ 3 * need := by
  unfold Builtin.nextslicecap
  split
  · omega
  · split
    · omega
    · exact growBy_le need 4 c (by omega) h

/-- the capacity that is drawn. -/
def drawnCap (w : World) (need c : Nat) (e : TypeId) : Nat := (Question.appendCap need c e).cut (w.tape w.drawn (.appendCap need c e))
omit [Val] in
theorem drawnCap_ge (w : World) (need c : Nat) (e : TypeId) : need ≤ drawnCap w need c e := by simp [drawnCap, Question.cut]

omit [Val] in
theorem zeroCells_size (z : Array Value) (n : Nat) : (Builtin.zeroCells z n).size = n * z.size := by simp [Builtin.zeroCells]

/-- a drawn row, laid over a part of the heap. -/
theorem grow_lay {n : Nat} {g g0 : Nat → Option AObj} (hw : WR G β g n w) (hg : ∀ b o, g0 b = some o → g b = some o) {cells : List AV} {vs rest : List Value} {e : TypeId} {fz : Nat} {sish : Bool} (hc : VRs β cells vs) :
    WR G (β.put n ⟨w.heap.size, 0, vs.length + rest.length⟩) (fun x => if x = n then some (.row cells e (.buf fz sish)) else g0 x) (n + 1) (w.drew.alloc (.cells (vs ++ rest).toArray e)) ∧
    Tran β g n w (β.put n ⟨w.heap.size, 0, vs.length + rest.length⟩) (fun x => if x = n then some (.row cells e (.buf fz sish)) else g0 x) (n + 1) (w.drew.alloc (.cells (vs ++ rest).toArray e)) := by
  have h0 : WR G β g0 n w.drew := (hw.less hg).drew
  have he := Pl.put_ext (β := β) ⟨w.heap.size, 0, vs.length + rest.length⟩ (hw.fresh _ (Nat.le_refl _))
  have hlen := hc.length
  obtain ⟨k1, k2⟩ := h0.alloc (.cells (vs ++ rest).toArray e) (vs.length + rest.length) (.row cells e (.buf fz sish)) ⟨(vs ++ rest).toArray, 0, 0, World.alloc_heap_new _ _, by simp, by simp [hlen], by
    have : ((vs ++ rest).toArray.toList.drop 0).take cells.length = vs := by simp [hlen]
    rw [this]; exact hc.mono he, fun o _ _ => by omega, fun _ => .inl rfl⟩
  refine ⟨k1, ⟨k2.ext, k2.next, k2.size, ?_, k2.old, ?_, ?_, k2.os, k2.out, k2.tape, fun c x hx => .inl hx⟩⟩
  · intro c hcl hno
    exact k2.kept c hcl fun b o p hb => hno b o p (hg b o hb)
  · intro b hb h0
    refine k2.dom b hb ?_
    cases h1 : g0 b with
    | none => rfl
    | some o => rw [hg b o h1] at h0; cases h0
  · intro b o p hb hp hlt
    obtain ⟨b0, o0, p0, q1, q2, q3, q4⟩ := k2.new b o p hb hp hlt
    exact ⟨b0, o0, p0, hg _ _ q1, q2, q3, q4⟩

omit [Val] in
/-- the model's append where it makes a new row. -/
theorem append_grow_run {t e xt : TypeId} {ts : List TypeId} {ty : TypeId} {base : Option Addr} {len c : Nat} {v : Value} {size by8 n : Nat} {old new : List Value} {zv : Value} {xd : TypeDesc}
    (hu : P.underlying t = some (.slice e)) (hx : P.underlying xt = some xd) (hxi : ∀ k, xd ≠ .int k) (hs : ∀ w, (sizeOf e).run P w = .ok size w) {inf : TypeInfo} (hi : ∀ w, (typeInfo e).run P w = .ok inf w) (hb : inf.bytes = by8)
    (hz : ∀ w, (zeroValue e).run P w = .ok zv w) (hn : (Builtin.lenOf v).run P w = .ok n w) (hgt : c < len + n) (hle : (len + n) * by8 ≤ 2 ^ 40) (hle2 : len + n ≤ 2 ^ 40)
    (hold : (Builtin.firstCells size len (.slice base len c)).run P w.drew = .ok old.toArray w.drew) (hnew : (Builtin.firstCells size n v).run P w.drew = .ok new.toArray w.drew) :
    (Builtin.append_ (t :: xt :: ts).toArray ty #[.slice base len c, v]).run P w =
      .ok (.slice (some ⟨w.heap.size, 0, none⟩) (len + n) (drawnCap w (len + n) c e)) (w.drew.alloc (.cells (old ++ new ++ (Builtin.zeroCells zv.cells (drawnCap w (len + n) c e - (len + n))).toList).toArray e)) := by
  have e0 : (t :: xt :: ts).toArray[0]? = some t := by simp
  have e1 : (t :: xt :: ts).toArray[1]? = some xt := by simp
  have hzeros : (match xd with | .int _ => true | _ => false) = false := by cases xd <;> first | rfl | exact absurd rfl (hxi _)
  have h48 : ¬ (Builtin.nextslicecap (len + n) c * by8 > 2 ^ 48) := by
    have := Nat.mul_le_mul_right by8 (nextslicecap_le (len + n) c hgt)
    rw [Nat.mul_assoc] at this
    omega
  have hmax : ¬ (((len + n : Nat) : Int) > IntKind.i64.max ∧ (false = true ∨ by8 = 0)) := by
    have : IntKind.i64.max = 9223372036854775807 := by decide
    omega
  have hforced : (Question.appendCap (len + n) c e).forced = false := rfl
  simp only [Builtin.append_, List.getElem?_toArray, List.getElem?_cons_zero, List.getElem?_cons_succ, Sem.run_bind, run_underlying hu, Result.andThen_ok, hs, run_underlying hx, Sem.run_pure]
  have hgt' : ¬ (len + n ≤ c) := by omega
  clear hzeros hmax e0 e1
  have hmax' : ¬ (((len + n : Nat) : Int) > IntKind.i64.max) := by
    have : IntKind.i64.max = 9223372036854775807 := by decide
    omega
  cases xd <;> first
    | exact absurd rfl (hxi _)
    | skip
  all_goals
   simp only [Bool.false_eq_true, if_false, Sem.run_bind, hn, Result.andThen_ok, if_neg hgt', hi, hb, hmax', false_and, if_neg h48, run_choose, hforced, run_askRoom, World.drew_eq, hold, Bool.not_false, if_true, hnew, hz, newRow, run_newObj, Sem.run_pure]
   have e2 : old.toArray ++ new.toArray ++ Builtin.zeroCells zv.cells (drawnCap w (len + n) c e - (len + n)) = (old ++ new ++ (Builtin.zeroCells zv.cells (drawnCap w (len + n) c e - (len + n))).toList).toArray := by
     apply Array.ext'; simp
   rw [← e2]
   rfl

omit [Val] in
/-- the model's append within the capacity. -/
theorem append_within_run {t e xt : TypeId} {ts : List TypeId} {ty : TypeId} {a : Addr} {len c : Nat} {v : Value} {size n : Nat} {new : List Value} {w' : World} {xd : TypeDesc}
    (hu : P.underlying t = some (.slice e)) (hx : P.underlying xt = some xd) (hxi : ∀ k, xd ≠ .int k) (hs : (sizeOf e).run P w = .ok size w)
    (hn : (Builtin.lenOf v).run P w = .ok n w) (hle : len + n ≤ c)
    (hnew : (Builtin.firstCells size n v).run P w = .ok new.toArray w) (hst : (storeCells (a.add (len * size)) new).run P w = .ok () w') :
    (Builtin.append_ (t :: xt :: ts).toArray ty #[.slice (some a) len c, v]).run P w = .ok (.slice (some a) (len + n) c) w' := by
  have hzeros : (match xd with | .int _ => true | _ => false) = false := by cases xd <;> first | rfl | exact absurd rfl (hxi _)
  simp only [Builtin.append_, List.getElem?_toArray, List.getElem?_cons_zero, List.getElem?_cons_succ, Sem.run_bind, run_underlying hu, Result.andThen_ok, hs, run_underlying hx, Sem.run_pure]
  cases xd <;> first
    | exact absurd rfl (hxi _)
    | simp only [Bool.false_eq_true, if_false, Sem.run_bind, hn, Result.andThen_ok, if_pos hle, Bool.not_false, if_true, hnew, hst, Sem.run_pure]

omit [Val] in
/-- the number of zeros. -/
theorem zerosCount {n : Nat} (h : n ≤ 2 ^ 40) : IntKind.i64.wrap (((n : Nat) : Int)) = ((n : Nat) : Int) := by
  simp only [IntKind.wrap, IntKind.signed, IntKind.bits]
  simp
  omega

omit [Val] in
/-- an append of no zeros. -/
theorem append_zeros0_run {t e xt : TypeId} {ts : List TypeId} {ty : TypeId} {base : Option Addr} {len c size : Nat} {k : IntKind} {inf : TypeInfo}
    (hu : P.underlying t = some (.slice e)) (hx : P.underlying xt = some (.int k)) (hs : (sizeOf e).run P w = .ok size w) (hi : (typeInfo e).run P w = .ok inf w) (hle : len ≤ c) (_ : True) :
    (Builtin.append_ (t :: xt :: ts).toArray ty #[.slice base len c, .int .i64 ((0 : Nat) : Int)]).run P w = .ok (.slice base len c) w := by
  have hw0 : IntKind.i64.wrap ((0 : Nat) : Int) = 0 := by decide
  have hai : (asInt (.int .i64 ((0 : Nat) : Int))).run P w = .ok ((0 : Nat) : Int) w := rfl
  simp only [Builtin.append_, List.getElem?_toArray, List.getElem?_cons_zero, List.getElem?_cons_succ, Sem.run_bind, run_underlying hu, Result.andThen_ok, hs, run_underlying hx, Sem.run_pure, if_true, hai, hw0]
  cases base <;> simp [hle, storeCells, hi]

omit [Val] in
/-- the model's append of zeros where it makes a new row. -/
theorem append_grow_zeros {t e xt : TypeId} {ts : List TypeId} {ty : TypeId} {base : Option Addr} {len c : Nat} {size by8 n : Nat} {old : List Value} {zv : Value} {k : IntKind}
    (hu : P.underlying t = some (.slice e)) (hx : P.underlying xt = some (.int k)) (hs : ∀ w, (sizeOf e).run P w = .ok size w) {inf : TypeInfo} (hi : ∀ w, (typeInfo e).run P w = .ok inf w) (hb : inf.bytes = by8)
    (hz : ∀ w, (zeroValue e).run P w = .ok zv w) (hn0 : n ≠ 0) (hsz0 : size ≠ 0) (hgt : c < len + n) (hle : (len + n) * by8 ≤ 2 ^ 40) (hle2 : len + n ≤ 2 ^ 40)
    (hold : (Builtin.firstCells size len (.slice base len c)).run P w.drew = .ok old.toArray w.drew) :
    (Builtin.append_ (t :: xt :: ts).toArray ty #[.slice base len c, .int .i64 (((n : Nat) : Int))]).run P w =
      .ok (.slice (some ⟨w.heap.size, 0, none⟩) (len + n) (drawnCap w (len + n) c e)) (w.drew.alloc (.cells (old ++ (Builtin.zeroCells zv.cells n).toList ++ (Builtin.zeroCells zv.cells (drawnCap w (len + n) c e - (len + n))).toList).toArray e)) := by
  have h48 : ¬ (Builtin.nextslicecap (len + n) c * by8 > 2 ^ 48) := by
    have := Nat.mul_le_mul_right by8 (nextslicecap_le (len + n) c hgt)
    rw [Nat.mul_assoc] at this
    omega
  have hforced : (Question.appendCap (len + n) c e).forced = false := rfl
  have hgt' : ¬ (len + n ≤ c) := by omega
  have hmax' : ¬ (((len + n : Nat) : Int) > IntKind.i64.max) := by
    have : IntKind.i64.max = 9223372036854775807 := by decide
    omega
  have hwr := zerosCount (n := n) (by omega)
  have hneg : ¬ (((n : Nat) : Int) < 0) := by omega
  have hai : ∀ w, (asInt (.int .i64 (((n : Nat) : Int)))).run P w = .ok (((n : Nat) : Int)) w := fun _ => rfl
  have hbig : ¬ (((n : Nat) : Int) * (by8 : Int) > 2 ^ 48) := by
    have h1 : n * by8 ≤ 2 ^ 40 := Nat.le_trans (Nat.mul_le_mul_right _ (by omega)) hle
    have h2 : ((n : Nat) : Int) * (by8 : Int) = ((n * by8 : Nat) : Int) := (Int.natCast_mul n by8).symm
    rw [h2]; omega
  have hnz : ¬ (n * size = 0) := Nat.mul_ne_zero hn0 hsz0
  simp only [Builtin.append_, List.getElem?_toArray, List.getElem?_cons_zero, List.getElem?_cons_succ, Sem.run_bind, run_underlying hu, Result.andThen_ok, hs, run_underlying hx, Sem.run_pure, if_true, hai, hwr, if_neg hneg, hi, hb, if_neg hbig, Int.toNat_natCast]
  simp only [if_neg hgt', hmax', false_and, if_false, if_neg h48, run_choose, hforced, Bool.false_eq_true, run_askRoom, World.drew_eq, hold, Bool.not_true, if_neg hnz, hz, newRow, run_newObj, Sem.run_pure, Sem.run_bind, Result.andThen_ok, hi, hb]
  have e2 : old.toArray ++ Builtin.zeroCells zv.cells n ++ Builtin.zeroCells zv.cells (drawnCap w (len + n) c e - (len + n)) = (old ++ (Builtin.zeroCells zv.cells n).toList ++ (Builtin.zeroCells zv.cells (drawnCap w (len + n) c e - (len + n))).toList).toArray := by
    apply Array.ext'; simp
  rw [← e2]
  rfl

omit [Val] in
/-- the model's append of zeros within the capacity. -/
theorem append_within_zeros {t e xt : TypeId} {ts : List TypeId} {ty : TypeId} {a : Addr} {len c : Nat} {size by8 n : Nat} {w' : World} {zv : Value} {k : IntKind}
    (hu : P.underlying t = some (.slice e)) (hx : P.underlying xt = some (.int k)) (hs : (sizeOf e).run P w = .ok size w) {inf : TypeInfo} (hi : (typeInfo e).run P w = .ok inf w) (hb : inf.bytes = by8)
    (hz : ∀ w, (zeroValue e).run P w = .ok zv w) (hn0 : n ≠ 0) (hsz0 : size ≠ 0) (hle : len + n ≤ c) (hle1 : (len + n) * by8 ≤ 2 ^ 40) (hle2 : len + n ≤ 2 ^ 40)
    (hst : (storeCells (a.add (len * size)) (Builtin.zeroCells zv.cells n).toList).run P w = .ok () w') :
    (Builtin.append_ (t :: xt :: ts).toArray ty #[.slice (some a) len c, .int .i64 (((n : Nat) : Int))]).run P w = .ok (.slice (some a) (len + n) c) w' := by
  have hwr := zerosCount (n := n) (by omega)
  have hneg : ¬ (((n : Nat) : Int) < 0) := by omega
  have hai : ∀ w, (asInt (.int .i64 (((n : Nat) : Int)))).run P w = .ok (((n : Nat) : Int)) w := fun _ => rfl
  have hbig : ¬ (((n : Nat) : Int) * (by8 : Int) > 2 ^ 48) := by
    have h1 : n * by8 ≤ 2 ^ 40 := Nat.le_trans (Nat.mul_le_mul_right _ (by omega)) hle1
    have h2 : ((n : Nat) : Int) * (by8 : Int) = ((n * by8 : Nat) : Int) := (Int.natCast_mul n by8).symm
    rw [h2]; omega
  have hnz : ¬ (n * size = 0) := Nat.mul_ne_zero hn0 hsz0
  simp only [Builtin.append_, List.getElem?_toArray, List.getElem?_cons_zero, List.getElem?_cons_succ, Sem.run_bind, run_underlying hu, Result.andThen_ok, hs, run_underlying hx, Sem.run_pure, if_true, hai, hwr, if_neg hneg, hi, hb, if_neg hbig, Int.toNat_natCast]
  simp only [if_pos hle, Bool.not_true, Bool.false_eq_true, if_false, if_neg hnz, hz, Sem.run_bind, Result.andThen_ok, Sem.run_pure, hst]

end
end Go.Tc
