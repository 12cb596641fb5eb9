/- append, copy, conversions to bytes, strings over bytes, functions without a body. -/
import Derived.Test.YtjmjbjnbfodalaaGreatTcMaps
import Derived.Laws.Externs
import Derived.Test.YtjmjbjnbfodalaaGreatTcDefs
set_option linter.unusedSimpArgs false
set_option linter.unusedVariables false
set_option linter.unusedSectionVars false
namespace Go.Tc
variable [Val]
section
variable {P : Program} {G : Nat} {β : Pl} {H : AHeap} {w : World}
theorem holeCells_VRs {t : Tm} {s : BS} {ps : List Nat} {ts : List Tm} {sb : ByteArray} (h : holeOf t = some (s, ps, ts)) (hd : t.den = .str (BS.of sb)) :
    VRs β (holeCells s ps ts) (sb.data.toList.map fun b => Value.int .u8 b.toNat) := by
  obtain ⟨o, d⟩ := holeOf_den h
  rw [hd] at d
  have d : BS.of sb = BS.ofNats (patch ps (natsOfD (Tm.dens ts)) (s.nats s.len)) := D.str.inj d
  have hlen : sb.data.toList.length = s.len := by
    have := congrArg BS.len d
    rw [ofNats_len, patch_len, nats_len] at this
    exact this
  have hval : ∀ i : Nat, i < s.len → ((sb.data.toList[i]?).map (·.toNat)) = ((patch ps (natsOfD (Tm.dens ts)) (s.nats s.len))[i]?).map (· % 256) := by
    intro i hi
    have e1 := ofList_get sb.data.toList i (by omega)
    have e2 := ofNats_get (patch ps (natsOfD (Tm.dens ts)) (s.nats s.len)) i (by rw [patch_len, nats_len]; exact hi)
    rw [← d] at e2
    have e3 : (BS.of sb).get i = (sb.data.toList[i]'(by omega)).toNat := e1
    rw [List.getElem?_eq_getElem (by omega), List.getElem?_eq_getElem (by rw [patch_len, nats_len]; exact hi), Option.map_some, Option.map_some, ← e2, e3]
  refine VRs.of_getG (by simp [holeCells, patch_len, nats_len, hlen]) fun i x hx => ?_
  have hi : i < s.len := by
    have := (List.getElem?_eq_some_iff.1 hx).1
    simpa [holeCells, patch_len, nats_len] using this
  have hv := hval i hi
  have hb : sb.data.toList[i]? = some (sb.data.toList[i]'(by omega)) := List.getElem?_eq_getElem (by omega)
  generalize sb.data.toList[i]'(by omega) = b at hb
  rw [hb] at hv
  refine ⟨.int .u8 b.toNat, by rw [List.getElem?_map, hb]; rfl, ?_⟩
  unfold holeCells at hx
  rw [patch_get, findHole_map] at hx
  rw [patch_get, natsOfD_map, dens_map, findHole_map, findHole_map] at hv
  cases e : findHole i ps ts with
  | none =>
    rw [e] at hx hv
    simp only [Option.map_none, List.getElem?_map] at hx hv
    rw [Option.map_eq_some_iff] at hx
    obtain ⟨c, hc, rfl⟩ := hx
    rw [hc] at hv
    have hlt := nats_lt s s.len c (List.mem_of_getElem? hc)
    simp only [Option.map_some, Option.some.injEq] at hv
    rw [hv, Nat.mod_eq_of_lt hlt]
    exact .int _ _
  | some u =>
    rw [e] at hx hv
    simp only [Option.map_some, List.length_map, nats_len, hi, if_true, Option.some.injEq] at hx hv
    subst hx
    exact ofTm_int (by rw [byteT1_den, hv])
theorem firstCells_run {m : Nat} {x : AV} {v : Value} {n size : Nat} {l : List AV} (hw : WR G β H.get m w) (h : srcCells H n size x = some l) (hx : VR β x v) (hn : ∀ k, srcLen x = some k → n ≤ k) :
    ∃ vs : List Value, (Builtin.firstCells size n v).run P w = .ok vs.toArray w ∧ VRs β l vs := by
  unfold srcCells at h
  split at h
  · cases hx
    split at h
    · cases h; exact ⟨[], rfl, .nil⟩
    · cases h
  · cases hx
    split at h
    · rename_i h0
      cases h
      subst h0
      exact ⟨[], by simp [Builtin.firstCells, loadCells, loadCellsFrom], .nil⟩
    · cases h
  · rename_i b off len cap
    cases hx with
    | @slice _ p _ _ _ c hp hc hl =>
    split at h
    · rename_i h0
      cases h
      subst h0
      exact ⟨[], by simp [Builtin.firstCells, loadCells, loadCellsFrom], .nil⟩
    · obtain ⟨q, vs, hq, hlen, hrun, hvs⟩ := loadN_run (P := P) hw h
      rw [hp] at hq; cases hq
      exact ⟨vs, hrun, hvs⟩
  · cases hx with
    | str s =>
    split at h <;> cases h
    refine ⟨(s.data.toList.take n).map fun b => Value.int .u8 b.toNat, ?_, ?_⟩
    · simp only [Builtin.firstCells, Sem.run_pure]
      congr 1
      apply Array.ext'
      simp [ByteArray.data_extract, List.extract_eq_take_drop]
    · rw [BS.of_nats]
      rw [← List.map_take, List.map_map]
      generalize s.data.toList.take n = r
      induction r with
      | nil => exact .nil
      | cons b r ih => exact .cons (.int _ _) ih
  · cases hx with | sy hx =>
    obtain ⟨s, hd, rfl⟩ := hx.strI
    split at h
    · rename_i bs ps ts hh
      split at h <;> cases h
      refine ⟨(s.data.toList.take n).map fun b => Value.int .u8 b.toNat, ?_, ?_⟩
      · simp only [Builtin.firstCells, Sem.run_pure]
        congr 1
        apply Array.ext'
        simp [ByteArray.data_extract, List.extract_eq_take_drop]
      · rw [List.map_take]
        exact (holeCells_VRs hh hd).take n
    · cases h
  · cases h
theorem srcLen_run {x : AV} {v : Value} {n : Nat} (h : srcLen x = some n) (hx : VR β x v) : (Builtin.lenOf v).run P w = .ok n w := by
  unfold srcLen at h
  split at h
  · cases h; cases hx; rfl
  · cases h; cases hx; rfl
  · cases h; cases hx; rfl
  · cases hx; cases h; rw [BS.of_len]; rfl
  · cases hx with | sy hx =>
    obtain ⟨s, hd, rfl⟩ := hx.strI
    split at h
    · rename_i bs ps ts hh
      cases h
      have d := (holeOf_den hh).2
      rw [hd] at d
      have d : BS.of s = BS.ofNats (patch ps (natsOfD (Tm.dens ts)) (bs.nats bs.len)) := D.str.inj d
      have := congrArg BS.len d
      rw [ofNats_len, patch_len, nats_len, BS.of_len] at this
      rw [← this]; rfl
    · cases h
  · cases h
omit [Val] in
theorem growBy_le (need : Nat) : ∀ (k c : Nat), 256 ≤ need → c < need → Builtin.growBy need k c ≤ 3 * need
  | 0, c, h1, h2 => by simp only [Builtin.growBy]; omega
  | k + 1, c, h1, h2 => by
    simp only [Builtin.growBy]
    split
    · omega
    · by_cases h3 : c + (c + 768) / 4 < need
      · exact growBy_le need k _ h1 h3
      · cases k with
        | zero => simp only [Builtin.growBy]; omega
        | succ k => simp only [Builtin.growBy]; rw [if_pos (by omega)]; omega
omit [Val] in
theorem nextslicecap_le (need c : Nat) (h : c < need) : Builtin.nextslicecap need c ≤ 3 * need := by
  unfold Builtin.nextslicecap
  split
  · omega
  · split
    · omega
    · exact growBy_le need 4 c (by omega) h
def drawnCap (w : World) (need c : Nat) (e : TypeId) : Nat := (Question.appendCap need c e).cut (w.tape w.drawn (.appendCap need c e))
omit [Val] in
theorem drawnCap_ge (w : World) (need c : Nat) (e : TypeId) : need ≤ drawnCap w need c e := by simp [drawnCap, Question.cut]
omit [Val] in
theorem zeroCells_size (z : Array Value) (n : Nat) : (Builtin.zeroCells z n).size = n * z.size := by simp [Builtin.zeroCells]
theorem grow_lay {n : Nat} {g g0 : Nat → Option AObj} (hw : WR G β g n w) (hg : ∀ b o, g0 b = some o → g b = some o) {cells : List AV} {vs rest : List Value} {e : TypeId} {fz : Nat} {sish : Bool} (hc : VRs β cells vs) :
    WR G (β.put n ⟨w.heap.size, 0, vs.length + rest.length⟩) (fun x => if x = n then some (.row cells e (.buf fz sish)) else g0 x) (n + 1) (w.drew.alloc (.cells (vs ++ rest).toArray e)) ∧
    Tran β g n w (β.put n ⟨w.heap.size, 0, vs.length + rest.length⟩) (fun x => if x = n then some (.row cells e (.buf fz sish)) else g0 x) (n + 1) (w.drew.alloc (.cells (vs ++ rest).toArray e)) := by
  have h0 : WR G β g0 n w.drew := (hw.less hg).drew
  have he := Pl.put_ext (β := β) ⟨w.heap.size, 0, vs.length + rest.length⟩ (hw.fresh _ (Nat.le_refl _))
  have hlen := hc.length
  obtain ⟨k1, k2⟩ := h0.alloc (.cells (vs ++ rest).toArray e) (vs.length + rest.length) (.row cells e (.buf fz sish)) ⟨(vs ++ rest).toArray, 0, 0, World.alloc_heap_new _ _, by simp, by simp [hlen], by
    have : ((vs ++ rest).toArray.toList.drop 0).take cells.length = vs := by simp [hlen]
    rw [this]; exact hc.mono he, fun o _ _ => by omega, fun _ => .inl rfl⟩
  refine ⟨k1, ⟨k2.ext, k2.next, k2.size, ?_, k2.old, ?_, ?_, k2.os, k2.out, k2.tape, fun c x hx => .inl hx⟩⟩
  · intro c hcl hno
    exact k2.kept c hcl fun b o p hb => hno b o p (hg b o hb)
  · intro b hb h0
    refine k2.dom b hb ?_
    cases h1 : g0 b with
    | none => rfl
    | some o => rw [hg b o h1] at h0; cases h0
  · intro b o p hb hp hlt
    obtain ⟨b0, o0, p0, q1, q2, q3, q4⟩ := k2.new b o p hb hp hlt
    exact ⟨b0, o0, p0, hg _ _ q1, q2, q3, q4⟩
omit [Val] in
theorem append_grow_run {t e xt : TypeId} {ts : List TypeId} {ty : TypeId} {base : Option Addr} {len c : Nat} {v : Value} {size by8 n : Nat} {old new : List Value} {zv : Value} {xd : TypeDesc}
    (hu : P.underlying t = some (.slice e)) (hx : P.underlying xt = some xd) (hxi : ∀ k, xd ≠ .int k) (hs : ∀ w, (sizeOf e).run P w = .ok size w) {inf : TypeInfo} (hi : ∀ w, (typeInfo e).run P w = .ok inf w) (hb : inf.bytes = by8)
    (hz : ∀ w, (zeroValue e).run P w = .ok zv w) (hn : (Builtin.lenOf v).run P w = .ok n w) (hgt : c < len + n) (hle : (len + n) * by8 ≤ 2 ^ 40) (hle2 : len + n ≤ 2 ^ 40)
    (hold : (Builtin.firstCells size len (.slice base len c)).run P w.drew = .ok old.toArray w.drew) (hnew : (Builtin.firstCells size n v).run P w.drew = .ok new.toArray w.drew) :
    (Builtin.append_ (t :: xt :: ts).toArray ty #[.slice base len c, v]).run P w =
      .ok (.slice (some ⟨w.heap.size, 0, none⟩) (len + n) (drawnCap w (len + n) c e)) (w.drew.alloc (.cells (old ++ new ++ (Builtin.zeroCells zv.cells (drawnCap w (len + n) c e - (len + n))).toList).toArray e)) := by
  have e0 : (t :: xt :: ts).toArray[0]? = some t := by simp
  have e1 : (t :: xt :: ts).toArray[1]? = some xt := by simp
  have hzeros : (match xd with | .int _ => true | _ => false) = false := by cases xd <;> first | rfl | exact absurd rfl (hxi _)
  have h48 : ¬ (Builtin.nextslicecap (len + n) c * by8 > 2 ^ 48) := by
    have := Nat.mul_le_mul_right by8 (nextslicecap_le (len + n) c hgt)
    rw [Nat.mul_assoc] at this
    omega
  have hmax : ¬ (((len + n : Nat) : Int) > IntKind.i64.max ∧ (false = true ∨ by8 = 0)) := by
    have : IntKind.i64.max = 9223372036854775807 := by decide
    omega
  have hforced : (Question.appendCap (len + n) c e).forced = false := rfl
  simp only [Builtin.append_, List.getElem?_toArray, List.getElem?_cons_zero, List.getElem?_cons_succ, Sem.run_bind, run_underlying hu, Result.andThen_ok, hs, run_underlying hx, Sem.run_pure]
  have hgt' : ¬ (len + n ≤ c) := by omega
  clear hzeros hmax e0 e1
  have hmax' : ¬ (((len + n : Nat) : Int) > IntKind.i64.max) := by
    have : IntKind.i64.max = 9223372036854775807 := by decide
    omega
  cases xd <;> first
    | exact absurd rfl (hxi _)
    | skip
  all_goals
   simp only [Bool.false_eq_true, if_false, Sem.run_bind, hn, Result.andThen_ok, if_neg hgt', hi, hb, hmax', false_and, if_neg h48, run_choose, hforced, run_askRoom, World.drew_eq, hold, Bool.not_false, if_true, hnew, hz, newRow, run_newObj, Sem.run_pure]
   have e2 : old.toArray ++ new.toArray ++ Builtin.zeroCells zv.cells (drawnCap w (len + n) c e - (len + n)) = (old ++ new ++ (Builtin.zeroCells zv.cells (drawnCap w (len + n) c e - (len + n))).toList).toArray := by
     apply Array.ext'; simp
   rw [← e2]
   rfl
omit [Val] in
theorem append_within_run {t e xt : TypeId} {ts : List TypeId} {ty : TypeId} {a : Addr} {len c : Nat} {v : Value} {size n : Nat} {new : List Value} {w' : World} {xd : TypeDesc}
    (hu : P.underlying t = some (.slice e)) (hx : P.underlying xt = some xd) (hxi : ∀ k, xd ≠ .int k) (hs : (sizeOf e).run P w = .ok size w)
    (hn : (Builtin.lenOf v).run P w = .ok n w) (hle : len + n ≤ c)
    (hnew : (Builtin.firstCells size n v).run P w = .ok new.toArray w) (hst : (storeCells (a.add (len * size)) new).run P w = .ok () w') :
    (Builtin.append_ (t :: xt :: ts).toArray ty #[.slice (some a) len c, v]).run P w = .ok (.slice (some a) (len + n) c) w' := by
  have hzeros : (match xd with | .int _ => true | _ => false) = false := by cases xd <;> first | rfl | exact absurd rfl (hxi _)
  simp only [Builtin.append_, List.getElem?_toArray, List.getElem?_cons_zero, List.getElem?_cons_succ, Sem.run_bind, run_underlying hu, Result.andThen_ok, hs, run_underlying hx, Sem.run_pure]
  cases xd <;> first
    | exact absurd rfl (hxi _)
    | simp only [Bool.false_eq_true, if_false, Sem.run_bind, hn, Result.andThen_ok, if_pos hle, Bool.not_false, if_true, hnew, hst, Sem.run_pure]
omit [Val] in
theorem zerosCount {n : Nat} (h : n ≤ 2 ^ 40) : IntKind.i64.wrap (((n : Nat) : Int)) = ((n : Nat) : Int) := by
  simp only [IntKind.wrap, IntKind.signed, IntKind.bits]
  simp
  omega
omit [Val] in
theorem append_zeros0_run {t e xt : TypeId} {ts : List TypeId} {ty : TypeId} {base : Option Addr} {len c size : Nat} {k : IntKind} {inf : TypeInfo}
    (hu : P.underlying t = some (.slice e)) (hx : P.underlying xt = some (.int k)) (hs : (sizeOf e).run P w = .ok size w) (hi : (typeInfo e).run P w = .ok inf w) (hle : len ≤ c) (_ : True) :
    (Builtin.append_ (t :: xt :: ts).toArray ty #[.slice base len c, .int .i64 ((0 : Nat) : Int)]).run P w = .ok (.slice base len c) w := by
  have hw0 : IntKind.i64.wrap ((0 : Nat) : Int) = 0 := by decide
  have hai : (asInt (.int .i64 ((0 : Nat) : Int))).run P w = .ok ((0 : Nat) : Int) w := rfl
  simp only [Builtin.append_, List.getElem?_toArray, List.getElem?_cons_zero, List.getElem?_cons_succ, Sem.run_bind, run_underlying hu, Result.andThen_ok, hs, run_underlying hx, Sem.run_pure, if_true, hai, hw0]
  cases base <;> simp [hle, storeCells, hi]
omit [Val] in
theorem append_grow_zeros {t e xt : TypeId} {ts : List TypeId} {ty : TypeId} {base : Option Addr} {len c : Nat} {size by8 n : Nat} {old : List Value} {zv : Value} {k : IntKind}
    (hu : P.underlying t = some (.slice e)) (hx : P.underlying xt = some (.int k)) (hs : ∀ w, (sizeOf e).run P w = .ok size w) {inf : TypeInfo} (hi : ∀ w, (typeInfo e).run P w = .ok inf w) (hb : inf.bytes = by8)
    (hz : ∀ w, (zeroValue e).run P w = .ok zv w) (hn0 : n ≠ 0) (hsz0 : size ≠ 0) (hgt : c < len + n) (hle : (len + n) * by8 ≤ 2 ^ 40) (hle2 : len + n ≤ 2 ^ 40)
    (hold : (Builtin.firstCells size len (.slice base len c)).run P w.drew = .ok old.toArray w.drew) :
    (Builtin.append_ (t :: xt :: ts).toArray ty #[.slice base len c, .int .i64 (((n : Nat) : Int))]).run P w =
      .ok (.slice (some ⟨w.heap.size, 0, none⟩) (len + n) (drawnCap w (len + n) c e)) (w.drew.alloc (.cells (old ++ (Builtin.zeroCells zv.cells n).toList ++ (Builtin.zeroCells zv.cells (drawnCap w (len + n) c e - (len + n))).toList).toArray e)) := by
  have h48 : ¬ (Builtin.nextslicecap (len + n) c * by8 > 2 ^ 48) := by
    have := Nat.mul_le_mul_right by8 (nextslicecap_le (len + n) c hgt)
    rw [Nat.mul_assoc] at this
    omega
  have hforced : (Question.appendCap (len + n) c e).forced = false := rfl
  have hgt' : ¬ (len + n ≤ c) := by omega
  have hmax' : ¬ (((len + n : Nat) : Int) > IntKind.i64.max) := by
    have : IntKind.i64.max = 9223372036854775807 := by decide
    omega
  have hwr := zerosCount (n := n) (by omega)
  have hneg : ¬ (((n : Nat) : Int) < 0) := by omega
  have hai : ∀ w, (asInt (.int .i64 (((n : Nat) : Int)))).run P w = .ok (((n : Nat) : Int)) w := fun _ => rfl
  have hbig : ¬ (((n : Nat) : Int) * (by8 : Int) > 2 ^ 48) := by
    have h1 : n * by8 ≤ 2 ^ 40 := Nat.le_trans (Nat.mul_le_mul_right _ (by omega)) hle
    have h2 : ((n : Nat) : Int) * (by8 : Int) = ((n * by8 : Nat) : Int) := (Int.natCast_mul n by8).symm
    rw [h2]; omega
  have hnz : ¬ (n * size = 0) := Nat.mul_ne_zero hn0 hsz0
  simp only [Builtin.append_, List.getElem?_toArray, List.getElem?_cons_zero, List.getElem?_cons_succ, Sem.run_bind, run_underlying hu, Result.andThen_ok, hs, run_underlying hx, Sem.run_pure, if_true, hai, hwr, if_neg hneg, hi, hb, if_neg hbig, Int.toNat_natCast]
  simp only [if_neg hgt', hmax', false_and, if_false, if_neg h48, run_choose, hforced, Bool.false_eq_true, run_askRoom, World.drew_eq, hold, Bool.not_true, if_neg hnz, hz, newRow, run_newObj, Sem.run_pure, Sem.run_bind, Result.andThen_ok, hi, hb]
  have e2 : old.toArray ++ Builtin.zeroCells zv.cells n ++ Builtin.zeroCells zv.cells (drawnCap w (len + n) c e - (len + n)) = (old ++ (Builtin.zeroCells zv.cells n).toList ++ (Builtin.zeroCells zv.cells (drawnCap w (len + n) c e - (len + n))).toList).toArray := by
    apply Array.ext'; simp
  rw [← e2]
  rfl
omit [Val] in
theorem append_within_zeros {t e xt : TypeId} {ts : List TypeId} {ty : TypeId} {a : Addr} {len c : Nat} {size by8 n : Nat} {w' : World} {zv : Value} {k : IntKind}
    (hu : P.underlying t = some (.slice e)) (hx : P.underlying xt = some (.int k)) (hs : (sizeOf e).run P w = .ok size w) {inf : TypeInfo} (hi : (typeInfo e).run P w = .ok inf w) (hb : inf.bytes = by8)
    (hz : ∀ w, (zeroValue e).run P w = .ok zv w) (hn0 : n ≠ 0) (hsz0 : size ≠ 0) (hle : len + n ≤ c) (hle1 : (len + n) * by8 ≤ 2 ^ 40) (hle2 : len + n ≤ 2 ^ 40)
    (hst : (storeCells (a.add (len * size)) (Builtin.zeroCells zv.cells n).toList).run P w = .ok () w') :
    (Builtin.append_ (t :: xt :: ts).toArray ty #[.slice (some a) len c, .int .i64 (((n : Nat) : Int))]).run P w = .ok (.slice (some a) (len + n) c) w' := by
  have hwr := zerosCount (n := n) (by omega)
  have hneg : ¬ (((n : Nat) : Int) < 0) := by omega
  have hai : ∀ w, (asInt (.int .i64 (((n : Nat) : Int)))).run P w = .ok (((n : Nat) : Int)) w := fun _ => rfl
  have hbig : ¬ (((n : Nat) : Int) * (by8 : Int) > 2 ^ 48) := by
    have h1 : n * by8 ≤ 2 ^ 40 := Nat.le_trans (Nat.mul_le_mul_right _ (by omega)) hle1
    have h2 : ((n : Nat) : Int) * (by8 : Int) = ((n * by8 : Nat) : Int) := (Int.natCast_mul n by8).symm
    rw [h2]; omega
  have hnz : ¬ (n * size = 0) := Nat.mul_ne_zero hn0 hsz0
  simp only [Builtin.append_, List.getElem?_toArray, List.getElem?_cons_zero, List.getElem?_cons_succ, Sem.run_bind, run_underlying hu, Result.andThen_ok, hs, run_underlying hx, Sem.run_pure, if_true, hai, hwr, if_neg hneg, hi, hb, if_neg hbig, Int.toNat_natCast]
  simp only [if_pos hle, Bool.not_true, Bool.false_eq_true, if_false, if_neg hnz, hz, Sem.run_bind, Result.andThen_ok, Sem.run_pure, hst]
end
end Go.Tc
namespace Go.Tc
variable [Val]
section
variable {P : Program} {G : Nat} {β : Pl} {H : AHeap} {w : World}
omit [Val] in
theorem sizeT_all {t n : Nat} (h : sizeT P t = some n) (w : World) : (sizeOf t).run P w = .ok n w := sizeT_run h
omit [Val] in
theorem srcCells_len {x : AV} {n size : Nat} {l : List AV} (h : srcCells H n size x = some l) (hn : srcLen x = some n) : l.length = n * size := by
  unfold srcCells at h
  split at h
  · split at h
    · rename_i h0; cases h; simp [h0]
    · cases h
  · split at h
    · rename_i h0; cases h; simp [h0]
    · cases h
  · split at h
    · rename_i h0; cases h; simp [h0]
    · unfold loadN at h
      split at h
      · obtain ⟨rfl, hl⟩ := takeN_take _ _ _ h
        simp; rw [List.length_drop] at hl; omega
      · cases h
  · rename_i s
    split at h
    · rename_i h0
      cases h
      simp only [srcLen, Option.some.injEq] at hn
      subst hn
      have : ∀ (s : BS) (k : Nat), (s.nats k).length = k := by
        intro s k; induction k with
        | zero => rfl
        | succ k ih => simp [BS.nats, ih]
      rw [List.length_map, List.length_take, this]
      rcases h0 with h0 | h0
      · rw [h0]; simp
      · rw [h0]; simp
    · cases h
  · rename_i t
    split at h
    · rename_i bs ps ts hh
      split at h
      · rename_i h0
        cases h
        simp only [srcLen, hh, Option.some.injEq] at hn
        subst hn
        rw [List.length_take]
        simp only [holeCells, patch_len, List.length_map, nats_len]
        rcases h0 with h0 | h0
        · rw [h0]; simp
        · rw [h0]; simp
      · cases h
    · cases h
  · cases h
theorem grow_value {e : TypeId} {base : Option Addr} {len c n size by8 : Nat} {A : Value → Sem Value} {oldA newA : List AV} {old new : List Value} {fz : Nat} {sish : Bool} {g0 : Nat → Option AObj} {z : AV}
    (hw : WR G β H.get H.next w) (hg : ∀ b o, g0 b = some o → H.get b = some o) (hz : zeroT P e = some z) (hzl : z.cells.length = size) (h0 : size ≠ 0) (hle : (len + n) * by8 ≤ 2 ^ 40) (hle2 : len + n ≤ 2 ^ 40) (hgt : c < len + n)
    (hold : (Builtin.firstCells size len (.slice base len c)).run P w.drew = .ok old.toArray w.drew)
    (hgrow : ∀ zv, (∀ w, (zeroValue e).run P w = .ok zv w) → ∀ (base : Option Addr) (len c : Nat) (old : List Value), c < len + n → (len + n) * by8 ≤ 2 ^ 40 → len + n ≤ 2 ^ 40 → (Builtin.firstCells size len (.slice base len c)).run P w.drew = .ok old.toArray w.drew →
      (A (.slice base len c)).run P w = .ok (.slice (some ⟨w.heap.size, 0, none⟩) (len + n) (drawnCap w (len + n) c e)) (w.drew.alloc (.cells (old ++ new ++ (Builtin.zeroCells zv.cells (drawnCap w (len + n) c e - (len + n))).toList).toArray e)))
    (ho : VRs β oldA old) (hn2 : VRs β newA new) (hol : old.length = len * size) (hnl : new.length = n * size) :
    ∃ β' w' u, (A (.slice base len c)).run P w = .ok u w' ∧ VR β' (.slice H.next 0 (len + n) (.opn size)) u ∧
      WR G β' (fun x => if x = H.next then some (.row (oldA ++ newA) e (.buf fz sish)) else g0 x) (H.next + 1) w' ∧
      Tran β H.get H.next w β' (fun x => if x = H.next then some (.row (oldA ++ newA) e (.buf fz sish)) else g0 x) (H.next + 1) w' := by
  obtain ⟨iz, zv, hz1, hz2, hz3⟩ := zeroT_info (β := β) hz
  have hzr : ∀ w, (zeroValue e).run P w = .ok zv w := fun w => by simp [zeroValue, typeInfo, hz1, hz2]
  have hrun := hgrow zv hzr base len c old hgt hle hle2 hold
  have hzs : zv.cells.size = size := by rw [← hzl, hz3.cells.length]; simp
  obtain ⟨k1, k2⟩ := grow_lay (e := e) (fz := fz) (sish := sish) (rest := (Builtin.zeroCells zv.cells (drawnCap w (len + n) c e - (len + n))).toList) hw hg (ho.append hn2)
  have hge := drawnCap_ge w (len + n) c e
  have hsz : (old ++ new).length + (Builtin.zeroCells zv.cells (drawnCap w (len + n) c e - (len + n))).toList.length = drawnCap w (len + n) c e * size := by
    have := zeroCells_size zv.cells (drawnCap w (len + n) c e - (len + n))
    rw [List.length_append, hol, hnl, Array.length_toList, this, hzs, ← Nat.add_mul, ← Nat.add_mul]
    congr 1; omega
  rw [hsz] at k1 k2
  refine ⟨_, _, _, hrun, ?_, k1, k2⟩
  refine .slice 0 (len + n) (Pl.put_same β H.next _) ⟨by omega, by simp, ?_⟩ hge
  simp only [Nat.add_zero, Nat.zero_add, Nat.add_mul, Nat.one_mul]
  omega
theorem appendCells_run {e : TypeId} {n size by8 : Nat} {A : Value → Sem Value} {s r : AV} {v : Value} {newA : List AV} {new new' : List Value} {H' : AHeap} {z : AV} (hw : WR G β H.get H.next w) (h : appendCells H e size by8 n newA s = some (r, H')) (hs : VR β s v)
    (hz : zeroT P e = some z) (hzl : z.cells.length = size) (hsz0 : size ≠ 0) (hn0 : n ≠ 0) (hnv : VRs β newA new) (hnl : new.length = n * size) (hnv' : VRs β newA new') (hnl' : new'.length = n * size)
    (hgrow : ∀ zv, (∀ w, (zeroValue e).run P w = .ok zv w) → ∀ (base : Option Addr) (len c : Nat) (old : List Value), c < len + n → (len + n) * by8 ≤ 2 ^ 40 → len + n ≤ 2 ^ 40 → (Builtin.firstCells size len (.slice base len c)).run P w.drew = .ok old.toArray w.drew →
      (A (.slice base len c)).run P w = .ok (.slice (some ⟨w.heap.size, 0, none⟩) (len + n) (drawnCap w (len + n) c e)) (w.drew.alloc (.cells (old ++ new' ++ (Builtin.zeroCells zv.cells (drawnCap w (len + n) c e - (len + n))).toList).toArray e)))
    (hwithin : ∀ (a : Addr) (len c : Nat) (w' : World), len + n ≤ c → (len + n) * by8 ≤ 2 ^ 40 → len + n ≤ 2 ^ 40 → (storeCells (a.add (len * size)) new).run P w = .ok () w' → (A (.slice (some a) len c)).run P w = .ok (.slice (some a) (len + n) c) w') :
    ∃ β' w' z, (A v).run P w = .ok z w' ∧ VR β' r z ∧ WR G β' H'.get H'.next w' ∧ Tran β H.get H.next w β' H'.get H'.next w' := by
  unfold appendCells at h
  split at h
  · -- onto nothing
    split at h
    · rename_i hb
      simp only [Option.some.injEq, Prod.mk.injEq] at h
      obtain ⟨rfl, rfl⟩ := h
      cases hs
      obtain ⟨β', w', z', k1, k2, k3, k4⟩ := grow_value (A := A) (base := none) (len := 0) (c := 0) (oldA := []) (old := []) (fz := 0) (sish := false) (g0 := H.get) hw (fun _ _ h => h) hz hzl hsz0 (by rw [Nat.zero_add]; exact hb.1) (by omega) (by omega) rfl hgrow .nil hnv' (by simp) hnl'
      refine ⟨β', w', z', k1, ?_, ?_⟩
      · rw [Nat.zero_add] at k2; exact k2
      · rw [AHeap.get_new, AHeap.next_new]; exact ⟨k3, k4⟩
    · cases h
  · rename_i b off len cap
    cases hs with
    | @slice _ p _ _ _ c hp hc hl =>
    split at h
    · rename_i hbig
      unfold appendTo at h
      -- within the capacity
      have within : ∀ H1, storeN H b (off + len * size) newA = some H1 → len + n ≤ c →
          ∃ β' w' z, (A (.slice (some ⟨p.c, p.base + off, none⟩) len c)).run P w = .ok z w' ∧ VR β' (.slice b off (len + n) cap) z ∧ WR G β' H1.get H1.next w' ∧ Tran β H.get H.next w β' H1.get H1.next w' := by
        intro H1 hst hle2
        obtain ⟨w', q1, q2, q3, q4⟩ := storeN_run (P := P) hw hst hnv hp
        refine ⟨β, w', _, hwithin _ _ _ _ hle2 hbig.1 hbig.2 ?_, .slice _ _ hp hc hle2, ?_, ?_⟩
        · rw [addr_add, Nat.add_assoc]; exact q1
        · rw [q4]; exact q2
        · rw [q4]; exact q3
      split at h
      · rename_i k
        have hck : c = k := hc
        split at h
        · rename_i hle1
          rw [Option.map_eq_some_iff] at h
          obtain ⟨H1, hst, he⟩ := h
          simp only [Prod.mk.injEq] at he
          obtain ⟨rfl, rfl⟩ := he
          exact within H1 hst (by omega)
        · rename_i hgt
          split at h
          · rename_i oldA hold
            simp only [Option.some.injEq, Prod.mk.injEq] at h
            obtain ⟨rfl, rfl⟩ := h
            obtain ⟨q, vs, hq, hvl, hrun, hvs⟩ := loadN_run (P := P) hw.drew hold
            rw [hp] at hq; cases hq
            obtain ⟨β', w', z', k1, k2, k3, k4⟩ := grow_value (A := A) (base := some ⟨p.c, p.base + off, none⟩) (len := len) (c := c) (fz := 0) (sish := false) (g0 := H.get) hw (fun _ _ h => h) hz hzl hsz0 hbig.1 hbig.2 (by omega) hrun hgrow hvs hnv' hvl hnl'
            refine ⟨β', w', z', k1, k2, ?_⟩
            rw [AHeap.get_new, AHeap.next_new]; exact ⟨k3, k4⟩
          · cases h
      · rename_i es
        obtain ⟨c1, c2, c3⟩ := hc
        split at h
        · rename_i hes
          subst hes
          split at h
          · rename_i cells e' fz sish hr
            obtain ⟨q, cc, lo, hi, hq, r1, r2, r3, r4, r5, r6⟩ := row_at hw hr
            rw [hp] at hq; cases hq
            split at h
            · rename_i hin
              rw [Option.map_eq_some_iff] at h
              obtain ⟨H1, hst, he⟩ := h
              simp only [Prod.mk.injEq] at he
              obtain ⟨rfl, rfl⟩ := he
              refine within H1 hst ?_
              have : (len + n) * es < (c + 1) * es := by omega
              have := Nat.lt_of_mul_lt_mul_right this
              omega
            · split at h
              · rename_i hch
                obtain ⟨hend, hfz, hone, hee⟩ := hch
                subst hee
                split at h
                · rename_i oldA hold
                  simp only [Option.some.injEq, Prod.mk.injEq] at h
                  obtain ⟨rfl, rfl⟩ := h
                  have hload : loadN H b off (len * es) = some oldA := by unfold loadN; rw [hr]; exact hold
                  have hkill : ∀ x o, (H.kill b).get x = some o → H.get x = some o := by
                    intro x o hx'
                    rw [AHeap.get_kill] at hx'
                    simp only at hx'
                    split at hx'
                    · cases hx'
                    · exact hx'
                  by_cases hcap : len + n ≤ c
                  · -- in place, behind what is known
                    obtain ⟨q, vs, hq, hvl, hrun, hvs⟩ := loadN_run (P := P) hw hload
                    rw [hp] at hq; cases hq
                    have hfit : p.base + off + (len + n) * es ≤ p.size := by
                      have := Nat.mul_le_mul_right es hcap; omega
                    have hnl : new.length = n * es := hnl
                    have hmul : (len + n) * es = len * es + n * es := Nat.add_mul _ _ _
                    have hst := storeCells_row (P := P) p.c (p.base + off + len * es) e (lo, hi) new 0 cc w r1 (by omega) (by
                      intro j j1 j2
                      exact r5 j (by omega) (by omega)) (hnv.one hone)
                    simp only [Nat.add_zero] at hst
                    have hb := rowOf_get hr
                    refine ⟨β.put H.next ⟨p.c, p.base + off, p.size⟩, _, _, hwithin _ _ _ _ hcap hbig.1 hbig.2 (by rw [addr_add]; exact hst), ?_, ?_, ?_⟩
                    · have := VR.slice (β := β.put H.next ⟨p.c, p.base + off, p.size⟩) (p := ⟨p.c, p.base + off, p.size⟩) 0 (len + n) (cap := .opn es) (c := c) (Pl.put_same β H.next _) ⟨c1, by simpa using c2, by simpa using c3⟩ hcap
                      simpa using this
                    · have hw0 : WR G β (H.kill b).get H.next w := hw.less hkill
                      have hlt := hw.bound b p hp
                      have := hw0.lay (w' := w.setRow p.c (cc.toList.take (p.base + off + len * es) ++ new ++ cc.toList.drop (p.base + off + len * es + new.length)).toArray) ⟨p.c, p.base + off, p.size⟩ (.row (oldA ++ newA) e (.buf (fz - off) sish)) (by simpa using hlt) (by simp) (by
                        intro b' o' q' hb' hq'
                        refine setRow_other _ _ _ _ ?_
                        intro e1
                        have := hw.inj b' b o' _ q' p (hkill _ _ hb') hb hq' hp e1
                        subst this
                        rw [AHeap.get_kill] at hb'
                        simp at hb') (by
                        intro b' o' q' hb' hq' e1
                        have := hw.inj b' b o' _ q' p (hkill _ _ hb') hb hq' hp e1
                        subst this
                        rw [AHeap.get_kill] at hb'
                        simp at hb') (by
                        intro c0 x0 hx0
                        obtain ⟨z1, z2⟩ := hw.keep c0 x0 hx0
                        have hne := z2 b _ p hb rfl hp
                        exact ⟨hne.symm, (setRow_other _ _ _ _ hne.symm).trans z1⟩) ?_
                      · rw [AHeap.get_new, AHeap.next_new, AHeap.next_kill]
                        exact this
                      · have he := Pl.put_ext (β := β) ⟨p.c, p.base + off, p.size⟩ (hw.fresh _ (Nat.le_refl _))
                        have hol := hvs.length
                        have hnw := hnv.length
                        have hcl : cc.toList.length = p.size := by simpa using r2
                        refine ⟨_, lo, hi, setRow_heap w p.c cc _ e _ r1, ?_, ?_, ?_, ?_, ?_⟩
                        · simp; omega
                        · simp; omega
                        · have hvs2 : vs = (cc.toList.drop (p.base + off)).take (len * es) := by
                            have h1 := run_loadCells_list (P := P) w ⟨p.c, p.base + off, none⟩ ((cc.toList.drop (p.base + off)).take (len * es)) (fun j v hj => by
                              rw [addr_add]
                              have hjn : j < len * es := by
                                have := (List.getElem?_eq_some_iff.1 hj).1
                                simp at this; omega
                              rw [List.getElem?_take_of_lt hjn, List.getElem?_drop] at hj
                              simp only [World.cell?, r1]
                              simpa using hj)
                            have hlen2 : ((cc.toList.drop (p.base + off)).take (len * es)).length = len * es := by simp; omega
                            rw [hlen2] at h1
                            rw [h1] at hrun
                            have := (Result.ok.inj hrun).1
                            exact (List.toArray_inj this).symm
                          have : (((cc.toList.take (p.base + off + len * es) ++ new ++ cc.toList.drop (p.base + off + len * es + new.length)).toArray.toList.drop (p.base + off)).take (oldA ++ newA).length) = vs ++ new := by
                            rw [List.toList_toArray, hvs2]
                            apply List.ext_getElem?
                            intro i
                            simp only [List.getElem?_take, List.getElem?_drop, List.getElem?_append, List.length_append, List.length_take, List.length_drop]
                            rw [Nat.min_eq_left (show p.base + off + len * es ≤ cc.toList.length by omega), Nat.min_eq_left (show len * es ≤ cc.toList.length - (p.base + off) by omega)]
                            by_cases i1 : i < len * es
                            · simp [i1, show i < oldA.length + newA.length by omega, show p.base + off + i < p.base + off + len * es + new.length by omega]
                            · by_cases i2 : i < len * es + new.length
                              · simp [i1, show i < oldA.length + newA.length by omega, show p.base + off + i < p.base + off + len * es + new.length by omega, show p.base + off + i - (p.base + off + len * es) = i - len * es by omega]
                              · rw [if_neg (by omega), if_neg i1, List.getElem?_eq_none (by omega)]
                          show VRs _ _ (List.take _ (List.drop _ _))
                          rw [this]
                          exact (hvs.append hnv).mono he
                        · intro o o1 o2
                          exact r5 o (by simp only at o1; omega) o2
                        · intro hf
                          rcases r6 hf with h1 | h1
                          · exact .inl h1
                          · exact .inr (by simp only; omega)
                    · refine ⟨Pl.put_ext _ (hw.fresh _ (Nat.le_refl _)), by rw [AHeap.next_new, AHeap.next_kill]; omega, by simp, ?_, ?_, ?_, ?_, rfl, rfl, rfl, fun _ _ h => .inl h⟩
                      · intro c' hc' hno
                        exact setRow_other _ _ _ _ fun e1 => hno b _ p hb rfl hp e1.symm
                      · intro b' hb' h0
                        show (if b' = H.next then some (⟨p.c, p.base + off, p.size⟩ : Place) else β b') = none
                        rw [if_neg (by omega)]; exact h0
                      · intro b' hb' h0
                        rw [AHeap.get_new, AHeap.next_kill]
                        simp only [if_neg (Nat.ne_of_lt hb')]
                        cases h1 : (H.kill b).get b' with
                        | none => rfl
                        | some o => rw [hkill _ _ h1] at h0; cases h0
                      · intro b' o' p' hb' hp' hlt
                        rw [AHeap.get_new, AHeap.next_kill] at hb'
                        change (if b' = H.next then some (⟨p.c, p.base + off, p.size⟩ : Place) else β b') = some p' at hp'
                        by_cases e1 : b' = H.next
                        · rw [if_pos e1] at hp'; cases hp'
                          exact ⟨b, _, p, hb, fun _ => rfl, hp, rfl⟩
                        · rw [if_neg e1] at hp'
                          simp only [if_neg e1] at hb'
                          exact ⟨b', o', p', hkill _ _ hb', fun h => h, hp', rfl⟩
                  · obtain ⟨q, vs, hq, hvl, hrun, hvs⟩ := loadN_run (P := P) hw.drew hload
                    rw [hp] at hq; cases hq
                    obtain ⟨β', w', z', k1, k2, k3, k4⟩ := grow_value (A := A) (base := some ⟨p.c, p.base + off, none⟩) (len := len) (c := c) (fz := fz - off) (sish := sish) (g0 := (H.kill b).get) hw hkill hz hzl hsz0 hbig.1 hbig.2 (by omega) hrun hgrow hvs hnv' hvl hnl'
                    refine ⟨β', w', z', k1, k2, ?_⟩
                    rw [AHeap.get_new, AHeap.next_new, AHeap.next_kill]; exact ⟨k3, k4⟩
                · cases h
              · cases h
          · cases h
        · cases h
    · cases h
  · cases h
theorem dens_get : ∀ (l : List Tm) (n : Nat) (t : Tm), l[n]? = some t → (Tm.dens l).getD n .bad = t.den
  | [], n, t, h => by simp at h
  | y :: r, 0, t, h => by simp at h; subst h; rfl
  | y :: r, n + 1, t, h => dens_get r n t (by simpa using h)
theorem eltMk_fld {ks : List CK} {x : List Tm} {j : Nat} {t : Tm} (hl : x.length = ks.length) (hj : j < ks.length) (h : x[j]? = some t) : eltFld ks (eltMk ks x).den j = t.den := by
  unfold eltMk
  split
  · have : j = 0 := by simpa using hj
    subst this
    simp only [List.getElem?_cons_zero, Option.some.injEq] at h
    subst h; rfl
  · rename_i hne
    have hfld : ∀ d, eltFld ks d j = match d with | .list l => l.getD j .bad | _ => .bad := by
      intro d
      unfold eltFld
      split
      · rename_i k
        obtain ⟨y, rfl⟩ : ∃ y, x = [y] := List.length_eq_one_iff.1 (by simpa using hl)
        exact (hne _ _ rfl rfl).elim
      · rfl
    rw [hfld]
    simp only [Tm.den, TOp.den]
    exact dens_get _ _ _ h
theorem eltsOf_VRs {ks : List CK} (hks : ks ≠ []) : ∀ {n : Nat} {l : List AV} {r : List Tm} {vs : List Value}, eltsOf ks n l = some r → VRs β l vs → r.length = n ∧ l.length = n * ks.length ∧
    ∀ (i j : Nat) (a : AV) (v : Value), i < n → j < ks.length → l[i * ks.length + j]? = some a → VR β a v → CellR β.zone (ks.getD j .bool) (eltFld ks ((Tm.dens r).getD i .bad) j) v
  | 0, [], r, vs, h, _ => by simp only [eltsOf, Option.some.injEq] at h; subst h; exact ⟨rfl, by simp, fun i j a v hi => by omega⟩
  | 0, _ :: _, r, vs, h, _ => by simp [eltsOf] at h
  | n + 1, l, r, vs, h, hv => by
    simp only [eltsOf] at h
    split at h
    · rename_i x hx
      split at h
      · rename_i r' hr
        simp only [Option.some.injEq] at h; subst h
        obtain ⟨o1, o2, o3⟩ := tmsOf_one hx
        obtain ⟨q1, q2, q3⟩ := eltsOf_VRs hks hr (hv.drop ks.length)
        rw [List.length_drop] at q2
        rw [List.length_take] at o2
        refine ⟨by simp [q1], by rw [Nat.add_mul, Nat.one_mul]; omega, fun i j a v hi hj ha hav => ?_⟩
        cases i with
        | zero =>
          have ha' : (l.take ks.length)[j]? = some a := by rw [List.getElem?_take_of_lt hj]; simpa using ha
          obtain ⟨k1, t1, g1, g2, g3⟩ := tmsOf_get hx j a ha'
          have hkj : ks.getD j .bool = k1 := by rw [List.getD_eq_getElem?_getD, g1]; rfl
          rw [hkj]
          have hd : eltFld ks ((Tm.dens (eltMk ks x :: r')).getD 0 .bad) j = t1.den := eltMk_fld o3 hj g2
          rw [hd]
          exact tmOf_cell g3 hav
        | succ i =>
          have := q3 i j a v (by omega) hj (by rw [List.getElem?_drop, ← ha]; congr 1; rw [Nat.add_mul, Nat.one_mul]; omega) hav
          simpa only [Tm.dens, List.getD_cons_succ] using this
      · cases h
    · cases h
theorem expandL_sub {ks : List CK} (hks : ks ≠ []) {c t : Tm} {L : List D} {a b : Nat} (hL : c.den = .list L) (ht : t.den = .list ((L.take b).drop a)) (hab : a ≤ b) (hb : b ≤ L.length) {vs : List Value}
    (h : VRs β (((expandL ks c L.length).drop (a * ks.length)).take ((b - a) * ks.length)) vs) : VRs β (expandL ks t (b - a)) vs := by
  have hlen : ((L.take b).drop a).length = b - a := by simp; omega
  have h1 : (b - a) * ks.length + a * ks.length ≤ L.length * ks.length := by rw [← Nat.add_mul]; exact Nat.mul_le_mul_right _ (by omega)
  have := VRs_expand ht hks h (by rw [hlen, List.length_take, List.length_drop, expandL_len]; omega) fun i j x v hi hj hx hv => by
    rw [hlen] at hi
    have hlt : i * ks.length + j < (b - a) * ks.length := by
      have : (i + 1) * ks.length ≤ (b - a) * ks.length := Nat.mul_le_mul_right _ hi
      rw [Nat.add_mul, Nat.one_mul] at this; omega
    rw [List.getElem?_take_of_lt hlt, List.getElem?_drop, show a * ks.length + (i * ks.length + j) = (a + i) * ks.length + j from by rw [Nat.add_mul]; omega, expandL_get ks c (by omega) hj, Option.some.injEq] at hx
    subst hx
    rw [ofTm_iff, eltTm_den (nf := id) (fun _ => rfl), nth_den _ hL] at hv
    have hg : ((L.take b).drop a).getD i .bad = L.getD (a + i) .bad := by
      rw [List.getD_eq_getElem?_getD, List.getD_eq_getElem?_getD, List.getElem?_drop, List.getElem?_take_of_lt (by omega)]
    rw [hg]; exact hv
  rwa [hlen] at this
theorem catT_den {nf : Tm → Tm} (hn : ∀ t, (nf t).den = t.den) {a b : Tm} {X Y : List D} (ha : a.den = .list X) (hb : b.den = .list Y) : (catT nf a b).den = .list (X ++ Y) := by
  have gen : (mkT nf .cat [a, b]).den = .list (X ++ Y) := by rw [mkT_den hn]; simp only [Tm.dens, ha, hb, TOp.den]
  unfold catT
  split
  · simp only [Tm.den, Tm.dens, TOp.den, D.list.injEq] at ha; subst ha; rw [hb]; rfl
  · split
    · simp only [Tm.den, Tm.dens, TOp.den, D.list.injEq] at hb; subst hb; rw [ha, List.append_nil]
    · exact gen
theorem srcTm_run {nf : Tm → Tm} (hn : ∀ t, (nf t).den = t.den) {k : Nat} (hw : WR G β H.get k w) {ks : List CK} (hks : ks ≠ []) {x : AV} {xs nt : Tm} {u : Value} (h : srcTm nf H ks x = some (xs, nt)) (hx : VR β x u) :
    ∃ X : List D, xs.den = .list X ∧ nt.den = .int X.length ∧ (Builtin.lenOf u).run P w = .ok X.length w ∧ ∃ new : List Value, (Builtin.firstCells ks.length X.length u).run P w = .ok new.toArray w ∧ VRs β (expandL ks xs X.length) new := by
  have none0 : ∀ (base : Option Addr) (c : Nat), u = .slice base 0 c → xs.den = .list [] → nt.den = .int 0 → ∃ X : List D, xs.den = .list X ∧ nt.den = .int X.length ∧ (Builtin.lenOf u).run P w = .ok X.length w ∧ ∃ new : List Value, (Builtin.firstCells ks.length X.length u).run P w = .ok new.toArray w ∧ VRs β (expandL ks xs X.length) new := by
    intro base c hu h1 h2
    subst hu
    refine ⟨[], h1, h2, rfl, [], ?_, by simpa [expandL] using VRs.nil⟩
    cases base <;> simp [Builtin.firstCells, loadCells, loadCellsFrom]
  unfold srcTm at h
  split at h
  · cases h; cases hx; exact none0 _ _ rfl rfl rfl
  · cases h; cases hx; exact none0 _ _ rfl rfl rfl
  · rename_i ks' c
    cases e : CK.beqs ks ks'
    · rw [e] at h; cases h
    · rw [e] at h
      simp only [cond_true, Option.some.injEq, Prod.mk.injEq] at h
      obtain ⟨rfl, rfl⟩ := h
      have := CK.beqs_eq _ _ e
      subst this
      cases hx with | sy hx =>
      obtain ⟨d, hd⟩ : ∃ d, c.den = d := ⟨_, rfl⟩
      rw [hd] at hx
      cases hx with
      | nil => exact none0 _ _ rfl hd (len_den hn hd)
      | none => exact none0 _ _ rfl hd (len_den hn hd)
      | @isl _ L b o n cap cc T fz vals hz hn' hcap hk hv hr =>
        subst hn'
        refine ⟨L, hd, len_den hn hd, rfl, (List.range (L.length * ks.length)).map fun q => vals (q / ks.length) (q % ks.length), ?_, ?_⟩
        · obtain ⟨hz1, -⟩ := hw.keep _ _ hz
          have hpos : 0 < ks.length := List.length_pos_iff.2 hks
          have := run_loadCells_list (P := P) w ⟨b, o, none⟩ ((List.range (L.length * ks.length)).map fun q => vals (q / ks.length) (q % ks.length)) (fun q v hq => by
            rw [addr_add]
            have hlt' := (List.getElem?_eq_some_iff.1 hq).1
            simp only [List.length_map, List.length_range] at hlt'
            simp only [List.getElem?_map, List.getElem?_range hlt', Option.map_some, Option.some.injEq] at hq
            subst hq
            simp only [World.cell?, hz1]
            have h1 := hv (q / ks.length) (q % ks.length) (Nat.div_lt_of_lt_mul (by rw [Nat.mul_comm]; exact hlt')) (Nat.mod_lt _ hpos)
            rwa [Nat.add_assoc, Nat.div_add_mod'] at h1)
          simp only [List.length_map, List.length_range] at this
          exact this
        · have hpos : 0 < ks.length := List.length_pos_iff.2 hks
          refine VRs.of_getG (by rw [expandL_len]; simp) fun q xq hxq => ?_
          have hql : q < L.length * ks.length := by
            have := (List.getElem?_eq_some_iff.1 hxq).1
            rwa [expandL_len] at this
          have hqi : q / ks.length < L.length := Nat.div_lt_of_lt_mul (by rw [Nat.mul_comm]; exact hql)
          have hqj : q % ks.length < ks.length := Nat.mod_lt _ hpos
          have hqe : q / ks.length * ks.length + q % ks.length = q := Nat.div_add_mod' q ks.length
          rw [← hqe, expandL_get ks c hqi hqj, Option.some.injEq] at hxq
          subst hxq
          refine ⟨vals (q / ks.length) (q % ks.length), by simp [hql], ?_⟩
          rw [ofTm_iff, eltTm_den (nf := id) (fun _ => rfl), nth_den c hd]
          exact hr _ _ hqi hqj
  · rename_i b es lo n cm
    split at h
    · rename_i ks' c e' k' hlr
      cases e : (CK.beqs ks ks' && es.beq ks.length && holdsT nf (.bin .leq .i64) [addT nf lo n, mkT nf .len [c]])
      · rw [e] at h; cases h
      · rw [e] at h
        simp only [cond_true, Option.some.injEq, Prod.mk.injEq] at h
        obtain ⟨rfl, rfl⟩ := h
        simp only [Bool.and_eq_true] at e
        obtain ⟨⟨e1, e2⟩, e3⟩ := e
        have := CK.beqs_eq _ _ e1
        subst this
        have := Nat.eq_of_beq_eq_true e2
        subst this
        have hb := lrowOf_get hlr
        have hL : ∃ L, c.den = .list L := by
          rcases hw.some_ _ _ hb with ⟨p, -, L, hL, -⟩ | ⟨-, -, ha⟩
          · exact ⟨L, hL⟩
          · unfold AObj.absent at ha
            split at ha
            · rename_i heq
              simp only [AObj.lrow.injEq] at heq
              obtain ⟨-, rfl, -⟩ := heq
              exact ⟨[], ha⟩
            · exact ha.elim
        obtain ⟨L, hL⟩ := hL
        cases hx with
        | @lsl _ _ _ _ _ l len cap p hl hln hp hcap hle =>
          have ha := addT_den hn hl hln
          have h3 := holdsT_den hn e3
          simp only [Tm.dens, ha, len_den hn hL, TOp.den, intD, D.bool.injEq, decide_eq_true_eq] at h3
          have hsub := subL_den hn (l := lo) (h := addT nf lo n) (a := l) (b := l + len) hL hl (by rw [ha]; congr 1)
          obtain ⟨L', hL', -, hrow⟩ := hw.objAt hb hp
          rw [hL] at hL'; cases hL'
          have hmul : l * ks.length + len * ks.length ≤ L.length * ks.length := by rw [← Nat.add_mul]; exact Nat.mul_le_mul_right _ (by omega)
          obtain ⟨vs, k1, k2, k3⟩ := rowR_load (P := P) (off := l * ks.length) (n := len * ks.length) hrow (by rw [expandL_len]; omega)
          have hlen : ((L.take (l + len)).drop l).length = len := by simp; omega
          refine ⟨_, hsub, by rw [hlen]; exact hln, by rw [hlen]; rfl, vs, by rw [hlen]; exact k2, ?_⟩
          rw [hlen]
          have := expandL_sub hks hL hsub (by omega) (by omega) (vs := vs) (by rw [Nat.add_sub_cancel_left]; exact k3)
          rwa [Nat.add_sub_cancel_left] at this
        | @lsl0 _ _ _ _ _ l hl hz =>
          refine none0 _ _ rfl ?_ hz
          have ha := addT_den hn hl hz
          rw [subL_den hn (l := lo) (h := addT nf lo n) (a := l) (b := l) hL hl (by rw [ha]; simp)]
          simp
        | @lslE _ _ _ _ _ l a cap hl hz hc =>
          refine none0 _ _ rfl ?_ hz
          have ha := addT_den hn hl hz
          rw [subL_den hn (l := lo) (h := addT nf lo n) (a := l) (b := l) hL hl (by rw [ha]; simp)]
          simp
    · cases h
  · rename_i b off n cap
    split at h
    · rename_i l hl
      rw [Option.map_eq_some_iff] at h
      obtain ⟨r, hr, he⟩ := h
      simp only [Prod.mk.injEq] at he
      obtain ⟨rfl, rfl⟩ := he
      cases hx with
      | @slice _ p _ _ _ c hp hc hle =>
      obtain ⟨q, vs, hq, hvl, hrun, hvs⟩ := loadN_run (P := P) hw hl
      rw [hp] at hq; cases hq
      obtain ⟨r1, r2, r3⟩ := eltsOf_VRs hks hr hvs
      have hdl : (Tm.dens r).length = n := by rw [dens_length, r1]
      refine ⟨Tm.dens r, rfl, by rw [hdl]; rfl, by rw [hdl]; rfl, vs, by rw [hdl]; exact hrun, ?_⟩
      exact VRs_expand (t := .op .mk r) rfl hks hvs (by rw [hdl]; exact r2) fun i j a v hi hj ha hv => r3 i j a v (by rw [hdl] at hi; exact hi) hj ha hv
    · cases h
  · rename_i s
    cases e : CK.beqs ks [.int .u8]
    · rw [e] at h; cases h
    · rw [e] at h
      simp only [cond_true, Option.some.injEq, Prod.mk.injEq] at h
      obtain ⟨rfl, rfl⟩ := h
      have := CK.beqs_eq _ _ e
      subst this
      cases hx with | sy hx =>
      obtain ⟨sb, hs, rfl⟩ := hx.strI
      have hxs : (mkT nf .bytes [s]).den = .list ((sb.data.toList.map (·.toNat)).map fun (n : Nat) => .int (n : Int)) := by
        rw [mkT_den hn]; simp only [Tm.dens, hs, TOp.den, BS.of_nats]
      have hlen : ((sb.data.toList.map (·.toNat)).map fun (n : Nat) => D.int (n : Int)).length = sb.size := by rw [List.length_map, List.length_map, Array.length_toList]; rfl
      refine ⟨_, hxs, by rw [hlen, mkT_den hn]; simp only [Tm.dens, hs, TOp.den, BS.of_len], by rw [hlen]; rfl, sb.data.toList.map fun b => Value.int .u8 b.toNat, ?_, ?_⟩
      · rw [hlen]
        simp only [Builtin.firstCells, Sem.run_pure]
        congr 1
        apply Array.ext'
        simp
      · have hvv : VRs β (sb.data.toList.map fun b => AV.int .u8 (b.toNat : Int)) (sb.data.toList.map fun b => Value.int .u8 b.toNat) := by
          generalize sb.data.toList = r
          induction r with
          | nil => exact .nil
          | cons b r ih => exact .cons (.int _ _) ih
        refine VRs_expand hxs hks hvv (by rw [hlen, List.length_map, Array.length_toList]; show sb.size = sb.size * 1; omega) fun i j a v hi hj ha hv => ?_
        have : j = 0 := by simpa using hj
        subst this
        simp only [List.length_cons, List.length_nil, Nat.zero_add, Nat.mul_one, Nat.add_zero, List.getElem?_map, Option.map_eq_some_iff] at ha
        obtain ⟨b, hb, rfl⟩ := ha
        cases hv
        simp only [eltFld, List.getD_eq_getElem?_getD, List.getElem?_map, hb, Option.map_some, Option.getD_some]
        exact .int _ _
  · rename_i s
    cases e : CK.beqs ks [.int .u8]
    · rw [e] at h; cases h
    · rw [e] at h
      simp only [cond_true, Option.some.injEq, Prod.mk.injEq] at h
      obtain ⟨rfl, rfl⟩ := h
      have := CK.beqs_eq _ _ e
      subst this
      generalize hs0 : s = s0 at hx
      cases hx with | str sb =>
      subst hs0
      have hdm : ∀ l : List Nat, Tm.dens (l.map fun (n : Nat) => Tm.int (n : Int)) = l.map fun (n : Nat) => D.int (n : Int) := by
        intro l; induction l with
        | nil => rfl
        | cons a l ih => simp only [List.map_cons, Tm.dens, ih]; rfl
      have hxs : (Tm.op .mk (((BS.of sb).nats (BS.of sb).len).map fun (n : Nat) => Tm.int (n : Int))).den = .list ((sb.data.toList.map (·.toNat)).map fun (n : Nat) => .int (n : Int)) := by
        simp only [Tm.den, TOp.den, hdm, BS.of_nats]
      have hlen : ((sb.data.toList.map (·.toNat)).map fun (n : Nat) => D.int (n : Int)).length = sb.size := by rw [List.length_map, List.length_map, Array.length_toList]; rfl
      refine ⟨_, hxs, by rw [hlen, BS.of_len]; rfl, by rw [hlen]; rfl, sb.data.toList.map fun b => Value.int .u8 b.toNat, ?_, ?_⟩
      · rw [hlen]
        simp only [Builtin.firstCells, Sem.run_pure]
        congr 1
        apply Array.ext'
        simp
      · have hvv : VRs β (sb.data.toList.map fun b => AV.int .u8 (b.toNat : Int)) (sb.data.toList.map fun b => Value.int .u8 b.toNat) := by
          generalize sb.data.toList = r
          induction r with
          | nil => exact .nil
          | cons b r ih => exact .cons (.int _ _) ih
        refine VRs_expand hxs hks hvv (by rw [hlen, List.length_map, Array.length_toList]; show sb.size = sb.size * 1; omega) fun i j a v hi hj ha hv => ?_
        have : j = 0 := by simpa using hj
        subst this
        simp only [List.length_cons, List.length_nil, Nat.zero_add, Nat.mul_one, Nat.add_zero, List.getElem?_map, Option.map_eq_some_iff] at ha
        obtain ⟨b, hb, rfl⟩ := ha
        cases hv
        simp only [eltFld, List.getD_eq_getElem?_getD, List.getElem?_map, hb, Option.map_some, Option.getD_some]
        exact .int _ _
  · cases h
theorem WR.newAbsent {n : Nat} {g : Nat → Option AObj} (hw : WR G β g n w) {o : AObj} (ho : o.absent) : WR G β (fun x => if x = n then some o else g x) (n + 1) w ∧ Tran β g n w β (fun x => if x = n then some o else g x) (n + 1) w := by
  have hn := hw.fresh n (Nat.le_refl _)
  refine ⟨⟨fun b hb => hw.fresh b (by omega), hw.bound, fun b ob hb => ?_, fun b b' ob ob' p p' hb hb' hp hp' => ?_, hw.glob, by have := hw.gn; omega, fun c x hx => ⟨(hw.keep c x hx).1, fun b ob p hb hwr hp => ?_⟩⟩, ⟨Ext.refl β, by omega, Nat.le_refl _, fun _ _ _ => rfl, fun _ _ h => h, fun b hb h0 => ?_, fun b ob p hb hp hlt => ?_, rfl, rfl, rfl, fun _ _ h => .inl h⟩⟩
  · by_cases e : b = n
    · subst e
      simp only [if_true, Option.some.injEq] at hb
      subst hb
      exact .inr ⟨hn, by omega, ho⟩
    · simp only [if_neg e] at hb; exact (hw.some_ b ob hb).imp id fun ⟨h1, h2, h3⟩ => ⟨h1, by omega, h3⟩
  · by_cases e : b = n
    · subst e; rw [hn] at hp; cases hp
    · by_cases e' : b' = n
      · subst e'; rw [hn] at hp'; cases hp'
      · simp only [if_neg e] at hb; simp only [if_neg e'] at hb'
        exact hw.inj b b' ob ob' p p' hb hb' hp hp'
  · by_cases e : b = n
    · subst e; rw [hn] at hp; cases hp
    · simp only [if_neg e] at hb; exact (hw.keep c x hx).2 b ob p hb hwr hp
  · simp only [if_neg (Nat.ne_of_lt hb)]; exact h0
  · by_cases e : b = n
    · subst e; rw [hn] at hp; cases hp
    · simp only [if_neg e] at hb; exact ⟨b, ob, p, hb, fun h => h, hp, rfl⟩
omit [Val] in
theorem WR.forget {n : Nat} {g g' : Nat → Option AObj} (hl : ∀ b o, g' b = some o → g b = some o) {β' : Pl} {h : Nat → Option AObj} {n' : Nat} {w' : World} (t : Tran β g' n w β' h n' w') (hd : ∀ b, b < n → g' b = none → h b = none) : Tran β g n w β' h n' w' := by
  refine ⟨t.ext, t.next, t.size, fun c hc hno => t.kept c hc fun b o p hb => hno b o p (hl b o hb), t.old, fun b hb h0 => ?_, fun b o p hb hp hlt => ?_, t.os, t.out, t.tape, fun c x hx => (t.zn c x hx).imp id (Or.imp id fun ⟨b, o, p, q1, q2, q3, q4⟩ => ⟨b, o, p, hl _ _ q1, q2, q3, q4⟩)⟩
  · refine hd b hb ?_
    cases hg : g' b with
    | none => rfl
    | some o => rw [hl b o hg] at h0; cases h0
  · obtain ⟨b0, o0, p0, q1, q2, q3, q4⟩ := t.new b o p hb hp hlt
    exact ⟨b0, o0, p0, hl _ _ q1, q2, q3, q4⟩
theorem RowR.known {p : Place} {c c' : List AV} {e : TypeId} {k : RK} (h : RowR β w p c e k) (hl : c'.length = c.length) (hv : ∀ vs, VRs β c vs → VRs β c' vs) : RowR β w p c' e k := by
  obtain ⟨cc, lo, hi, h1, h2, h3, h4, h5⟩ := h
  exact ⟨cc, lo, hi, h1, h2, by rw [hl]; exact h3, by rw [hl]; exact hv _ h4, by rw [hl]; exact h5⟩
theorem RowR.front {p : Place} {c : List AV} {e : TypeId} {fz : Nat} {sish : Bool} (h : RowR β w p c e (.buf fz sish)) (n : Nat) : RowR β w p (c.take n) e (.buf fz sish) := by
  obtain ⟨cc, lo, hi, h1, h2, h3, h4, h5⟩ := h
  refine ⟨cc, lo, hi, h1, h2, ?_, ?_, h5⟩
  · have : (c.take n).length ≤ c.length := by rw [List.length_take]; exact Nat.min_le_right _ _
    omega
  · have := h4.take n
    rw [List.take_take] at this
    rwa [List.length_take]
theorem expandL_cat {ks : List CK} (hks : ks ≠ []) {a b t : Tm} {X Y : List D} (ha : a.den = .list X) (hb : b.den = .list Y) (ht : t.den = .list (X ++ Y)) {vs : List Value} (h : VRs β (expandL ks a X.length ++ expandL ks b Y.length) vs) : VRs β (expandL ks t (X.length + Y.length)) vs := by
  have := VRs_expand ht hks h (by rw [List.length_append, expandL_len, expandL_len, List.length_append, Nat.add_mul]) fun i j x v hi hj hx hv => by
    rw [List.length_append] at hi
    by_cases e : i < X.length
    · have hlt : i * ks.length + j < X.length * ks.length := by
        have : (i + 1) * ks.length ≤ X.length * ks.length := Nat.mul_le_mul_right _ e
        rw [Nat.add_mul, Nat.one_mul] at this; omega
      rw [List.getElem?_append_left (by rw [expandL_len]; exact hlt), expandL_get ks a e hj, Option.some.injEq] at hx
      subst hx
      rw [ofTm_iff, eltTm_den (nf := id) (fun _ => rfl), nth_den _ ha] at hv
      have hg : (X ++ Y).getD i .bad = X.getD i .bad := by rw [List.getD_eq_getElem?_getD, List.getD_eq_getElem?_getD, List.getElem?_append_left e]
      rw [hg]; exact hv
    · obtain ⟨q, rfl⟩ : ∃ q, i = X.length + q := ⟨i - X.length, by omega⟩
      rw [Nat.add_mul, List.getElem?_append_right (by rw [expandL_len]; omega), expandL_len, show X.length * ks.length + q * ks.length + j - X.length * ks.length = q * ks.length + j from by omega, expandL_get ks b (by omega) hj, Option.some.injEq] at hx
      subst hx
      rw [ofTm_iff, eltTm_den (nf := id) (fun _ => rfl), nth_den _ hb] at hv
      have hg : (X ++ Y).getD (X.length + q) .bad = Y.getD q .bad := by rw [List.getD_eq_getElem?_getD, List.getD_eq_getElem?_getD, List.getElem?_append_right (by omega), Nat.add_sub_cancel_left]
      rw [hg]; exact hv
  rwa [List.length_append] at this
theorem symAppend_run {nf : Tm → Tm} (hn : ∀ t, (nf t).den = t.den) {t xt ty e : TypeId} {ts : List TypeId} {ks : List CK} {s x r : AV} {v u : Value} {H' : AHeap} {xd : TypeDesc} {z : AV} {by8 : Nat} (hw : WR G β H.get H.next w) (h : symAppend nf H e ks s x = some (r, H'))
    (hu : undT P t = some (.slice e)) (hxt : undT P xt = some xd) (hxi : ∀ k, xd ≠ .int k) (hz : zeroT P e = some z) (hzl : z.cells.length = ks.length) (hsz : sizeT P e = some ks.length) (hby : bytesT P e = some by8) (h8 : by8 ≤ 1024) (hks : ks ≠ []) (hs : VR β s v) (hx : VR β x u) :
    ∃ β' w' z, (Builtin.append_ (t :: xt :: ts).toArray ty #[v, u]).run P w = .ok z w' ∧ VR β' r z ∧ WR G β' H'.get H'.next w' ∧ Tran β H.get H.next w β' H'.get H'.next w' := by
  unfold symAppend at h
  split at h
  · cases h
  rename_i xs n hsrc
  obtain ⟨X, hX, hnX, hlen, new, hnew, hnv⟩ := srcTm_run (P := P) hn hw hks hsrc hx
  obtain ⟨X', hX', -, -, new', hnew', hnv'⟩ := srcTm_run (P := P) hn hw.drew hks hsrc hx
  rw [hX] at hX'; cases hX'
  have hsz0 : ks.length ≠ 0 := fun e => hks (List.length_eq_zero_iff.1 e)
  obtain ⟨iz, zv0, hz1, hz2, hz3⟩ := zeroT_info (β := β) hz
  have hinf : ∀ w, (typeInfo e).run P w = .ok iz w := fun w => by simp [typeInfo, hz1]
  have hib : iz.bytes = by8 := by
    obtain ⟨i2, k1, k2⟩ := bytesT_run (P := P) (w := w) hby
    rw [hinf] at k1; cases k1; exact k2
  have hnl : new.length = X.length * ks.length := by rw [← hnv.length, expandL_len]
  have hnl' : new'.length = X.length * ks.length := by rw [← hnv'.length, expandL_len]
  have hgrow : ∀ zv, (∀ w, (zeroValue e).run P w = .ok zv w) → ∀ (base : Option Addr) (len c : Nat) (old : List Value), c < len + X.length → (len + X.length) * by8 ≤ 2 ^ 40 → len + X.length ≤ 2 ^ 40 → (Builtin.firstCells ks.length len (.slice base len c)).run P w.drew = .ok old.toArray w.drew →
      ((fun s => Builtin.append_ (t :: xt :: ts).toArray ty #[s, u]) (.slice base len c)).run P w = .ok (.slice (some ⟨w.heap.size, 0, none⟩) (len + X.length) (drawnCap w (len + X.length) c e)) (w.drew.alloc (.cells (old ++ new' ++ (Builtin.zeroCells zv.cells (drawnCap w (len + X.length) c e - (len + X.length))).toList).toArray e)) :=
    fun zv hzr base len c old hgt hle hle2 hold => append_grow_run (P := P) (w := w) (ts := ts) (ty := ty) (undT_und hu) (undT_und hxt) hxi (sizeT_all hsz) hinf hib hzr hlen hgt hle hle2 hold hnew'
  -- onto what has no element, and no room
  have onto0 : ∀ (base : Option Addr) (sish : Bool), v = .slice base 0 0 → X.length ≤ 2 ^ 30 → ∀ (ll : Tm), ll.den = .int X.length → ∀ ct : Tm, ct.den = .list X → ∀ g0 : Nat → Option AObj, (∀ b o, g0 b = some o → H.get b = some o) →
      ∃ β' w' z, (Builtin.append_ (t :: xt :: ts).toArray ty #[v, u]).run P w = .ok z w' ∧ VR β' (.lsl H.next ks.length (.int 0) ll .opn) z ∧ WR G β' (fun y => if y = H.next then some (.lrow ks ct e (.buf 0 sish)) else g0 y) (H.next + 1) w' ∧ Tran β H.get H.next w β' (fun y => if y = H.next then some (.lrow ks ct e (.buf 0 sish)) else g0 y) (H.next + 1) w' := by
    intro base sish hv hbd ll hll ct hct g0 hg0
    subst hv
    have hw0 := hw.less hg0
    by_cases h0 : X.length = 0
    · have hXn : X = [] := List.length_eq_zero_iff.1 h0
      subst hXn
      obtain ⟨k1, k2⟩ := hw0.newAbsent (o := .lrow ks ct e (.buf 0 sish)) hct
      refine ⟨β, w, .slice base 0 0, ?_, ?_, k1, WR.forget hg0 k2 fun b hb h0 => by simp only [if_neg (Nat.ne_of_lt hb)]; exact h0⟩
      · have hun := run_underlying (undT_und hu) w
        have hnew0 : (Builtin.firstCells ks.length 0 u).run P w = .ok #[] w := by
          have : new = [] := by cases new with | nil => rfl | cons a l => simp at hnl
          rw [this] at hnew; simpa using hnew
        cases base with
        | none =>
          simp only [Builtin.append_, List.getElem?_toArray, List.getElem?_cons_zero, List.getElem?_cons_succ, Sem.run_bind, hun, Result.andThen_ok, sizeT_run hsz, run_underlying (undT_und hxt), Sem.run_pure]
          cases xd <;> first
            | exact absurd rfl (hxi _)
            | simp [hlen, hnew0]
        | some a =>
          have := append_within_run (P := P) (ts := ts) (ty := ty) (a := a) (len := 0) (c := 0) (w' := w) (new := []) (undT_und hu) (undT_und hxt) hxi (sizeT_run hsz) hlen (Nat.le_refl _) (by simpa using hnew0) rfl
          simpa using this
      · cases base with
        | none => exact .lsl0 (l := 0) rfl hll
        | some a => exact .lslE (l := 0) a 0 rfl hll (.inl rfl)
    · have h30 : X.length * by8 ≤ 2 ^ 40 := by
        have := Nat.mul_le_mul hbd h8; omega
      have hold : (Builtin.firstCells ks.length 0 (.slice base 0 0)).run P w.drew = .ok ([] : List Value).toArray w.drew := by
        cases base <;> simp [Builtin.firstCells, loadCells, loadCellsFrom]
      obtain ⟨β', w', z', k1, k2, k3, k4⟩ := grow_value (A := fun s => Builtin.append_ (t :: xt :: ts).toArray ty #[s, u]) (base := base) (len := 0) (c := 0) (oldA := []) (old := []) (fz := 0) (sish := sish) (g0 := g0) hw hg0 hz hzl hsz0 (by rw [Nat.zero_add]; exact h30) (by omega) (by omega) hold hgrow .nil hnv' (by simp) hnl'
      rw [Nat.zero_add] at k2
      rw [List.nil_append] at k3 k4
      cases k2 with
      | @slice _ p _ _ _ c hp hcap hle =>
      have hb : (fun y => if y = H.next then some (AObj.row (expandL ks xs X.length) e (.buf 0 sish)) else g0 y) H.next = some (.row (expandL ks xs X.length) e (.buf 0 sish)) := by simp
      have hrow : RowR β' w' p (expandL ks xs X.length) e (.buf 0 sish) := k3.objAt hb hp
      have hnewo : ObjR β' w' p (.lrow ks ct e (.buf 0 sish)) := ⟨X, hct, hks, hrow.known (by rw [expandL_len, expandL_len]) fun vs h => expandL_congr (by rw [hX, hct]) h⟩
      obtain ⟨q1, q2⟩ := k3.swap hb (o' := .lrow ks ct e (.buf 0 sish)) rfl hp hnewo
      have hfun : (fun y => if y = H.next then some (AObj.lrow ks ct e (.buf 0 sish)) else (fun y => if y = H.next then some (AObj.row (expandL ks xs X.length) e (.buf 0 sish)) else g0 y) y) = fun y => if y = H.next then some (.lrow ks ct e (.buf 0 sish)) else g0 y := by
        funext y; by_cases e0 : y = H.next <;> simp [e0]
      rw [hfun] at q1 q2
      refine ⟨β', w', _, k1, ?_, q1, k4.same (fun _ => rfl) q2⟩
      have := VR.lsl (β := β') (b := H.next) (es := ks.length) (lo := .int 0) (len := ll) (cm := .opn) (l := 0) (n := X.length) rfl hll hp (by rw [Nat.zero_mul]; exact hcap) hle
      rwa [Nat.zero_mul] at this
  split at h
  · -- onto nothing
    cases hc : holdsT nf .small [n]
    · rw [hc] at h; cases h
    · rw [hc] at h
      simp only [cond_true, Option.some.injEq, Prod.mk.injEq] at h
      obtain ⟨rfl, rfl⟩ := h
      have hsm := holdsT_den hn hc
      simp only [Tm.dens, hnX, TOp.den, D.bool.injEq, decide_eq_true_eq] at hsm
      cases hs
      have := onto0 none false rfl (by omega) n hnX xs hX H.get (fun _ _ h => h)
      rw [AHeap.get_new, AHeap.next_new]
      exact this
  · rename_i b es lo m
    split at h
    · rename_i ks' c e' sish hlr
      cases hc : (CK.beqs ks ks' && es.beq ks.length && e.beq e' && holdsT nf (.bin .leq .i64) [addT nf lo m, mkT nf .len [c]] && holdsT nf .small [addT nf m n])
      · rw [hc] at h; cases h
      · rw [hc] at h
        simp only [cond_true, Option.some.injEq, Prod.mk.injEq] at h
        obtain ⟨rfl, rfl⟩ := h
        simp only [Bool.and_eq_true] at hc
        obtain ⟨⟨⟨⟨c1, c2⟩, c3⟩, c4⟩, c5⟩ := hc
        have := CK.beqs_eq _ _ c1
        subst this
        have := Nat.eq_of_beq_eq_true c2
        subst this
        have := Nat.eq_of_beq_eq_true c3
        subst this
        have hb := lrowOf_get hlr
        have hkill : ∀ x o, (H.kill b).get x = some o → H.get x = some o := by
          intro x o hx'
          rw [AHeap.get_kill] at hx'
          simp only at hx'
          split at hx'
          · cases hx'
          · exact hx'
        have hL : ∃ L, c.den = .list L := by
          rcases hw.some_ _ _ hb with ⟨p, -, L, hL, -⟩ | ⟨-, -, ha⟩
          · exact ⟨L, hL⟩
          · exact ⟨[], ha⟩
        obtain ⟨L, hL⟩ := hL
        rw [AHeap.get_new, AHeap.next_new, AHeap.next_kill]
        have empty : ∀ (l : Nat) (base : Option Addr), lo.den = .int (l : Int) → m.den = .int 0 → v = .slice base 0 0 → ∃ β' w' z, (Builtin.append_ (t :: xt :: ts).toArray ty #[v, u]).run P w = .ok z w' ∧ VR β' (.lsl H.next ks.length (.int 0) (addT nf m n) .opn) z ∧
            WR G β' (fun y => if y = H.next then some (.lrow ks (catT nf (subL nf c lo (addT nf lo m)) xs) e (.buf 0 sish)) else (H.kill b).get y) (H.next + 1) w' ∧ Tran β H.get H.next w β' (fun y => if y = H.next then some (.lrow ks (catT nf (subL nf c lo (addT nf lo m)) xs) e (.buf 0 sish)) else (H.kill b).get y) (H.next + 1) w' := by
          intro l base hl hm hv
          have hsum : (addT nf m n).den = .int X.length := by rw [addT_den hn hm hnX, Int.zero_add]
          have hsm := holdsT_den hn c5
          simp only [Tm.dens, hsum, TOp.den, D.bool.injEq, decide_eq_true_eq] at hsm
          have hsub : (subL nf c lo (addT nf lo m)).den = .list [] := by
            rw [subL_den hn (l := lo) (h := addT nf lo m) (a := l) (b := l) hL hl (by rw [addT_den hn hl hm]; simp)]
            simp
          exact onto0 base sish hv (by omega) (addT nf m n) hsum (catT nf (subL nf c lo (addT nf lo m)) xs) (by rw [catT_den hn hsub hX]; rfl) (H.kill b).get hkill
        cases hs with
        | @lsl0 _ _ _ _ _ l hl hz => exact empty l none hl hz rfl
        | @lslE _ _ _ _ _ l a cap hl hz hcap =>
          rcases hcap with rfl | hcap
          · exact empty l (some a) hl hz rfl
          · cases hcap
        | @lsl _ _ _ _ _ l len cap p hl hln hp hcap hle =>
          obtain ⟨cp1, cp2, cp3⟩ := hcap
          have hlm := addT_den hn hl hln
          have h4 := holdsT_den hn c4
          simp only [Tm.dens, hlm, len_den hn hL, TOp.den, intD, D.bool.injEq, decide_eq_true_eq] at h4
          have hsum : (addT nf m n).den = .int ((len + X.length : Nat) : Int) := by rw [addT_den hn hln hnX]; congr 1
          have hsm := holdsT_den hn c5
          simp only [Tm.dens, hsum, TOp.den, D.bool.injEq, decide_eq_true_eq] at hsm
          have hsub := subL_den hn (l := lo) (h := addT nf lo m) (a := l) (b := l + len) hL hl (by rw [hlm]; congr 1)
          have hsl : ((L.take (l + len)).drop l).length = len := by simp; omega
          have hcat : (catT nf (subL nf c lo (addT nf lo m)) xs).den = .list ((L.take (l + len)).drop l ++ X) := catT_den hn hsub hX
          obtain ⟨L', hL', -, hrow⟩ := hw.objAt hb hp
          rw [hL] at hL'; cases hL'
          have hmul : l * ks.length + len * ks.length ≤ L.length * ks.length := by rw [← Nat.add_mul]; exact Nat.mul_le_mul_right _ (by omega)
          have hfront := hrow.front (l * ks.length + len * ks.length)
          have hfl : ((expandL ks c L.length).take (l * ks.length + len * ks.length)).length = l * ks.length + len * ks.length := by rw [List.length_take, expandL_len]; omega
          -- laid out
          obtain ⟨w1, s1⟩ := hw.swap hb (o' := .row ((expandL ks c L.length).take (l * ks.length + len * ks.length)) e (.buf 0 sish)) rfl hp hfront
          have hHx : (fun x => if x = b then some (AObj.row ((expandL ks c L.length).take (l * ks.length + len * ks.length)) e (.buf 0 sish)) else H.get x) = (H.set b (.row ((expandL ks c L.length).take (l * ks.length + len * ks.length)) e (.buf 0 sish))).get := (AHeap.get_set _ _ _).symm
          rw [hHx] at w1 s1
          have hvs : VR β (.slice b (l * ks.length) len (.opn ks.length)) (.slice (some ⟨p.c, p.base + l * ks.length, none⟩) len cap) := .slice _ _ hp ⟨cp1, cp2, cp3⟩ hle
          have hold : takeN (len * ks.length) (((expandL ks c L.length).take (l * ks.length + len * ks.length)).drop (l * ks.length)) = some (((expandL ks c L.length).drop (l * ks.length)).take (len * ks.length)) := by
            have htk : ∀ (n : Nat) (l : List AV), n ≤ l.length → takeN n l = some (l.take n) := by
              intro n
              induction n with
              | zero => intro l _; rfl
              | succ n ih =>
                intro l hl
                cases l with
                | nil => simp at hl
                | cons a l => simp only [takeN, ih l (by simpa using hl), Option.map_some, List.take_succ_cons]
            rw [htk _ _ (by rw [List.length_drop, hfl]; omega)]
            congr 1
            rw [List.drop_take, Nat.add_sub_cancel_left, List.take_take, Nat.min_self]
          -- taken up again
          have fin : ∀ (β' : Pl) (w' : World) (z : Value), VR β' (.slice H.next 0 (len + X.length) (.opn ks.length)) z →
              WR G β' (fun y => if y = H.next then some (.row (((expandL ks c L.length).drop (l * ks.length)).take (len * ks.length) ++ expandL ks xs X.length) e (.buf 0 sish)) else (H.kill b).get y) (H.next + 1) w' →
              Tran β (H.set b (.row ((expandL ks c L.length).take (l * ks.length + len * ks.length)) e (.buf 0 sish))).get H.next w β' (fun y => if y = H.next then some (.row (((expandL ks c L.length).drop (l * ks.length)).take (len * ks.length) ++ expandL ks xs X.length) e (.buf 0 sish)) else (H.kill b).get y) (H.next + 1) w' →
              VR β' (.lsl H.next ks.length (.int 0) (addT nf m n) .opn) z ∧ WR G β' (fun y => if y = H.next then some (.lrow ks (catT nf (subL nf c lo (addT nf lo m)) xs) e (.buf 0 sish)) else (H.kill b).get y) (H.next + 1) w' ∧
              Tran β H.get H.next w β' (fun y => if y = H.next then some (.lrow ks (catT nf (subL nf c lo (addT nf lo m)) xs) e (.buf 0 sish)) else (H.kill b).get y) (H.next + 1) w' := by
            intro β' w' z k2 k3 k4
            cases k2 with
            | @slice _ p' _ _ _ c' hp' hcap' hle' =>
            have hb' : (fun y => if y = H.next then some (AObj.row (((expandL ks c L.length).drop (l * ks.length)).take (len * ks.length) ++ expandL ks xs X.length) e (.buf 0 sish)) else (H.kill b).get y) H.next = some (.row (((expandL ks c L.length).drop (l * ks.length)).take (len * ks.length) ++ expandL ks xs X.length) e (.buf 0 sish)) := by simp
            have hrow' : RowR β' w' p' (((expandL ks c L.length).drop (l * ks.length)).take (len * ks.length) ++ expandL ks xs X.length) e (.buf 0 sish) := k3.objAt hb' hp'
            have hnewo : ObjR β' w' p' (.lrow ks (catT nf (subL nf c lo (addT nf lo m)) xs) e (.buf 0 sish)) := by
              refine ⟨_, hcat, hks, hrow'.known ?_ fun vs h => ?_⟩
              · rw [expandL_len, List.length_append, hsl, List.length_append, List.length_take, List.length_drop, expandL_len, expandL_len, Nat.add_mul]; omega
              · rw [List.length_append]
                refine expandL_cat hks hsub hX hcat ?_
                rw [hsl]
                have hl1 := h.length
                have e1 := h.take (((expandL ks c L.length).drop (l * ks.length)).take (len * ks.length)).length
                have e2 := h.drop (((expandL ks c L.length).drop (l * ks.length)).take (len * ks.length)).length
                rw [List.take_left] at e1
                rw [List.drop_left] at e2
                have e3 := expandL_sub hks hL hsub (by omega) (by omega) (by rw [Nat.add_sub_cancel_left]; exact e1)
                rw [Nat.add_sub_cancel_left] at e3
                have := e3.append e2
                rwa [List.take_append_drop] at this
            obtain ⟨q1, q2⟩ := k3.swap hb' (o' := .lrow ks (catT nf (subL nf c lo (addT nf lo m)) xs) e (.buf 0 sish)) rfl hp' hnewo
            have hfun : (fun y => if y = H.next then some (AObj.lrow ks (catT nf (subL nf c lo (addT nf lo m)) xs) e (.buf 0 sish)) else (fun y => if y = H.next then some (AObj.row (((expandL ks c L.length).drop (l * ks.length)).take (len * ks.length) ++ expandL ks xs X.length) e (.buf 0 sish)) else (H.kill b).get y) y) = fun y => if y = H.next then some (.lrow ks (catT nf (subL nf c lo (addT nf lo m)) xs) e (.buf 0 sish)) else (H.kill b).get y := by
              funext y; by_cases e0 : y = H.next <;> simp [e0]
            rw [hfun] at q1 q2
            refine ⟨?_, q1, k4.same s1.symm q2⟩
            have := VR.lsl (β := β') (b := H.next) (es := ks.length) (lo := .int 0) (len := addT nf m n) (cm := .opn) (l := 0) (n := len + X.length) rfl hsum hp' (by rw [Nat.zero_mul]; exact hcap') hle'
            rwa [Nat.zero_mul] at this
          have hkx : ((H.set b (.row ((expandL ks c L.length).take (l * ks.length + len * ks.length)) e (.buf 0 sish))).kill b).get = (H.kill b).get := by
            rw [AHeap.get_kill, AHeap.get_kill, AHeap.get_set]
            funext y; by_cases e0 : y = b <;> simp [e0]
          by_cases h0 : X.length = 0
          · -- nothing is appended
            have hXn : X = [] := List.length_eq_zero_iff.1 h0
            subst hXn
            have hnew0 : (Builtin.firstCells ks.length 0 u).run P w = .ok ([] : List Value).toArray w := by
              have : new = [] := by cases new with | nil => rfl | cons a l => simp at hnl
              rw [this] at hnew; exact hnew
            have hrun := append_within_run (P := P) (ts := ts) (ty := ty) (a := ⟨p.c, p.base + l * ks.length, none⟩) (len := len) (c := cap) (w' := w) (new := []) (undT_und hu) (undT_und hxt) hxi (sizeT_run hsz) hlen hle hnew0 rfl
            have hw0 : WR G β (H.kill b).get H.next w := hw.less hkill
            have hlt := hw.bound b p hp
            have hno : ∀ b' o' q, (H.kill b).get b' = some o' → β b' = some q → q.c ≠ p.c := by
              intro b' o' q hb' hq e1
              have := hw.inj b' b o' _ q p (hkill _ _ hb') hb hq hp e1
              subst this
              rw [AHeap.get_kill] at hb'
              simp at hb'
            have he := Pl.put_ext (β := β) ⟨p.c, p.base + l * ks.length, p.size⟩ (hw.fresh _ (Nat.le_refl _))
            have hro : RowR β w ⟨p.c, p.base + l * ks.length, p.size⟩ (((expandL ks c L.length).take (l * ks.length + len * ks.length)).drop (l * ks.length)) e (.buf 0 sish) := by
              obtain ⟨cc, lo', hi', r1, r2, r3, r4, r5, r6⟩ := hfront
              rw [hfl] at r3
              refine ⟨cc, lo', hi', r1, r2, ?_, ?_, ?_, ?_⟩
              · rw [List.length_drop, hfl]; simp only; omega
              · have := r4.drop (l * ks.length)
                rw [hfl] at this
                rw [List.length_drop, hfl]
                simp only [List.drop_take, List.drop_drop] at this ⊢
                exact this
              · intro o o1 o2; exact r5 o (by simp only at o1; omega) o2
              · intro hs; rcases r6 hs with h | h
                · exact .inl h
                · exact .inr (by simp only; omega)
            have hlr : ((expandL ks c L.length).take (l * ks.length + len * ks.length)).drop (l * ks.length) = ((expandL ks c L.length).drop (l * ks.length)).take (len * ks.length) := by
              rw [List.drop_take, Nat.add_sub_cancel_left]
            rw [hlr] at hro
            have hwl := hw0.lay (w' := w) ⟨p.c, p.base + l * ks.length, p.size⟩ (.row (((expandL ks c L.length).drop (l * ks.length)).take (len * ks.length) ++ expandL ks xs 0) e (.buf 0 sish)) hlt (Nat.le_refl _) (fun _ _ _ _ _ => rfl) hno (by
              intro c0 x0 hx0
              obtain ⟨z1, z2⟩ := hw.keep c0 x0 hx0
              exact ⟨(z2 b _ p hb rfl hp).symm, z1⟩) (by
              have h9 : expandL ks xs 0 = [] := rfl
              rw [h9, List.append_nil]
              exact ObjR.mono he rfl (o := .row (((expandL ks c L.length).drop (l * ks.length)).take (len * ks.length)) e (.buf 0 sish)) hro)
            have htr : Tran β H.get H.next w (β.put H.next ⟨p.c, p.base + l * ks.length, p.size⟩) (fun y => if y = H.next then some (.row (((expandL ks c L.length).drop (l * ks.length)).take (len * ks.length) ++ expandL ks xs 0) e (.buf 0 sish)) else (H.kill b).get y) (H.next + 1) w := by
              refine ⟨he, by omega, Nat.le_refl _, fun _ _ _ => rfl, fun x hx h0 => ?_, fun x hx h0 => ?_, fun x ox q hx hq hlt => ?_, rfl, rfl, rfl, fun _ _ h => .inl h⟩
              · show (if x = H.next then some (⟨p.c, p.base + l * ks.length, p.size⟩ : Place) else β x) = none
                rw [if_neg (Nat.ne_of_lt hx)]; exact h0
              · simp only [if_neg (Nat.ne_of_lt hx)]
                cases hk : (H.kill b).get x with
                | none => rfl
                | some o => rw [hkill x o hk] at h0; cases h0
              · change (if x = H.next then some (⟨p.c, p.base + l * ks.length, p.size⟩ : Place) else β x) = some q at hq
                by_cases e1 : x = H.next
                · rw [if_pos e1] at hq; cases hq
                  exact ⟨b, _, p, hb, fun _ => rfl, hp, rfl⟩
                · rw [if_neg e1] at hq
                  simp only [if_neg e1] at hx
                  exact ⟨x, ox, q, hkill _ _ hx, fun h => h, hq, rfl⟩
            obtain ⟨q1, q2, q3⟩ := fin _ w _ (by
              have := VR.slice (β := β.put H.next ⟨p.c, p.base + l * ks.length, p.size⟩) (p := ⟨p.c, p.base + l * ks.length, p.size⟩) 0 (len + 0) (cap := .opn ks.length) (c := cap) (Pl.put_same β H.next _) ⟨cp1, by simpa using cp2, by simpa using cp3⟩ (by omega)
              simpa using this) hwl (htr.same s1 (fun _ => rfl))
            exact ⟨_, w, _, hrun, q1, q2, q3⟩
          · have hbig : (len + X.length) * by8 ≤ 2 ^ 40 := by
              have := Nat.mul_le_mul (show len + X.length ≤ 2 ^ 30 by omega) h8; omega
            have hone : (expandL ks xs X.length).all (·.one) = true := expandL_one ks xs X.length
            have hxl : 0 < X.length * ks.length := Nat.mul_pos (by omega) (by omega)
            have happ : appendCells (H.set b (.row ((expandL ks c L.length).take (l * ks.length + len * ks.length)) e (.buf 0 sish))) e ks.length by8 X.length (expandL ks xs X.length) (.slice b (l * ks.length) len (.opn ks.length)) =
                some (.slice H.next 0 (len + X.length) (.opn ks.length), ((H.set b (.row ((expandL ks c L.length).take (l * ks.length + len * ks.length)) e (.buf 0 sish))).kill b).new (.row (((expandL ks c L.length).drop (l * ks.length)).take (len * ks.length) ++ expandL ks xs X.length) e (.buf (0 - l * ks.length) sish))) := by
              unfold appendCells
              simp only
              rw [if_pos ⟨hbig, by omega⟩]
              unfold appendTo
              simp only
              have hro : rowOf (H.set b (.row ((expandL ks c L.length).take (l * ks.length + len * ks.length)) e (.buf 0 sish))) b = some ((expandL ks c L.length).take (l * ks.length + len * ks.length), e, .buf 0 sish) := by
                unfold rowOf; rw [AHeap.get_set]; simp
              rw [if_pos trivial, hro]
              simp only
              rw [if_neg (by rw [hfl, Nat.add_mul]; omega), if_pos ⟨by rw [hfl], Nat.zero_le _, hone, trivial⟩, hold, AHeap.next_set]
            rw [Nat.zero_sub] at happ
            obtain ⟨β', w', z', k1, k2, k3, k4⟩ := appendCells_run (A := fun s => Builtin.append_ (t :: xt :: ts).toArray ty #[s, u]) w1 happ hvs hz hzl hsz0 h0 hnv hnl hnv' hnl' hgrow
              (fun a len c w' hle _ _ hst => append_within_run (P := P) (ts := ts) (ty := ty) (undT_und hu) (undT_und hxt) hxi (sizeT_run hsz) hlen hle hnew hst)
            rw [AHeap.get_new, AHeap.next_new, AHeap.next_kill, AHeap.next_set, hkx] at k3 k4
            obtain ⟨q1, q2, q3⟩ := fin β' w' z' k2 k3 k4
            exact ⟨β', w', z', k1, q1, q2, q3⟩
    · cases h
  · cases h
theorem appendZerosA_run {t xt ty : TypeId} {ts : List TypeId} {s x r : AV} {v u : Value} {H' : AHeap} {k : IntKind} (hw : WR G β H.get H.next w) (h : appendZerosA P H t s x = some (r, H')) (hxt : undT P xt = some (.int k)) (hs : VR β s v) (hx : VR β x u) :
    ∃ β' w' z, (Builtin.append_ (t :: xt :: ts).toArray ty #[v, u]).run P w = .ok z w' ∧ VR β' r z ∧ WR G β' H'.get H'.next w' ∧ Tran β H.get H.next w β' H'.get H'.next w' := by
  unfold appendZerosA at h
  split at h
  · rename_i e hu
    split at h
    · rename_i size by8 z n hsz hby hz
      split at h
      · cases h
      · rename_i hc0
        obtain ⟨hsz0, hzl⟩ := not_or.1 hc0
        have hzl : z.cells.length = size := by simpa using hzl
        cases hx
        split at h
        · rename_i hn0
          subst hn0
          split at h
          · simp only [Option.some.injEq, Prod.mk.injEq] at h
            obtain ⟨rfl, rfl⟩ := h
            cases hs
            refine ⟨β, w, .slice none 0 0, ?_, .nilSlice, hw, Tran.refl _ _ _ _⟩
            obtain ⟨inf, i1, i2⟩ := bytesT_run (P := P) (w := w) hby
            exact append_zeros0_run (undT_und hu) (undT_und hxt) (sizeT_run hsz) i1 (Nat.zero_le _) trivial
          · simp only [Option.some.injEq, Prod.mk.injEq] at h
            obtain ⟨rfl, rfl⟩ := h
            rename_i b off len cap
            cases hs with
            | @slice _ p _ _ _ c hp hc hl =>
            refine ⟨β, w, _, ?_, .slice _ _ hp hc hl, hw, Tran.refl _ _ _ _⟩
            obtain ⟨inf, i1, i2⟩ := bytesT_run (P := P) (w := w) hby
            exact append_zeros0_run (undT_und hu) (undT_und hxt) (sizeT_run hsz) i1 hl trivial
          · cases h
        · rename_i hn0
          obtain ⟨iz, zv0, hz1, hz2, hz3⟩ := zeroT_info (β := β) hz
          have hinf : ∀ w, (typeInfo e).run P w = .ok iz w := fun w => by simp [typeInfo, hz1]
          have hib : iz.bytes = by8 := by
            obtain ⟨i2, k1, k2⟩ := bytesT_run (P := P) (w := w) hby
            rw [hinf] at k1; cases k1; exact k2
          have hzr0 : ∀ w, (zeroValue e).run P w = .ok zv0 w := fun w => by simp [zeroValue, typeInfo, hz1, hz2]
          have hzv : VRs β (repeatL z.cells n) (Builtin.zeroCells zv0.cells n).toList := by
            have := zeros_VRs (n := n) hz3.cells hzl hsz0
            have hzs : zv0.cells.size = size := by rw [← hzl, hz3.cells.length]; simp
            rw [← hzs] at this
            exact this
          have hnl : (Builtin.zeroCells zv0.cells n).toList.length = n * size := by
            have hzs : zv0.cells.size = size := by rw [← hzl, hz3.cells.length]; simp
            rw [Array.length_toList, zeroCells_size, hzs]
          exact appendCells_run (A := fun s => Builtin.append_ (t :: xt :: ts).toArray ty #[s, .int .i64 (Int.ofNat n)]) hw h hs hz hzl hsz0 hn0 hzv hnl hzv hnl
            (fun zv hzr base len c old hgt hle hle2 hold => by
              have e1 : zv0 = zv := by have := (hzr0 w).symm.trans (hzr w); cases this; rfl
              subst e1
              exact append_grow_zeros (P := P) (w := w) (ts := ts) (ty := ty) (undT_und hu) (undT_und hxt) (sizeT_all hsz) hinf hib hzr0 hn0 hsz0 hgt hle hle2 hold)
            (fun a len c w' hle hle1 hle2 hst => append_within_zeros (P := P) (ts := ts) (ty := ty) (undT_und hu) (undT_und hxt) (sizeT_run hsz) (hinf w) hib hzr0 hn0 hsz0 hle hle1 hle2 hst)
    · cases h
  · cases h
theorem zeroEltA_run {kinds : TypeId → Option (List CK)} {e : TypeId} {ks : List CK} {zt : Tm} (h : zeroEltA P kinds e = some (ks, zt)) :
    ∃ z by8, zeroT P e = some z ∧ sizeT P e = some ks.length ∧ bytesT P e = some by8 ∧ by8 ≤ 1024 ∧ z.cells.length = ks.length ∧ ks ≠ [] ∧
      ∀ (n : Nat) (t : Tm) (β : Pl) (vs : List Value), t.den = .list (List.replicate n zt.den) → VRs β (repeatL z.cells n) vs → VRs β (expandL ks t n) vs := by
  unfold zeroEltA at h
  split at h
  · rename_i z size by8 hz hsz hby
    split at h
    · rename_i ks' hks
      split at h
      · rename_i ts hts
        cases hc : (size.beq ks'.length && !size.beq 0 && by8.ble 1024)
        · rw [hc] at h; cases h
        · rw [hc] at h
          simp only [cond_true, Option.some.injEq, Prod.mk.injEq] at h
          obtain ⟨rfl, rfl⟩ := h
          simp only [Bool.and_eq_true, Nat.beq_eq, Bool.not_eq_true', Nat.ble_eq] at hc
          obtain ⟨⟨rfl, c2⟩, c3⟩ := hc
          have hne : ks' ≠ [] := by
            intro e0; subst e0; simp at c2
          obtain ⟨-, l1, l2⟩ := tmsOf_one hts
          refine ⟨z, by8, hz, hsz, hby, c3, l1, hne, fun n t β vs ht hv => ?_⟩
          have hpos : 0 < ks'.length := List.length_pos_iff.2 hne
          have := VRs_expand (L := List.replicate n (eltMk ks' ts).den) ht hne hv (by rw [repeatL_length, l1, List.length_replicate]) fun i j a v hi hj ha hav => by
            rw [List.length_replicate] at hi
            have hlt : i * ks'.length + j < n * z.cells.length := by
              rw [l1]
              have : (i + 1) * ks'.length ≤ n * ks'.length := Nat.mul_le_mul_right _ hi
              rw [Nat.add_mul, Nat.one_mul] at this; omega
            rw [repeatL_get _ _ _ hlt, l1, Nat.mul_comm, Nat.mul_add_mod, Nat.mod_eq_of_lt hj] at ha
            obtain ⟨k, u, u1, u2, u3⟩ := tmsOf_get hts j a ha
            have hd : (List.replicate n (eltMk ks' ts).den).getD i .bad = (eltMk ks' ts).den := by simp [List.getD_eq_getElem?_getD, hi]
            rw [hd, eltMk_fld (by rw [l2]) hj u2]
            have hk : ks'.getD j .bool = k := by simp [List.getD_eq_getElem?_getD, u1]
            rw [hk]
            exact tmOf_cell u3 hav
          rwa [List.length_replicate] at this
      · cases h
    · cases h
  · cases h
theorem lrow_of {β' : Pl} {w' : World} {e : TypeId} {cells : List AV} {ks : List CK} {t : Tm} {L : List D} {next : Nat} {g0 : Nat → Option AObj} {k0 : RK} (k3 : WR G β' (fun y => if y = next then some (AObj.row cells e k0) else g0 y) (next + 1) w')
    (hk : k0 ≠ .glob) (hkr : ∀ p n lo hi, KindR p n lo hi k0 → KindR p n lo hi (.buf 0 false)) (hden : t.den = .list L) (hks : ks ≠ []) (hlen : cells.length = L.length * ks.length) (hexp : ∀ vs, VRs β' cells vs → VRs β' (expandL ks t L.length) vs) :
    WR G β' (fun y => if y = next then some (.lrow ks t e (.buf 0 false)) else g0 y) (next + 1) w' ∧ SameWr (fun y => if y = next then some (AObj.row cells e k0) else g0 y) (fun y => if y = next then some (AObj.lrow ks t e (.buf 0 false)) else g0 y) := by
  have hb : (fun y => if y = next then some (AObj.row cells e k0) else g0 y) next = some (.row cells e k0) := by simp
  obtain ⟨p, hp, hrow⟩ := k3.obj next _ hb
  obtain ⟨cc, lo, hi, h1, h2, h3, h4, h5⟩ := hrow
  have hnewo : ObjR β' w' p (.lrow ks t e (.buf 0 false)) := by
    refine ⟨L, hden, hks, cc, lo, hi, h1, h2, ?_, ?_, ?_⟩
    · rw [expandL_len, ← hlen]; exact h3
    · rw [expandL_len, ← hlen]; exact hexp _ h4
    · rw [expandL_len, ← hlen]; exact hkr _ _ _ _ h5
  obtain ⟨q1, q2⟩ := k3.swap hb (o' := .lrow ks t e (.buf 0 false)) (by cases k0 <;> first | rfl | exact absurd rfl hk) hp hnewo
  have hfun : (fun y => if y = next then some (AObj.lrow ks t e (.buf 0 false)) else (fun y => if y = next then some (AObj.row cells e k0) else g0 y) y) = fun y => if y = next then some (.lrow ks t e (.buf 0 false)) else g0 y := by
    funext y; by_cases e0 : y = next <;> simp [e0]
  rw [hfun] at q1 q2
  exact ⟨q1, q2⟩
theorem symZerosA_run {nf : Tm → Tm} (hn : ∀ t, (nf t).den = t.den) {kinds : TypeId → Option (List CK)} {t xt ty : TypeId} {ts : List TypeId} {x r : AV} {v u : Value} {H' : AHeap} {k : IntKind} (hw : WR G β H.get H.next w) (h : symZerosA P nf kinds H t x = some (r, H')) (hxt : undT P xt = some (.int k)) (hs : VR β .nilSlice v) (hx : VR β x u) :
    ∃ β' w' z, (Builtin.append_ (t :: xt :: ts).toArray ty #[v, u]).run P w = .ok z w' ∧ VR β' r z ∧ WR G β' H'.get H'.next w' ∧ Tran β H.get H.next w β' H'.get H'.next w' := by
  unfold symZerosA at h
  split at h
  · rename_i e n hu
    split at h
    · rename_i ks zt hze
      obtain ⟨z, by8, hz, hsz, hby, h8, hzl, hks, hexp⟩ := zeroEltA_run hze
      cases hc : holdsT nf .small [n]
      · rw [hc] at h; cases h
      · rw [hc] at h
        simp only [cond_true, Option.some.injEq, Prod.mk.injEq] at h
        obtain ⟨rfl, rfl⟩ := h
        cases hx with | sy hcell =>
        generalize hd : n.den = d at hcell
        cases hcell with | int _ m =>
        have hsm := holdsT_den hn hc
        simp only [Tm.dens, hd, TOp.den, D.bool.injEq, decide_eq_true_eq] at hsm
        obtain ⟨q, rfl⟩ : ∃ q : Nat, m = (q : Int) := ⟨m.toNat, by omega⟩
        have hq : q ≤ 2 ^ 30 := by omega
        have hrep : (mkT nf .rep [n, zt]).den = .list (List.replicate q zt.den) := by
          rw [mkT_den hn]; simp [Tm.dens, hd, TOp.den]
        have hsz0 : ks.length ≠ 0 := fun e => hks (List.length_eq_zero_iff.1 e)
        have hu' : VR β (.int .i64 (Int.ofNat q)) (.int .i64 (q : Int)) := .int _ _
        have hcond : ¬ (ks.length = 0 ∨ z.cells.length ≠ ks.length) := by simp [hsz0, hzl]
        by_cases h0 : q = 0
        · subst h0
          have ha : appendZerosA P H t .nilSlice (.int .i64 (Int.ofNat 0)) = some (.nilSlice, H) := by
            unfold appendZerosA
            simp only [hu, hsz, hby, hz]
            rw [if_neg hcond]; simp
          obtain ⟨β', w', z', k1, k2, k3, k4⟩ := appendZerosA_run (ts := ts) (ty := ty) hw ha hxt hs hu'
          cases k2
          obtain ⟨j1, j2⟩ := k3.newAbsent (o := .lrow ks (mkT nf .rep [n, zt]) e (.buf 0 false)) (by show _ = D.list []; rw [hrep]; rfl)
          rw [AHeap.get_new, AHeap.next_new]
          exact ⟨β', w', _, k1, .lsl0 (l := 0) rfl (by rw [hd]; rfl), j1, k4.trans j2⟩
        · have ha : appendZerosA P H t .nilSlice (.int .i64 (Int.ofNat q)) = some (.slice H.next 0 q (.opn ks.length), H.new (.row (repeatL z.cells q) e (.buf 0 false))) := by
            unfold appendZerosA
            simp only [hu, hsz, hby, hz]
            rw [if_neg hcond, if_neg h0]
            unfold appendCells
            have : q * by8 ≤ 2 ^ 40 ∧ q ≤ 2 ^ 40 := by
              have := Nat.mul_le_mul hq h8
              constructor <;> omega
            simp only [this, and_self, if_true]
          obtain ⟨β', w', z', k1, k2, k3, k4⟩ := appendZerosA_run (ts := ts) (ty := ty) hw ha hxt hs hu'
          rw [AHeap.get_new, AHeap.next_new] at k3 k4
          obtain ⟨q1, q2⟩ := lrow_of (ks := ks) (t := mkT nf .rep [n, zt]) (L := List.replicate q zt.den) k3 (by simp) (fun _ _ _ _ h => h) hrep hks (by rw [repeatL_length, hzl, List.length_replicate]) (fun vs hvs => by rw [List.length_replicate]; exact hexp q _ β' vs hrep hvs)
          rw [AHeap.get_new, AHeap.next_new]
          refine ⟨β', w', z', k1, ?_, q1, k4.same (fun _ => rfl) q2⟩
          cases k2 with
          | @slice _ p _ _ _ c hp hcap hle =>
          have := VR.lsl (β := β') (b := H.next) (es := ks.length) (lo := .int 0) (len := n) (cm := .opn) (l := 0) (n := q) rfl hd hp (by rw [Nat.zero_mul]; exact hcap) hle
          rwa [Nat.zero_mul] at this
    · cases h
  · cases h
theorem appendA_run {nf : Tm → Tm} (hn : ∀ t, (nf t).den = t.den) {kinds : TypeId → Option (List CK)} {t xt ty : TypeId} {ts : List TypeId} {s x r : AV} {v u : Value} {H' : AHeap} {xd : TypeDesc} (hw : WR G β H.get H.next w) (h : appendA P nf kinds H t s x = some (r, H')) (hxt : undT P xt = some xd) (hxi : ∀ k, xd ≠ .int k) (hs : VR β s v) (hx : VR β x u) :
    ∃ β' w' z, (Builtin.append_ (t :: xt :: ts).toArray ty #[v, u]).run P w = .ok z w' ∧ VR β' r z ∧ WR G β' H'.get H'.next w' ∧ Tran β H.get H.next w β' H'.get H'.next w' := by
  unfold appendA at h
  split at h
  · rename_i e hu
    split at h
    · split at h
      · rename_i z size by8 hz hsz hby
        split at h
        · rename_i ks hks
          split at h
          · rename_i hc
            obtain ⟨rfl, hc2, hc3, hc4⟩ := hc
            exact symAppend_run hn hw h hu hxt hxi hz hc4 hsz hby hc3 (fun e => hc2 (by rw [e]; rfl)) hs hx
          · cases h
        · cases h
      · cases h
    rename_i hsy
    clear hsy
    split at h
    · rename_i size by8 n hsz hby hn
      split at h
      · cases h
      · rename_i hc0
        obtain ⟨hsz0, hzl⟩ := not_or.1 hc0
        have hzl : (zeroT P e).map (·.cells.length) = some size := by simpa using hzl
        rw [Option.map_eq_some_iff] at hzl
        obtain ⟨z, hz, hzl⟩ := hzl
        have hlen := srcLen_run (P := P) (w := w) hn hx
        split at h
        · rename_i hn0
          subst hn0
          -- nothing is appended
          have hnew : (Builtin.firstCells size 0 u).run P w = .ok ([] : List Value).toArray w := by
            cases hx <;> try (simp [srcLen] at hn; done)
            · simp only [Builtin.firstCells, Sem.run_pure]; congr 1; apply Array.ext'; simp [ByteArray.data_extract, List.extract_eq_take_drop]
            · simp [Builtin.firstCells]
            · simp [Builtin.firstCells, loadCells, loadCellsFrom]
            · simp [Builtin.firstCells, loadCells, loadCellsFrom]
            · rename_i ck t hc
              cases ck <;> try (simp [srcLen] at hn; done)
              obtain ⟨s, -, rfl⟩ := hc.strI
              simp only [Builtin.firstCells, Sem.run_pure]; congr 1; apply Array.ext'; simp [ByteArray.data_extract, List.extract_eq_take_drop]
          split at h
          · simp only [Option.some.injEq, Prod.mk.injEq] at h
            obtain ⟨rfl, rfl⟩ := h
            cases hs
            refine ⟨β, w, .slice none 0 0, ?_, .nilSlice, hw, Tran.refl _ _ _ _⟩
            have hun := run_underlying (undT_und hu) w
            simp only [Builtin.append_, List.getElem?_toArray, List.getElem?_cons_zero, List.getElem?_cons_succ, Sem.run_bind, hun, Result.andThen_ok, sizeT_run hsz, run_underlying (undT_und hxt), Sem.run_pure]
            cases xd <;> first
              | exact absurd rfl (hxi _)
              | simp [hlen, hnew]
          · simp only [Option.some.injEq, Prod.mk.injEq] at h
            obtain ⟨rfl, rfl⟩ := h
            rename_i b off len cap
            cases hs with
            | @slice _ p _ _ _ c hp hc hl =>
            refine ⟨β, w, _, ?_, .slice _ _ hp hc hl, hw, Tran.refl _ _ _ _⟩
            have := append_within_run (P := P) (ts := ts) (ty := ty) (a := ⟨p.c, p.base + off, none⟩) (w' := w) (undT_und hu) (undT_und hxt) hxi (sizeT_run hsz) hlen hl hnew rfl
            simpa using this
          · cases h
        · rename_i hn0
          split at h
          · cases h
          · rename_i newA hsrc
            have hle : ∀ k, srcLen x = some k → n ≤ k := fun k hk => by rw [hn] at hk; cases hk; exact Nat.le_refl _
            obtain ⟨new, hnew, hnv⟩ := firstCells_run (P := P) hw hsrc hx hle
            obtain ⟨new', hnew', hnv'⟩ := firstCells_run (P := P) hw.drew hsrc hx hle
            have hnl' : new'.length = n * size := by rw [← hnv'.length]; exact srcCells_len hsrc hn
            have hnl : new.length = n * size := by rw [← hnv.length]; exact srcCells_len hsrc hn
            obtain ⟨iz, zv0, hz1, hz2, hz3⟩ := zeroT_info (β := β) hz
            have hinf : ∀ w, (typeInfo e).run P w = .ok iz w := fun w => by simp [typeInfo, hz1]
            have hib : iz.bytes = by8 := by
              obtain ⟨i2, k1, k2⟩ := bytesT_run (P := P) (w := w) hby
              rw [hinf] at k1; cases k1; exact k2
            exact appendCells_run (A := fun s => Builtin.append_ (t :: xt :: ts).toArray ty #[s, u]) hw h hs hz hzl hsz0 hn0 hnv hnl hnv' hnl'
              (fun zv hzr base len c old hgt hle hle2 hold => append_grow_run (P := P) (w := w) (ts := ts) (ty := ty) (undT_und hu) (undT_und hxt) hxi (sizeT_all hsz) hinf hib hzr hlen hgt hle hle2 hold hnew')
              (fun a len c w' hle _ _ hst => append_within_run (P := P) (ts := ts) (ty := ty) (undT_und hu) (undT_und hxt) hxi (sizeT_run hsz) hlen hle hnew hst)
    · cases h
  · cases h
theorem clearA_run {t ty : TypeId} {ts : List TypeId} {x r : AV} {u : Value} {H' : AHeap} (hw : WR G β H.get H.next w) (h : clearA P H t x = some (r, H')) (hx : VR β x u) :
    ∃ w' z, (Builtin.clear_ (t :: ts).toArray ty #[u]).run P w = .ok z w' ∧ VR β r z ∧ WR G β H'.get H'.next w' ∧ Tran β H.get H.next w β H'.get H'.next w' := by
  have hvr : VR β undefA (.tuple #[]) := .tuple .nil
  unfold clearA at h
  split at h
  · rename_i d hu
    cases h
    cases hx
    refine ⟨w, .tuple #[], ?_, hvr, hw, Tran.refl _ _ _ _⟩
    simp [Builtin.clear_, run_underlying (undT_und hu) w]
  · rename_i e b off len cap hu
    cases hx with
    | @slice _ p _ _ _ c hp hc hl =>
    split at h
    · rename_i h0
      subst h0
      cases h
      refine ⟨w, .tuple #[], ?_, hvr, hw, Tran.refl _ _ _ _⟩
      simp [Builtin.clear_, run_underlying (undT_und hu) w]
    · rename_i h0
      split at h
      · rename_i z hz
        split at h
        · cases h
        · rename_i hzl
          rw [Option.map_eq_some_iff] at h
          obtain ⟨H1, h1, he⟩ := h
          cases he
          obtain ⟨iz, zv0, hz1, hz2, hz3⟩ := zeroT_info (β := β) hz
          have hzr0 : ∀ w, (zeroValue e).run P w = .ok zv0 w := fun w => by simp [zeroValue, typeInfo, hz1, hz2]
          have hzs : zv0.cells.size = z.cells.length := by rw [hz3.cells.length]; simp
          have hzv : VRs β (repeatL z.cells len) (Builtin.zeroCells zv0.cells len).toList := by
            have := zeros_VRs (n := len) hz3.cells rfl hzl
            rw [← hzs] at this
            exact this
          obtain ⟨w', q1, q2, q3, q4⟩ := storeN_run (P := P) hw h1 hzv hp
          refine ⟨w', .tuple #[], ?_, hvr, by rw [q4]; exact q2, by rw [q4]; exact q3⟩
          obtain ⟨k, rfl⟩ := Nat.exists_eq_succ_of_ne_zero h0
          simp only [Builtin.clear_, List.getElem?_toArray, List.getElem?_cons_zero, Sem.run_bind, run_underlying (undT_und hu) w, Result.andThen_ok, hzr0, q1, Sem.run_pure]
      · cases h
  · cases h
end
end Go.Tc
