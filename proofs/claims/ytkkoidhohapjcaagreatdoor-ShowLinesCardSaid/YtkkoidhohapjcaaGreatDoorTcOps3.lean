/- operations that make a block, wherever in the logical heap it comes to lie. -/
import Derived.Test.YtkkoidhohapjcaaGreatDoorTcOps2
set_option linter.unusedSimpArgs false
set_option linter.unusedVariables false
set_option linter.unusedSectionVars false
namespace Go.Tc
variable [Val]

section
variable {P : Program} {G : Nat} {β : Pl} {H : AHeap} {w : World} {E : Env} {S : Evs} {c : Ctx} {T : Tmps} {ev : Operand → Value}

/-- a block is made: the model's, the logical one, and the value that names it. -/
def AllocAt (P : Program) (β : Pl) (w : World) (id : Nat) (v : AV) (ob : AObj) (m : Sem Value) : Prop :=
  ∃ obj sz u, m.run P w = .ok u (w.alloc obj) ∧ ∀ β', Ext β β' → β' id = some ⟨w.heap.size, 0, sz⟩ → VR β' v u ∧ ObjR β' (w.alloc obj) ⟨w.heap.size, 0, sz⟩ ob

theorem rowObj {elem : TypeId} {cells : List AV} {vs : List Value} (hc : VRs β cells vs) {β' : Pl} (he : Ext β β') :
    ObjR β' (w.alloc (.cells vs.toArray elem)) ⟨w.heap.size, 0, vs.length⟩ (.row cells elem .solid) := by
  have hlen := hc.length
  refine ⟨vs.toArray, 0, 0, World.alloc_heap_new _ _, by simp, by simp [hlen], ?_, rfl, by simp [hlen], rfl, rfl⟩
  have : (vs.toArray.toList.drop 0).take cells.length = vs := by simp [hlen]
  rw [this]
  exact hc.mono he

theorem buildSliceA_at {t : TypeId} {len : Nat} {parts : List (Nat × AV)} {parts' : Array (Nat × Value)} {e : TypeId} {cells : List AV} {id : Nat} (h : buildSliceA P t len parts = some (e, cells)) (hp : PartsR β parts parts'.toList) :
    AllocAt P β w id (.slice id 0 len (.exact len)) (.row cells e .solid) (Instr.buildSlice t len parts') := by
  unfold buildSliceA at h
  split at h
  · rename_i elem hu
    split at h
    · rename_i n z hn hz
      split at h
      · cases h
      · rename_i hc
        simp only [Bool.or_eq_true, decide_eq_true_eq, not_or] at hc
        obtain ⟨⟨hc1, hc2⟩, hc3⟩ := hc
        have hc2 : z.cells.length = n := by simpa using hc2
        rw [Option.map_eq_some_iff] at h
        obtain ⟨c, hf, he⟩ := h
        simp only [Prod.mk.injEq] at he
        obtain ⟨rfl, rfl⟩ := he
        obtain ⟨zv, h1, h2⟩ := zeroT_run (P := P) (β := β) (w := w) hz
        have hz0 := zeros_VRs (n := len) h2.cells hc2 hc3
        obtain ⟨us, h6, h7, h8⟩ := fill_run (place' := fun i => some (i * n, n)) (fun i q hq => hq) _ _ _ ((Array.range (len * n)).map (zv.cells[· % zv.cells.size]!)) _ hp hz0 hf
        have k1 : (newRow elem us.toList.toArray).run P w = .ok ⟨w.heap.size, 0, none⟩ (w.alloc (.cells us.toList.toArray elem)) := by simp [newRow]
        have hmap : len * n = 0 → (Array.range (len * n)).map ((#[] : Array Value)[· % (#[] : Array Value).size]!) = (Array.range (len * n)).map (zv.cells[· % zv.cells.size]!) := fun h0 => by rw [h0]; simp
        have q1 : (newRow elem us).run P w = .ok ⟨w.heap.size, 0, none⟩ (w.alloc (.cells us.toList.toArray elem)) := by rw [← k1, Array.toArray_toList]
        refine ⟨.cells us.toList.toArray elem, us.toList.length, .slice (some ⟨w.heap.size, 0, none⟩) len len, ?_, fun β' he hi => ⟨.slice 0 len hi rfl (Nat.le_refl _), rowObj h7 he⟩⟩
        simp only [Instr.buildSlice, Sem.run_bind, run_underlying (undT_und hu), Result.andThen_ok, sizeT_run hn, if_neg hc1]
        split
        · rename_i h0
          simp only [Sem.run_bind, Sem.run_pure, Result.andThen_ok, hmap h0, h6, q1]
        · simp only [Sem.run_bind, Sem.run_pure, Result.andThen_ok, h1, h6, q1]
    · cases h
  · cases h

theorem makeSliceA_at {t : TypeId} {a b : AV} {v u : Value} {e : TypeId} {cells : List AV} {l c id : Nat} (h : makeSliceA P t a b = some (e, cells, l, c)) (hx : VR β a v) (hy : VR β b u) :
    AllocAt P β w id (.slice id 0 l (.exact c)) (.row cells e .solid) (Instr.makeSlice t v u) := by
  unfold makeSliceA at h
  split at h
  · rename_i elem k1 m k2 n hu
    cases hx; cases hy
    split at h
    · rename_i s z by8 hs hz hby
      split at h
      · rename_i hb
        split at h
        · rename_i hzs
          simp only [Option.some.injEq, Prod.mk.injEq] at h
          obtain ⟨rfl, rfl, rfl, rfl⟩ := h
          obtain ⟨b1, b2, b3, b4⟩ := hb
          obtain ⟨zv, h1, h2⟩ := zeroT_run (P := P) (β := β) (w := w) hz
          have hz0 := zeros_VRs (n := n.toNat) h2.cells hzs.1 hzs.2
          have q1 : (newRow elem ((Array.range (n.toNat * s)).map (zv.cells[· % zv.cells.size]!)).toList.toArray).run P w = .ok ⟨w.heap.size, 0, none⟩ (w.alloc (.cells ((Array.range (n.toNat * s)).map (zv.cells[· % zv.cells.size]!)).toList.toArray elem)) := by simp [newRow]
          obtain ⟨inf, hi1, hi2⟩ := bytesT_run (w := w) hby
          have wl : IntKind.i64.wrap m = m := IntWalk.i64_in _ (by omega)
          have wc : IntKind.i64.wrap n = n := IntWalk.i64_in _ (by omega)
          have hn0 : (by8 : Int) * n ≤ 2 ^ 40 := by rw [Int.mul_comm]; exact b3
          have hlm : (by8 : Int) * m ≤ by8 * n := Int.mul_le_mul_of_nonneg_left b2 (by omega)
          have hmap : n.toNat * s = 0 → (Array.range (n.toNat * s)).map ((#[] : Array Value)[· % (#[] : Array Value).size]!) = (Array.range (n.toNat * s)).map (zv.cells[· % zv.cells.size]!) := fun h0 => by rw [h0]; simp
          have q1' : (newRow elem ((Array.range (n.toNat * s)).map (zv.cells[· % zv.cells.size]!))).run P w = .ok ⟨w.heap.size, 0, none⟩ (w.alloc (.cells ((Array.range (n.toNat * s)).map (zv.cells[· % zv.cells.size]!)).toList.toArray elem)) := by
            rw [← q1, Array.toArray_toList]
          refine ⟨_, _, .slice (some ⟨w.heap.size, 0, none⟩) m.toNat n.toNat, ?_, fun β' he hi => ⟨.slice 0 _ hi rfl (by omega), rowObj hz0 he⟩⟩
          simp only [Instr.makeSlice, Sem.run_bind, run_underlying (undT_und hu), Result.andThen_ok, asInt, asIntOf, Sem.run_pure, hi1, hi2, wl, wc]
          have c1 : ¬ (n < 0) := by omega
          have c2 : ¬ ((by8 : Int) * n > 2 ^ 48) := by omega
          have c3 : ¬ (m < 0) := by omega
          have c4 : ¬ (m > n) := by omega
          simp only [c1, c2, c3, c4, decide_false, Bool.or_self, Bool.false_eq_true, if_false, Sem.run_bind, run_askRoom, Result.andThen_ok, sizeT_run hs]
          split
          · rename_i h0
            simp only [Sem.run_bind, Sem.run_pure, Result.andThen_ok, hmap h0, q1']
          · simp only [Sem.run_bind, Sem.run_pure, Result.andThen_ok, h1, q1']
        · cases h
      · cases h
    · cases h
  · cases h

theorem newRow_at {e : TypeId} {cells : List AV} {a : Array Value} {id : Nat} (hc : VRs β cells a.toList) :
    AllocAt P β w id (.ptr id 0) (.row cells e .solid) (do pure (.pointer (some (← newRow e a)))) := by
  refine ⟨.cells a.toList.toArray e, a.toList.length, .pointer (some ⟨w.heap.size, 0 + 0, none⟩), by simp [newRow, Result.andThen], fun β' he hi => ⟨.ptr 0 hi, rowObj hc he⟩⟩

/-- a made slice of unknown length. -/
theorem symMakeA_at {nf : Tm → Tm} (hn : ∀ t, (nf t).den = t.den) {kinds : TypeId → Option (List CK)} {t : TypeId} {a b r : AV} {v u : Value} {H H' : AHeap} (h : symMakeA P nf kinds H t a b = some (r, H')) (hx : VR β a v) (hy : VR β b u) :
    ∃ ob, H' = H.new ob ∧ AllocAt P β w H.next r ob (Instr.makeSlice t v u) := by
  unfold symMakeA at h
  split at h
  · rename_i e tl tc hu htl htc
    split at h
    · rename_i ks zt hze
      obtain ⟨z, by8, hz, hsz, hby, h8, hzl, hks, hexp⟩ := zeroEltA_run hze
      cases hc : (holdsT nf .small [tc] && holdsT nf (.bin .leq .i64) [.int 0, tl] && holdsT nf (.bin .leq .i64) [tl, tc])
      · rw [hc] at h; cases h
      · rw [hc] at h
        simp only [cond_true, Option.some.injEq, Prod.mk.injEq] at h
        obtain ⟨rfl, rfl⟩ := h
        simp only [Bool.and_eq_true] at hc
        obtain ⟨⟨c1, c2⟩, c3⟩ := hc
        have k1 := tmOf_cell htl hx
        have k2 := tmOf_cell htc hy
        generalize hdl : tl.den = dl at k1
        generalize hdc : tc.den = dc at k2
        cases k1 with | int _ l =>
        cases k2 with | int _ c =>
        have c1 := holdsT_den hn c1
        have c2 := holdsT_den hn c2
        have c3 := holdsT_den hn c3
        simp only [Tm.dens, hdc, TOp.den, D.bool.injEq, decide_eq_true_eq] at c1
        simp only [Tm.dens, hdl, Tm.den, TOp.den, intD, D.bool.injEq, decide_eq_true_eq] at c2
        simp only [Tm.dens, hdl, hdc, TOp.den, intD, D.bool.injEq, decide_eq_true_eq] at c3
        obtain ⟨q, rfl⟩ : ∃ q : Nat, c = (q : Int) := ⟨c.toNat, by omega⟩
        obtain ⟨m, rfl⟩ : ∃ m : Nat, l = (m : Int) := ⟨l.toNat, by omega⟩
        have hq : q ≤ 2 ^ 30 := by omega
        have hmq : m ≤ q := by omega
        have hrep : (mkT nf .rep [tc, zt]).den = .list (List.replicate q zt.den) := by
          rw [mkT_den hn]; simp [Tm.dens, hdc, TOp.den]
        have hsz0 : ks.length ≠ 0 := fun e => hks (List.length_eq_zero_iff.1 e)
        have ha : makeSliceA P t (.int .i64 (m : Int)) (.int .i64 (q : Int)) = some (e, repeatL z.cells q, m, q) := by
          unfold makeSliceA
          have b3 : (q : Int) * (by8 : Int) ≤ 2 ^ 40 := by
            have := Nat.mul_le_mul hq h8
            have : ((q * by8 : Nat) : Int) ≤ ((2 ^ 40 : Nat) : Int) := by omega
            simpa using this
          have b : 0 ≤ (m : Int) ∧ (m : Int) ≤ (q : Int) ∧ (q : Int) * (by8 : Int) ≤ 2 ^ 40 ∧ (q : Int) ≤ 2 ^ 40 := ⟨by omega, by omega, b3, by omega⟩
          simp only [hu, hsz, hz, hby, if_pos b, hzl, Int.toNat_natCast]
          rw [if_pos ⟨trivial, hsz0⟩]
        obtain ⟨obj, sz, y, r1, r2⟩ := makeSliceA_at (w := w) (id := H.next) ha (.int .i64 (m : Int)) (.int .i64 (q : Int)) (β := β)
        refine ⟨_, rfl, obj, sz, y, r1, fun β' he hi => ?_⟩
        obtain ⟨s1, s2⟩ := r2 β' he hi
        obtain ⟨cc, lo, hi', h1, h2, h3, h4, h5⟩ := s2
        have hlen : (repeatL z.cells q).length = q * ks.length := by rw [repeatL_length, hzl]
        rw [hlen] at h3 h4 h5
        obtain ⟨g1, g2, rfl, rfl⟩ := h5
        constructor
        · cases s1 with
          | @slice _ p _ _ _ k hp hcap hle =>
          rw [hi] at hp
          cases hp
          simp only [CapR] at hcap
          subst hcap
          have := VR.lsl (β := β') (b := H.next) (es := ks.length) (lo := .int 0) (len := tl) (cm := .opn) (l := 0) (n := m) (c := k) (p := ⟨w.heap.size, 0, sz⟩) rfl hdl hi (by
            simp only at g2
            refine ⟨by omega, ?_, ?_⟩
            · show 0 + 0 * ks.length + k * ks.length ≤ sz; rw [g2]; omega
            · show sz < 0 + 0 * ks.length + (k + 1) * ks.length; rw [g2, Nat.add_mul]; omega) hle
          rwa [Nat.zero_mul] at this
        · refine ⟨_, hrep, hks, cc, 0, 0, h1, h2, ?_, ?_, ?_⟩
          · rw [expandL_len, List.length_replicate]; exact h3
          · rw [expandL_len, List.length_replicate]; exact hexp q _ β' _ hrep h4
          · exact ⟨fun o _ _ => by omega, fun _ => .inl rfl⟩
    · cases h
  · cases h

theorem newMap_at {id : Nat} : AllocAt P β w id (.map id) (.map [] 0) (do pure (.map (some (← newObj (.map #[] 0))))) := by
  refine ⟨.map #[] 0, 0, .map (some w.heap.size), by simp [Result.andThen], fun β' he hi => ⟨.map hi, #[], World.alloc_heap_new _ _, ?_⟩⟩
  exact .nil

/-- operations that make a block. -/
theorem alloc_run (hnf : ∀ t, (E.nf t).den = t.den) {o : Oper} {v : AV} {H' : AHeap} (hc : cls o.op = .alloc) (h : opA P E S c o T H = some (v, H')) (hρ : OpsR β c T ev o.op.operands) :
    ∃ ob m, H' = H.new ob ∧ (∀ w, (execOp ev o).run P w = (m.run P w).andThen fun u w' => .ok (.value u) w') ∧ AllocAt P β w H.next v ob m := by
  obtain ⟨dst, op, type, pos, after, guard⟩ := o
  simp only at hc hρ
  cases op <;> try (simp only [cls, reduceCtorEq] at hc)
  case alloc e =>
    simp only [opA, Option.map_eq_some_iff, newA, Prod.mk.injEq] at h
    obtain ⟨z, hz, rfl, rfl⟩ := h
    obtain ⟨zv, h1, h2⟩ := zeroT_run (P := P) (β := β) (w := w) hz
    obtain ⟨obj, sz, u, k1, k2⟩ := newRow_at (P := P) (w := w) (e := e) (id := H.next) h2.cells
    refine ⟨_, Instr.alloc e true (.tuple #[]), rfl, fun w => by simp only [execOp, Sem.run_bind, Sem.run_pure], obj, sz, u, ?_, k2⟩
    simpa [Instr.alloc, h1, newVar] using k1
  case box e x =>
    simp only [opA, Option.map_eq_some_iff, newA, Prod.mk.injEq] at h
    obtain ⟨y, hy, rfl, rfl⟩ := h
    exact ⟨_, Instr.box e (ev x), rfl, fun w => by simp only [execOp, Sem.run_bind, Sem.run_pure], newRow_at (hρ x (by simp [Op.operands]) _ hy).cells⟩
  case buildSlice t len parts =>
    simp only [opA] at h
    split at h
    · rename_i vs hvs
      simp only [Option.map_eq_some_iff, Prod.mk.injEq, Prod.exists] at h
      obtain ⟨e, cells, hr, rfl, rfl⟩ := h
      have hp := parts_of (aevals_of (fun x hx => hρ x (by simpa [Op.operands] using hx)) hvs)
      exact ⟨_, _, rfl, fun w => by simp only [execOp, Sem.run_bind, Sem.run_pure], buildSliceA_at (parts' := parts.map fun (i, x) => (i, ev x)) hr (by simpa using hp)⟩
    · cases h
  case makeSlice t l k =>
    simp only [opA] at h
    split at h
    · rename_i a b ha hb
      split at h
      · rename_i e cells l' k' hr
        simp only [Option.some.injEq, Prod.mk.injEq] at h
        obtain ⟨rfl, rfl⟩ := h
        exact ⟨_, _, rfl, fun w => by simp only [execOp, Sem.run_bind, Sem.run_pure], makeSliceA_at hr (hρ l (by simp [Op.operands]) _ ha) (hρ k (by simp [Op.operands]) _ hb)⟩
      · obtain ⟨ob, h1, h2⟩ := symMakeA_at (P := P) (w := w) hnf h (hρ l (by simp [Op.operands]) _ ha) (hρ k (by simp [Op.operands]) _ hb)
        exact ⟨ob, _, h1, fun w => by simp only [execOp, Sem.run_bind, Sem.run_pure], h2⟩
    · cases h
  case makeMap t r =>
    simp only [opA] at h
    cases r with
    | none =>
      simp only [Option.some.injEq, Prod.mk.injEq] at h
      obtain ⟨rfl, rfl⟩ := h
      exact ⟨_, Instr.makeMap t none, rfl, fun w => by simp only [execOp, Sem.run_bind, Sem.run_pure, Option.map_none], newMap_at⟩
    | some x =>
      simp only at h
      split at h
      · rename_i k n kt vt hu hx
        simp only [Option.some.injEq, Prod.mk.injEq] at h
        obtain ⟨rfl, rfl⟩ := h
        have hv := hρ x (by simp [Op.operands]) _ hx
        obtain ⟨obj, sz, u, k1, k2⟩ := newMap_at (P := P) (β := β) (w := w) (id := H.next)
        refine ⟨_, Instr.makeMap t (some (ev x)), rfl, fun w => by simp only [execOp, Sem.run_bind, Sem.run_pure, Option.map_some], obj, sz, u, ?_, k2⟩
        generalize ev x = vx at hv
        cases hv
        simpa [Instr.makeMap, run_underlying (undT_und hu), asInt, asIntOf] using k1
      · cases h
  all_goals (first | (simp only [opA] at h; done) | (split at hc <;> first | (cases hc; done) | (rename_i hq; cases hq; done) | (simp_all; done)))

end
end Go.Tc
