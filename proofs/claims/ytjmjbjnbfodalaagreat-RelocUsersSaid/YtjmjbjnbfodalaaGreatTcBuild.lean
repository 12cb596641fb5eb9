/- Composite values and new rows. -/
import Derived.Test.YtjmjbjnbfodalaaGreatTcSlice
set_option linter.unusedSimpArgs false
set_option linter.unusedVariables false
set_option linter.unusedSectionVars false
namespace Go.Tc
variable [Val]

section
variable {P : Program} {G : Nat} {β : Pl} {H : AHeap} {w : World}

/-- parts: the same places, values that stand for one another. -/
def PartsR (β : Pl) : List (Nat × AV) → List (Nat × Value) → Prop
  | [], [] => True
  | (i, a) :: r, (j, v) :: s => i = j ∧ VR β a v ∧ PartsR β r s
  | _, _ => False

omit [Val] in
theorem foldl_set : ∀ (vs : List Value) (cs : Array Value) (off k : Nat), off + k + vs.length ≤ cs.size →
    ((vs.zipIdx k).foldl (fun cs (x : Value × Nat) => cs.setIfInBounds (off + x.2) x.1) cs).toList = cs.toList.take (off + k) ++ vs ++ cs.toList.drop (off + k + vs.length)
  | [], cs, off, k, _ => by simp
  | v :: vs, cs, off, k, h => by
    simp only [List.length_cons] at h
    rw [List.zipIdx_cons, List.foldl_cons, foldl_set vs _ off (k + 1) (by simp; omega)]
    have e := list_seg_step cs.toList (off + k) v vs (by simp; omega)
    simpa [Array.toList_setIfInBounds, Nat.add_assoc] using e

omit [Val] in
theorem foldl_size : ∀ (l : List (Value × Nat)) (cs : Array Value) (off : Nat), (l.foldl (fun cs (x : Value × Nat) => cs.setIfInBounds (off + x.2) x.1) cs).size = cs.size
  | [], cs, off => rfl
  | x :: l, cs, off => by rw [List.foldl_cons, foldl_size l]; simp

theorem fill_run {place : Nat → Option (Nat × Nat)} {place' : Nat → Option (Nat × Nat)} (hpl : ∀ i q, place i = some q → place' i = some q) :
    ∀ (parts : List (Nat × AV)) (parts' : List (Nat × Value)) (cells : List AV) (vs : Array Value) (r : List AV), PartsR β parts parts' → VRs β cells vs.toList → fillA place cells parts = some r →
      ∃ us : Array Value, Instr.fill place' vs parts' = some us ∧ VRs β r us.toList ∧ us.size = vs.size
  | [], [], cells, vs, r, _, hc, h => by cases h; exact ⟨vs, rfl, hc, rfl⟩
  | [], (_, _) :: _, _, _, _, hp, _, _ => hp.elim
  | (_, _) :: _, [], _, _, _, hp, _, _ => hp.elim
  | (i, a) :: parts, (j, v) :: parts', cells, vs, r, hp, hc, h => by
    obtain ⟨rfl, hv, hp⟩ := hp
    simp only [fillA] at h
    cases hi : place i with
    | none => simp [hi] at h
    | some q =>
      obtain ⟨off, size⟩ := q
      simp only [hi] at h
      split at h
      · cases h
      · rename_i hsz
        simp only [Bool.or_eq_true, decide_eq_true_eq, not_or] at hsz
        obtain ⟨hs1, hs2⟩ := hsz
        have hs1 : a.cells.length = size := by simpa using hs1
        split at h
        · rename_i c hl
          have hne : a.cells ≠ [] := by intro e; rw [e] at hs1; simp at hs1; omega
          obtain ⟨rfl, hle⟩ := layOver_eq _ _ _ _ hl hne
          have hvc := hv.cells
          have hlen := hvc.length
          have hcl := hc.length
          have hvl : v.cells.size = v.cells.toList.length := by simp
          have hwl : vs.size = vs.toList.length := by simp
          have hfold := foldl_set v.cells.toList vs off 0 (by omega)
          simp only [Nat.add_zero] at hfold
          have hrel : VRs β (cells.take off ++ a.cells ++ cells.drop (off + a.cells.length)) (vs.toList.take off ++ v.cells.toList ++ vs.toList.drop (off + v.cells.toList.length)) := by
            refine ((hc.take off).append hvc).append ?_
            rw [hlen]; exact hc.drop _
          rw [← hfold] at hrel
          obtain ⟨us, h1, h2, h3⟩ := fill_run hpl parts parts' _ ((v.cells.toList.zipIdx 0).foldl (fun cs (x : Value × Nat) => cs.setIfInBounds (off + x.2) x.1) vs) r hp hrel h
          refine ⟨us, ?_, h2, ?_⟩
          · simp only [Instr.fill, hpl i _ hi]
            have hcond : ¬ ((decide (v.cells.size ≠ size) || decide (off + v.cells.size > vs.size)) = true) := by
              simp only [Bool.or_eq_true, decide_eq_true_eq, not_or]; omega
            rw [if_neg hcond, ← Array.foldl_toList, Array.toList_zipIdx]
            exact h1
          · rw [h3, foldl_size]
        · cases h

omit [Val] in
theorem fieldPlaces {fields : Array Field} (hs : fieldsSized P fields.toList = true) : ∃ places : List (Nat × Nat), fields.toList.mapM (fun f => (P.info? f.type).map fun i => (f.offset, i.size)) = some places ∧
    ∀ i q, fieldPlaceA P fields i = some q → places[i]? = some q := by
  have key : ∀ (l : List Field), fieldsSized P l = true → ∃ places : List (Nat × Nat), l.mapM (fun f => (P.info? f.type).map fun i => (f.offset, i.size)) = some places ∧
      ∀ (i : Nat) (f : Field) n, l[i]? = some f → sizeT P f.type = some n → places[i]? = some (f.offset, n) := by
    intro l
    induction l with
    | nil => intro _; exact ⟨[], rfl, by simp⟩
    | cons f l ih =>
      intro h
      simp only [fieldsSized, List.all_cons, Bool.and_eq_true] at h
      obtain ⟨places, h1, h2⟩ := ih h.2
      obtain ⟨n, hn⟩ := Option.isSome_iff_exists.1 h.1
      obtain ⟨inf, hi, rfl⟩ := sizeT_info hn
      refine ⟨(f.offset, inf.size) :: places, ?_, ?_⟩
      · simp [List.mapM_cons, hi, h1]
      · intro i g m hg hm
        cases i with
        | zero =>
          simp at hg; subst hg
          rw [hn] at hm; cases hm; rfl
        | succ i => simpa using h2 i g m (by simpa using hg) hm
  obtain ⟨places, h1, h2⟩ := key _ hs
  refine ⟨places, h1, ?_⟩
  intro i q h
  unfold fieldPlaceA at h
  split at h
  · rename_i f hf
    rw [Option.map_eq_some_iff] at h
    obtain ⟨n, hn, rfl⟩ := h
    exact h2 i f n (by simpa using hf) hn
  · cases h

theorem zeroT_info {t : TypeId} {z : AV} (h : zeroT P t = some z) : ∃ i v, P.info? t = some i ∧ i.zero = some v ∧ VR β z v := by
  unfold zeroT at h
  cases hi : infoT P t with
  | none => simp [hi] at h
  | some i =>
    cases hz : i.zero with
    | none => simp [hi, hz] at h
    | some v =>
      simp [hi, hz] at h
      exact ⟨i, v, infoT_info hi, hz, ofValue_VR v z h⟩

theorem buildA_run {t : TypeId} {parts : List (Nat × AV)} {parts' : Array (Nat × Value)} {r : AV} (h : buildA P t parts = some r) (hp : PartsR β parts parts'.toList) :
    ∃ u, (Instr.build t parts').run P w = .ok u w ∧ VR β r u := by
  unfold buildA at h
  split at h
  · rename_i z fields hz hu
    split at h
    · rename_i hs
      rw [Option.map_eq_some_iff] at h
      obtain ⟨cells, hf, rfl⟩ := h
      obtain ⟨i, zv, h1, h2, h3⟩ := zeroT_info (β := β) hz
      obtain ⟨places, h4, h5⟩ := fieldPlaces hs
      obtain ⟨us, h6, h7, -⟩ := fill_run (place' := fun i => places.toArray[i]?) (fun i q hq => by simpa using h5 i q hq) _ _ _ zv.cells _ hp h3.cells hf
      refine ⟨.agg us, run_build w t parts' us ?_, .agg h7⟩
      simp only [Program.built, h1, undT_und hu, h2, h4]
      exact h6
    · cases h
  · rename_i z n elem hz hu
    split at h
    · rename_i s hs
      rw [Option.map_eq_some_iff] at h
      obtain ⟨cells, hf, rfl⟩ := h
      obtain ⟨i, zv, h1, h2, h3⟩ := zeroT_info (β := β) hz
      obtain ⟨ie, h4, rfl⟩ := sizeT_info hs
      obtain ⟨us, h6, h7, -⟩ := fill_run (place' := fun i => some (i * ie.size, ie.size)) (fun i q hq => hq) _ _ _ zv.cells _ hp h3.cells hf
      refine ⟨.agg us, run_build w t parts' us ?_, .agg h7⟩
      simp only [Program.built, h1, undT_und hu, h2, h4]
      exact h6
    · cases h
  · cases h

omit [Val] in
/-- noughts, one after the other. -/
theorem repeatL_get : ∀ (n : Nat) (z : List AV) (i : Nat), i < n * z.length → (repeatL z n)[i]? = z[i % z.length]?
  | 0, z, i, h => by simp at h
  | n + 1, z, i, h => by
    simp only [repeatL]
    by_cases hi : i < z.length
    · rw [List.getElem?_append_left hi, Nat.mod_eq_of_lt hi]
    · rw [List.getElem?_append_right (by omega), repeatL_get n z (i - z.length) (by rw [Nat.add_mul] at h; omega)]
      rw [← Nat.mod_eq_sub_mod (by omega)]
omit [Val] in
theorem repeatL_length : ∀ (n : Nat) (z : List AV), (repeatL z n).length = n * z.length
  | 0, z => by simp [repeatL]
  | n + 1, z => by simp [repeatL, repeatL_length n z, Nat.add_mul, Nat.add_comm]

theorem VRs.of_get {a : List AV} {v : List Value} (hl : a.length = v.length) (h : ∀ (i : Nat) (x : AV), a[i]? = some x → ∃ y, v[i]? = some y ∧ VR β x y) : VRs β a v := by
  induction a generalizing v with
  | nil => cases v with | nil => exact .nil | cons _ _ => simp at hl
  | cons x xs ih =>
    cases v with
    | nil => simp at hl
    | cons y ys =>
      obtain ⟨y', h1, h2⟩ := h 0 x rfl
      simp at h1; subst h1
      exact .cons h2 (ih (by simpa using hl) fun i z hz => by simpa using h (i + 1) z (by simpa using hz))

theorem zeros_VRs {z : List AV} {zv : Array Value} {n s : Nat} (hz : VRs β z zv.toList) (hs : z.length = s) (h0 : s ≠ 0) : VRs β (repeatL z n) ((Array.range (n * s)).map (zv[· % zv.size]!)).toList := by
  have hzl := hz.length
  have hzs : zv.size = s := by rw [← hs, hzl]; simp
  refine VRs.of_get (by simp [repeatL_length, hs]) fun i x hx => ?_
  have hlt : i < n * s := by
    have := (List.getElem?_eq_some_iff.1 hx).1
    rwa [repeatL_length, hs] at this
  rw [repeatL_get n z i (by rwa [hs]), hs] at hx
  obtain ⟨y, h1, h2⟩ := hz.get hx
  refine ⟨y, ?_, h2⟩
  have hm : i % s < zv.size := by rw [hzs]; exact Nat.mod_lt _ (by omega)
  have h1' : zv[i % s]? = some y := by simpa using h1
  have : zv[i % zv.size]! = y := by rw [hzs, getElem!_pos zv (i % s) hm]; exact Option.some.inj ((Array.getElem?_eq_getElem hm).symm.trans h1')
  simp only [Array.toList_map, List.getElem?_map, Array.getElem?_toList]
  simp [hlt, this]

theorem buildSliceA_run {t : TypeId} {len : Nat} {parts : List (Nat × AV)} {parts' : Array (Nat × Value)} {e : TypeId} {cells : List AV} (hw : WR G β H.get H.next w) (h : buildSliceA P t len parts = some (e, cells)) (hp : PartsR β parts parts'.toList) :
    ∃ β' w' u, (Instr.buildSlice t len parts').run P w = .ok u w' ∧ VR β' (.slice H.next 0 len (.exact len)) u ∧ WR G β' (H.new (.row cells e .solid)).get (H.new (.row cells e .solid)).next w' ∧ Tran β H.get H.next w β' (H.new (.row cells e .solid)).get (H.new (.row cells e .solid)).next w' := by
  unfold buildSliceA at h
  split at h
  · rename_i elem hu
    split at h
    · rename_i n z hn hz
      split at h
      · cases h
      · rename_i hc
        simp only [Bool.or_eq_true, decide_eq_true_eq, not_or] at hc
        obtain ⟨⟨hc1, hc2⟩, hc3⟩ := hc
        have hc2 : z.cells.length = n := by simpa using hc2
        rw [Option.map_eq_some_iff] at h
        obtain ⟨c, hf, he⟩ := h
        simp only [Prod.mk.injEq] at he
        obtain ⟨rfl, rfl⟩ := he
        obtain ⟨zv, h1, h2⟩ := zeroT_run (P := P) (β := β) (w := w) hz
        have hz0 := zeros_VRs (n := len) h2.cells hc2 hc3
        obtain ⟨us, h6, h7, h8⟩ := fill_run (place' := fun i => some (i * n, n)) (fun i q hq => hq) _ _ _ ((Array.range (len * n)).map (zv.cells[· % zv.cells.size]!)) _ hp hz0 hf
        obtain ⟨β', k1, k2, k3, k4⟩ := newRow_run (P := P) (elem := elem) hw h7
        have hmap : len * n = 0 → (Array.range (len * n)).map ((#[] : Array Value)[· % (#[] : Array Value).size]!) = (Array.range (len * n)).map (zv.cells[· % zv.cells.size]!) := fun h0 => by rw [h0]; simp
        have q1 : (newRow elem us).run P w = .ok ⟨w.heap.size, 0, none⟩ (w.alloc (.cells us.toList.toArray elem)) := by rw [← k1, Array.toArray_toList]
        refine ⟨β', _, .slice (some ⟨w.heap.size, 0, none⟩) len len, ?_, ?_, k3, k4⟩
        · simp only [Instr.buildSlice, Sem.run_bind, run_underlying (undT_und hu), Result.andThen_ok, sizeT_run hn, if_neg hc1]
          split
          · rename_i h0
            simp only [Sem.run_bind, Sem.run_pure, Result.andThen_ok, hmap h0, h6, q1]
          · simp only [Sem.run_bind, Sem.run_pure, Result.andThen_ok, h1, h6, q1]
        · subst k2
          exact .slice 0 len (Pl.put_same β H.next _) rfl (Nat.le_refl _)
    · cases h
  · cases h

theorem makeSliceA_run {t : TypeId} {a b : AV} {v u : Value} {e : TypeId} {cells : List AV} {l c : Nat} (hw : WR G β H.get H.next w) (h : makeSliceA P t a b = some (e, cells, l, c)) (hx : VR β a v) (hy : VR β b u) :
    ∃ β' w' z, (Instr.makeSlice t v u).run P w = .ok z w' ∧ VR β' (.slice H.next 0 l (.exact c)) z ∧ WR G β' (H.new (.row cells e .solid)).get (H.new (.row cells e .solid)).next w' ∧ Tran β H.get H.next w β' (H.new (.row cells e .solid)).get (H.new (.row cells e .solid)).next w' := by
  unfold makeSliceA at h
  split at h
  · rename_i elem k1 m k2 n hu
    cases hx; cases hy
    split at h
    · rename_i s z by8 hs hz hby
      split at h
      · rename_i hb
        split at h
        · rename_i hzs
          simp only [Option.some.injEq, Prod.mk.injEq] at h
          obtain ⟨rfl, rfl, rfl, rfl⟩ := h
          obtain ⟨b1, b2, b3, b4⟩ := hb
          obtain ⟨zv, h1, h2⟩ := zeroT_run (P := P) (β := β) (w := w) hz
          have hz0 := zeros_VRs (n := n.toNat) h2.cells hzs.1 hzs.2
          obtain ⟨β', q1, q2, q3, q4⟩ := newRow_run (P := P) (elem := elem) hw hz0
          obtain ⟨inf, hi1, hi2⟩ := bytesT_run (w := w) hby
          have wl : IntKind.i64.wrap m = m := IntWalk.i64_in _ (by omega)
          have wc : IntKind.i64.wrap n = n := IntWalk.i64_in _ (by omega)
          have hn0 : (by8 : Int) * n ≤ 2 ^ 40 := by rw [Int.mul_comm]; exact b3
          have hlm : (by8 : Int) * m ≤ by8 * n := Int.mul_le_mul_of_nonneg_left b2 (by omega)
          have hmap : n.toNat * s = 0 → (Array.range (n.toNat * s)).map ((#[] : Array Value)[· % (#[] : Array Value).size]!) = (Array.range (n.toNat * s)).map (zv.cells[· % zv.cells.size]!) := fun h0 => by rw [h0]; simp
          have q1' : (newRow elem ((Array.range (n.toNat * s)).map (zv.cells[· % zv.cells.size]!))).run P w = .ok ⟨w.heap.size, 0, none⟩ (w.alloc (.cells ((Array.range (n.toNat * s)).map (zv.cells[· % zv.cells.size]!)).toList.toArray elem)) := by
            rw [← q1, Array.toArray_toList]
          refine ⟨β', _, .slice (some ⟨w.heap.size, 0, none⟩) m.toNat n.toNat, ?_, ?_, q3, q4⟩
          · simp only [Instr.makeSlice, Sem.run_bind, run_underlying (undT_und hu), Result.andThen_ok, asInt, asIntOf, Sem.run_pure, hi1, hi2, wl, wc]
            have c1 : ¬ (n < 0) := by omega
            have c2 : ¬ ((by8 : Int) * n > 2 ^ 48) := by omega
            have c3 : ¬ (m < 0) := by omega
            have c4 : ¬ (m > n) := by omega
            simp only [c1, c2, c3, c4, decide_false, Bool.or_self, Bool.false_eq_true, if_false, Sem.run_bind, run_askRoom, Result.andThen_ok, sizeT_run hs]
            split
            · rename_i h0
              simp only [Sem.run_bind, Sem.run_pure, Result.andThen_ok, hmap h0, q1']
            · simp only [Sem.run_bind, Sem.run_pure, Result.andThen_ok, h1, q1']
          · subst q2
            exact .slice 0 _ (Pl.put_same β H.next _) rfl (by omega)
        · cases h
      · cases h
    · cases h
  · cases h

end
end Go.Tc
