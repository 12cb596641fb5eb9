/- Reading and writing cells: what the evaluator does, the model does. -/
import Derived.Test.YtmjibbnnpfbkfaaGreatDoorTbRel
import Derived.Laws.CopyRow
import Derived.Laws.Entries
import Derived.Laws.StructEq
set_option linter.unusedSimpArgs false
set_option linter.unusedVariables false
set_option linter.unusedSectionVars false
namespace Go.Tb

theorem addr_add (c o n : Nat) : (⟨c, o, none⟩ : Addr).add n = ⟨c, o + n, none⟩ := by
  unfold Addr.add; split <;> simp_all

section
variable {P : Program} {G : Nat} {β : Pl} {H : AHeap} {w : World}

theorem rowOf_get {b : Nat} {c : List AV} {e : TypeId} {k : RK} (h : rowOf H b = some (c, e, k)) : H.get b = some (.row c e k) := by
  unfold rowOf at h
  split at h
  · rename_i c' e' k' hg
    simp only [Option.some.injEq, Prod.mk.injEq] at h
    obtain ⟨rfl, rfl, rfl⟩ := h
    exact hg
  · cases h

theorem mapOf_get {b : Nat} {es : List AEnt} {c : Nat} (h : mapOf H b = some (es, c)) : H.get b = some (.map es c) := by
  unfold mapOf at h
  split at h
  · rename_i es' c' hg
    simp only [Option.some.injEq, Prod.mk.injEq] at h
    obtain ⟨rfl, rfl⟩ := h
    exact hg
  · cases h

/-- a row's cells, as the model has them. -/
theorem row_at {n b : Nat} {c : List AV} {e : TypeId} {k : RK} (hw : WR G β H.get n w) (h : rowOf H b = some (c, e, k)) :
    ∃ p cc lo hi, β b = some p ∧ w.heap[p.c]? = some (.cells cc e (lo, hi)) ∧ cc.size = p.size ∧ p.base + c.length ≤ p.size ∧ VRs β c ((cc.toList.drop p.base).take c.length) ∧ KindR p c.length lo hi k := by
  obtain ⟨p, hp, cc, lo, hi, h1, h2, h3, h4, h5⟩ := hw.obj b _ (rowOf_get h)
  exact ⟨p, cc, lo, hi, hp, h1, h2, h3, h4, h5⟩

theorem loadN_run {m b off n : Nat} {l : List AV} (hw : WR G β H.get m w) (h : loadN H b off n = some l) :
    ∃ p vs, β b = some p ∧ vs.length = n ∧ (loadCells ⟨p.c, p.base + off, none⟩ n).run P w = .ok vs.toArray w ∧ VRs β l vs := by
  unfold loadN at h
  split at h
  · rename_i c e k hr
    obtain ⟨p, cc, lo, hi, hp, h1, h2, h3, h4, -⟩ := row_at hw hr
    obtain ⟨rfl, hl⟩ := takeN_take _ _ _ h
    rw [List.length_drop] at hl
    have hv := (h4.drop off).take n
    rw [List.drop_take, List.take_take, List.drop_drop, Nat.min_eq_left (by omega)] at hv
    refine ⟨p, (cc.toList.drop (p.base + off)).take n, hp, ?_, ?_, ?_⟩
    · have : cc.toList.length = p.size := by simpa using h2
      simp; omega
    · have hlen : ((cc.toList.drop (p.base + off)).take n).length = n := by
        have : cc.toList.length = p.size := by simpa using h2
        simp; omega
      have := run_loadCells_list (P := P) w ⟨p.c, p.base + off, none⟩ ((cc.toList.drop (p.base + off)).take n) (fun j v hj => by
        rw [addr_add]
        have hjn : j < n := by
          have := (List.getElem?_eq_some_iff.1 hj).1
          omega
        rw [List.getElem?_take_of_lt hjn, List.getElem?_drop] at hj
        simp only [World.cell?, h1]
        simpa using hj)
      rwa [hlen] at this
    · exact hv
  · cases h

theorem isAggT_run {t : TypeId} {b : Bool} (h : isAggT P t = some b) : (isAgg t).run P w = .ok b w := by
  unfold isAggT at h
  split at h <;> try cases h
  · rename_i hu; simp [isAgg, run_underlying (undT_und hu)]
  · rename_i hu; simp [isAgg, run_underlying (undT_und hu)]
  · rename_i d hns hna hu
    have := run_underlying (undT_und hu) w
    cases d <;> first | (simp [isAgg, this]; done) | exact absurd rfl (hns _) | exact absurd rfl (hna _ _)
theorem sizeT_run {t n : Nat} (h : sizeT P t = some n) : (sizeOf t).run P w = .ok n w := by
  obtain ⟨i, hi, rfl⟩ := sizeT_info h
  simp [sizeOf, typeInfo, hi]
theorem bytesT_run {t n : Nat} (h : bytesT P t = some n) : ∃ i, (typeInfo t).run P w = .ok i w ∧ i.bytes = n := by
  unfold bytesT at h
  cases hi : infoT P t with
  | none => simp [hi] at h
  | some i => exact ⟨i, by simp [typeInfo, infoT_info hi], by simpa [hi] using h⟩

mutual
theorem ofValue_VR {β : Pl} : ∀ (v : Value) (a : AV), ofValue v = some a → VR β a v
  | .bool b, a, h => by simp [ofValue] at h; subst h; exact .bool b
  | .int k n, a, h => by simp [ofValue] at h; subst h; exact .int k n
  | .float _ _, a, h => by simp [ofValue] at h
  | .complex _ _ _, a, h => by simp [ofValue] at h
  | .string s, a, h => by simp [ofValue] at h; subst h; exact .str s
  | .pointer none, a, h => by simp [ofValue] at h; subst h; exact .nilPtr
  | .pointer (some _), a, h => by simp [ofValue] at h
  | .slice none l c, a, h => by
    cases l <;> cases c <;> simp [ofValue] at h
    subst h; exact .nilSlice
  | .slice (some _) _ _, a, h => by simp [ofValue] at h
  | .map none, a, h => by simp [ofValue] at h; subst h; exact .nilMap
  | .map (some _), a, h => by simp [ofValue] at h
  | .chan _, a, h => by simp [ofValue] at h
  | .func _ _ _, a, h => by simp [ofValue] at h
  | .nilFunc, a, h => by simp [ofValue] at h; subst h; exact .nilFn
  | .iface _ _, a, h => by simp [ofValue] at h
  | .nilIface, a, h => by simp [ofValue] at h; subst h; exact .nilIface
  | .agg cs, a, h => by
    simp only [ofValue, Option.map_eq_some_iff] at h
    obtain ⟨l, hl, rfl⟩ := h
    exact .agg (ofArr_VRs cs l hl)
  | .tuple cs, a, h => by
    simp only [ofValue, Option.map_eq_some_iff] at h
    obtain ⟨l, hl, rfl⟩ := h
    exact .tuple (ofArr_VRs cs l hl)
theorem ofArr_VRs {β : Pl} : ∀ (cs : Array Value) (l : List AV), ofArr cs = some l → VRs β l cs.toList
  | ⟨vs⟩, l, h => ofVals_VRs vs l h
theorem ofVals_VRs {β : Pl} : ∀ (vs : List Value) (l : List AV), ofVals vs = some l → VRs β l vs
  | [], l, h => by simp [ofVals] at h; subst h; exact .nil
  | v :: r, l, h => by
    simp only [ofVals] at h
    cases hv : ofValue v with
    | none => simp [hv] at h
    | some a =>
      cases hr : ofVals r with
      | none => simp [hv, hr] at h
      | some b =>
        simp [hv, hr] at h
        subst h
        exact .cons (ofValue_VR v a hv) (ofVals_VRs r b hr)
end

theorem zeroT_run {t : TypeId} {z : AV} (h : zeroT P t = some z) : ∃ v, (zeroValue t).run P w = .ok v w ∧ VR β z v := by
  unfold zeroT at h
  cases hi : infoT P t with
  | none => simp [hi] at h
  | some i =>
    cases hz : i.zero with
    | none => simp [hi, hz] at h
    | some v =>
      simp [hi, hz] at h
      exact ⟨v, by simp [zeroValue, typeInfo, infoT_info hi, hz], ofValue_VR v z h⟩

theorem VR.cells {β : Pl} {a : AV} {v : Value} (h : VR β a v) : VRs β a.cells v.cells.toList := by
  cases h with
  | agg h => exact h
  | bool b => exact .cons (.bool b) .nil
  | int k n => exact .cons (.int k n) .nil
  | str s => exact .cons (.str s) .nil
  | nilPtr => exact .cons .nilPtr .nil
  | ptr o h => exact .cons (.ptr o h) .nil
  | nilSlice => exact .cons .nilSlice .nil
  | slice o l h hc hl => exact .cons (.slice o l h hc hl) .nil
  | nilMap => exact .cons .nilMap .nil
  | map h => exact .cons (.map h) .nil
  | fn h hx hy => exact .cons (.fn h hx hy) .nil
  | nilFn => exact .cons .nilFn .nil
  | iface t h => exact .cons (.iface t h) .nil
  | nilIface => exact .cons .nilIface .nil
  | tuple h => exact .cons (.tuple h) .nil
  | junk n h => exact .cons (.junk n h) .nil
  | esl a c => exact .cons (.esl a c) .nil
  | rng k h1 h2 => exact .cons (.rng k h1 h2) .nil
  | strU s => exact .cons (.strU s) .nil
  | boolU b => exact .cons (.boolU b) .nil

theorem VR.one {β : Pl} {a : AV} {v : Value} (h : VR β a v) (h1 : a.one = true) : v.oneCell' = true := by
  cases h <;> simp_all [AV.one, Value.oneCell']

theorem VRs.one {β : Pl} {a : List AV} {v : List Value} (h : VRs β a v) (h1 : a.all (·.one) = true) : ∀ x ∈ v, x.oneCell' = true := by
  induction a generalizing v with
  | nil => cases h; simp
  | cons x xs ih =>
    cases h with
    | cons h hs =>
      simp only [List.all_cons, Bool.and_eq_true] at h1
      intro y hy
      rcases List.mem_cons.1 hy with rfl | hy
      · exact h.one h1.1
      · exact ih hs h1.2 y hy

/-- a load. -/
theorem loadA_run {m : Nat} {t : TypeId} {x a : AV} {v : Value} (hw : WR G β H.get m w) (h : loadA P H t x = some a) (hx : VR β x v) :
    ∃ u, (Instr.loadAt t v).run P w = .ok u w ∧ VR β a u := by
  unfold loadA at h
  split at h
  · rename_i b off
    cases hx with
    | @ptr _ p _ hp =>
    split at h
    · rename_i ht
      split at h
      · rename_i n hn
        rw [Option.map_eq_some_iff] at h
        obtain ⟨l, hl, rfl⟩ := h
        obtain ⟨q, vs, hq, hlen, hrun, hvs⟩ := loadN_run (P := P) hw hl
        rw [hp] at hq; cases hq
        refine ⟨.agg vs.toArray, ?_, .agg (by simpa using hvs)⟩
        simp [Instr.loadAt, Instr.sureAddr, loadVar, isAggT_run ht, sizeT_run hn, hrun]
      · cases h
    · rename_i ht
      split at h
      · rename_i y hl
        cases h
        obtain ⟨q, vs, hq, hlen, hrun, hvs⟩ := loadN_run (P := P) hw hl
        rw [hp] at hq; cases hq
        cases hvs with
        | cons hv hs => cases hs with
          | nil =>
          rename_i u
          refine ⟨u, ?_, hv⟩
          have hload : (load ⟨p.c, p.base + off, none⟩).run P w = .ok u w := by
            simp only [loadCells, loadCellsFrom, Sem.run_bind, addr_add] at hrun
            cases hr : (load ⟨p.c, p.base + off + 0, none⟩).run P w with
            | halt x y => rw [hr] at hrun; cases hrun
            | ok y w1 =>
              rw [hr] at hrun
              simp only [Result.andThen_ok, Sem.run_pure, Result.ok.injEq] at hrun
              obtain ⟨h1, rfl⟩ := hrun
              have : y = u := by simpa using congrArg (fun a : Array Value => a.toList) h1
              subst this
              rfl
          simp only [Instr.loadAt, Instr.sureAddr, loadVar, Sem.run_bind, Sem.run_pure, Result.andThen_ok, isAggT_run ht]
          simpa using hload
      · cases h
    · cases h
  · cases h

/-- cells stored into a row. -/
theorem storeCells_row (g o : Nat) (t : TypeId) (fz : Nat × Nat) : ∀ (vs : List Value) (i : Nat) (cur : Array Value) (w : World), w.heap[g]? = some (.cells cur t fz) → o + i + vs.length ≤ cur.size →
    (∀ j, o + i ≤ j → j < o + i + vs.length → ¬ (fz.1 ≤ j ∧ j < fz.2)) → (∀ v ∈ vs, v.oneCell' = true) →
    (storeCells ⟨g, o, none⟩ vs i).run P w = .ok () (w.setRow g (cur.toList.take (o + i) ++ vs ++ cur.toList.drop (o + i + vs.length)).toArray)
  | [], i, cur, w, hg, _, _, _ => by
    simp only [storeCells, List.append_nil, List.length_nil, Nat.add_zero, List.take_append_drop, Array.toArray_toList]
    rw [setRow_self w g cur t fz hg]
    rfl
  | v :: rest, i, cur, w, hg, hl, hf, h1 => by
    have hi : o + i < cur.size := by simp at hl; omega
    have hcell : w.cell? ⟨g, o + i, none⟩ = some cur[o + i] := by simp [World.cell?, hg, hi]
    have hfro : w.frozen? ⟨g, o + i, none⟩ = false := by
      have := hf (o + i) (Nat.le_refl _) (by simp)
      simp only [World.frozen?, hg, Bool.and_eq_false_iff, decide_eq_false_iff_not]
      by_cases hh : fz.1 ≤ o + i
      · right; exact fun h => this ⟨hh, h⟩
      · left; exact hh
    have hst : (store ((⟨g, o, none⟩ : Addr).add i) v).run P w = .ok () (w.setRow g (cur.setIfInBounds (o + i) v)) := by
      rw [addr_add, run_store P w _ v _ (h1 v (by simp)), hcell]
      simp [hfro, setCell_eq_setRow w g (o + i) cur t fz v hg]
    have ih := storeCells_row g o t fz rest (i + 1) (cur.setIfInBounds (o + i) v) (w.setRow g (cur.setIfInBounds (o + i) v)) (setRow_heap w g cur _ t _ hg) (by simp at hl ⊢; omega)
      (fun j h3 h4 => hf j (by omega) (by simp; omega)) (fun x hx => h1 x (by simp [hx]))
    simp only [storeCells, Sem.run_bind, hst, Result.andThen_ok, ih, setRow_setRow]
    congr 3
    have e := list_seg_step cur.toList (o + i) v rest (by simp at hl ⊢; omega)
    simpa [Array.toList_setIfInBounds, Nat.add_assoc] using e

/-- the model's side of a store of cells into a row, whole: the world behind it, and what its row is. -/
theorem storeN_run {m b off : Nat} {l : List AV} {vs : List Value} {H' : AHeap} (hw : WR G β H.get m w) (h : storeN H b off l = some H') (hl : VRs β l vs) {p : Place} (hp : β b = some p) :
    ∃ w', (storeCells ⟨p.c, p.base + off, none⟩ vs).run P w = .ok () w' ∧ WR G β H'.get m w' ∧ Tran β H.get m w β H'.get m w' ∧ H'.next = H.next := by
  unfold storeN at h
  split at h
  · rename_i he
    cases h
    have : l = [] := by simpa using he
    subst this
    cases hl
    exact ⟨w, rfl, hw, Tran.refl _ _ _ _, rfl⟩
  · rename_i he
    have hne : l ≠ [] := by simpa using he
    split at h
    · rename_i c e k hr
      split at h
      · rename_i hk
        rw [Option.map_eq_some_iff] at h
        obtain ⟨c', hc', rfl⟩ := h
        obtain ⟨rfl, hle⟩ := layOver_eq _ _ _ _ hc' hne
        obtain ⟨q, cc, lo, hi, hq, h1, h2, h3, h4, h5⟩ := row_at hw hr
        rw [hp] at hq; cases hq
        simp only [Bool.and_eq_true] at hk
        have hlen := hl.length
        have hcl : cc.toList.length = p.size := by simpa using h2
        have hfree : ∀ j, p.base + off + 0 ≤ j → j < p.base + off + 0 + vs.length → ¬ (lo ≤ j ∧ j < hi) := by
          intro j hj1 hj2
          cases k with
          | solid => obtain ⟨_, _, rfl, rfl⟩ := h5; omega
          | glob => simp [RK.takes] at hk
          | buf fz sish => exact h5.1 j (by have := hk.1; simp [RK.takes] at this; omega) (by omega)
        have hst := storeCells_row (P := P) p.c (p.base + off) e (lo, hi) vs 0 cc w h1 (by omega) hfree (hl.one hk.2)
        refine ⟨_, hst, ?_⟩
        have hb := rowOf_get hr
        have hwr : (AObj.row c e k).wr = true := by cases k <;> simp_all [AObj.wr, RK.takes]
        have := WR.turn hw hb hwr hp (w' := w.setRow p.c (cc.toList.take (p.base + off + 0) ++ vs ++ cc.toList.drop (p.base + off + 0 + vs.length)).toArray)
          (o' := .row (c.take off ++ l ++ c.drop (off + l.length)) e k) (by simp) (fun x hx => setRow_other _ _ _ _ hx) (by simp) (by simp) (by simp) ?_
        · rw [AHeap.get_set, AHeap.next_set]
          exact ⟨this.1, this.2, rfl⟩
        · have hle2 : p.base + off + vs.length ≤ cc.toList.length := by omega
          refine ⟨_, lo, hi, setRow_heap w p.c cc _ e _ h1, ?_, ?_, ?_, ?_⟩
          · simp; omega
          · simp; omega
          · have e1 : (c.take off ++ l ++ c.drop (off + l.length)).length = c.length := by simp; omega
            rw [e1]
            simp only [Nat.add_zero]
            have e2 : ((cc.toList.take (p.base + off) ++ vs ++ cc.toList.drop (p.base + off + vs.length)).drop p.base).take c.length =
                ((cc.toList.drop p.base).take c.length).take off ++ vs ++ ((cc.toList.drop p.base).take c.length).drop (off + vs.length) := by
              apply List.ext_getElem?
              intro i
              simp only [List.getElem?_take, List.getElem?_drop, List.getElem?_append, List.length_append, List.length_take, List.length_drop]
              rw [Nat.min_eq_left (show p.base + off ≤ cc.toList.length by omega), Nat.min_eq_left (show off ≤ min c.length (cc.toList.length - p.base) by omega)]
              by_cases hi1 : i < c.length
              · by_cases hi2 : i < off
                · simp [hi1, hi2, show p.base + i < p.base + off + vs.length by omega, show p.base + i < p.base + off by omega, show i < off + vs.length by omega]
                · by_cases hi3 : i < off + vs.length
                  · simp [hi1, hi2, hi3, show p.base + i < p.base + off + vs.length by omega, show ¬ p.base + i < p.base + off by omega, show p.base + i - (p.base + off) = i - off by omega]
                  · simp only [hi1, hi2, hi3, if_true, if_false, show ¬ p.base + i < p.base + off + vs.length by omega]
                    rw [show off + vs.length + (i - (off + vs.length)) = i by omega, if_pos hi1]
                    congr 1
                    omega
              · simp only [hi1, if_false]
                by_cases hi2 : i < off + vs.length
                · omega
                · rw [if_neg hi2, show off + vs.length + (i - (off + vs.length)) = i by omega, if_neg hi1]
            show VRs β _ (List.take c.length (List.drop p.base _))
            rw [List.toList_toArray, e2]
            refine ((h4.take off).append hl).append ?_
            rw [hlen]
            exact h4.drop _
          · have e1 : (c.take off ++ l ++ c.drop (off + l.length)).length = c.length := by simp; omega
            rw [e1]; exact h5
      · cases h
    · cases h

theorem storeA_run {t : TypeId} {x y : AV} {v u : Value} {H' : AHeap} (hw : WR G β H.get H.next w) (h : storeA P H t x y = some H') (hx : VR β x v) (hy : VR β y u) :
    ∃ w', (Instr.storeAt t v u).run P w = .ok () w' ∧ WR G β H'.get H'.next w' ∧ Tran β H.get H.next w β H'.get H'.next w' := by
  unfold storeA at h
  split at h
  · rename_i b off
    cases hx with
    | @ptr _ p _ hp =>
    split at h
    · rename_i hs
      simp only [Bool.and_eq_true, beq_iff_eq, decide_eq_true_eq] at hs
      have hc := hy.cells
      obtain ⟨w', h1, h2, h3, h4⟩ := storeN_run (P := P) hw h hc hp
      rw [h4]
      refine ⟨w', ?_, h2, h3⟩
      have hsz : u.cells.size = y.cells.length := by rw [hc.length]; simp
      simp [Instr.storeAt, Instr.sureAddr, storeVar, sizeT_run hs.1, hsz, h1]
    · cases h
  · cases h

/-- a new row. -/
theorem newRow_run {elem : TypeId} {cells : List AV} {vs : List Value} (hw : WR G β H.get H.next w) (hc : VRs β cells vs) :
    ∃ β', (newRow elem vs.toArray).run P w = .ok ⟨w.heap.size, 0, none⟩ (w.alloc (.cells vs.toArray elem)) ∧
      β' = β.put H.next ⟨w.heap.size, 0, vs.length⟩ ∧
      WR G β' (H.new (.row cells elem .solid)).get (H.new (.row cells elem .solid)).next (w.alloc (.cells vs.toArray elem)) ∧
      Tran β H.get H.next w β' (H.new (.row cells elem .solid)).get (H.new (.row cells elem .solid)).next (w.alloc (.cells vs.toArray elem)) := by
  refine ⟨_, by simp [newRow], rfl, ?_⟩
  rw [AHeap.get_new, AHeap.next_new]
  have he := Pl.put_ext (β := β) ⟨w.heap.size, 0, vs.length⟩ (hw.fresh _ (Nat.le_refl _))
  have hlen := hc.length
  refine hw.alloc _ _ _ ⟨vs.toArray, 0, 0, World.alloc_heap_new _ _, by simp, by simp [hlen], ?_, rfl, by simp [hlen], rfl, rfl⟩
  have : (vs.toArray.toList.drop 0).take cells.length = vs := by simp [hlen]
  rw [this]
  exact hc.mono he

end
end Go.Tb
