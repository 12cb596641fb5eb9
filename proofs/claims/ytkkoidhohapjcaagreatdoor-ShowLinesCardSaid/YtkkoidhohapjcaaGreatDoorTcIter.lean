/- 'range' over a map that has at most one entry left. -/
import Derived.Test.YtkkoidhohapjcaaGreatDoorTcMaps2
import Derived.Laws.NewFold
set_option linter.unusedSimpArgs false
set_option linter.unusedVariables false
set_option linter.unusedSectionVars false
namespace Go.Tc
variable [Val]

section
variable {P : Program} {G : Nat} {β : Pl} {H : AHeap} {w : World}

theorem iterA_run {t : TypeId} {x r : AV} {v : Value} {H' : AHeap} (hw : WR G β H.get H.next w) (h : iterA P H t x = some (r, H')) (hx : VR β x v) :
    ∃ β' w' z, (Instr.range t v).run P w = .ok z w' ∧ VR β' r z ∧ WR G β' H'.get H'.next w' ∧ Tran β H.get H.next w β' H'.get H'.next w' := by
  have he := Pl.put_ext (β := β) ⟨w.heap.size, 0, 0⟩ (hw.fresh _ (Nat.le_refl _))
  unfold iterA at h
  split at h
  · rename_i k e hu
    cases h
    cases hx
    obtain ⟨j1, j2⟩ := hw.alloc (.mapIter none 0 #[] 0) 0 (.miter none 0 [] 0) ⟨rfl, by show (w.heap.push _)[_]? = _; simp⟩
    refine ⟨_, w.alloc (.mapIter none 0 #[] 0), .pointer (some ⟨w.heap.size, 0, none⟩), ?_, ?_, by rw [AHeap.get_new, AHeap.next_new]; exact j1, by rw [AHeap.get_new, AHeap.next_new]; exact j2⟩
    · simp [Instr.range, run_underlying (undT_und hu) w]
    · simpa using VR.ptr (β := β.put H.next ⟨w.heap.size, 0, 0⟩) (p := ⟨w.heap.size, 0, 0⟩) 0 (Pl.put_same β H.next _)
  · rename_i k e m hu
    split at h
    · rename_i es clock hm
      cases h
      cases hx with
      | @map _ p hp =>
      obtain ⟨ces, h1, h2⟩ := map_at hw hm hp
      have hg : (getObj p.c).run P w = .ok (.map ces clock) w := by simp [getObj, Sem.run, h1]
      obtain ⟨j1, j2⟩ := hw.alloc (.mapIter (some p.c) clock #[] clock) 0 (.miter (some m) clock [] clock) ⟨rfl, p, he _ _ hp, by show (w.heap.push _)[_]? = _; simp⟩
      refine ⟨_, w.alloc (.mapIter (some p.c) clock #[] clock), .pointer (some ⟨w.heap.size, 0, none⟩), ?_, ?_, by rw [AHeap.get_new, AHeap.next_new]; exact j1, by rw [AHeap.get_new, AHeap.next_new]; exact j2⟩
      · simp [Instr.range, run_underlying (undT_und hu) w, hg]
      · simpa using VR.ptr (β := β.put H.next ⟨w.heap.size, 0, 0⟩) (p := ⟨w.heap.size, 0, 0⟩) 0 (Pl.put_same β H.next _)
    · cases h
  · cases h

theorem EntsR.filter {es : List AEnt} {ms : List MapEntry} (f : Nat → Bool) (h : EntsR β es ms) : EntsR β (es.filter fun e => f e.born) (ms.filter fun e => f e.born) := by
  induction h with
  | nil => exact .nil
  | cons hk hv hb _ ih =>
    simp only [List.filter_cons, hb]
    split
    · exact .cons hk hv hb ih
    · exact ih

theorem EntsR.all {es : List AEnt} {ms : List MapEntry} (f : Nat → Bool) (h : EntsR β es ms) : (es.all fun e => f e.born) = (ms.all fun e => f e.born) ∧ es.isEmpty = ms.isEmpty := by
  induction h with
  | nil => exact ⟨rfl, rfl⟩
  | cons hk hv hb _ ih => exact ⟨by simp only [List.all_cons, hb, ih.1], rfl⟩

theorem EntsR.find {es : List AEnt} {ms : List MapEntry} {e : AEnt} (f : Nat → Bool) (h : EntsR β es ms) (hf : (es.find? fun e => f e.born) = some e) : ∃ m, (ms.find? fun e => f e.born) = some m ∧ VR β e.key m.key ∧ VR β e.val m.val := by
  induction h with
  | nil => cases hf
  | @cons a m0 es ms hk hv hb _ ih =>
    simp only [List.find?_cons, hb] at hf ⊢
    split at hf
    · rename_i h1
      cases hf
      exact ⟨m0, rfl, hk, hv⟩
    · rename_i h1
      exact ih hf

theorem nextA_run {it r : AV} {isString : Bool} {v : Value} {ty : TypeId} {H' : AHeap} (hw : WR G β H.get H.next w) (h : nextA H it isString = some (r, H')) (hx : VR β it v) :
    ∃ w' z, (Instr.next v isString ty).run P w = .ok z w' ∧ VR β r z ∧ WR G β H'.get H'.next w' ∧ Tran β H.get H.next w β H'.get H'.next w' := by
  have hover : VR β (.tuple [.bool false]) (.tuple #[.bool false]) := .tuple (.cons (.bool _) .nil)
  unfold nextA at h
  split at h
  · rename_i rb
    cases hx with
    | @ptr _ p _ hp =>
    split at h
    · rename_i since seen last hg
      cases h
      obtain ⟨q, hq, hb0, ho⟩ := hw.obj rb _ hg
      rw [hp] at hq; cases hq
      refine ⟨w, .tuple #[.bool false], ?_, hover, hw, Tran.refl _ _ _ _⟩
      have hgo : (getObj p.c).run P w = .ok (.mapIter none since seen.toArray last) w := by simp [getObj, Sem.run, ho]
      simp [Instr.next, hb0, hgo]
    · rename_i m since seen last hg
      obtain ⟨q, hq, hb0, qm, hqm, ho⟩ := hw.obj rb _ hg
      rw [hp] at hq; cases hq
      have hgo : (getObj p.c).run P w = .ok (.mapIter (some qm.c) since seen.toArray last) w := by simp [getObj, Sem.run, ho]
      split at h
      · rename_i es clock hm
        obtain ⟨ces, h1, h2⟩ := map_at hw hm hqm
        have hgm : (getObj qm.c).run P w = .ok (.map ces clock) w := by simp [getObj, Sem.run, h1]
        split at h
        · cases h
        · rename_i hstop
          have hall := h2.all fun b => decide (last ≤ b)
          have hstop' : (!seen.toArray.isEmpty && !ces.isEmpty && ces.all fun e => decide (e.born ≥ last)) = false := by
            have e1 : seen.toArray.isEmpty = seen.isEmpty := by simp
            have e2 : ces.isEmpty = es.isEmpty := by rw [hall.2]; simp
            have e3 : (ces.all fun e => decide (e.born ≥ last)) = es.all fun e => decide (last ≤ e.born) := by rw [hall.1, Array.all_toList]
            rw [e1, e2, e3]
            simpa using hstop
          have hfil := h2.filter fun b => !seen.contains b
          have hleft : (ces.filter fun e => !seen.toArray.contains e.born).toList = ces.toList.filter fun e => !seen.contains e.born := by
            rw [Array.toList_filter]; simp
          split at h
          · rename_i hnone
            cases h
            have hl0 : (ces.filter fun e => !seen.toArray.contains e.born) = #[] := by
              apply Array.ext'
              rw [hleft]
              have e : (es.filter fun e => !seen.contains e.born) = [] := hnone
              rw [e] at hfil
              generalize (ces.toList.filter fun e => !seen.contains e.born) = z at hfil
              cases hfil
              rfl
            refine ⟨w, .tuple #[.bool false], ?_, hover, hw, Tran.refl _ _ _ _⟩
            simp only [Instr.next, hb0, Nat.add_zero, Sem.run_bind, hgo, hgm, Result.andThen_ok, hstop', Bool.false_eq_true, if_false, hl0]
            simp [Question.forced]
          · rename_i e hone
            split at h
            · rename_i hold
              cases h
              have e1 : (es.filter fun e => !seen.contains e.born) = [e] := hone
              rw [e1] at hfil
              have hl1 : ∃ m0, (ces.filter fun e => !seen.toArray.contains e.born) = #[m0] ∧ VR β e.key m0.key ∧ VR β e.val m0.val ∧ e.born = m0.born := by
                generalize hz : (ces.toList.filter fun e => !seen.contains e.born) = z at hfil
                cases hfil with
                | @cons _ m0 _ _ hk hv hb hs =>
                  cases hs
                  exact ⟨m0, by apply Array.ext'; rw [hleft, hz], hk, hv, hb⟩
              obtain ⟨m0, hl1, hk, hv, hb⟩ := hl1
              have hold' : m0.born < since := by omega
              have hlt : p.c < w.heap.size := hw.bound _ _ hp
              have hset : (setObj p.c (.mapIter (some qm.c) since (seen ++ [m0.born]).toArray clock)).run P w = .ok () (w.putObj p.c (.mapIter (some qm.c) since (seen ++ [m0.born]).toArray clock)) := by simp [setObj, Sem.run, ho, World.putObj]
              have hturn := hw.turn hg rfl hp (w' := w.putObj p.c (.mapIter (some qm.c) since (seen ++ [m0.born]).toArray clock)) (o' := .miter (some m) since (seen ++ [e.born]) clock) (by simp) (fun c hc => World.putObj_heap_other hc) rfl rfl rfl
                ⟨hb0, qm, hqm, by rw [World.putObj_heap_same hlt, hb]⟩
              refine ⟨w.putObj p.c (.mapIter (some qm.c) since (seen ++ [m0.born]).toArray clock), .tuple #[.bool true, m0.key, m0.val], ?_, .tuple (.cons (.bool _) (.cons hk (.cons hv .nil))), ?_⟩
              · have hn2 : ¬ (m0.born ≥ since) := by omega
                simp only [Instr.next, hb0, Nat.add_zero, Sem.run_bind, hgo, hgm, Result.andThen_ok, hstop', Bool.false_eq_true, if_false, hl1]
                simp [hold', hn2, Question.forced, hset]
              · rw [AHeap.get_set, AHeap.next_set]; exact hturn
            · cases h
          · cases h
      · cases h
    · cases h
  · cases h

theorem entryA_run {it r : AV} {v : Value} (hw : WR G β H.get H.next w) (h : entryA H it = some r) (hx : VR β it v) : ∃ z, (Instr.entry v).run P w = .ok z w ∧ VR β r z := by
  unfold entryA at h
  split at h
  · rename_i rb
    cases hx with
    | @ptr _ p _ hp =>
    split at h
    · rename_i m since seen stepped hg
      obtain ⟨q, hq, hb0, qm, hqm, ho⟩ := hw.obj rb _ hg
      rw [hp] at hq; cases hq
      have hgo : (getObj p.c).run P w = .ok (.mapIter (some qm.c) since seen.toArray stepped) w := by simp [getObj, Sem.run, ho]
      split at h
      · rename_i stamp es clock hs hm
        obtain ⟨ces, h1, h2⟩ := map_at hw hm hqm
        have hgm : (getObj qm.c).run P w = .ok (.map ces clock) w := by simp [getObj, Sem.run, h1]
        split at h
        · rename_i hc
          subst hc
          rw [Option.map_eq_some_iff] at h
          obtain ⟨e, he, rfl⟩ := h
          obtain ⟨m0, hm0, hk, hv⟩ := h2.find (fun b => b == stamp) he
          refine ⟨.tuple #[m0.key, m0.val], ?_, .tuple (.cons hk (.cons hv .nil))⟩
          have hback : seen.toArray.back? = some stamp := by simpa using hs
          have hfa : ces.find? (fun e => e.born == stamp) = some m0 := by rw [← Array.find?_toList]; exact hm0
          simp [Instr.entry, hb0, hgo, hgm, hback, hfa]
        · cases h
      · cases h
    · cases h
  · cases h

end
end Go.Tc
