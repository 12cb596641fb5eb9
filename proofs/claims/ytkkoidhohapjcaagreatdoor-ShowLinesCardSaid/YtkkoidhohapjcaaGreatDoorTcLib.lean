/- A contract of the library, as a fact: a call that lays new blocks alone, and answers with data. -/
import Derived.Test.YtkkoidhohapjcaaGreatDoorTcVals
import Derived.Sort.Grow
import Derived.Deep.Draws
set_option linter.unusedSimpArgs false
set_option linter.unusedVariables false
set_option linter.unusedSectionVars false
namespace Go.Tc
open Go.Sort

section
variable {P : Program} {G : Nat} [Val]

omit [Val] in
theorem drewN_same (w : World) (k : Nat) : (w.drewN k).heap = w.heap ∧ (w.drewN k).os = w.os ∧ (w.drewN k).output = w.output ∧ (w.drewN k).tape = w.tape := ⟨rfl, rfl, rfl, rfl⟩
omit [Val] in
theorem grown_at (w : World) (k : Nat) (os : Array Obj) {c : Nat} (hc : c < w.heap.size) : (grow (w.drewN k) os).heap[c]? = w.heap[c]? := by
  show ((w.drewN k).heap ++ os)[c]? = _
  rw [(drewN_same w k).1, Array.getElem?_append, if_pos hc]
omit [Val] in
theorem grown_size (w : World) (k : Nat) (os : Array Obj) : w.heap.size ≤ (grow (w.drewN k) os).heap.size := by
  rw [size_grow, (drewN_same w k).1]; omega

theorem WR.grown {β : Pl} {g : Nat → Option AObj} {n : Nat} {w : World} (h : WR G β g n w) (k : Nat) (os : Array Obj) : WR G β g n (grow (w.drewN k) os) ∧ Tran β g n w β g n (grow (w.drewN k) os) := by
  have hs := grown_size w k os
  refine ⟨⟨h.fresh, fun b p hb => Nat.lt_of_lt_of_le (h.bound b p hb) hs, fun b o hb => (h.some_ b o hb).imp (fun ⟨p, h1, h2⟩ => ⟨p, h1, h2.mono (Ext.refl β) (grown_at w k os (h.bound b p h1))⟩) id, h.inj, h.glob, h.gn, fun c o hz => ?_⟩, ⟨Ext.refl β, Nat.le_refl _, hs, fun c hc _ => grown_at w k os hc, fun _ _ h => h, fun _ _ h => h, fun b o p h1 h2 _ => ⟨b, o, p, h1, fun h => h, h2, rfl⟩, ?_, ?_, ?_, fun _ _ h => .inl h⟩⟩
  · obtain ⟨h1, h2⟩ := h.keep c o hz
    exact ⟨(grown_at w k os (Array.getElem?_eq_some_iff.1 h1).1).trans h1, h2⟩
  · exact (drewN_same w k).2.1
  · exact (drewN_same w k).2.2.1
  · exact (drewN_same w k).2.2.2

theorem Fact.ok_lib {x : Fact} (hobj : x.objs = x.pre) (hnx : x.next' = x.next)
    (h : ∀ {β : Pl} {w : World} {vs : List Value}, WR G β x.ahead.get x.next w → VRs β x.args vs → (∀ w0, (callFunc x.f vs.toArray).run P w0 = .ok (.enter x.f vs.toArray) w0) ∧ ∃ v, VR β x.r v ∧ Calls P x.f vs.toArray w fun e w' => e = .returned v ∧ ∃ k os, w' = grow (w.drewN k) os) : x.Ok P G := by
  refine ⟨?_⟩
  intro β w vs hw ha
  obtain ⟨h1, v, hv, hc⟩ := h hw ha
  refine ⟨h1, fun n => callsIn_wide.2 (Calls.mono hc ?_)⟩
  rintro e w' ⟨rfl, k, os, rfl⟩
  have hb : x.behind = x.ahead := by unfold Fact.behind Fact.ahead; rw [hobj, hnx]
  obtain ⟨g1, g2⟩ := hw.grown k os
  refine ⟨β, hv, ?_, ?_⟩
  · rw [hb]; exact g1
  · rw [hb]; exact g2
end
end Go.Tc
