/- PROVED: the given statement ScopeMergesSaid: whatever the input, the law ScopeMerges answers true, and its argument reads as it did. No condition. -/
import Derived.Test.YtkkoidhohapjcaaGreatMergesFacts
import Derived.Test.YtkkoidhohapjcaaGreatLaw6
import Derived.Test.YtkkoidhohapjcaaGreatSpeaks
import Derived.Test.YtkkoidhohapjcaaGreatTcIns
set_option linter.unusedSimpArgs false
set_option linter.unusedVariables false
set_option linter.unusedSectionVars false
namespace Go.Proofs.YtkkoidhohapjcaaGreat
open Go.ChangeShapes Go.WideShapes Go.ChangeAt Go.RowKit Go.Tc

set_option maxRecDepth 1000000 in
theorem merges_calls (v : Value) (W : World) (l : List (List Int)) (hs : W.ShapedOpen P) (hv : CellR (fun c => W.heap[c]?) l6.iK (l6.input l) v) (hr : ∀ r ∈ l, ∀ n ∈ r, -2 ^ 63 ≤ n ∧ n < 2 ^ 63) :
    Calls P 6 #[v] W fun e w' => e = .returned (.bool true) ∧ (∀ c, c < W.heap.size → w'.heap[c]? = W.heap[c]?) ∧ ∀ may, W.keptBut w' may := by
  have hw : @WR (vals [l6.input l]) G (startPl G W) (Go.Tc.startHeap G []).get (Go.Tc.startHeap G []).next W := @WR.start (vals _) G W [] (ShapedOpen.lies hs (g := 0) (by kernel_rfl)) (fun _ _ _ h => by cases h)
  refine (calls_of_fact (β := startPl G W) (l6.ok (fun V => @spk_ok V) l hr) (Go.Tc.startHeap_fixed G []) (vs := [v]) hw (@VRs.cons (vals _) _ _ _ _ _ (@VR.sy (vals _) _ _ _ _ hv) (@VRs.nil (vals _) _))).mono fun e w' ⟨β', u, he, hu, _, hk, ho, hout⟩ => ?_
  cases hu
  exact ⟨he, hk, fun may => keptBut_of_kept ho hout hk⟩

set_option maxRecDepth 100000 in
theorem merges_lifted (os : Os) (started : os.Started) (H : Type) (enc : TypeId × Value → H) :
    ReturnsInHanded {} Tryz.checked os 6 .any (Rows.scopeMergesSpec.pre6 enc Tryz.prog Tryz.f6 Rows.scopeMergesRow.domain false) (Rows.scopeMergesSpec.post enc Tryz.prog Tryz.f6 false true false false) := by
  refine handed_shaped (C := Tryz.checked) own started (by kernel_rfl) Tryz.func6
    (ChangeSpec.witness6 (enc := enc) (C := Tryz.checked) false ⟨#[], #[.slice none 0 0], []⟩ 8 (by kernel_rfl) (by kernel_rfl) (by kernel_rfl) (by kernel_rfl)) ?_
  intro W base args ds gs before hsh hval0 hW
  have hval : ∀ (j : Nat) t v, Tryz.f6.params[j]? = some t → args[j]? = some v → Value.okWide Tryz.prog W .any base t v := hval0
  have hW' := hW
  obtain ⟨p, q, hA0, hV, rfl, hfz, hnd⟩ := hW
  have hA : DataW.TrodAll enc Tryz.prog W 0 (fun _ => true) true Tryz.f6.params.toList args.toList ds p := hA0
  have hlt := DataW.TrodAll.lt hA
  rw [Tryz.params6] at hA hval
  obtain ⟨v0, d0, rfl, rfl, h0⟩ := trodAll_one hA
  obtain ⟨rfl, rfl⟩ := trodVars_none hV
  obtain ⟨l, hc, hr⟩ := open_rows Tryz.underlying74 Tryz.underlying25 Tryz.underlying3 (by kernel_rfl) (by kernel_rfl) (hval 0 74 v0 rfl rfl) h0
  refine (merges_calls v0 W l hsh hc fun r hr1 n hn1 => ?_).mono fun e W' ⟨he, hk, hkb⟩ => ?_
  · have := bounds_i64 (hr r hr1 n hn1); omega
  subst he
  refine ⟨_, rfl, _, _, _, [], p, [], hW', ?_, ?_, ?_, hkb _, fun h => by cases h⟩
  · exact trodAll_mk1 (shut_bool Tryz.underlying4 true)
  · exact trodAll_mk1 (reads_on laidFact (by kernel_rfl) (of_decide_eq_true (by kernel_rfl)) h0 (fun q hq => hlt q (by simpa using hq)) hk)
  · rfl

theorem scopeMerges_holds : Rows.ScopeMergesSaid :=
  OpenClaim.holds_of_wide 6 Tryz.f6 rfl rfl rfl rfl rfl rfl rfl ⟨rfl, rfl, rfl, rfl, rfl⟩ rfl rfl rfl rfl rfl (by kernel_rfl) Tryz.func6 mergesFacts
    (of_decide_eq_true (by kernel_rfl)) (by unfold Func.isWrapper; first | (rw [if_pos (by decide +kernel)]; kernel_rfl) | (rw [if_neg (by decide +kernel)]; exact ⟨rfl, rfl⟩))
    (fun os started H enc _ => merges_lifted os started H enc)
end Go.Proofs.YtkkoidhohapjcaaGreat
