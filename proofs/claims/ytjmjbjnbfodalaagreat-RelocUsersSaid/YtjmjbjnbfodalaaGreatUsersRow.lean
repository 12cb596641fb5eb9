/- PROVED: the given statement RelocUsersSaid: whatever the input, the law RelocUsers answers true, and its arguments read as they did. No condition. -/
import Derived.Test.YtjmjbjnbfodalaaGreatUsersFacts
import Derived.Test.YtjmjbjnbfodalaaGreatReloc
import Derived.Test.YtjmjbjnbfodalaaGreatSpBK
import Derived.Test.YtjmjbjnbfodalaaGreatTcIns
set_option linter.unusedSimpArgs false
set_option linter.unusedVariables false
set_option linter.unusedSectionVars false
namespace Go.Proofs.YtjmjbjnbfodalaaGreat
open Go.ChangeShapes Go.WideShapes Go.ChangeAt Go.RowKit Go.Tc

section
set_option maxRecDepth 1000000
theorem ru_spk [Val] : ru.lw.spk.Ok P G := Fact.ok_of (n := 100000) (EnvOk.know env0 spB_known_ok) (by kernel_rfl)
theorem ru_spk_ok (V : Val) : @Fact.Ok V P G ru.lw.spk := @ru_spk V
end

set_option maxRecDepth 1000000 in
theorem ru_calls (v u : Value) (own : Int) (W : World) (l : List Int) (m : List Bool) (hs : W.ShapedOpen P) (hv : CellR (fun c => W.heap[c]?) (.isl [.int .i64]) (ru.ints l) v) (hu : CellR (fun c => W.heap[c]?) (.isl [.bool]) (.list (m.map .bool)) u) :
    Calls P 3 #[v, u, .int .i64 own] W fun e w' => e = .returned (.bool true) ∧ (∀ c, c < W.heap.size → w'.heap[c]? = W.heap[c]?) ∧ ∀ may, W.keptBut w' may := by
  have hw : @WR (vals [ru.ints l, .list (m.map .bool), .int own]) G (startPl G W) (Go.Tc.startHeap G []).get (Go.Tc.startHeap G []).next W := @WR.start (vals _) G W [] (ShapedOpen.lies hs (g := 0) (by kernel_rfl)) (fun _ _ _ h => by cases h)
  refine (calls_of_fact (β := startPl G W) (ru.lw.ok ru_spk_ok l m own) (Go.Tc.startHeap_fixed G []) (vs := [v, u, .int .i64 own]) hw ?_).mono fun e w' ⟨β', r, he, hr, _, hk, ho, hout⟩ => ?_
  · exact @VRs.cons (vals _) _ _ _ _ _ (@VR.sy (vals _) _ _ _ _ hv) (@VRs.cons (vals _) _ _ _ _ _ (@VR.sy (vals _) _ _ _ _ hu) (@VRs.cons (vals _) _ _ _ _ _ (@VR.sy (vals _) _ _ _ _ (CellR.int .i64 own)) (@VRs.nil (vals _) _)))
  · cases hr
    exact ⟨he, hk, fun may => keptBut_of_kept ho hout hk⟩

set_option maxRecDepth 100000 in
theorem ru_lifted (os : Os) (started : os.Started) (H : Type) (enc : TypeId × Value → H) :
    ReturnsInHanded {} Tryz.checked os 3 .any (Rows.relocUsersSpec.pre6 enc Tryz.prog Tryz.f3 Rows.relocUsersRow.domain false) (Rows.relocUsersSpec.post enc Tryz.prog Tryz.f3 false true false false) := by
  refine handed_shaped (C := Tryz.checked) own started (by kernel_rfl) Tryz.func3
    (ChangeSpec.witness6 (enc := enc) (C := Tryz.checked) false ⟨#[], #[.slice none 0 0, .slice none 0 0, .int .i64 0], []⟩ 8 (by kernel_rfl) (by kernel_rfl) (by kernel_rfl) (by kernel_rfl)) ?_
  intro W base args ds gs before hsh hval0 hW
  have hval : ∀ (j : Nat) t v, Tryz.f3.params[j]? = some t → args[j]? = some v → Value.okWide Tryz.prog W .any base t v := hval0
  have hW' := hW
  obtain ⟨p, q, hA0, hV, rfl, hfz, hnd⟩ := hW
  have hA : DataW.TrodAll enc Tryz.prog W 0 (fun _ => true) true Tryz.f3.params.toList args.toList ds p := hA0
  have hlt := DataW.TrodAll.lt hA
  rw [Tryz.params3] at hA hval
  obtain ⟨v0, v1, v2, d0, d1, d2, p0, p1, p2, rfl, rfl, rfl, h0, h1, h2⟩ := trodAll_three hA
  obtain ⟨rfl, rfl⟩ := trodVars_none hV
  obtain ⟨l, hc, hr⟩ := open_nums Tryz.underlying22 Tryz.underlying3 (by kernel_rfl) (hval 0 22 v0 rfl rfl) h0
  obtain ⟨m, hc1⟩ := open_flags Tryz.underlying23 Tryz.underlying4 (by kernel_rfl) (hval 1 23 v1 rfl rfl) h1
  obtain ⟨o, rfl, rfl, rfl, hwo⟩ := open_int Tryz.underlying3 (hval 2 3 v2 rfl rfl) h2
  refine (ru_calls v0 v1 o W l m hsh hc hc1).mono fun e W' ⟨he, hk, hkb⟩ => ?_
  subst he
  refine ⟨_, rfl, _, _, _, [], p0 ++ (p1 ++ []), [], hW', ?_, ?_, ?_, hkb _, fun h => by cases h⟩
  · exact trodAll_mk1 (shut_bool Tryz.underlying4 true)
  · exact trodAll_mk3 (reads_on laidFact (by kernel_rfl) (of_decide_eq_true (by kernel_rfl)) h0 (fun q hq => hlt q (by simp [hq])) hk) (reads_on laidFact (by kernel_rfl) (of_decide_eq_true (by kernel_rfl)) h1 (fun q hq => hlt q (by simp [hq])) hk) (shut_int Tryz.underlying3 hwo)
  · rfl

theorem relocUsers_holds : Rows.RelocUsersSaid :=
  OpenClaim.holds_of_wide 3 Tryz.f3 rfl rfl rfl rfl rfl rfl rfl ⟨rfl, rfl, rfl, rfl, rfl⟩ rfl rfl rfl rfl rfl (by kernel_rfl) Tryz.func3 ru_Facts
    (of_decide_eq_true (by kernel_rfl)) (by unfold Func.isWrapper; first | (rw [if_pos (by decide +kernel)]; kernel_rfl) | (rw [if_neg (by decide +kernel)]; exact ⟨rfl, rfl⟩))
    (fun os started H enc _ => ru_lifted os started H enc)
end Go.Proofs.YtjmjbjnbfodalaaGreat
