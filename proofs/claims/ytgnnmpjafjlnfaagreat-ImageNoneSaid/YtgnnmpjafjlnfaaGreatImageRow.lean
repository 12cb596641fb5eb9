/- PROVED: the given statement ImageNoneSaid: whatever the input, the law ImageNone answers true, and its argument reads as it did. No condition. -/
import Derived.Test.YtgnnmpjafjlnfaaGreatImageFacts
import Derived.Test.YtgnnmpjafjlnfaaGreatImage
namespace Go.Proofs.YtgnnmpjafjlnfaaGreat
open Go.ChangeShapes Go.WideShapes Go.ChangeAt Go.RowKit Go.Tb

/-- the law, run by the evaluator: true, whatever the base is. -/
theorem image_true : ∀ b : Int, saysTrue ((ev P (E0.know imKnown) 100000).call 3 [.int .u64 b] (Go.Tb.startHeap G [])) = true := fun b => by kernel_rfl

set_option maxRecDepth 1000000 in
theorem image_calls (b : Int) (W : World) (hs : W.ShapedOpen P) : Calls P 3 #[.int .u64 b] W fun e w' => e = .returned (.bool true) ∧ ∀ may, W.keptBut w' may :=
  calls_true (vs := [.int .u64 b]) (EnvOk.know env0 imKnown_ok) (image_true b) (WR.start (ShapedOpen.lies hs (g := 0) (by kernel_rfl)) (fun _ _ _ h => by cases h)) (.cons (.int _ _) .nil)

set_option maxRecDepth 100000 in
theorem image_lifted (os : Os) (started : os.Started) (H : Type) (enc : TypeId × Value → H) :
    ReturnsInHanded {} Tryz.checked os 3 .any (Rows.imageNoneSpec.pre6 enc Tryz.prog Tryz.f3 Rows.imageNoneRow.domain false) (Rows.imageNoneSpec.post enc Tryz.prog Tryz.f3 false true false false) := by
  refine handed_shaped (C := Tryz.checked) own started (by kernel_rfl) Tryz.func3
    (ChangeSpec.witness6 (enc := enc) (C := Tryz.checked) false ⟨#[], #[.int .u64 0], []⟩ 8 (by kernel_rfl) (by kernel_rfl) (by kernel_rfl) (by kernel_rfl)) ?_
  intro W base args ds gs before hsh hval0 hW
  have hval : ∀ (j : Nat) t v, Tryz.f3.params[j]? = some t → args[j]? = some v → Value.okWide Tryz.prog W .any base t v := hval0
  have hW' := hW
  obtain ⟨p, q, hA0, hV, rfl, hfz, hnd⟩ := hW
  have hA : DataW.TrodAll enc Tryz.prog W 0 (fun _ => true) true Tryz.f3.params.toList args.toList ds p := hA0
  rw [Tryz.params3] at hA hval
  obtain ⟨v0, d0, rfl, rfl, h0⟩ := trodAll_one hA
  obtain ⟨rfl, rfl⟩ := trodVars_none hV
  obtain ⟨n, rfl, rfl, rfl, hwn⟩ := open_int Tryz.underlying22 (hval 0 22 v0 rfl rfl) h0
  refine (image_calls n W hsh).mono fun e W' ⟨he, hk⟩ => ?_
  subst he
  refine ⟨_, rfl, _, _, _, [], [], [], hW', ?_, ?_, ?_, hk _, fun h => by cases h⟩
  · exact trodAll_mk1 (shut_bool Tryz.underlying4 true)
  · exact trodAll_mk1 (shut_int Tryz.underlying22 hwn)
  · rfl

theorem imageNone_holds : Rows.ImageNoneSaid :=
  OpenClaim.holds_of_wide 3 Tryz.f3 rfl rfl rfl rfl rfl rfl rfl ⟨rfl, rfl, rfl, rfl, rfl⟩ rfl rfl rfl rfl rfl (by kernel_rfl) Tryz.func3 imageFacts
    (of_decide_eq_true (by kernel_rfl)) (by unfold Func.isWrapper; first | (rw [if_pos (by decide +kernel)]; kernel_rfl) | (rw [if_neg (by decide +kernel)]; exact ⟨rfl, rfl⟩))
    (fun os started H enc _ => image_lifted os started H enc)
end Go.Proofs.YtgnnmpjafjlnfaaGreat
