/- PROVED: the given statement AuditNoneSaid: whatever the input, the law AuditNone answers true, and its argument reads as it did. No condition. -/
import Derived.Test.YtgnnmpjafjlnfaaGreatAuditFacts
import Derived.Test.YtgnnmpjafjlnfaaGreatAudit
namespace Go.Proofs.YtgnnmpjafjlnfaaGreat
open Go.ChangeShapes Go.WideShapes Go.ChangeAt Go.RowKit Go.Tb

/-- the law, run by the evaluator: true, late or not. -/
theorem audit_true_at : saysTrue ((ev P (E0.know auKnown) 100000).call 6 [.bool true] (Go.Tb.startHeap G [])) = true := by kernel_rfl
theorem audit_false_at : saysTrue ((ev P (E0.know auKnown) 100000).call 6 [.bool false] (Go.Tb.startHeap G [])) = true := by kernel_rfl
theorem audit_true : ∀ b : Bool, saysTrue ((ev P (E0.know auKnown) 100000).call 6 [.bool b] (Go.Tb.startHeap G [])) = true
  | true => audit_true_at
  | false => audit_false_at

set_option maxRecDepth 1000000 in
theorem audit_calls (b : Bool) (W : World) (hs : W.ShapedOpen P) : Calls P 6 #[.bool b] W fun e w' => e = .returned (.bool true) ∧ ∀ may, W.keptBut w' may :=
  calls_true (vs := [.bool b]) (EnvOk.know env0 auKnown_ok) (audit_true b) (WR.start (ShapedOpen.lies hs (g := 0) (by kernel_rfl)) (fun _ _ _ h => by cases h)) (.cons (.bool _) .nil)

set_option maxRecDepth 100000 in
theorem audit_lifted (os : Os) (started : os.Started) (H : Type) (enc : TypeId × Value → H) :
    ReturnsInHanded {} Tryz.checked os 6 .any (Rows.auditNoneSpec.pre6 enc Tryz.prog Tryz.f6 Rows.auditNoneRow.domain false) (Rows.auditNoneSpec.post enc Tryz.prog Tryz.f6 false true false false) := by
  refine handed_shaped (C := Tryz.checked) own started (by kernel_rfl) Tryz.func6
    (ChangeSpec.witness6 (enc := enc) (C := Tryz.checked) false ⟨#[], #[.bool false], []⟩ 8 (by kernel_rfl) (by kernel_rfl) (by kernel_rfl) (by kernel_rfl)) ?_
  intro W base args ds gs before hsh hval0 hW
  have hval : ∀ (j : Nat) t v, Tryz.f6.params[j]? = some t → args[j]? = some v → Value.okWide Tryz.prog W .any base t v := hval0
  have hW' := hW
  obtain ⟨p, q, hA0, hV, rfl, hfz, hnd⟩ := hW
  have hA : DataW.TrodAll enc Tryz.prog W 0 (fun _ => true) true Tryz.f6.params.toList args.toList ds p := hA0
  rw [Tryz.params6] at hA hval
  obtain ⟨v0, d0, rfl, rfl, h0⟩ := trodAll_one hA
  obtain ⟨rfl, rfl⟩ := trodVars_none hV
  obtain ⟨n, rfl, rfl, rfl⟩ := open_bool Tryz.underlying4 (hval 0 4 v0 rfl rfl) h0
  refine (audit_calls n W hsh).mono fun e W' ⟨he, hk⟩ => ?_
  subst he
  refine ⟨_, rfl, _, _, _, [], [], [], hW', ?_, ?_, ?_, hk _, fun h => by cases h⟩
  · exact trodAll_mk1 (shut_bool Tryz.underlying4 true)
  · exact trodAll_mk1 (shut_bool Tryz.underlying4 n)
  · rfl

theorem auditNone_holds : Rows.AuditNoneSaid :=
  OpenClaim.holds_of_wide 6 Tryz.f6 rfl rfl rfl rfl rfl rfl rfl ⟨rfl, rfl, rfl, rfl, rfl⟩ rfl rfl rfl rfl rfl (by kernel_rfl) Tryz.func6 auditFacts
    (of_decide_eq_true (by kernel_rfl)) (by unfold Func.isWrapper; first | (rw [if_pos (by decide +kernel)]; kernel_rfl) | (rw [if_neg (by decide +kernel)]; exact ⟨rfl, rfl⟩))
    (fun os started H enc _ => audit_lifted os started H enc)
end Go.Proofs.YtgnnmpjafjlnfaaGreat
