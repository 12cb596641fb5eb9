/- proved here: the row RtldNoneSaid, which the card rests on: whatever the input, the law RtldNone answers true, and its arguments read as they did; where the listed package variables hold what the row lists. -/
import Derived.Test.YtmjibbnnpfbkfaaGreatDoorNoneFacts
import Derived.Test.YtmjibbnnpfbkfaaGreatDoorCase0
import Derived.Test.YtmjibbnnpfbkfaaGreatDoorCase1
import Derived.Test.YtmjibbnnpfbkfaaGreatDoorCase2
import Derived.LaidMore
namespace Go.Proofs.YtmjibbnnpfbkfaaGreatDoor
open Go.ChangeShapes Go.WideShapes Go.ChangeAt Go.RowKit Go.Tb

theorem rtld_at {l : List Fact} (hk : ∀ x ∈ l, x.Ok P G) {a : AV} {quota id : Int} (h : saysTrue ((ev P (E0.know l) 100000).call 3 [a, .int .i64 id] (Go.Tb.startHeap G laidRows)) = true) {W : World} (hs : W.ShapedOpen P) (hl : laidMetH Tryz.prog Rows.rtldNoneRow.laid W) (hz : G ≤ W.heap.size)
    (ha : VR (startPl G W) a (.int .i64 quota)) : Calls P 3 #[.int .i64 quota, .int .i64 id] W fun e w' => e = .returned (.bool true) ∧ ∀ may, W.keptBut w' may :=
  calls_true (vs := [.int .i64 quota, .int .i64 id]) (EnvOk.know env0 hk) h (WR.start hz (laidRows_lie hs hl)) (.cons ha (.cons (.int _ _) .nil))

set_option maxRecDepth 1000000 in
theorem rtld_calls (quota id : Int) (W : World) (hs : W.ShapedOpen P) (hl : laidMetH Tryz.prog Rows.rtldNoneRow.laid W) (h1 : -9223372036854775808 ≤ quota) (h2 : quota ≤ 9223372036854775807) :
    Calls P 3 #[.int .i64 quota, .int .i64 id] W fun e w' => e = .returned (.bool true) ∧ ∀ may, W.keptBut w' may := by
  have hz : G ≤ W.heap.size := ShapedOpen.lies hs (g := G - 1) (by kernel_rfl)
  by_cases a : quota < 0
  · exact rtld_at rt_negKnown_ok (true_neg id) hs hl hz (.rng _ h1 (by omega))
  by_cases a0 : quota = 0
  · subst a0; exact rtld_at rt_q0Known_ok (true_q0 id) hs hl hz (.int _ _)
  by_cases a1 : quota = 1
  · subst a1; exact rtld_at rt_q1Known_ok (true_q1 id) hs hl hz (.int _ _)
  by_cases a2 : quota = 2
  · subst a2; exact rtld_at rt_q2Known_ok (true_q2 id) hs hl hz (.int _ _)
  by_cases a3 : quota = 3
  · subst a3; exact rtld_at rt_q3Known_ok (true_q3 id) hs hl hz (.int _ _)
  by_cases a4 : quota ≤ 4096
  · exact rtld_at rt_midKnown_ok (true_mid id) hs hl hz (.rng _ (by omega) a4)
  · exact rtld_at rt_bigKnown_ok (true_big id) hs hl hz (.rng _ (by omega) h2)

/-- the door's own heap meets the condition. -/
theorem door_met (os : Os) (args : Array Value) : laidMetH Tryz.prog Rows.rtldNoneRow.laid ((World.doorLaid Tryz.prog 400 os).forCall (fun _ _ => 0) ⟨#[], args, []⟩).memory :=
  laidMetH_of_parts3 (fuel := 8) (laidMet_of_run' 8 (by kernel_rfl) (by kernel_rfl)) (by kernel_rfl) (by kernel_rfl)

set_option maxRecDepth 100000 in
theorem rtld_lifted (os : Os) (started : os.Started) (H : Type) (enc : TypeId × Value → H) :
    ReturnsInHanded {} Tryz.checked os 3 .any (fun w args => (Rows.rtldNoneSpec.pre enc Tryz.prog Tryz.f3 [] false w args ∧ laidMetH Tryz.prog Rows.rtldNoneRow.laid w) ∧ sizedMet enc Tryz.prog Tryz.f3 (OpenSpec.ofChange Rows.rtldNoneSpec) false w args)
      (Rows.rtldNoneSpec.post enc Tryz.prog Tryz.f3 false true false false) := by
  refine handed_laid (C := Tryz.checked) own started (by kernel_rfl) Tryz.func3
    (ChangeSpec.witness_shaped (enc := enc) (C := Tryz.checked) (os := os) (X := fun w _ => laidMetH Tryz.prog Rows.rtldNoneRow.laid w) false (World.doorLaid Tryz.prog 400 os) #[.int .i64 0, .int .i64 0] 8 rfl (World.shaped_of_RefB (by kernel_rfl) (by kernel_rfl)) (by kernel_rfl) (by kernel_rfl) (by kernel_rfl) (door_met os _)) ?_
  intro W base args ds gs before hsh hl hval0 hW
  have hval : ∀ (j : Nat) t v, Tryz.f3.params[j]? = some t → args[j]? = some v → Value.okWide Tryz.prog W .any base t v := hval0
  have hW' := hW
  obtain ⟨p, q, hA0, hV, rfl, hfz, hnd⟩ := hW
  have hA : DataW.TrodAll enc Tryz.prog W 0 (fun _ => true) true Tryz.f3.params.toList args.toList ds p := hA0
  rw [Tryz.params3] at hA hval
  obtain ⟨v0, v1, d0, d1, p0, p1, rfl, rfl, rfl, h0, h1⟩ := trodAll_two hA
  obtain ⟨rfl, rfl⟩ := trodVars_none hV
  obtain ⟨n0, rfl, rfl, rfl, w0⟩ := open_int Tryz.underlying3 (hval 0 3 v0 rfl rfl) h0
  obtain ⟨n1, rfl, rfl, rfl, w1⟩ := open_int Tryz.underlying3 (hval 1 3 v1 rfl rfl) h1
  have b0 := bounds_i64 w0
  refine (rtld_calls n0 n1 W hsh hl b0.1 b0.2).mono fun e W' ⟨he, hk⟩ => ?_
  subst he
  refine ⟨_, rfl, _, _, _, [], [], [], hW', ?_, ?_, ?_, hk _, fun h => by cases h⟩
  · exact trodAll_mk1 (shut_bool Tryz.underlying4 true)
  · exact trodAll_mk2 (shut_int Tryz.underlying3 w0) (shut_int Tryz.underlying3 w1)
  · rfl

theorem rtldNone_holds : Rows.RtldNoneSaid :=
  OpenClaim.holds_of_wide 3 Tryz.f3 rfl rfl rfl rfl rfl rfl rfl ⟨rfl, rfl, rfl, rfl, rfl⟩ rfl rfl rfl rfl rfl (by kernel_rfl) Tryz.func3 noneFacts
    (of_decide_eq_true (by kernel_rfl)) (by unfold Func.isWrapper; first | (rw [if_pos (by decide +kernel)]; kernel_rfl) | (rw [if_neg (by decide +kernel)]; exact ⟨rfl, rfl⟩))
    (fun os started H enc _ => rtld_lifted os started H enc)

end Go.Proofs.YtmjibbnnpfbkfaaGreatDoor
