/- PROVED: the given statement LazyNoneSaid: whatever the input, the law LazyNone answers true, and its arguments read as they did. No condition. -/
import Derived.Test.YtgnnmpjafjlnfaaGreatNoneFacts
import Derived.Test.YtgnnmpjafjlnfaaGreatNoneLow
import Derived.Test.YtgnnmpjafjlnfaaGreatNoneIn
import Derived.Test.YtgnnmpjafjlnfaaGreatNoneHigh
namespace Go.Proofs.YtgnnmpjafjlnfaaGreat
open Go.ChangeShapes Go.WideShapes Go.ChangeAt Go.RowKit Go.Tb

theorem none_at {a b : AV} (h : saysTrue ((ev P (E0.know lnKnown) 100000).call 4 [a, b] (Go.Tb.startHeap G [])) = true) {slot id : Int} {W : World} (hz : 1 ≤ W.heap.size)
    (ha : VR (startPl G W) a (.int .i64 slot)) (hb : VR (startPl G W) b (.int .i64 id)) :
    Calls P 4 #[.int .i64 slot, .int .i64 id] W fun e w' => e = .returned (.bool true) ∧ KeptAll W w' :=
  calls_true (vs := [.int .i64 slot, .int .i64 id]) (EnvOk.know env0 lnKnown_ok) h (WR.start hz (fun _ _ _ h => by cases h)) (.cons ha (.cons hb .nil))

theorem none_for {b : AV} (low : saysTrue ((ev P (E0.know lnKnown) 100000).call 4 [.rng .i64 (-9223372036854775808) (-1), b] (Go.Tb.startHeap G [])) = true)
    (zero : saysTrue ((ev P (E0.know lnKnown) 100000).call 4 [.int .i64 0, b] (Go.Tb.startHeap G [])) = true) (one : saysTrue ((ev P (E0.know lnKnown) 100000).call 4 [.int .i64 1, b] (Go.Tb.startHeap G [])) = true)
    (high : saysTrue ((ev P (E0.know lnKnown) 100000).call 4 [.rng .i64 2 9223372036854775807, b] (Go.Tb.startHeap G [])) = true)
    {slot id : Int} {W : World} (hz : 1 ≤ W.heap.size) (h1 : -9223372036854775808 ≤ slot) (h2 : slot ≤ 9223372036854775807) (hb : VR (startPl G W) b (.int .i64 id)) :
    Calls P 4 #[.int .i64 slot, .int .i64 id] W fun e w' => e = .returned (.bool true) ∧ KeptAll W w' := by
  by_cases a : slot < 0
  · exact none_at low hz (.rng _ h1 (by omega)) hb
  · by_cases b : slot = 0
    · subst b; exact none_at zero hz (.int _ _) hb
    · by_cases c : slot = 1
      · subst c; exact none_at one hz (.int _ _) hb
      · exact none_at high hz (.rng _ (by omega) h2) hb

set_option maxRecDepth 1000000 in
theorem none_calls (slot id : Int) (W : World) (hs : W.ShapedOpen P) (h1 : -9223372036854775808 ≤ slot) (h2 : slot ≤ 9223372036854775807) (h3 : -9223372036854775808 ≤ id) (h4 : id ≤ 9223372036854775807) :
    Calls P 4 #[.int .i64 slot, .int .i64 id] W fun e w' => e = .returned (.bool true) ∧ KeptAll W w' := by
  have hz : 1 ≤ W.heap.size := ShapedOpen.lies hs (g := 0) (by kernel_rfl)
  by_cases a : id < 0
  · exact none_for noneLow_low noneLow_zero noneLow_one noneLow_high hz h1 h2 (.rng _ h3 (by omega))
  · by_cases b : id ≤ 1073741824
    · exact none_for noneIn_low noneIn_zero noneIn_one noneIn_high hz h1 h2 (.rng _ (by omega) b)
    · exact none_for noneHigh_low noneHigh_zero noneHigh_one noneHigh_high hz h1 h2 (.rng _ (by omega) h4)

set_option maxRecDepth 100000 in
theorem none_lifted (os : Os) (started : os.Started) (H : Type) (enc : TypeId × Value → H) :
    ReturnsInHanded {} Tryz.checked os 4 .any (Rows.lazyNoneSpec.pre6 enc Tryz.prog Tryz.f4 Rows.lazyNoneRow.domain false) (Rows.lazyNoneSpec.post enc Tryz.prog Tryz.f4 false true false false) := by
  refine handed_shaped (C := Tryz.checked) own started (by kernel_rfl) Tryz.func4
    (ChangeSpec.witness6 (enc := enc) (C := Tryz.checked) false ⟨#[], #[.int .i64 0, .int .i64 0], []⟩ 8 (by kernel_rfl) (by kernel_rfl) (by kernel_rfl) (by kernel_rfl)) ?_
  intro W base args ds gs before hsh hval0 hW
  have hval : ∀ (j : Nat) t v, Tryz.f4.params[j]? = some t → args[j]? = some v → Value.okWide Tryz.prog W .any base t v := hval0
  have hW' := hW
  obtain ⟨p, q, hA0, hV, rfl, hfz, hnd⟩ := hW
  have hA : DataW.TrodAll enc Tryz.prog W 0 (fun _ => true) true Tryz.f4.params.toList args.toList ds p := hA0
  rw [Tryz.params4] at hA hval
  obtain ⟨v0, v1, d0, d1, p0, p1, rfl, rfl, rfl, h0, h1⟩ := trodAll_two hA
  obtain ⟨rfl, rfl⟩ := trodVars_none hV
  obtain ⟨n0, rfl, rfl, rfl, w0⟩ := open_int Tryz.underlying3 (hval 0 3 v0 rfl rfl) h0
  obtain ⟨n1, rfl, rfl, rfl, w1⟩ := open_int Tryz.underlying3 (hval 1 3 v1 rfl rfl) h1
  have b0 := bounds_i64 w0
  have b1 := bounds_i64 w1
  refine (none_calls n0 n1 W hsh b0.1 b0.2 b1.1 b1.2).mono fun e W' ⟨he, hk⟩ => ?_
  subst he
  refine ⟨_, rfl, _, _, _, [], [], [], hW', ?_, ?_, ?_, hk _, fun h => by cases h⟩
  · exact trodAll_mk1 (shut_bool Tryz.underlying4 true)
  · exact trodAll_mk2 (shut_int Tryz.underlying3 w0) (shut_int Tryz.underlying3 w1)
  · rfl

theorem lazyNone_holds : Rows.LazyNoneSaid :=
  OpenClaim.holds_of_wide 4 Tryz.f4 rfl rfl rfl rfl rfl rfl rfl ⟨rfl, rfl, rfl, rfl, rfl⟩ rfl rfl rfl rfl rfl (by kernel_rfl) Tryz.func4 noneFacts
    (of_decide_eq_true (by kernel_rfl)) (by unfold Func.isWrapper; first | (rw [if_pos (by decide +kernel)]; kernel_rfl) | (rw [if_neg (by decide +kernel)]; exact ⟨rfl, rfl⟩))
    (fun os started H enc _ => none_lifted os started H enc)
end Go.Proofs.YtgnnmpjafjlnfaaGreat
