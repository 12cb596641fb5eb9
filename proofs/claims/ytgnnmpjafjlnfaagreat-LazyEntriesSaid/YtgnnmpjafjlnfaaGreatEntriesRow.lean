/- PROVED: the given statement LazyEntriesSaid: whatever the input, the law LazyEntries answers true, and its arguments read as they did. No condition. -/
import Derived.Test.YtgnnmpjafjlnfaaGreatEntriesFacts
import Derived.Test.YtgnnmpjafjlnfaaGreatLazy
import Derived.Test.YtgnnmpjafjlnfaaGreatEntriesWalk
namespace Go.Proofs.YtgnnmpjafjlnfaaGreat
open Go.ChangeShapes Go.WideShapes Go.ChangeAt Go.RowKit Go.Tb

set_option maxRecDepth 1000000 in
theorem entries_calls (id slot at_ : Int) (W : World) (hs : W.ShapedOpen P) (a0 : 0 ≤ at_) (a2 : at_ < 18446744073709551616) :
    Calls P 5 #[.int .i64 id, .int .i64 slot, .int .u64 at_] W fun e w' => e = .returned (.bool true) ∧ KeptAll W w' :=
  entries_any (K := KeptAll) (fun w hw => speaks_calls w hw) id slot at_ W (ShapedOpen.lies hs (g := 0) (by kernel_rfl)) a0 a2

set_option maxRecDepth 100000 in
theorem entries_lifted (os : Os) (started : os.Started) (H : Type) (enc : TypeId × Value → H) :
    ReturnsInHanded {} Tryz.checked os 5 .any (Rows.lazyEntriesSpec.pre6 enc Tryz.prog Tryz.f5 Rows.lazyEntriesRow.domain false) (Rows.lazyEntriesSpec.post enc Tryz.prog Tryz.f5 false true false false) := by
  refine handed_shaped (C := Tryz.checked) own started (by kernel_rfl) Tryz.func5
    (ChangeSpec.witness6 (enc := enc) (C := Tryz.checked) false ⟨#[], #[.int .i64 0, .int .i64 0, .int .u64 0], []⟩ 8 (by kernel_rfl) (by kernel_rfl) (by kernel_rfl) (by kernel_rfl)) ?_
  intro W base args ds gs before hsh hval0 hW
  have hval : ∀ (j : Nat) t v, Tryz.f5.params[j]? = some t → args[j]? = some v → Value.okWide Tryz.prog W .any base t v := hval0
  have hW' := hW
  obtain ⟨p, q, hA0, hV, rfl, hfz, hnd⟩ := hW
  have hA : DataW.TrodAll enc Tryz.prog W 0 (fun _ => true) true Tryz.f5.params.toList args.toList ds p := hA0
  rw [Tryz.params5] at hA hval
  obtain ⟨v0, v1, v2, d0, d1, d2, p0, p1, p2, rfl, rfl, rfl, h0, h1, h2⟩ := trodAll_three hA
  obtain ⟨rfl, rfl⟩ := trodVars_none hV
  obtain ⟨n0, rfl, rfl, rfl, w0⟩ := open_int Tryz.underlying3 (hval 0 3 v0 rfl rfl) h0
  obtain ⟨n1, rfl, rfl, rfl, w1⟩ := open_int Tryz.underlying3 (hval 1 3 v1 rfl rfl) h1
  obtain ⟨n2, rfl, rfl, rfl, w2⟩ := open_int Tryz.underlying22 (hval 2 22 v2 rfl rfl) h2
  have hb := bounds_u64 w2
  refine (entries_calls n0 n1 n2 W hsh (by omega) (by omega)).mono fun e W' ⟨he, hk⟩ => ?_
  subst he
  refine ⟨_, rfl, _, _, _, [], [], [], hW', ?_, ?_, ?_, hk _, fun h => by cases h⟩
  · exact trodAll_mk1 (shut_bool Tryz.underlying4 true)
  · exact trodAll_mk3 (shut_int Tryz.underlying3 w0) (shut_int Tryz.underlying3 w1) (shut_int Tryz.underlying22 w2)
  · rfl

theorem lazyEntries_holds : Rows.LazyEntriesSaid :=
  OpenClaim.holds_of_wide 5 Tryz.f5 rfl rfl rfl rfl rfl rfl rfl ⟨rfl, rfl, rfl, rfl, rfl⟩ rfl rfl rfl rfl rfl (by kernel_rfl) Tryz.func5 entriesFacts
    (of_decide_eq_true (by kernel_rfl)) (by unfold Func.isWrapper; first | (rw [if_pos (by decide +kernel)]; kernel_rfl) | (rw [if_neg (by decide +kernel)]; exact ⟨rfl, rfl⟩))
    (fun os started H enc _ => entries_lifted os started H enc)
end Go.Proofs.YtgnnmpjafjlnfaaGreat
