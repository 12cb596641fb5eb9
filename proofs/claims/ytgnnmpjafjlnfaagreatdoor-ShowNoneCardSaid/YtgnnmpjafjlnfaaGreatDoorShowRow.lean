/- PROVED: the given statement ShowNoneCardSaid: whatever the input, the law ShowNone answers true, and its argument reads as it did; what the listed package variables hold is tied to the program's text. No condition beyond the card's own. -/
import Derived.Test.YtgnnmpjafjlnfaaGreatDoorShowFacts
import Derived.Test.YtgnnmpjafjlnfaaGreatDoorShow
import Derived.Test.YtgnnmpjafjlnfaaGreatDoorTie
import Derived.Test.YtgnnmpjafjlnfaaGreatDoorCards
import Derived.LaidMore
import Derived.MakeChecks
import Derived.SevenTiedAt
namespace Go.Proofs.YtgnnmpjafjlnfaaGreatDoor
open Go.ChangeShapes Go.WideShapes Go.ChangeAt Go.RowKit Go.Tb

def tab64 : List Int := intsOf (Rows.laid_math_bits_deBruijn64tab (H := Unit))
def laidRows : List (Nat × List AV × TypeId) := [(6, tab64.map (.int .u8), 365)]

/-- the law, run by the evaluator: true, whatever the number is. -/
theorem show_true : ∀ n : Int, saysTrue ((ev P (E0.know snKnown) 100000).call 3 [.int .i64 n] (Go.Tb.startHeap G laidRows)) = true := fun n => by kernel_rfl

theorem g64 : Tryz.prog.globalNamed "math/bits.deBruijn64tab" = some 6 := by kernel_rfl
theorem t64 : (Tryz.prog.globals[6]?).map (·.type) = some 365 := by kernel_rfl

theorem tab_of_laid {W : World} (h : laidMetH Tryz.prog Rows.showNoneRow.laid W) : ∃ cs, W.var? Tryz.prog "math/bits.deBruijn64tab" = some cs ∧ cs.toList = tab64.map (Value.int .u8) := by
  rw [MakeChecks.laidMetH_plain _ _ _ (by kernel_rfl)] at h
  obtain ⟨ps, ⟨_, _, _, _, _, _, _, _, _, _, ⟨g, t, cs, f, p, q, hg, ht, hv, hd, _, _⟩, _⟩, _, _⟩ := h
  obtain rfl := Option.some.inj (g64.symm.trans hg)
  obtain rfl := Option.some.inj (t64.symm.trans ht)
  exact ⟨cs, hv, ints_of_trod (n := 64) Tryz.underlying365 Tryz.underlying5 (by kernel_rfl) (by kernel_rfl) hd⟩

set_option maxRecDepth 1000000 in
theorem show_calls (n : Int) (W : World) (hs : W.ShapedOpen P) (hl : laidMetH Tryz.prog Rows.showNoneRow.laid W) : Calls P 3 #[.int .i64 n] W fun e w' => e = .returned (.bool true) ∧ ∀ may, W.keptBut w' may := by
  refine calls_true (vs := [.int .i64 n]) (EnvOk.know env0 snKnown_ok) (show_true n) (WR.start (ShapedOpen.lies hs (g := 6) (by kernel_rfl)) fun i c t hm => ?_) (.cons (.int _ _) .nil)
  rcases List.mem_cons.1 hm with e | e
  · cases e
    refine ⟨by decide, ?_⟩
    obtain ⟨cs, h1⟩ := ShapedOpen.typed hs (g := 6) (t := 365) (by kernel_rfl)
    obtain ⟨cs', h2, h3⟩ := tab_of_laid hl
    have : cs' = cs := by
      simp only [World.var?, g64, Option.bind_some, h1, Option.some.injEq] at h2
      exact h2.symm
    subst this
    exact ⟨cs', 0, 0, h1, by rw [h3]; exact VRs_ints _ _ _⟩
  · cases e

/-- the door's own heap meets the condition. -/
theorem door_met (os : Os) (args : Array Value) : laidMetH Tryz.prog Rows.showNoneRow.laid ((World.doorLaid Tryz.prog 400 os).forCall (fun _ _ => 0) ⟨#[], args, []⟩).memory :=
  laidMetH_of_parts3 (fuel := 8) (laidMet_of_run' 8 (by kernel_rfl) (by kernel_rfl)) (by kernel_rfl) (by kernel_rfl)

set_option maxRecDepth 100000 in
theorem show_lifted (os : Os) (started : os.Started) (H : Type) (enc : TypeId × Value → H) :
    ReturnsInHanded {} Tryz.checked os 3 .any (fun w args => (Rows.showNoneSpec.pre enc Tryz.prog Tryz.f3 [] false w args ∧ laidMetH Tryz.prog Rows.showNoneRow.laid w) ∧ sizedMet enc Tryz.prog Tryz.f3 (OpenSpec.ofChange Rows.showNoneSpec) false w args)
      (Rows.showNoneSpec.post enc Tryz.prog Tryz.f3 false true false false) := by
  refine handed_laid (C := Tryz.checked) own started (by kernel_rfl) Tryz.func3
    (ChangeSpec.witness_shaped (enc := enc) (C := Tryz.checked) (os := os) (X := fun w _ => laidMetH Tryz.prog Rows.showNoneRow.laid w) false (World.doorLaid Tryz.prog 400 os) #[.int .i64 0] 8 rfl (World.shaped_of_RefB (by kernel_rfl) (by kernel_rfl)) (by kernel_rfl) (by kernel_rfl) (by kernel_rfl) (door_met os _)) ?_
  intro W base args ds gs before hsh hl hval0 hW
  have hval : ∀ (j : Nat) t v, Tryz.f3.params[j]? = some t → args[j]? = some v → Value.okWide Tryz.prog W .any base t v := hval0
  have hW' := hW
  obtain ⟨p, q, hA0, hV, rfl, hfz, hnd⟩ := hW
  have hA : DataW.TrodAll enc Tryz.prog W 0 (fun _ => true) true Tryz.f3.params.toList args.toList ds p := hA0
  rw [Tryz.params3] at hA hval
  obtain ⟨v0, d0, rfl, rfl, h0⟩ := trodAll_one hA
  obtain ⟨rfl, rfl⟩ := trodVars_none hV
  obtain ⟨n, rfl, rfl, rfl, hwn⟩ := open_int Tryz.underlying3 (hval 0 3 v0 rfl rfl) h0
  refine (show_calls n W hsh hl).mono fun e W' ⟨he, hk⟩ => ?_
  subst he
  refine ⟨_, rfl, _, _, _, [], [], [], hW', ?_, ?_, ?_, hk _, fun h => by cases h⟩
  · exact trodAll_mk1 (shut_bool Tryz.underlying4 true)
  · exact trodAll_mk1 (shut_int Tryz.underlying3 hwn)
  · rfl

theorem showNone_holds : Rows.ShowNoneSaid :=
  OpenClaim.holds_of_wide 3 Tryz.f3 rfl rfl rfl rfl rfl rfl rfl ⟨rfl, rfl, rfl, rfl, rfl⟩ rfl rfl rfl rfl rfl (by kernel_rfl) Tryz.func3 showFacts
    (of_decide_eq_true (by kernel_rfl)) (by unfold Func.isWrapper; first | (rw [if_pos (by decide +kernel)]; kernel_rfl) | (rw [if_neg (by decide +kernel)]; exact ⟨rfl, rfl⟩))
    (fun os started H enc _ => show_lifted os started H enc)

theorem showNoneCard_holds : Rows.ShowNoneCardSaid :=
  Claim7.holds_tied_plain_at .later [] [.data, .data, .data, .data, .data, .data] true (true, "9a76be737686754da949d38eaae87da0ea9807b875bdab09e6a03571f1cb93e4") false
    showNone_holds (fun _ h => by cases h) (by kernel_rfl) (fun _ h => by cases h) showNone_row_tie rfl ⟨rfl, rfl⟩ (by kernel_rfl) rfl
    (fun f fn hf hfn => by
      obtain rfl : f = 3 := Option.some.inj ((show Tryz.prog.funcNamed "turnbuckle/turnbucklelaw30.ShowNone" = some 3 by kernel_rfl).symm.trans hf) |>.symm
      obtain rfl : fn = Tryz.f3 := (Option.some.inj (Tryz.func3.symm.trans hfn)).symm
      exact ⟨by kernel_rfl, fun j t ht => by
        rw [Tryz.params3] at ht
        have h3 : t = 3 := by
          rcases j with _ | j
          · simpa using ht.symm
          · simp at ht
        subst h3
        exact (show Tryz.prog.wantsStandIn 3 = false by kernel_rfl)⟩)
    (by kernel_rfl)
end Go.Proofs.YtgnnmpjafjlnfaaGreatDoor
