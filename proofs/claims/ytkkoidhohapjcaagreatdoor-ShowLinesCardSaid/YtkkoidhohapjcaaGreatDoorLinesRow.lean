/- PROVED: the given statement ShowLinesCardSaid: whatever the input, the law ShowLines answers true, and its arguments read as they did; what the listed package variables hold is tied to the program's text. No condition beyond the card's own. -/
import Derived.Test.YtkkoidhohapjcaaGreatDoorRows
import Derived.Test.YtkkoidhohapjcaaGreatDoorOwn
import Derived.Test.YtkkoidhohapjcaaGreatDoorTcRow
import Derived.Test.YtkkoidhohapjcaaGreatDoorSp0
import Derived.Test.YtkkoidhohapjcaaGreatDoorSp1
import Derived.Test.YtkkoidhohapjcaaGreatDoorLaw
import Derived.Test.YtkkoidhohapjcaaGreatDoorTie
import Derived.Test.YtkkoidhohapjcaaGreatDoorCards
import Derived.Test.YtkkoidhohapjcaaGreatDoorTcIns
import Derived.LaidMore
import Derived.MakeChecks
import Derived.SevenTiedAt
set_option linter.unusedSimpArgs false
set_option linter.unusedVariables false
set_option linter.unusedSectionVars false
namespace Go.Proofs.YtkkoidhohapjcaaGreatDoor
section
open Go.Tc
theorem linesPlain : (Rows.showLinesRow.plainKeys == Tryz.prog.plainKeys) = true := plainFact
theorem linesLift : (Rows.showLinesRow.lifted == Tryz.prog.liftsFinal) = true := liftFact
theorem linesMake : (Tryz.prog.make == some Rows.showLinesRow.make) = true := by kernel_rfl
theorem linesPlace : (Rows.showLinesRow.inPlace == Tryz.prog.inPlace 3) = true := by kernel_rfl
theorem linesUnf : (Rows.showLinesRow.unfollowed == Tryz.prog.unfollowed 3) = true := by kernel_rfl
theorem linesRec : (Rows.showLinesRow.recurses == Tryz.prog.recurses 3) = true := by kernel_rfl
theorem linesNamed : (Rows.showLinesRow.named == Tryz.prog.varsNamed 3) = true := by kernel_rfl
theorem linesFacts : joinedFacts Tryz.prog 3 Tryz.f3 Rows.showLinesSpec Rows.showLinesRow = true :=
  joinedFacts_of progFacts linesPlain linesLift linesMake linesPlace linesUnf linesRec linesNamed (by kernel_rfl) (by kernel_rfl) (by kernel_rfl) (by kernel_rfl)
end
section
set_option maxRecDepth 1000000
open Go.Tc
def sp_spKnown : List Fact := [sp0, sp1]
theorem sp_spKnown_ok [Val] : ∀ x ∈ sp_spKnown, x.Ok P G := (knows sp0_ok (knows sp1_ok knowsNone))
end
open Go.ChangeShapes Go.WideShapes Go.ChangeAt Go.ChangeMaps Go.RowKit Go.Tc

theorem spk_ok0 [Val] : lw.spk.Ok P G := Fact.ok_of (n := 100000) (EnvOk.know env0 sp_spKnown_ok) (by kernel_rfl)
theorem spk_ok (V : Val) : @Fact.Ok V P G lw.spk := @spk_ok0 V

def laidRows : List (Nat × List AV × TypeId) := [(6, lw.tab64.map (.int .u8), 327)]
theorem tab_eq : lw.tab64 = intsOf (Rows.laid_math_bits_deBruijn64tab (H := Unit)) := by kernel_rfl
theorem g64 : Tryz.prog.globalNamed "math/bits.deBruijn64tab" = some 6 := by kernel_rfl
theorem t64 : (Tryz.prog.globals[6]?).map (·.type) = some 327 := by kernel_rfl
theorem tab_of_laid {W : World} (h : laidMetH Tryz.prog Rows.showLinesRow.laid W) : ∃ cs, W.var? Tryz.prog "math/bits.deBruijn64tab" = some cs ∧ cs.toList = lw.tab64.map (Value.int .u8) := by
  rw [MakeChecks.laidMetH_plain _ _ _ (by kernel_rfl)] at h
  obtain ⟨ps, ⟨_, _, _, _, _, _, _, _, _, _, ⟨g, t, cs, f, p, q, hg, ht, hv, hd, _, _⟩, _⟩, _, _⟩ := h
  obtain rfl := Option.some.inj (g64.symm.trans hg)
  obtain rfl := Option.some.inj (t64.symm.trans ht)
  rw [tab_eq]
  exact ⟨cs, hv, ints_of_trod (n := 64) Tryz.underlying327 Tryz.underlying5 (by kernel_rfl) (by kernel_rfl) hd⟩

set_option maxRecDepth 1000000 in
theorem lines_calls (s w : ByteArray) (n : Int) (hn : -2 ^ 63 ≤ n ∧ n < 2 ^ 63) (W : World) (hs : W.ShapedOpen P) (hl : laidMetH Tryz.prog Rows.showLinesRow.laid W) :
    Calls P 3 #[.string s, .string w, .int .i64 n] W fun e w' => e = .returned (.bool true) ∧ ∀ may, W.keptBut w' may := by
  have hw : @WR (vals [ds s.data.toList, ds w.data.toList, .int n]) G (startPl G W) (Go.Tc.startHeap G laidRows).get (Go.Tc.startHeap G laidRows).next W := @WR.start (vals _) G W laidRows (ShapedOpen.lies hs (g := 6) (by kernel_rfl)) fun i c t hm => by
    rcases List.mem_cons.1 hm with e | e
    · cases e
      refine ⟨by decide, ?_⟩
      obtain ⟨cs, h1⟩ := ShapedOpen.typed hs (g := 6) (t := 327) (by kernel_rfl)
      obtain ⟨cs', h2, h3⟩ := tab_of_laid hl
      have : cs' = cs := by
        simp only [World.var?, g64, Option.bind_some, h1, Option.some.injEq] at h2
        exact h2.symm
      subst this
      exact ⟨cs', 0, 0, h1, by rw [h3]; exact @VRs_ints (vals _) _ _ _⟩
    · cases e
  refine (calls_of_fact (β := startPl G W) (lw.ok spk_ok s.data.toList w.data.toList n hn) (Go.Tc.startHeap_fixed G laidRows) (vs := [.string s, .string w, .int .i64 n]) hw ?_).mono fun e w' ⟨β', u, he, hu, _, hk, ho, hout⟩ => ?_
  · exact @VRs.cons (vals _) _ _ _ _ _ (@VR.sy (vals _) _ _ _ _ (CellR.str s)) (@VRs.cons (vals _) _ _ _ _ _ (@VR.sy (vals _) _ _ _ _ (CellR.str w)) (@VRs.cons (vals _) _ _ _ _ _ (@VR.sy (vals _) _ _ _ _ (CellR.int .i64 n)) (@VRs.nil (vals _) _)))
  · cases hu
    exact ⟨he, fun may => keptBut_of_kept ho hout hk⟩

/-- the door's own heap meets the condition. -/
theorem door_met (os : Os) (args : Array Value) : laidMetH Tryz.prog Rows.showLinesRow.laid ((World.doorLaid Tryz.prog 400 os).forCall (fun _ _ => 0) ⟨#[], args, []⟩).memory :=
  laidMetH_of_parts3 (fuel := 8) (laidMet_of_run' 8 (by kernel_rfl) (by kernel_rfl)) (by kernel_rfl) (by kernel_rfl)

set_option maxRecDepth 100000 in
theorem lines_lifted (os : Os) (started : os.Started) (H : Type) (enc : TypeId × Value → H) :
    ReturnsInHanded {} Tryz.checked os 3 .any (fun w args => (Rows.showLinesSpec.pre enc Tryz.prog Tryz.f3 [] false w args ∧ laidMetH Tryz.prog Rows.showLinesRow.laid w) ∧ sizedMet enc Tryz.prog Tryz.f3 (OpenSpec.ofChange Rows.showLinesSpec) false w args)
      (Rows.showLinesSpec.post enc Tryz.prog Tryz.f3 false true false false) := by
  refine handed_laid (C := Tryz.checked) own started (by kernel_rfl) Tryz.func3
    (ChangeSpec.witness_shaped (enc := enc) (C := Tryz.checked) (os := os) (X := fun w _ => laidMetH Tryz.prog Rows.showLinesRow.laid w) false (World.doorLaid Tryz.prog 400 os) #[.string ⟨#[]⟩, .string ⟨#[]⟩, .int .i64 0] 8 rfl (World.shaped_of_RefB (by kernel_rfl) (by kernel_rfl)) (by kernel_rfl) (by kernel_rfl) (by kernel_rfl) (door_met os _)) ?_
  intro W base args ds gs before hsh hl hval0 hW
  have hval : ∀ (j : Nat) t v, Tryz.f3.params[j]? = some t → args[j]? = some v → Value.okWide Tryz.prog W .any base t v := hval0
  have hW' := hW
  obtain ⟨p, q, hA0, hV, rfl, hfz, hnd⟩ := hW
  have hA : DataW.TrodAll enc Tryz.prog W 0 (fun _ => true) true Tryz.f3.params.toList args.toList ds p := hA0
  rw [Tryz.params3] at hA hval
  obtain ⟨v0, v1, v2, d0, d1, d2, p0, p1, p2, rfl, rfl, rfl, h0, h1, h2⟩ := trodAll_three hA
  obtain ⟨rfl, rfl⟩ := trodVars_none hV
  obtain ⟨s, rfl, rfl, rfl, hs⟩ := open_string Tryz.underlying9 (hval 0 9 v0 rfl rfl) h0
  obtain ⟨w, rfl, rfl, rfl, hw⟩ := open_string Tryz.underlying9 (hval 1 9 v1 rfl rfl) h1
  obtain ⟨n, rfl, rfl, rfl, hwn⟩ := open_int Tryz.underlying3 (hval 2 3 v2 rfl rfl) h2
  have hb := bounds_i64 hwn
  refine (lines_calls s w n (by omega) W hsh hl).mono fun e W' ⟨he, hk⟩ => ?_
  subst he
  refine ⟨_, rfl, _, _, _, [], [], [], hW', ?_, ?_, ?_, hk _, fun h => by cases h⟩
  · exact trodAll_mk1 (shut_bool Tryz.underlying4 true)
  · exact trodAll_mk3 (shut_string Tryz.underlying9 hs) (shut_string Tryz.underlying9 hw) (shut_int Tryz.underlying3 hwn)
  · rfl

theorem showLines_holds : Rows.ShowLinesSaid :=
  OpenClaim.holds_of_wide 3 Tryz.f3 rfl rfl rfl rfl rfl rfl rfl ⟨rfl, rfl, rfl, rfl, rfl⟩ rfl rfl rfl rfl rfl (by kernel_rfl) Tryz.func3 linesFacts
    (of_decide_eq_true (by kernel_rfl)) (by unfold Func.isWrapper; first | (rw [if_pos (by decide +kernel)]; kernel_rfl) | (rw [if_neg (by decide +kernel)]; exact ⟨rfl, rfl⟩))
    (fun os started H enc _ => lines_lifted os started H enc)

theorem showLinesCard_holds : Rows.ShowLinesCardSaid :=
  Claim7.holds_tied_plain_at .later [] [.data, .data, .data, .data, .data, .data] true (true, "b2f8b800f39db6e93b91e984c0de1dd699950a99a5cfef73eb16853b42aa539c") false
    showLines_holds (fun _ h => by cases h) (by kernel_rfl) (fun _ h => by cases h) showLines_row_tie rfl ⟨rfl, rfl⟩ (by kernel_rfl) rfl
    (fun f fn hf hfn => by
      obtain rfl : f = 3 := Option.some.inj ((show Tryz.prog.funcNamed "turnbuckle/turnbucklelaw30.ShowLines" = some 3 by kernel_rfl).symm.trans hf) |>.symm
      obtain rfl : fn = Tryz.f3 := (Option.some.inj (Tryz.func3.symm.trans hfn)).symm
      exact ⟨by kernel_rfl, fun j t ht => by
        rw [Tryz.params3] at ht
        have h3 : t = 9 ∨ t = 3 := by
          rcases j with _ | _ | _ | j
          · exact .inl (by simpa using ht.symm)
          · exact .inl (by simpa using ht.symm)
          · exact .inr (by simpa using ht.symm)
          · simp at ht
        rcases h3 with rfl | rfl
        · exact (show Tryz.prog.wantsStandIn 9 = false by kernel_rfl)
        · exact (show Tryz.prog.wantsStandIn 3 = false by kernel_rfl)⟩)
    (by kernel_rfl)
end Go.Proofs.YtkkoidhohapjcaaGreatDoor
