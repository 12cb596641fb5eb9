/- PROVED: the given statement RtldNoneCardSaid: whatever the input, the law RtldNone answers true, and its arguments read as they did; what the listed package variables hold is tied to the program's text. No condition beyond the card's own. -/
import Derived.Test.YtmjibbnnpfbkfaaGreatDoorNoneRow
import Derived.Test.YtmjibbnnpfbkfaaGreatDoorTie
import Derived.Test.YtmjibbnnpfbkfaaGreatDoorCards
import Derived.SevenTiedAt
namespace Go.Proofs.YtmjibbnnpfbkfaaGreatDoor
open Go.Tb

theorem goes_none {P : Program} (h : (P.funcs.toList.all fun fn => !fn.goes) = true) (f : FuncId) : P.goes f = false := by
  have hall : ∀ fn ∈ P.funcs, fn.goes = false := fun fn hm => by
    have := List.all_eq_true.1 h fn (Array.mem_toList_iff.2 hm)
    simpa using this
  unfold Program.goes
  rw [Bool.or_eq_false_iff]
  refine ⟨?_, ?_⟩
  · rw [Bool.eq_false_iff]
    intro hx
    have hx2 : ∃ g : Nat, (P.funcs[g]?).any Func.goes = true := by
      first
        | (obtain ⟨g, -, hg⟩ := List.any_eq_true.1 hx; exact ⟨g, hg⟩)
        | (obtain ⟨g, hg, hg2⟩ := Array.any_eq_true.1 hx; exact ⟨_, hg2⟩)
    obtain ⟨g, hg⟩ := hx2
    cases hfn : P.funcs[g]? with
    | none => rw [hfn] at hg; cases hg
    | some fn =>
      rw [hfn] at hg
      have := hall fn (Array.mem_of_getElem? hfn)
      simp only [Option.any_some] at hg
      rw [this] at hg; cases hg
  · rw [Bool.and_eq_false_iff]
    refine .inr ?_
    rw [Bool.eq_false_iff]
    intro hx
    obtain ⟨i, hi, hg⟩ := Array.any_eq_true.1 hx
    have := hall P.funcs[i] (Array.getElem_mem hi)
    rw [this] at hg; cases hg
theorem goesBy_none {P : Program} {c : OpenClaim} (h : (P.funcs.toList.all fun fn => !fn.goes) = true) (hs : c.start = .entering) : false = c.goesBy P := by
  unfold OpenClaim.goesBy Program.goesAt Program.goesFrom
  rw [hs]
  cases P.funcNamed c.func with
  | none => rfl
  | some f => simp [goes_none h f]

theorem noneGoes : (Tryz.prog.funcs.toList.all fun fn => !fn.goes) = true := by kernel_rfl
theorem goesFact : false = Rows.rtldNoneRow.goesBy Tryz.prog := goesBy_none noneGoes rfl
theorem looksFact : false = Tryz.prog.looks [] := by kernel_rfl
theorem mainFact : Tryz.prog.mainIs = some ((true, "147d62af5acf01fdef4908186ac0ff9ee08b471789fd76b90ebe6dad0804d7de").1, (true, "147d62af5acf01fdef4908186ac0ff9ee08b471789fd76b90ebe6dad0804d7de").2.toList) := by kernel_rfl
theorem wfFact : Rows.rtldNoneRow.wfByText (OpenSpec.ofChange Rows.rtldNoneSpec) = true := by kernel_rfl
theorem wantsFact : Tryz.prog.wantsStandIn 3 = false := by kernel_rfl
theorem namedFact : Tryz.prog.funcNamed "turnbuckle/turnbucklelaw25.RtldNone" = some 3 := by kernel_rfl

theorem rtldNoneCard_holds : Rows.RtldNoneCardSaid :=
  Claim7.holds_tied_plain_at .later [] [.data, .data, .data, .widerDeep] true (true, "147d62af5acf01fdef4908186ac0ff9ee08b471789fd76b90ebe6dad0804d7de") false
    rtldNone_holds (fun _ h => by cases h) wfFact (fun _ h => by cases h) rtldNone_row_tie rfl ⟨rfl, rfl⟩ mainFact rfl
    (fun f fn hf hfn => by
      obtain rfl : f = 3 := Option.some.inj (namedFact.symm.trans hf) |>.symm
      obtain rfl : fn = Tryz.f3 := (Option.some.inj (Tryz.func3.symm.trans hfn)).symm
      exact ⟨looksFact, fun j t ht => by
        have ht2 : Tryz.f3.params[j]? = some t := ht
        rw [Tryz.params3] at ht2
        have hm : t = 3 := by
          rcases j with _ | _ | j
          · simpa using ht2.symm
          · simpa using ht2.symm
          · simp at ht2
        subst hm
        exact wantsFact⟩)
    goesFact
end Go.Proofs.YtmjibbnnpfbkfaaGreatDoor
