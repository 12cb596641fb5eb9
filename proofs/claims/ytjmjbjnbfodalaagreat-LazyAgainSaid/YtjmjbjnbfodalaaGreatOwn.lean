/- closed facts of the given program alone, each reckoned by the kernel. No condition. -/
import Derived.Test.YtjmjbjnbfodalaaGreatProg
import Derived.Test.YtjmjbjnbfodalaaGreatTcTop
set_option linter.unusedSimpArgs false
set_option linter.unusedVariables false
set_option linter.unusedSectionVars false
namespace Go.Proofs.YtjmjbjnbfodalaaGreat
open Go.Tc
theorem own : ownKnob Tryz.prog.godebug = none := by kernel_rfl
theorem laidFact : laidOutB Tryz.prog = true := by kernel_rfl
theorem rowedFact : mapsRowed Tryz.prog = true := by kernel_rfl
theorem stopsFact : (Tryz.prog.stops == []) = true := by kernel_rfl
theorem knobsFact : (Tryz.prog.stopKnobs == []) = true := by kernel_rfl
theorem heardFact : Tryz.prog.stopsHeard = true := by kernel_rfl
theorem enterFact : Tryz.prog.mayEnter = true := by kernel_rfl
theorem liftFact : (false == Tryz.prog.liftsFinal) = true := by kernel_rfl
theorem plainFact : (false == Tryz.prog.plainKeys) = true := by kernel_rfl
theorem progFacts : (laidOutB Tryz.prog && mapsRowed Tryz.prog && (Tryz.prog.stops == []) && (Tryz.prog.stopKnobs == []) && Tryz.prog.stopsHeard && Tryz.prog.mayEnter) = true :=
  and_i (and_i (and_i (and_i (and_i laidFact rowedFact) stopsFact) knobsFact) heardFact) enterFact
end Go.Proofs.YtjmjbjnbfodalaaGreat
