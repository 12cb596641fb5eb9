/- closed facts of the given program and of the given row 'lazyAgainRow', each reckoned by the kernel. No condition. -/
import Derived.Test.YtjmjbjnbfodalaaGreatRows
import Derived.Test.YtjmjbjnbfodalaaGreatOwn
import Derived.Test.YtjmjbjnbfodalaaGreatTcTop
set_option linter.unusedSimpArgs false
set_option linter.unusedVariables false
set_option linter.unusedSectionVars false
namespace Go.Proofs.YtjmjbjnbfodalaaGreat
open Go.Tc
theorem la_Plain : (Rows.lazyAgainRow.plainKeys == Tryz.prog.plainKeys) = true := plainFact
theorem la_Lift : (Rows.lazyAgainRow.lifted == Tryz.prog.liftsFinal) = true := liftFact
theorem la_Make : (Tryz.prog.make == some Rows.lazyAgainRow.make) = true := by kernel_rfl
theorem la_Place : (Rows.lazyAgainRow.inPlace == Tryz.prog.inPlace 6) = true := by kernel_rfl
theorem la_Unf : (Rows.lazyAgainRow.unfollowed == Tryz.prog.unfollowed 6) = true := by kernel_rfl
theorem la_Rec : (Rows.lazyAgainRow.recurses == Tryz.prog.recurses 6) = true := by kernel_rfl
theorem la_Named : (Rows.lazyAgainRow.named == Tryz.prog.varsNamed 6) = true := by kernel_rfl
theorem la_Facts : joinedFacts Tryz.prog 6 Tryz.f6 Rows.lazyAgainSpec Rows.lazyAgainRow = true :=
  joinedFacts_of progFacts la_Plain la_Lift la_Make la_Place la_Unf la_Rec la_Named (by kernel_rfl) (by kernel_rfl) (by kernel_rfl) (by kernel_rfl)
end Go.Proofs.YtjmjbjnbfodalaaGreat
