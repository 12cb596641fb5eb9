/- closed facts of the given program and of the given row 'relocUsersRow', each reckoned by the kernel. No condition. -/
import Derived.Test.YtjmjbjnbfodalaaGreatRows
import Derived.Test.YtjmjbjnbfodalaaGreatOwn
import Derived.Test.YtjmjbjnbfodalaaGreatTcRow
set_option linter.unusedSimpArgs false
set_option linter.unusedVariables false
set_option linter.unusedSectionVars false
namespace Go.Proofs.YtjmjbjnbfodalaaGreat
open Go.Tc
theorem ru_Plain : (Rows.relocUsersRow.plainKeys == Tryz.prog.plainKeys) = true := plainFact
theorem ru_Lift : (Rows.relocUsersRow.lifted == Tryz.prog.liftsFinal) = true := liftFact
theorem ru_Make : (Tryz.prog.make == some Rows.relocUsersRow.make) = true := by kernel_rfl
theorem ru_Place : (Rows.relocUsersRow.inPlace == Tryz.prog.inPlace 3) = true := by kernel_rfl
theorem ru_Unf : (Rows.relocUsersRow.unfollowed == Tryz.prog.unfollowed 3) = true := by kernel_rfl
theorem ru_Rec : (Rows.relocUsersRow.recurses == Tryz.prog.recurses 3) = true := by kernel_rfl
theorem ru_Named : (Rows.relocUsersRow.named == Tryz.prog.varsNamed 3) = true := by kernel_rfl
theorem ru_Facts : joinedFacts Tryz.prog 3 Tryz.f3 Rows.relocUsersSpec Rows.relocUsersRow = true :=
  joinedFacts_of progFacts ru_Plain ru_Lift ru_Make ru_Place ru_Unf ru_Rec ru_Named (by kernel_rfl) (by kernel_rfl) (by kernel_rfl) (by kernel_rfl)
end Go.Proofs.YtjmjbjnbfodalaaGreat
