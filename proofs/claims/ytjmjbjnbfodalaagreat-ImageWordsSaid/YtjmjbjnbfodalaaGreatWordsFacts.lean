/- closed facts of the given program and of the given row 'imageWordsRow', each reckoned by the kernel. No condition. -/
import Derived.Test.YtjmjbjnbfodalaaGreatRows
import Derived.Test.YtjmjbjnbfodalaaGreatOwn
import Derived.Test.YtjmjbjnbfodalaaGreatTcRow
set_option linter.unusedSimpArgs false
set_option linter.unusedVariables false
set_option linter.unusedSectionVars false
namespace Go.Proofs.YtjmjbjnbfodalaaGreat
open Go.Tc
theorem iw_Plain : (Rows.imageWordsRow.plainKeys == Tryz.prog.plainKeys) = true := plainFact
theorem iw_Lift : (Rows.imageWordsRow.lifted == Tryz.prog.liftsFinal) = true := liftFact
theorem iw_Make : (Tryz.prog.make == some Rows.imageWordsRow.make) = true := by kernel_rfl
theorem iw_Place : (Rows.imageWordsRow.inPlace == Tryz.prog.inPlace 4) = true := by kernel_rfl
theorem iw_Unf : (Rows.imageWordsRow.unfollowed == Tryz.prog.unfollowed 4) = true := by kernel_rfl
theorem iw_Rec : (Rows.imageWordsRow.recurses == Tryz.prog.recurses 4) = true := by kernel_rfl
theorem iw_Named : (Rows.imageWordsRow.named == Tryz.prog.varsNamed 4) = true := by kernel_rfl
theorem iw_Facts : joinedFacts Tryz.prog 4 Tryz.f4 Rows.imageWordsSpec Rows.imageWordsRow = true :=
  joinedFacts_of progFacts iw_Plain iw_Lift iw_Make iw_Place iw_Unf iw_Rec iw_Named (by kernel_rfl) (by kernel_rfl) (by kernel_rfl) (by kernel_rfl)
end Go.Proofs.YtjmjbjnbfodalaaGreat
