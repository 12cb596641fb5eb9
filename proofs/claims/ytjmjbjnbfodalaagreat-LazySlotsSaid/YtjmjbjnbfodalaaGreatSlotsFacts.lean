/- closed facts of the given program and of the given row 'lazySlotsRow', each reckoned by the kernel. No condition. -/
import Derived.Test.YtjmjbjnbfodalaaGreatRows
import Derived.Test.YtjmjbjnbfodalaaGreatOwn
import Derived.Test.YtjmjbjnbfodalaaGreatTcTop
set_option linter.unusedSimpArgs false
set_option linter.unusedVariables false
set_option linter.unusedSectionVars false
namespace Go.Proofs.YtjmjbjnbfodalaaGreat
open Go.Tc
theorem lz_Plain : (Rows.lazySlotsRow.plainKeys == Tryz.prog.plainKeys) = true := plainFact
theorem lz_Lift : (Rows.lazySlotsRow.lifted == Tryz.prog.liftsFinal) = true := liftFact
theorem lz_Make : (Tryz.prog.make == some Rows.lazySlotsRow.make) = true := by kernel_rfl
theorem lz_Place : (Rows.lazySlotsRow.inPlace == Tryz.prog.inPlace 5) = true := by kernel_rfl
theorem lz_Unf : (Rows.lazySlotsRow.unfollowed == Tryz.prog.unfollowed 5) = true := by kernel_rfl
theorem lz_Rec : (Rows.lazySlotsRow.recurses == Tryz.prog.recurses 5) = true := by kernel_rfl
theorem lz_Named : (Rows.lazySlotsRow.named == Tryz.prog.varsNamed 5) = true := by kernel_rfl
theorem lz_Facts : joinedFacts Tryz.prog 5 Tryz.f5 Rows.lazySlotsSpec Rows.lazySlotsRow = true :=
  joinedFacts_of progFacts lz_Plain lz_Lift lz_Make lz_Place lz_Unf lz_Rec lz_Named (by kernel_rfl) (by kernel_rfl) (by kernel_rfl) (by kernel_rfl)
end Go.Proofs.YtjmjbjnbfodalaaGreat
