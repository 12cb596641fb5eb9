/- closed facts of the given program and of the given row 'scopeMergesRow', each reckoned by the kernel. No condition. -/
import Derived.Test.YtkkoidhohapjcaaGreatRows
import Derived.Test.YtkkoidhohapjcaaGreatOwn
import Derived.Test.YtkkoidhohapjcaaGreatTcRow
set_option linter.unusedSimpArgs false
set_option linter.unusedVariables false
set_option linter.unusedSectionVars false
namespace Go.Proofs.YtkkoidhohapjcaaGreat
open Go.Tc
theorem mergesPlain : (Rows.scopeMergesRow.plainKeys == Tryz.prog.plainKeys) = true := plainFact
theorem mergesLift : (Rows.scopeMergesRow.lifted == Tryz.prog.liftsFinal) = true := liftFact
theorem mergesMake : (Tryz.prog.make == some Rows.scopeMergesRow.make) = true := by kernel_rfl
theorem mergesPlace : (Rows.scopeMergesRow.inPlace == Tryz.prog.inPlace 6) = true := by kernel_rfl
theorem mergesUnf : (Rows.scopeMergesRow.unfollowed == Tryz.prog.unfollowed 6) = true := by kernel_rfl
theorem mergesRec : (Rows.scopeMergesRow.recurses == Tryz.prog.recurses 6) = true := by kernel_rfl
theorem mergesNamed : (Rows.scopeMergesRow.named == Tryz.prog.varsNamed 6) = true := by kernel_rfl
theorem mergesFacts : joinedFacts Tryz.prog 6 Tryz.f6 Rows.scopeMergesSpec Rows.scopeMergesRow = true :=
  joinedFacts_of progFacts mergesPlain mergesLift mergesMake mergesPlace mergesUnf mergesRec mergesNamed (by kernel_rfl) (by kernel_rfl) (by kernel_rfl) (by kernel_rfl)
end Go.Proofs.YtkkoidhohapjcaaGreat
