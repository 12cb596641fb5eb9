/- closed facts of the given program and of the given row 'showNoneRow', each reckoned by the kernel. No condition. -/
import Derived.Test.YtgnnmpjafjlnfaaGreatDoorRows
import Derived.Test.YtgnnmpjafjlnfaaGreatDoorOwn
import Derived.Test.YtgnnmpjafjlnfaaGreatDoorTbRow
namespace Go.Proofs.YtgnnmpjafjlnfaaGreatDoor
open Go.Tb
theorem showPlain : (Rows.showNoneRow.plainKeys == Tryz.prog.plainKeys) = true := plainFact
theorem showLift : (Rows.showNoneRow.lifted == Tryz.prog.liftsFinal) = true := liftFact
theorem showMake : (Tryz.prog.make == some Rows.showNoneRow.make) = true := by kernel_rfl
theorem showPlace : (Rows.showNoneRow.inPlace == Tryz.prog.inPlace 3) = true := by kernel_rfl
theorem showUnf : (Rows.showNoneRow.unfollowed == Tryz.prog.unfollowed 3) = true := by kernel_rfl
theorem showRec : (Rows.showNoneRow.recurses == Tryz.prog.recurses 3) = true := by kernel_rfl
theorem showNamed : (Rows.showNoneRow.named == Tryz.prog.varsNamed 3) = true := by kernel_rfl
theorem showFacts : joinedFacts Tryz.prog 3 Tryz.f3 Rows.showNoneSpec Rows.showNoneRow = true :=
  joinedFacts_of progFacts showPlain showLift showMake showPlace showUnf showRec showNamed (by kernel_rfl) (by kernel_rfl) (by kernel_rfl) (by kernel_rfl)
end Go.Proofs.YtgnnmpjafjlnfaaGreatDoor
