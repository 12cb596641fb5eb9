/- closed facts of the given program and of the given row 'rtldNoneRow', each reckoned by the kernel. No condition. -/
import Derived.Test.YtmjibbnnpfbkfaaGreatDoorRows
import Derived.Test.YtmjibbnnpfbkfaaGreatDoorOwn
import Derived.Test.YtmjibbnnpfbkfaaGreatDoorTbRow
namespace Go.Proofs.YtmjibbnnpfbkfaaGreatDoor
open Go.Tb
theorem nonePlain : (Rows.rtldNoneRow.plainKeys == Tryz.prog.plainKeys) = true := plainFact
theorem noneLift : (Rows.rtldNoneRow.lifted == Tryz.prog.liftsFinal) = true := liftFact
theorem noneMake : (Tryz.prog.make == some Rows.rtldNoneRow.make) = true := by kernel_rfl
theorem nonePlace : (Rows.rtldNoneRow.inPlace == Tryz.prog.inPlace 3) = true := by kernel_rfl
theorem noneUnf : (Rows.rtldNoneRow.unfollowed == Tryz.prog.unfollowed 3) = true := by kernel_rfl
theorem noneRec : (Rows.rtldNoneRow.recurses == Tryz.prog.recurses 3) = true := by kernel_rfl
theorem noneNamed : (Rows.rtldNoneRow.named == Tryz.prog.varsNamed 3) = true := by kernel_rfl
theorem noneFacts : joinedFacts Tryz.prog 3 Tryz.f3 Rows.rtldNoneSpec Rows.rtldNoneRow = true :=
  joinedFacts_of progFacts nonePlain noneLift noneMake nonePlace noneUnf noneRec noneNamed (by kernel_rfl) (by kernel_rfl) (by kernel_rfl) (by kernel_rfl)
end Go.Proofs.YtmjibbnnpfbkfaaGreatDoor
