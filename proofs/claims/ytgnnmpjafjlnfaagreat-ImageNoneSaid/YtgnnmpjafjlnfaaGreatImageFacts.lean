/- closed facts of the given program and of the given row 'imageNoneRow', each reckoned by the kernel. No condition. -/
import Derived.Test.YtgnnmpjafjlnfaaGreatRows
import Derived.Test.YtgnnmpjafjlnfaaGreatOwn
import Derived.Test.YtgnnmpjafjlnfaaGreatTbRow
namespace Go.Proofs.YtgnnmpjafjlnfaaGreat
open Go.Tb
theorem imagePlain : (Rows.imageNoneRow.plainKeys == Tryz.prog.plainKeys) = true := plainFact
theorem imageLift : (Rows.imageNoneRow.lifted == Tryz.prog.liftsFinal) = true := liftFact
theorem imageMake : (Tryz.prog.make == some Rows.imageNoneRow.make) = true := by kernel_rfl
theorem imagePlace : (Rows.imageNoneRow.inPlace == Tryz.prog.inPlace 3) = true := by kernel_rfl
theorem imageUnf : (Rows.imageNoneRow.unfollowed == Tryz.prog.unfollowed 3) = true := by kernel_rfl
theorem imageRec : (Rows.imageNoneRow.recurses == Tryz.prog.recurses 3) = true := by kernel_rfl
theorem imageNamed : (Rows.imageNoneRow.named == Tryz.prog.varsNamed 3) = true := by kernel_rfl
theorem imageFacts : joinedFacts Tryz.prog 3 Tryz.f3 Rows.imageNoneSpec Rows.imageNoneRow = true :=
  joinedFacts_of progFacts imagePlain imageLift imageMake imagePlace imageUnf imageRec imageNamed (by kernel_rfl) (by kernel_rfl) (by kernel_rfl) (by kernel_rfl)
end Go.Proofs.YtgnnmpjafjlnfaaGreat
