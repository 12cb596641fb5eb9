/- closed facts of the given program and of the given row 'lazyNoneRow', each reckoned by the kernel. No condition. -/
import Derived.Test.YtgnnmpjafjlnfaaGreatRows
import Derived.Test.YtgnnmpjafjlnfaaGreatOwn
import Derived.Test.YtgnnmpjafjlnfaaGreatTbRow
namespace Go.Proofs.YtgnnmpjafjlnfaaGreat
open Go.Tb
theorem nonePlain : (Rows.lazyNoneRow.plainKeys == Tryz.prog.plainKeys) = true := plainFact
theorem noneLift : (Rows.lazyNoneRow.lifted == Tryz.prog.liftsFinal) = true := liftFact
theorem noneMake : (Tryz.prog.make == some Rows.lazyNoneRow.make) = true := by kernel_rfl
theorem nonePlace : (Rows.lazyNoneRow.inPlace == Tryz.prog.inPlace 4) = true := by kernel_rfl
theorem noneUnf : (Rows.lazyNoneRow.unfollowed == Tryz.prog.unfollowed 4) = true := by kernel_rfl
theorem noneRec : (Rows.lazyNoneRow.recurses == Tryz.prog.recurses 4) = true := by kernel_rfl
theorem noneNamed : (Rows.lazyNoneRow.named == Tryz.prog.varsNamed 4) = true := by kernel_rfl
theorem noneFacts : joinedFacts Tryz.prog 4 Tryz.f4 Rows.lazyNoneSpec Rows.lazyNoneRow = true :=
  joinedFacts_of progFacts nonePlain noneLift noneMake nonePlace noneUnf noneRec noneNamed (by kernel_rfl) (by kernel_rfl) (by kernel_rfl) (by kernel_rfl)
end Go.Proofs.YtgnnmpjafjlnfaaGreat
