/- closed facts of the given program and of the given row 'auditNoneRow', each reckoned by the kernel. No condition. -/
import Derived.Test.YtgnnmpjafjlnfaaGreatRows
import Derived.Test.YtgnnmpjafjlnfaaGreatOwn
import Derived.Test.YtgnnmpjafjlnfaaGreatTbRow
namespace Go.Proofs.YtgnnmpjafjlnfaaGreat
open Go.Tb
theorem auditPlain : (Rows.auditNoneRow.plainKeys == Tryz.prog.plainKeys) = true := plainFact
theorem auditLift : (Rows.auditNoneRow.lifted == Tryz.prog.liftsFinal) = true := liftFact
theorem auditMake : (Tryz.prog.make == some Rows.auditNoneRow.make) = true := by kernel_rfl
theorem auditPlace : (Rows.auditNoneRow.inPlace == Tryz.prog.inPlace 6) = true := by kernel_rfl
theorem auditUnf : (Rows.auditNoneRow.unfollowed == Tryz.prog.unfollowed 6) = true := by kernel_rfl
theorem auditRec : (Rows.auditNoneRow.recurses == Tryz.prog.recurses 6) = true := by kernel_rfl
theorem auditNamed : (Rows.auditNoneRow.named == Tryz.prog.varsNamed 6) = true := by kernel_rfl
theorem auditFacts : joinedFacts Tryz.prog 6 Tryz.f6 Rows.auditNoneSpec Rows.auditNoneRow = true :=
  joinedFacts_of progFacts auditPlain auditLift auditMake auditPlace auditUnf auditRec auditNamed (by kernel_rfl) (by kernel_rfl) (by kernel_rfl) (by kernel_rfl)
end Go.Proofs.YtgnnmpjafjlnfaaGreat
