/- closed facts of the given program and of the given row 'lazyEntriesRow', each reckoned by the kernel. No condition. -/
import Derived.Test.YtgnnmpjafjlnfaaGreatRows
import Derived.Test.YtgnnmpjafjlnfaaGreatOwn
import Derived.Test.YtgnnmpjafjlnfaaGreatTbRow
namespace Go.Proofs.YtgnnmpjafjlnfaaGreat
open Go.Tb
theorem entriesPlain : (Rows.lazyEntriesRow.plainKeys == Tryz.prog.plainKeys) = true := plainFact
theorem entriesLift : (Rows.lazyEntriesRow.lifted == Tryz.prog.liftsFinal) = true := liftFact
theorem entriesMake : (Tryz.prog.make == some Rows.lazyEntriesRow.make) = true := by kernel_rfl
theorem entriesPlace : (Rows.lazyEntriesRow.inPlace == Tryz.prog.inPlace 5) = true := by kernel_rfl
theorem entriesUnf : (Rows.lazyEntriesRow.unfollowed == Tryz.prog.unfollowed 5) = true := by kernel_rfl
theorem entriesRec : (Rows.lazyEntriesRow.recurses == Tryz.prog.recurses 5) = true := by kernel_rfl
theorem entriesNamed : (Rows.lazyEntriesRow.named == Tryz.prog.varsNamed 5) = true := by kernel_rfl
theorem entriesFacts : joinedFacts Tryz.prog 5 Tryz.f5 Rows.lazyEntriesSpec Rows.lazyEntriesRow = true :=
  joinedFacts_of progFacts entriesPlain entriesLift entriesMake entriesPlace entriesUnf entriesRec entriesNamed (by kernel_rfl) (by kernel_rfl) (by kernel_rfl) (by kernel_rfl)
end Go.Proofs.YtgnnmpjafjlnfaaGreat
