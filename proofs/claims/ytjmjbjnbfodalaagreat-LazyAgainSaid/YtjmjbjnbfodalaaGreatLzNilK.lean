/- the laws of layer 23 with no slots: made, and the closed checks of LazySlots. No condition. -/
import Derived.Test.YtjmjbjnbfodalaaGreatLzLawK
import Derived.Test.YtjmjbjnbfodalaaGreatLzB0
set_option linter.unusedSimpArgs false
set_option linter.unusedVariables false
set_option linter.unusedSectionVars false
set_option maxRecDepth 1000000
namespace Go.Proofs.YtjmjbjnbfodalaaGreat
open Go.Tc
namespace lz
def xM0 : Fact := ⟨15, [iarr (.v 0), bi (.v 1)], 1, [], .tuple [.ptr 10 0, .agg membE, .nilSlice, .bool true], spaceE 3, 19⟩
def endM0 : St := { vars := [(4, .ptr 10 0), (5, .ptr 13 0), (6, .nilSlice), (7, .bool true)], loc := [], marks := [], objs := spaceE 3 ++ [(13, .row membE 50 .solid)], next := 19 }
def len0 : List (Tm × Tm) := [(.op .len [.v 0], .int 0)]
theorem kM0 : evFl P ((E0.know [b3, b6]).tab len0) 100000 md.cx none 1 md.L (startSt xM0) [] (subs [.v 0, .v 1]) [(13, 1), (1, 1426), (10, 2437), (11, 2436), (12, 2555), (14, 2566), (15, 2575), (16, 2584)] .ret endM0 = true := by kernel_rfl
theorem eM0 : endsSo P E0 md.cx md.fn xM0 endM0 = true := by kernel_rfl
namespace ls
end ls
end lz
end Go.Proofs.YtjmjbjnbfodalaaGreat
