/- the laws of layer 23 with no slots: made, and the closed checks of LazySlots. No condition. -/
import Derived.Test.YtjmjbjnbfodalaaGreatLzLawK
import Derived.Test.YtjmjbjnbfodalaaGreatLzB0
set_option linter.unusedSimpArgs false
set_option linter.unusedVariables false
set_option linter.unusedSectionVars false
set_option maxRecDepth 1000000
namespace Go.Proofs.YtjmjbjnbfodalaaGreat
open Go.Tc
namespace lz
def xM0 : Fact := ⟨15, [iarr (.v 0), bi (.v 1)], 1, [], .tuple [.ptr 10 0, .agg membE, .nilSlice, .bool true], spaceE 3, 19⟩
def endM0 : St := { vars := [(4, .ptr 10 0), (5, .ptr 13 0), (6, .nilSlice), (7, .bool true)], loc := [], marks := [], objs := spaceE 3 ++ [(13, .row membE 50 .solid)], next := 19 }
def len0 : List (Tm × Tm) := [(.op .len [.v 0], .int 0)]
theorem kM0 : evFl P ((E0.know [b3, b6]).tab len0) 100000 md.cx none 1 md.L (startSt xM0) [] (subs [.v 0, .v 1]) [(13, 1), (1, 1426), (10, 2437), (11, 2436), (12, 2555), (14, 2566), (15, 2575), (16, 2584)] .ret endM0 = true := by kernel_rfl
theorem eM0 : endsSo P E0 md.cx md.fn xM0 endM0 = true := by kernel_rfl
namespace ls
def y20 : Fact := ren .v up18 19 xM0
def vB0 : List (Nat × AV) := [(0, iarr (.v 0)), (1, bi (.v 1)), (2, iarr (.v 7)), (6, .bool false), (7, .ptr 10 0), (8, .ptr 13 0), (9, .nilSlice), (10, .bool true)]
def sB0 : St := { vars := vB0, loc := [], marks := [], objs := spaceE 3 ++ [mem], next := 19 }
def sC0 : St := { vars := vB0 ++ [(11, .ptr 28 0)], loc := [], marks := [], objs := spaceE 3 ++ mem :: tE 3, next := 37 }
def vD0 : List (Nat × AV) := [(0, iarr (.v 0)), (1, bi (.v 1)), (2, iarr (.v 7)), (6, .bool false), (7, .ptr 10 0), (8, .ptr 13 0), (9, .nilSlice), (11, .ptr 28 0)]
def sD0 : St := { vars := vD0, loc := [], marks := [], objs := spaceE 3 ++ mem :: tE 3, next := 37 }
def inv0 : St := { vars := vD0 ++ [(15, .slice 37 0 0 (.exact 0)), (16, bi (.v 9))], loc := [], marks := [], objs := spaceE 3 ++ mem :: tE 3 ++ [(37, .row [] 4 .solid)], next := 38 }
def fin00 : St := { vars := [(6, .bool false), (9, .nilSlice), (23, .int .i64 0)], loc := [], marks := [], objs := [], next := 1 }
theorem u10 : usesSo (tableNf []) G (subs (vs 2)) [] xM0 xM0 = true := by kernel_rfl
theorem u20 : usesSo (tableNf []) G (subs (vs 2)) [] xM0 y20 = true := by kernel_rfl
theorem b0 : evFl P ((E0.know [xM0]).tab []) 100000 cx none 1 (L4.take 1) sA [] (subs (vs 8)) (nmB 3) .normal sB0 = true := by kernel_rfl
theorem c0 : evFl P ((E0.know [y20]).tab []) 100000 cx none 1 (L5.take 1) sB0 [] (subs (vs 8)) (nmC 3) .normal sC0 = true := by kernel_rfl
theorem d0 : evFl P (E0.tab []) 100000 cx none 1 (L6.take 2) sC0 [] (subs (vs 8)) (nmC 3) .normal sD0 = true := by kernel_rfl
theorem e0 : evFl P (E0.tab []) 100000 cx none 1 (L8.take 2) sD0 [] (subs (vs 8 ++ [.int 0, .int 0])) (nmI 3) .normal inv0 = true := by kernel_rfl
def tO00 : List (Tm × Tm) := inC ++ [(.op (.bin .lss .i64) [callT, .int 0], .bool true), (.op (.bin .geq .i64) [callT, .int 0], .bool false)]
def tO01 : List (Tm × Tm) := inC ++ [(.op (.bin .lss .i64) [callT, .int 0], .bool false), (.op (.bin .geq .i64) [callT, .int 0], .bool true), (.op .not [.op (.bin .lss .i64) [callT, .int 0]], .bool true)]
theorem o00 : evFl P (E0.tab tO00) 100000 cx none 1 lp inv0 [] (subs (vs 9 ++ [nxt])) (nmI 3) .normal inv0 = true := by kernel_rfl
theorem o01 : evFl P (E0.tab tO01) 100000 cx none 1 lp inv0 [] (subs (vs 9 ++ [nxt])) (nmI 3) .normal inv0 = true := by kernel_rfl
theorem x00 : evFl P (E0.tab [ltC false]) 100000 cx none 1 lp inv0 [] (subs (vs 10)) (nmI 3) (.exit 0) inv0 = true := by kernel_rfl
theorem x01 : evFl P (E0.tab [ltC true, lt20 false]) 100000 cx none 1 lp inv0 [] (subs (vs 10)) (nmI 3) (.exit 0) inv0 = true := by kernel_rfl
theorem z00 (g : Tm) : evFl P (E0.tab []) 100000 cx none 1 L11 inv0 [] (subs [.v 0, g, .v 7]) [] .ret fin = true := by kernel_rfl
end ls
end lz
end Go.Proofs.YtjmjbjnbfodalaaGreat
