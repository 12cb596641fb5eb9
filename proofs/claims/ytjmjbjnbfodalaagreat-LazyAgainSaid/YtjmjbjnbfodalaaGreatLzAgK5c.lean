/- the law LazyAgain: closed checks, slot by slot (5c). No condition. -/
import Derived.Test.YtjmjbjnbfodalaaGreatLzAgainK
set_option linter.unusedSimpArgs false
set_option linter.unusedVariables false
set_option linter.unusedSectionVars false
set_option maxRecDepth 1000000
namespace Go.Proofs.YtjmjbjnbfodalaaGreat
open Go.Tc
namespace lz
namespace la
theorem k5_8 : seg (chkK 5) 8 4 = true := by kernel_rfl
theorem rt5_8 : seg (chkR 5 516 true) 8 4 = true := by kernel_rfl
theorem rf5_8 : seg (chkR 5 516 false) 8 4 = true := by kernel_rfl
theorem rg5_8 : seg (chkG 5) 8 4 = true := by kernel_rfl
theorem nt5_8 : seg (chkN 5 1024 66052 fault) 8 4 = true := by kernel_rfl
theorem nf5_8 : seg (chkN 5 1024 0 fault) 8 4 = true := by kernel_rfl
theorem ng5_8 : seg (chkN 5 1024 0 rs.fltG) 8 4 = true := by kernel_rfl
theorem qt5_8 : seg (chkQ 5 1024 66052 fault) 8 4 = true := by kernel_rfl
theorem qf5_8 : seg (chkQ 5 1024 0 fault) 8 4 = true := by kernel_rfl
theorem m5_8 : seg (chkM 5 1024) 8 4 = true := by kernel_rfl
end la
end lz
end Go.Proofs.YtjmjbjnbfodalaaGreat
