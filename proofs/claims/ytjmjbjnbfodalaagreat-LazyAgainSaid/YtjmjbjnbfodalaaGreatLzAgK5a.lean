/- the law LazyAgain: closed checks, slot by slot (5a). No condition. -/
import Derived.Test.YtjmjbjnbfodalaaGreatLzAgainK
set_option linter.unusedSimpArgs false
set_option linter.unusedVariables false
set_option linter.unusedSectionVars false
set_option maxRecDepth 1000000
namespace Go.Proofs.YtjmjbjnbfodalaaGreat
open Go.Tc
namespace lz
namespace la
theorem k5_0 : seg (chkK 5) 0 4 = true := by kernel_rfl
theorem rt5_0 : seg (chkR 5 516 true) 0 4 = true := by kernel_rfl
theorem rf5_0 : seg (chkR 5 516 false) 0 4 = true := by kernel_rfl
theorem rg5_0 : seg (chkG 5) 0 4 = true := by kernel_rfl
theorem nt5_0 : seg (chkN 5 1024 66052 fault) 0 4 = true := by kernel_rfl
theorem nf5_0 : seg (chkN 5 1024 0 fault) 0 4 = true := by kernel_rfl
theorem ng5_0 : seg (chkN 5 1024 0 rs.fltG) 0 4 = true := by kernel_rfl
theorem qt5_0 : seg (chkQ 5 1024 66052 fault) 0 4 = true := by kernel_rfl
theorem qf5_0 : seg (chkQ 5 1024 0 fault) 0 4 = true := by kernel_rfl
theorem m5_0 : seg (chkM 5 1024) 0 4 = true := by kernel_rfl
end la
end lz
end Go.Proofs.YtjmjbjnbfodalaaGreat
