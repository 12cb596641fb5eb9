/- the law LazyAgain: closed checks, slot by slot (5b). No condition. -/
import Derived.Test.YtjmjbjnbfodalaaGreatLzAgainK
set_option linter.unusedSimpArgs false
set_option linter.unusedVariables false
set_option linter.unusedSectionVars false
set_option maxRecDepth 1000000
namespace Go.Proofs.YtjmjbjnbfodalaaGreat
open Go.Tc
namespace lz
namespace la
theorem k5_4 : seg (chkK 5) 4 4 = true := by kernel_rfl
theorem rt5_4 : seg (chkR 5 516 true) 4 4 = true := by kernel_rfl
theorem rf5_4 : seg (chkR 5 516 false) 4 4 = true := by kernel_rfl
theorem rg5_4 : seg (chkG 5) 4 4 = true := by kernel_rfl
theorem nt5_4 : seg (chkN 5 1024 66052 fault) 4 4 = true := by kernel_rfl
theorem nf5_4 : seg (chkN 5 1024 0 fault) 4 4 = true := by kernel_rfl
theorem ng5_4 : seg (chkN 5 1024 0 rs.fltG) 4 4 = true := by kernel_rfl
theorem qt5_4 : seg (chkQ 5 1024 66052 fault) 4 4 = true := by kernel_rfl
theorem qf5_4 : seg (chkQ 5 1024 0 fault) 4 4 = true := by kernel_rfl
theorem m5_4 : seg (chkM 5 1024) 4 4 = true := by kernel_rfl
end la
end lz
end Go.Proofs.YtjmjbjnbfodalaaGreat
