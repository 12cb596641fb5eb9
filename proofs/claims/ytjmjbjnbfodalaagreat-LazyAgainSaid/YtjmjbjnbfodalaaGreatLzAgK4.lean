/- the law LazyAgain: closed checks, slot by slot (4). No condition. -/
import Derived.Test.YtjmjbjnbfodalaaGreatLzAgainK
set_option linter.unusedSimpArgs false
set_option linter.unusedVariables false
set_option linter.unusedSectionVars false
set_option maxRecDepth 1000000
namespace Go.Proofs.YtjmjbjnbfodalaaGreat
open Go.Tc
namespace lz
namespace la
theorem k4_0 : seg (chkK 4) 0 4 = true := by kernel_rfl
theorem rt4_0 : seg (chkR 4 260 true) 0 4 = true := by kernel_rfl
theorem rf4_0 : seg (chkR 4 260 false) 0 4 = true := by kernel_rfl
theorem rg4_0 : seg (chkG 4) 0 4 = true := by kernel_rfl
theorem nt4_0 : seg (chkN 4 768 65796 fault) 0 4 = true := by kernel_rfl
theorem nf4_0 : seg (chkN 4 768 0 fault) 0 4 = true := by kernel_rfl
theorem ng4_0 : seg (chkN 4 768 0 rs.fltG) 0 4 = true := by kernel_rfl
theorem qt4_0 : seg (chkQ 4 768 65796 fault) 0 4 = true := by kernel_rfl
theorem qf4_0 : seg (chkQ 4 768 0 fault) 0 4 = true := by kernel_rfl
theorem m4_0 : seg (chkM 4 768) 0 4 = true := by kernel_rfl
theorem k4_4 : seg (chkK 4) 4 1 = true := by kernel_rfl
theorem rt4_4 : seg (chkR 4 260 true) 4 1 = true := by kernel_rfl
theorem rf4_4 : seg (chkR 4 260 false) 4 1 = true := by kernel_rfl
theorem rg4_4 : seg (chkG 4) 4 1 = true := by kernel_rfl
theorem nt4_4 : seg (chkN 4 768 65796 fault) 4 1 = true := by kernel_rfl
theorem nf4_4 : seg (chkN 4 768 0 fault) 4 1 = true := by kernel_rfl
theorem ng4_4 : seg (chkN 4 768 0 rs.fltG) 4 1 = true := by kernel_rfl
theorem qt4_4 : seg (chkQ 4 768 65796 fault) 4 1 = true := by kernel_rfl
theorem qf4_4 : seg (chkQ 4 768 0 fault) 4 1 = true := by kernel_rfl
theorem m4_4 : seg (chkM 4 768) 4 1 = true := by kernel_rfl
end la
end lz
end Go.Proofs.YtjmjbjnbfodalaaGreat
