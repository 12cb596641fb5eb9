/- calls on the road of the law, each computed apart by the evaluator: what each answers, and what lies in memory behind it. No condition. -/
import Derived.Test.YtjmjbjnbfodalaaGreatSpB0
import Derived.Test.YtjmjbjnbfodalaaGreatSpB1
set_option linter.unusedSimpArgs false
set_option linter.unusedVariables false
set_option linter.unusedSectionVars false
set_option maxRecDepth 1000000
namespace Go.Proofs.YtjmjbjnbfodalaaGreat
open Go.Tc
def spB_known : List Fact := [spB2]
theorem spB_known_ok [Val] : ∀ x ∈ spB_known, x.Ok P G := (knows spB2_ok knowsNone)
end Go.Proofs.YtjmjbjnbfodalaaGreat
