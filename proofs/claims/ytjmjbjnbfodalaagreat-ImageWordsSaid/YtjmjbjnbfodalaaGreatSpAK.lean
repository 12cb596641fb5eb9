/- calls on the road of the law, each computed apart by the evaluator: what each answers, and what lies in memory behind it. No condition. -/
import Derived.Test.YtjmjbjnbfodalaaGreatSpA0
import Derived.Test.YtjmjbjnbfodalaaGreatSpA1
import Derived.Test.YtjmjbjnbfodalaaGreatSpA2
import Derived.Test.YtjmjbjnbfodalaaGreatSpA3
set_option linter.unusedSimpArgs false
set_option linter.unusedVariables false
set_option linter.unusedSectionVars false
set_option maxRecDepth 1000000
namespace Go.Proofs.YtjmjbjnbfodalaaGreat
open Go.Tc
def spA_known : List Fact := [spA2, spA5]
theorem spA_known_ok [Val] : ∀ x ∈ spA_known, x.Ok P G := (knows spA2_ok (knows spA5_ok knowsNone))
end Go.Proofs.YtjmjbjnbfodalaaGreat
