/- the law RtldNone, run by the evaluator where its first argument lies in one range: true, for any second argument. No condition. -/
import Derived.Test.YtmjibbnnpfbkfaaGreatDoorLaid
import Derived.Test.YtmjibbnnpfbkfaaGreatDoorRtldK
set_option maxRecDepth 1000000
namespace Go.Proofs.YtmjibbnnpfbkfaaGreatDoor
open Go.Tb
theorem true_mid : ∀ id : Int, saysTrue ((ev P (E0.know rt_midKnown) 100000).call 3 [.rng .i64 4 4096, .int .i64 id] (Go.Tb.startHeap G laidRows)) = true := fun id => by kernel_rfl
end Go.Proofs.YtmjibbnnpfbkfaaGreatDoor
