/- the law RtldNone, run by the evaluator where its first argument lies in one range: true, for any second argument. No condition. -/
import Derived.Test.YtmjibbnnpfbkfaaGreatDoorLaid
import Derived.Test.YtmjibbnnpfbkfaaGreatDoorRtldK
set_option maxRecDepth 1000000
namespace Go.Proofs.YtmjibbnnpfbkfaaGreatDoor
open Go.Tb
theorem true_neg : ∀ id : Int, saysTrue ((ev P (E0.know rt_negKnown) 100000).call 3 [.rng .i64 (-9223372036854775808) (-1), .int .i64 id] (Go.Tb.startHeap G laidRows)) = true := fun id => by kernel_rfl
theorem true_q0 : ∀ id : Int, saysTrue ((ev P (E0.know rt_q0Known) 100000).call 3 [.int .i64 0, .int .i64 id] (Go.Tb.startHeap G laidRows)) = true := fun id => by kernel_rfl
theorem true_q1 : ∀ id : Int, saysTrue ((ev P (E0.know rt_q1Known) 100000).call 3 [.int .i64 1, .int .i64 id] (Go.Tb.startHeap G laidRows)) = true := fun id => by kernel_rfl
end Go.Proofs.YtmjibbnnpfbkfaaGreatDoor
