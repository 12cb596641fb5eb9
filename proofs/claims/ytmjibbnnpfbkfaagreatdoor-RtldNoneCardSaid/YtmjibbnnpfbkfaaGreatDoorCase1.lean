/- the law RtldNone, run by the evaluator where its first argument lies in one range: true, for any second argument. No condition. -/
import Derived.Test.YtmjibbnnpfbkfaaGreatDoorLaid
import Derived.Test.YtmjibbnnpfbkfaaGreatDoorRtldK
set_option maxRecDepth 1000000
namespace Go.Proofs.YtmjibbnnpfbkfaaGreatDoor
open Go.Tb
theorem true_q2 : ∀ id : Int, saysTrue ((ev P (E0.know rt_q2Known) 100000).call 3 [.int .i64 2, .int .i64 id] (Go.Tb.startHeap G laidRows)) = true := fun id => by kernel_rfl
theorem true_q3 : ∀ id : Int, saysTrue ((ev P (E0.know rt_q3Known) 100000).call 3 [.int .i64 3, .int .i64 id] (Go.Tb.startHeap G laidRows)) = true := fun id => by kernel_rfl
theorem true_big : ∀ id : Int, saysTrue ((ev P (E0.know rt_bigKnown) 100000).call 3 [.rng .i64 4097 9223372036854775807, .int .i64 id] (Go.Tb.startHeap G laidRows)) = true := fun id => by kernel_rfl
end Go.Proofs.YtmjibbnnpfbkfaaGreatDoor
