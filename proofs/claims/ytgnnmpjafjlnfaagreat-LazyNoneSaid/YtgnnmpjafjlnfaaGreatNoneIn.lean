/- the law LazyNone, run by the evaluator where its second argument lies in one range: true, for any first argument. No condition. -/
import Derived.Test.YtgnnmpjafjlnfaaGreatNone
set_option maxRecDepth 1000000
namespace Go.Proofs.YtgnnmpjafjlnfaaGreat
open Go.Tb
theorem noneIn_low : saysTrue ((ev P (E0.know lnKnown) 100000).call 4 [(.rng .i64 (-9223372036854775808) (-1)), (.rng .i64 0 1073741824)] (Go.Tb.startHeap G [])) = true := by kernel_rfl
theorem noneIn_zero : saysTrue ((ev P (E0.know lnKnown) 100000).call 4 [(.int .i64 0), (.rng .i64 0 1073741824)] (Go.Tb.startHeap G [])) = true := by kernel_rfl
theorem noneIn_one : saysTrue ((ev P (E0.know lnKnown) 100000).call 4 [(.int .i64 1), (.rng .i64 0 1073741824)] (Go.Tb.startHeap G [])) = true := by kernel_rfl
theorem noneIn_high : saysTrue ((ev P (E0.know lnKnown) 100000).call 4 [(.rng .i64 2 9223372036854775807), (.rng .i64 0 1073741824)] (Go.Tb.startHeap G [])) = true := by kernel_rfl
end Go.Proofs.YtgnnmpjafjlnfaaGreat
