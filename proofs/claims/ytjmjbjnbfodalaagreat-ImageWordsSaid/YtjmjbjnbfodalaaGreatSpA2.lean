/- calls on the road of the law, each computed apart by the evaluator: what each answers, and what lies in memory behind it. No condition. -/
import Derived.Test.YtjmjbjnbfodalaaGreatEnv
set_option linter.unusedSimpArgs false
set_option linter.unusedVariables false
set_option linter.unusedSectionVars false
set_option maxRecDepth 1000000
namespace Go.Proofs.YtjmjbjnbfodalaaGreat
open Go.Tc
-- (*turnbuckle/vmem.Space).Poke
def spA3 : Fact where
  f := 49
  args := [(.ptr 1600 0), (.int .u64 66048), (.str ⟨144, 0x40000000000000000000000000000000600000000000000100000000000000007000000000000002800000000000000080000000000000000000000000000001700000000000000280000000000000002000000000000000000000000000000050000000000000028000000000000000a00000000000000010000000000000000000000000000000000000000000000⟩)]
  next := 2875
  pre := [(2144, (.row [(.int .u64 65536), (.int .u64 66560)] 96 (.buf 0 false))), (2169, (.row (rle [(1, (.int .i64 6)), (256, (.int .u8 0))]) 131 .solid)), (2028, (.row (rle [(1, (.int .i64 6)), (256, (.int .u8 0))]) 131 .solid)), (1889, (.row (rle [(1, (.int .i64 6)), (256, (.int .u8 0))]) 131 .solid)), (1750, (.row (rle [(1, (.int .i64 6)), (1, (.int .u8 1)), (3, (.int .u8 0)), (1, (.int .u8 1)), (251, (.int .u8 0))]) 131 .solid)), (1599, (.map [⟨(.int .u64 65536), (.ptr 1750 0), 0⟩, ⟨(.int .u64 65792), (.ptr 1889 0), 1⟩, ⟨(.int .u64 66048), (.ptr 2028 0), 2⟩, ⟨(.int .u64 66304), (.ptr 2169 0), 3⟩] 4)), (1600, (.row [(.map 1599), (.slice 2144 0 1 (.opn 2)), (.int .i64 40)] 122 .solid))]
  r := (.agg [(.int .i64 0), (.int .u64 0), (.str ⟨0, 0⟩)])
  objs := [(1600, (.row [(.map 1599), (.slice 2144 0 1 (.opn 2)), (.int .i64 40)] 122 .solid)), (1599, (.map [⟨(.int .u64 65536), (.ptr 1750 0), 0⟩, ⟨(.int .u64 65792), (.ptr 1889 0), 1⟩, ⟨(.int .u64 66048), (.ptr 2028 0), 2⟩, ⟨(.int .u64 66304), (.ptr 2169 0), 3⟩] 4)), (1750, (.row (rle [(1, (.int .i64 6)), (1, (.int .u8 1)), (3, (.int .u8 0)), (1, (.int .u8 1)), (251, (.int .u8 0))]) 131 .solid)), (1889, (.row (rle [(1, (.int .i64 6)), (256, (.int .u8 0))]) 131 .solid)), (2028, (.row (rle [(1, (.int .i64 6)), (1, (.int .u8 4)), (15, (.int .u8 0)), (1, (.int .u8 6)), (7, (.int .u8 0)), (1, (.int .u8 16)), (7, (.int .u8 0)), (1, (.int .u8 7)), (7, (.int .u8 0)), (1, (.int .u8 40)), (7, (.int .u8 0)), (1, (.int .u8 8)), (15, (.int .u8 0)), (1, (.int .u8 23)), (7, (.int .u8 0)), (1, (.int .u8 40)), (7, (.int .u8 0)), (1, (.int .u8 2)), (15, (.int .u8 0)), (1, (.int .u8 5)), (7, (.int .u8 0)), (1, (.int .u8 40)), (7, (.int .u8 0)), (1, (.int .u8 10)), (7, (.int .u8 0)), (1, (.int .u8 1)), (135, (.int .u8 0))]) 131 .solid)), (2169, (.row (rle [(1, (.int .i64 6)), (256, (.int .u8 0))]) 131 .solid)), (2144, (.row [(.int .u64 65536), (.int .u64 66560)] 96 (.buf 0 false)))]
  next' := 4751
theorem spA3_ok [Val] : spA3.Ok P G := Fact.ok_of (n := 100000) (EnvOk.know env0 (l := []) (knowsNone)) (by kernel_rfl)

end Go.Proofs.YtjmjbjnbfodalaaGreat
