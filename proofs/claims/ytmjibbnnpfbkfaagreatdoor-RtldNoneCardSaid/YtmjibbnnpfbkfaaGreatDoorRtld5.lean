/- calls on the road of the law, each computed apart by the evaluator: what each answers, and what lies in memory behind it. No condition. -/
import Derived.Test.YtmjibbnnpfbkfaaGreatDoorEnv
set_option maxRecDepth 1000000
namespace Go.Proofs.YtmjibbnnpfbkfaaGreatDoor
open Go.Tb
-- (*turnbuckle/vmem.Space).Poke
def rt15 : Fact where
  f := 217
  args := [(.ptr 9506 0), (.int .u64 65536), (.str ⟨41, 0x100000001000000000000000000000000000000000000000000000000000000000000000000000000⟩)]
  next := 11091
  pre := [(11023, (.row [(.int .u64 65536), (.int .u64 66560)] 208 (.buf 0 false))), (11048, (.row (rle [(1, (.int .i64 6)), (256, (.int .u8 0))]) 401 .solid)), (10907, (.row (rle [(1, (.int .i64 6)), (256, (.int .u8 0))]) 401 .solid)), (10768, (.row (rle [(1, (.int .i64 6)), (256, (.int .u8 0))]) 401 .solid)), (10629, (.row (rle [(1, (.int .i64 6)), (256, (.int .u8 0))]) 401 .solid)), (9505, (.map [⟨(.int .u64 65536), (.ptr 10629 0), 0⟩, ⟨(.int .u64 65792), (.ptr 10768 0), 1⟩, ⟨(.int .u64 66048), (.ptr 10907 0), 2⟩, ⟨(.int .u64 66304), (.ptr 11048 0), 3⟩] 4)), (9506, (.row [(.map 9505), (.slice 11023 0 1 (.opn 2)), (.rng .i64 4 4096)] 136 .solid))]
  r := (.agg [(.int .i64 0), (.int .u64 0), (.str ⟨0, 0⟩)])
  objs := [(9506, (.row [(.map 9505), (.slice 11023 0 1 (.opn 2)), (.rng .i64 4 4096)] 136 .solid)), (9505, (.map [⟨(.int .u64 65536), (.ptr 10629 0), 0⟩, ⟨(.int .u64 65792), (.ptr 10768 0), 1⟩, ⟨(.int .u64 66048), (.ptr 10907 0), 2⟩, ⟨(.int .u64 66304), (.ptr 11048 0), 3⟩] 4)), (10629, (.row (rle [(1, (.int .i64 6)), (1, (.int .u8 1)), (3, (.int .u8 0)), (1, (.int .u8 1)), (251, (.int .u8 0))]) 401 .solid)), (10768, (.row (rle [(1, (.int .i64 6)), (256, (.int .u8 0))]) 401 .solid)), (10907, (.row (rle [(1, (.int .i64 6)), (256, (.int .u8 0))]) 401 .solid)), (11048, (.row (rle [(1, (.int .i64 6)), (256, (.int .u8 0))]) 401 .solid)), (11023, (.row [(.int .u64 65536), (.int .u64 66560)] 208 (.buf 0 false)))]
  next' := 11628
theorem rt15_ok : rt15.Ok P G := Fact.ok_of (n := 100000) (EnvOk.know env0 (l := []) (knowsNone)) (by kernel_rfl)

-- (*turnbuckle/vmem.Space).Poke
def rt16 : Fact where
  f := 217
  args := [(.ptr 9506 0), (.int .u64 65792), (.str ⟨64, 0⟩)]
  next := 11662
  pre := [(11023, (.row [(.int .u64 65536), (.int .u64 66560)] 208 (.buf 0 false))), (11048, (.row (rle [(1, (.int .i64 6)), (256, (.int .u8 0))]) 401 .solid)), (10907, (.row (rle [(1, (.int .i64 6)), (256, (.int .u8 0))]) 401 .solid)), (10768, (.row (rle [(1, (.int .i64 6)), (256, (.int .u8 0))]) 401 .solid)), (10629, (.row (rle [(1, (.int .i64 6)), (1, (.int .u8 1)), (3, (.int .u8 0)), (1, (.int .u8 1)), (251, (.int .u8 0))]) 401 .solid)), (9505, (.map [⟨(.int .u64 65536), (.ptr 10629 0), 0⟩, ⟨(.int .u64 65792), (.ptr 10768 0), 1⟩, ⟨(.int .u64 66048), (.ptr 10907 0), 2⟩, ⟨(.int .u64 66304), (.ptr 11048 0), 3⟩] 4)), (9506, (.row [(.map 9505), (.slice 11023 0 1 (.opn 2)), (.rng .i64 4 4096)] 136 .solid))]
  r := (.agg [(.int .i64 0), (.int .u64 0), (.str ⟨0, 0⟩)])
  objs := [(9506, (.row [(.map 9505), (.slice 11023 0 1 (.opn 2)), (.rng .i64 4 4096)] 136 .solid)), (9505, (.map [⟨(.int .u64 65536), (.ptr 10629 0), 0⟩, ⟨(.int .u64 65792), (.ptr 10768 0), 1⟩, ⟨(.int .u64 66048), (.ptr 10907 0), 2⟩, ⟨(.int .u64 66304), (.ptr 11048 0), 3⟩] 4)), (10629, (.row (rle [(1, (.int .i64 6)), (1, (.int .u8 1)), (3, (.int .u8 0)), (1, (.int .u8 1)), (251, (.int .u8 0))]) 401 .solid)), (10768, (.row (rle [(1, (.int .i64 6)), (256, (.int .u8 0))]) 401 .solid)), (10907, (.row (rle [(1, (.int .i64 6)), (256, (.int .u8 0))]) 401 .solid)), (11048, (.row (rle [(1, (.int .i64 6)), (256, (.int .u8 0))]) 401 .solid)), (11023, (.row [(.int .u64 65536), (.int .u64 66560)] 208 (.buf 0 false)))]
  next' := 12498
theorem rt16_ok : rt16.Ok P G := Fact.ok_of (n := 100000) (EnvOk.know env0 (l := []) (knowsNone)) (by kernel_rfl)

-- (*turnbuckle/vmem.Space).Poke
def rt17 : Fact where
  f := 217
  args := [(.ptr 9506 0), (.int .u64 66048), (.str ⟨144, 0x40000000000000000000000000000000600000000000000100000000000000007000000000000002800000000000000080000000000000000000000000000001700000000000000280000000000000002000000000000000000000000000000050000000000000028000000000000000a00000000000000010000000000000000000000000000000000000000000000⟩)]
  next := 12534
  pre := [(11023, (.row [(.int .u64 65536), (.int .u64 66560)] 208 (.buf 0 false))), (11048, (.row (rle [(1, (.int .i64 6)), (256, (.int .u8 0))]) 401 .solid)), (10907, (.row (rle [(1, (.int .i64 6)), (256, (.int .u8 0))]) 401 .solid)), (10768, (.row (rle [(1, (.int .i64 6)), (256, (.int .u8 0))]) 401 .solid)), (10629, (.row (rle [(1, (.int .i64 6)), (1, (.int .u8 1)), (3, (.int .u8 0)), (1, (.int .u8 1)), (251, (.int .u8 0))]) 401 .solid)), (9505, (.map [⟨(.int .u64 65536), (.ptr 10629 0), 0⟩, ⟨(.int .u64 65792), (.ptr 10768 0), 1⟩, ⟨(.int .u64 66048), (.ptr 10907 0), 2⟩, ⟨(.int .u64 66304), (.ptr 11048 0), 3⟩] 4)), (9506, (.row [(.map 9505), (.slice 11023 0 1 (.opn 2)), (.rng .i64 4 4096)] 136 .solid))]
  r := (.agg [(.int .i64 0), (.int .u64 0), (.str ⟨0, 0⟩)])
  objs := [(9506, (.row [(.map 9505), (.slice 11023 0 1 (.opn 2)), (.rng .i64 4 4096)] 136 .solid)), (9505, (.map [⟨(.int .u64 65536), (.ptr 10629 0), 0⟩, ⟨(.int .u64 65792), (.ptr 10768 0), 1⟩, ⟨(.int .u64 66048), (.ptr 10907 0), 2⟩, ⟨(.int .u64 66304), (.ptr 11048 0), 3⟩] 4)), (10629, (.row (rle [(1, (.int .i64 6)), (1, (.int .u8 1)), (3, (.int .u8 0)), (1, (.int .u8 1)), (251, (.int .u8 0))]) 401 .solid)), (10768, (.row (rle [(1, (.int .i64 6)), (256, (.int .u8 0))]) 401 .solid)), (10907, (.row (rle [(1, (.int .i64 6)), (1, (.int .u8 4)), (15, (.int .u8 0)), (1, (.int .u8 6)), (7, (.int .u8 0)), (1, (.int .u8 16)), (7, (.int .u8 0)), (1, (.int .u8 7)), (7, (.int .u8 0)), (1, (.int .u8 40)), (7, (.int .u8 0)), (1, (.int .u8 8)), (15, (.int .u8 0)), (1, (.int .u8 23)), (7, (.int .u8 0)), (1, (.int .u8 40)), (7, (.int .u8 0)), (1, (.int .u8 2)), (15, (.int .u8 0)), (1, (.int .u8 5)), (7, (.int .u8 0)), (1, (.int .u8 40)), (7, (.int .u8 0)), (1, (.int .u8 10)), (7, (.int .u8 0)), (1, (.int .u8 1)), (135, (.int .u8 0))]) 401 .solid)), (11048, (.row (rle [(1, (.int .i64 6)), (256, (.int .u8 0))]) 401 .solid)), (11023, (.row [(.int .u64 65536), (.int .u64 66560)] 208 (.buf 0 false)))]
  next' := 14410
theorem rt17_ok : rt17.Ok P G := Fact.ok_of (n := 100000) (EnvOk.know env0 (l := []) (knowsNone)) (by kernel_rfl)

end Go.Proofs.YtmjibbnnpfbkfaaGreatDoor
