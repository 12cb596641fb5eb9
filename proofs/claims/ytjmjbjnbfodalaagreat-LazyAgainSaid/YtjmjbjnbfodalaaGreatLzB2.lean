/- files with 2 slots: what pack.Build and object.Read answer, in parts. No condition. -/
import Derived.Test.YtjmjbjnbfodalaaGreatLzE
set_option linter.unusedSimpArgs false
set_option linter.unusedVariables false
set_option linter.unusedSectionVars false
set_option maxRecDepth 1000000
namespace Go.Proofs.YtjmjbjnbfodalaaGreat
open Go.Tc
def q2_0 : Nat × AObj := (3, (.row [(.str ⟨1, 102⟩), (.str ⟨0, 0⟩), (.str ⟨0, 0⟩), (.bool false), (i64 1), (i64 0), (i64 1), (w64 4), (.str ⟨1, 103⟩), (.str ⟨0, 0⟩), (.str ⟨0, 0⟩), (.bool false), (i64 1), (i64 0), (i64 0), (w64 0), (.str ⟨1, 104⟩), (.str ⟨0, 0⟩), (.str ⟨0, 0⟩), (.bool false), (i64 2), (i64 0), (i64 0), (w64 0)] 139 .solid))
def q2_1 : Nat × AObj := (641, (.row [(w64 4), (w64 0), (w64 6), (w64 32), (w64 7), (w64 128), (w64 8), (w64 0), (w64 23), (w64 128), (w64 2), (w64 48), (w64 5), (w64 176), (w64 10), (w64 7)] 259 (.buf 0 false)))
def q2_2 : Nat × AObj := (639, (.row (rle [(1, (w8 2)), (3, (w8 0)), (1, (w8 4)), (3, (w8 0)), (1, (w8 3)), (3, (w8 0)), (1, (w8 2)), (15, (w8 0)), (1, (w8 1)), (27, (w8 0)), (1, (w8 1)), (3, (w8 0)), (1, (w8 16)), (1, (w8 0)), (1, (w8 1)), (1, (w8 0)), (1, (w8 4)), (15, (w8 0)), (1, (w8 3)), (3, (w8 0)), (1, (w8 16)), (19, (w8 0)), (1, (w8 5)), (3, (w8 0)), (1, (w8 32)), (27, (w8 0)), (1, (w8 5)), (3, (w8 0)), (1, (sb 14)), (11, (w8 0)), (1, (w8 8)), (7, (w8 0)), (1, (w8 5)), (3, (w8 0)), (1, (sb 15)), (12, (w8 0)), (1, (w8 102)), (1, (w8 0)), (1, (w8 103)), (1, (w8 0)), (1, (w8 104)), (1, (w8 0))]) 5 (.buf 0 false)))
def q2_3 : Nat × AObj := (130, (.map [⟨(.str ⟨0, 0⟩), (i64 0), 0⟩, ⟨(.str ⟨1, 102⟩), (i64 1), 1⟩, ⟨(.str ⟨1, 103⟩), (i64 3), 2⟩, ⟨(.str ⟨1, 104⟩), (i64 5), 3⟩] 4))
def q2_4 : Nat × AObj := (447, (.row [(w8 0), (w8 102), (w8 0), (w8 103), (w8 0), (w8 104), (w8 0)] 5 (.buf 7 false)))
def q2_5 : Nat × AObj := (1224, (.row [(w64 4), (w64 0), (w64 6), (w64 32), (w64 7), (w64 128), (w64 8), (w64 0), (w64 23), (w64 128), (w64 2), (w64 48), (w64 5), (w64 176), (w64 10), (w64 7)] 259 (.buf 0 false)))
def q2_6 : Nat × AObj := (1222, (.row (rle [(1, (w8 2)), (3, (w8 0)), (1, (w8 4)), (3, (w8 0)), (1, (w8 3)), (3, (w8 0)), (1, (w8 2)), (15, (w8 0)), (1, (w8 1)), (27, (w8 0)), (1, (w8 1)), (3, (w8 0)), (1, (w8 16)), (1, (w8 0)), (1, (w8 1)), (1, (w8 0)), (1, (w8 4)), (1, (w8 1)), (14, (w8 0)), (1, (w8 3)), (3, (w8 0)), (1, (w8 16)), (19, (w8 0)), (1, (w8 5)), (3, (w8 0)), (1, (w8 32)), (20, (w8 0)), (1, (w8 3)), (6, (w8 0)), (1, (w8 5)), (3, (w8 0)), (1, (sb 14)), (11, (w8 0)), (1, (w8 8)), (1, (w8 3)), (6, (w8 0)), (1, (w8 5)), (3, (w8 0)), (1, (sb 15)), (12, (w8 0)), (1, (w8 102)), (1, (w8 0)), (1, (w8 103)), (1, (w8 0)), (1, (w8 104)), (1, (w8 0))]) 5 (.buf 0 false)))
def q2_7 : Nat × AObj := (713, (.map [⟨(.str ⟨0, 0⟩), (i64 0), 0⟩, ⟨(.str ⟨1, 102⟩), (i64 1), 1⟩, ⟨(.str ⟨1, 103⟩), (i64 3), 2⟩, ⟨(.str ⟨1, 104⟩), (i64 5), 3⟩] 4))
def q2_8 : Nat × AObj := (1030, (.row [(w8 0), (w8 102), (w8 0), (w8 103), (w8 0), (w8 104), (w8 0)] 5 (.buf 7 false)))
def q2_9 : Nat × AObj := (118, (.row [(.str ⟨0, 0⟩), .nilSlice, (.slice 3 0 3 (.exact 3)), (.str ⟨16, 0⟩), (.str ⟨0, 0⟩), .nilSlice, (.slice 32 0 2 (.opn 1)), .nilSlice, .nilSlice, (.bool false), (.bool false), (.bool false), (w64 256), (w64 272), (w64 512), (w64 768), (w64 784), (.slice 129 0 3 (.exact 3)), (.ptr 118 18), (.slice 1030 0 7 (.opn 1)), (.map 713), (.slice 128 0 3 (.opn 1)), (i64 1), (.map 716), .nilSlice, (.ptr 118 25), (.slice 1222 0 183 (.opn 1)), (.slice 1224 0 8 (.opn 2))] 193 .solid))
def q2_10 : Nat × AObj := (1222, (.row (rle [(1, (w8 2)), (3, (w8 0)), (1, (w8 4)), (3, (w8 0)), (1, (w8 3)), (3, (w8 0)), (1, (w8 2)), (15, (w8 0)), (1, (w8 1)), (27, (w8 0)), (1, (w8 1)), (3, (w8 0)), (1, (w8 16)), (1, (w8 0)), (1, (w8 1)), (1, (w8 0)), (1, (w8 4)), (1, (w8 1)), (14, (w8 0)), (1, (w8 3)), (3, (w8 0)), (1, (w8 16)), (19, (w8 0)), (1, (w8 5)), (3, (w8 0)), (1, (w8 32)), (20, (w8 0)), (1, (w8 3)), (6, (w8 0)), (1, (w8 5)), (3, (w8 0)), (1, (sb 14)), (11, (w8 0)), (1, (w8 8)), (1, (w8 3)), (6, (w8 0)), (1, (w8 5)), (3, (w8 0)), (1, (sb 15)), (12, (w8 0)), (1, (w8 102)), (1, (w8 0)), (1, (w8 103)), (1, (w8 0)), (1, (w8 104)), (1, (w8 0))]) 5 (.buf 183 false)))
def q2_11 : Nat × AObj := (3048, (.row [(w32 1), (i64 4), (w64 400), (w64 0), (w64 183), (w64 183), (w32 1), (i64 5), (w64 583), (w64 256), (w64 40), (w64 40), (w32 1), (i64 6), (w64 623), (w64 512), (w64 144), (w64 144), (w32 2), (i64 6), (w64 623), (w64 512), (w64 144), (w64 144), (w32 0x6474e552), (i64 4), (w64 623), (w64 512), (w64 0), (w64 256), (w32 1), (i64 6), (w64 767), (w64 768), (w64 16), (w64 16)] 169 (.buf 0 false)))
def q2_12 : Nat × AObj := (3176, (.row [(w64 4), (w64 0), (w64 6), (w64 32), (w64 7), (w64 128), (w64 8), (w64 0), (w64 23), (w64 128), (w64 2), (w64 48), (w64 5), (w64 176), (w64 10), (w64 7)] 259 (.buf 0 false)))
def q2_13 : Nat × AObj := (3303, (.row [(w32 3), (w32 2), (w32 0), (w32 0), (w32 0), (w32 1)] 167 (.buf 0 false)))
def q2_14 : Nat × AObj := (3627, (.row [(.str ⟨0, 0⟩), (i64 0), (i64 0), (i64 0), (.bool false), (w64 0), (w64 0), (.str ⟨1, 102⟩), (i64 1), (i64 0), (i64 0), (.bool true), (w64 260), (w64 0), (.str ⟨1, 103⟩), (i64 1), (i64 0), (i64 0), (.bool false), (w64 0), (w64 0), (.str ⟨1, 104⟩), (i64 2), (i64 0), (i64 0), (.bool false), (w64 0), (w64 0)] 150 (.buf 0 false)))
def q2_15 : Nat × AObj := (3687, (.row [(.str ⟨0, 0⟩), (.str ⟨0, 0⟩), (.bool false), (.str ⟨0, 0⟩), (.str ⟨0, 0⟩), (.bool false), (.str ⟨0, 0⟩), (.str ⟨0, 0⟩), (.bool false), (.str ⟨0, 0⟩), (.str ⟨0, 0⟩), (.bool false)] 210 .solid))
def q2_16 : Nat × AObj := (3850, (.row [(w64 768), (i64 5), (si 14), (w64 0), (w64 776), (i64 5), (si 15), (w64 0)] 31 (.buf 0 false)))
def b15 : Fact where
  f := 73
  args := [(.agg [(.str ⟨0, 0⟩), .nilSlice, (.slice 3 0 3 (.exact 3)), (.str ⟨16, 0⟩), (.str ⟨0, 0⟩), .nilSlice, (.slice 32 0 2 (.opn 1)), .nilSlice, .nilSlice, (.bool false), (.bool false), (.bool false)])]
  next := 35
  pre := [(32, (.row [(si 2), (si 3)] 3 (.buf 0 false))), q2_0]
  r := (.bool true)
  objs := [q2_0, (32, (.row [(si 2), (si 3)] 3 (.buf 0 false)))]
  next' := 118
theorem b15_ok [Val] (h : AllEq tab2) : b15.Ok P G := Fact.ok_of (n := 100000) (EnvOk.know (EnvOk.tab env0 h) (l := []) knowsNone) (by kernel_rfl)
def b16 : Fact where
  f := 75
  args := [(.ptr 118 0)]
  next := 130
  pre := [(128, (.row [(i64 0), (i64 1), (i64 2)] 3 (.buf 0 false))), (129, (.row [(i64 1), (i64 2), (i64 3)] 3 .solid)), (32, (.row [(si 2), (si 3)] 3 (.buf 0 false))), q2_0, (118, (.row [(.str ⟨0, 0⟩), .nilSlice, (.slice 3 0 3 (.exact 3)), (.str ⟨16, 0⟩), (.str ⟨0, 0⟩), .nilSlice, (.slice 32 0 2 (.opn 1)), .nilSlice, .nilSlice, (.bool false), (.bool false), (.bool false), (w64 0), (w64 0), (w64 0), (w64 0), (w64 0), (.slice 129 0 3 (.exact 3)), .nilPtr, .nilSlice, .nilMap, (.slice 128 0 3 (.opn 1)), (i64 1), .nilMap, .nilSlice, .nilPtr, .nilSlice, .nilSlice] 193 .solid))]
  r := (.tuple [])
  objs := [q2_1, q2_2, (133, (.map [] 0)), q2_3, q2_4, (118, (.row [(.str ⟨0, 0⟩), .nilSlice, (.slice 3 0 3 (.exact 3)), (.str ⟨16, 0⟩), (.str ⟨0, 0⟩), .nilSlice, (.slice 32 0 2 (.opn 1)), .nilSlice, .nilSlice, (.bool false), (.bool false), (.bool false), (w64 0), (w64 0), (w64 0), (w64 0), (w64 0), (.slice 129 0 3 (.exact 3)), (.ptr 118 18), (.slice 447 0 7 (.opn 1)), (.map 130), (.slice 128 0 3 (.opn 1)), (i64 1), (.map 133), .nilSlice, (.ptr 118 25), (.slice 639 0 183 (.opn 1)), (.slice 641 0 8 (.opn 2))] 193 .solid)), q2_0, (32, (.row [(si 2), (si 3)] 3 (.buf 0 false))), (129, (.row [(i64 1), (i64 2), (i64 3)] 3 .solid)), (128, (.row [(i64 0), (i64 1), (i64 2)] 3 (.buf 0 false)))]
  next' := 642
theorem b16_ok [Val] (h : AllEq tab2) : b16.Ok P G := Fact.ok_of (n := 100000) (EnvOk.know (EnvOk.tab env0 h) (l := []) knowsNone) (by kernel_rfl)
def b17 : Fact where
  f := 75
  args := [(.ptr 118 0)]
  next := 713
  pre := [q2_1, q2_2, (133, (.map [] 0)), (128, (.row [(i64 0), (i64 1), (i64 2)] 3 (.buf 0 false))), q2_3, q2_4, (129, (.row [(i64 1), (i64 2), (i64 3)] 3 .solid)), (32, (.row [(si 2), (si 3)] 3 (.buf 0 false))), q2_0, (118, (.row [(.str ⟨0, 0⟩), .nilSlice, (.slice 3 0 3 (.exact 3)), (.str ⟨16, 0⟩), (.str ⟨0, 0⟩), .nilSlice, (.slice 32 0 2 (.opn 1)), .nilSlice, .nilSlice, (.bool false), (.bool false), (.bool false), (w64 256), (w64 272), (w64 512), (w64 768), (w64 784), (.slice 129 0 3 (.exact 3)), (.ptr 118 18), (.slice 447 0 7 (.opn 1)), (.map 130), (.slice 128 0 3 (.opn 1)), (i64 1), (.map 133), .nilSlice, (.ptr 118 25), (.slice 639 0 183 (.opn 1)), (.slice 641 0 8 (.opn 2))] 193 .solid))]
  r := (.tuple [])
  objs := [q2_5, q2_6, (716, (.map [] 0)), q2_7, q2_8, q2_9, q2_0, (32, (.row [(si 2), (si 3)] 3 (.buf 0 false))), (129, (.row [(i64 1), (i64 2), (i64 3)] 3 .solid)), q2_4, q2_3, (128, (.row [(i64 0), (i64 1), (i64 2)] 3 (.buf 0 false))), (133, (.map [] 0)), q2_2, q2_1]
  next' := 1225
theorem b17_ok [Val] (h : AllEq tab2) : b17.Ok P G := Fact.ok_of (n := 100000) (EnvOk.know (EnvOk.tab env0 h) (l := []) knowsNone) (by kernel_rfl)
def b18 : Fact where
  f := 150
  args := [(.ptr 118 0)]
  next := 1297
  pre := [q2_5, q2_10, (716, (.map [] 0)), (128, (.row [(i64 0), (i64 1), (i64 2)] 3 (.buf 0 false))), q2_7, q2_8, (129, (.row [(i64 1), (i64 2), (i64 3)] 3 .solid)), (32, (.row [(si 2), (si 3)] 3 (.buf 0 false))), q2_0, q2_9]
  r := (.str ⟨24, 0x170e0000033e0e1f67000e00170e0000033ece1e67000e00⟩)
  objs := [q2_9, q2_0, (32, (.row [(si 2), (si 3)] 3 (.buf 0 false))), (129, (.row [(i64 1), (i64 2), (i64 3)] 3 .solid)), q2_8, q2_7, (128, (.row [(i64 0), (i64 1), (i64 2)] 3 (.buf 0 false))), (716, (.map [] 0)), q2_10, q2_5]
  next' := 2687
theorem b18_ok [Val] (h : AllEq tab2) : b18.Ok P G := Fact.ok_of (n := 100000) (EnvOk.know (EnvOk.tab env0 h) (l := [e0.at_ 1298, e1.at_ 1431, e2.at_ 1808, e0.at_ 1993, e3.at_ 2126, e2.at_ 2503]) (knows (e0_at (by decide)) (knows (e1_at (by decide)) (knows (e2_at (by decide)) (knows (e0_at (by decide)) (knows (e3_at (by decide)) (knows (e2_at (by decide)) knowsNone))))))) (by kernel_rfl)
def b19 : Fact where
  f := 79
  args := [(.ptr 118 0)]
  next := 1234
  pre := [q2_5, q2_6, (716, (.map [] 0)), (128, (.row [(i64 0), (i64 1), (i64 2)] 3 (.buf 0 false))), q2_7, q2_8, (129, (.row [(i64 1), (i64 2), (i64 3)] 3 .solid)), (32, (.row [(si 2), (si 3)] 3 (.buf 0 false))), q2_0, q2_9]
  r := (.sy .str (.op (.hole [540, 564]) [(.str T2), (yb 14), (yb 15)]))
  objs := [q2_9, q2_0, (32, (.row [(si 2), (si 3)] 3 (.buf 0 false))), (129, (.row [(i64 1), (i64 2), (i64 3)] 3 .solid)), q2_8, q2_7, (128, (.row [(i64 0), (i64 1), (i64 2)] 3 (.buf 0 false))), (716, (.map [] 0)), q2_10, q2_5]
  next' := 2961
theorem b19_ok [Val] (h : AllEq tab2) : b19.Ok P G := Fact.ok_of (n := 100000) (EnvOk.know (EnvOk.tab env0 h) (l := [b18]) (knows (b18_ok h) knowsNone)) (by kernel_rfl)
def b20 : Fact where
  f := 45
  args := [(.agg [(.str ⟨0, 0⟩), .nilSlice, (.slice 3 0 3 (.exact 3)), (.str ⟨16, 0⟩), (.str ⟨0, 0⟩), .nilSlice, (.slice 32 0 2 (.opn 1)), .nilSlice, .nilSlice, (.bool false), (.bool false), (.bool false)])]
  next := 33
  pre := [(32, (.row [(si 2), (si 3)] 3 (.buf 0 false))), q2_0]
  r := (.tuple [(.sy .str (.op (.hole [540, 564]) [(.str T2), (yb 14), (yb 15)])), (.agg [(w64 256), (w64 272), (w64 512), (w64 768), (w64 784), (.slice 129 0 3 (.exact 3))]), (i64 0)])
  objs := [q2_0, (32, (.row [(si 2), (si 3)] 3 (.buf 0 false))), (129, (.row [(i64 1), (i64 2), (i64 3)] 3 .solid))]
  next' := 2961
theorem b20_ok [Val] (h : AllEq tab2) : b20.Ok P G := Fact.ok_of (n := 100000) (EnvOk.know (EnvOk.tab env0 h) (l := [b15, b16, b17, b19]) (knows (b15_ok h) (knows (b16_ok h) (knows (b17_ok h) (knows (b19_ok h) knowsNone))))) (by kernel_rfl)
def b21 : Fact where
  f := 80
  args := [(.sy .str (.op (.hole [540, 564]) [(.str T2), (yb 14), (yb 15)]))]
  next := 2963
  pre := []
  r := (.tuple [(.agg [(.sy .str (.op (.hole [540, 564]) [(.str T2), (yb 14), (yb 15)])), (w64 0), (.slice 3048 0 6 (.opn 6))]), (.agg [(i64 0), (w64 0), (.str ⟨0, 0⟩)])])
  objs := [q2_11]
  next' := 3049
theorem b21_ok [Val] (h : AllEq tab2) : b21.Ok P G := Fact.ok_of (n := 100000) (EnvOk.know (EnvOk.tab env0 h) (l := []) knowsNone) (by kernel_rfl)
def b22 : Fact where
  f := 83
  args := [(.ptr 3052 0)]
  next := 3332
  pre := [q2_12, q2_13, q2_11, (3052, (.row [(.sy .str (.op (.hole [540, 564]) [(.str T2), (yb 14), (yb 15)])), (w64 0), (.slice 3048 0 6 (.opn 6)), (.str ⟨0, 0⟩), .nilSlice, .nilSlice, .nilSlice, .nilSlice, .nilSlice, (w64 0), (w64 0), (w64 0), (w64 0), .nilSlice, (.bool false), (.bool false), (.iface 268 (.agg [(.slice 3303 0 2 (.exact 2)), (.slice 3303 2 4 (.opn 1))])), (.slice 3176 0 8 (.opn 2)), (i64 4)] 103 .solid))]
  r := (.agg [(i64 0), (w64 0), (.str ⟨0, 0⟩)])
  objs := [q2_14, (3052, (.row [(.sy .str (.op (.hole [540, 564]) [(.str T2), (yb 14), (yb 15)])), (w64 0), (.slice 3048 0 6 (.opn 6)), (.str ⟨0, 0⟩), .nilSlice, (.slice 3627 0 4 (.opn 7)), .nilSlice, .nilSlice, .nilSlice, (w64 0), (w64 0), (w64 0), (w64 0), .nilSlice, (.bool false), (.bool false), (.iface 268 (.agg [(.slice 3303 0 2 (.exact 2)), (.slice 3303 2 4 (.opn 1))])), (.slice 3176 0 8 (.opn 2)), (i64 4)] 103 .solid)), q2_11, q2_13, q2_12]
  next' := 3628
theorem b22_ok [Val] (h : AllEq tab2) : b22.Ok P G := Fact.ok_of (n := 100000) (EnvOk.know (EnvOk.tab env0 h) (l := []) knowsNone) (by kernel_rfl)
def b23 : Fact where
  f := 86
  args := [(.ptr 3052 0)]
  next := 3690
  pre := [q2_12, q2_13, q2_15, q2_14, q2_11, (3052, (.row [(.sy .str (.op (.hole [540, 564]) [(.str T2), (yb 14), (yb 15)])), (w64 0), (.slice 3048 0 6 (.opn 6)), (.str ⟨0, 0⟩), .nilSlice, (.slice 3627 0 4 (.opn 7)), (.slice 3687 0 4 (.exact 4)), .nilSlice, .nilSlice, (w64 0), (w64 0), (w64 0), (w64 0), .nilSlice, (.bool false), (.bool false), (.iface 268 (.agg [(.slice 3303 0 2 (.exact 2)), (.slice 3303 2 4 (.opn 1))])), (.slice 3176 0 8 (.opn 2)), (i64 4)] 103 .solid))]
  r := (.agg [(i64 0), (w64 0), (.str ⟨0, 0⟩)])
  objs := [q2_16, (3052, (.row [(.sy .str (.op (.hole [540, 564]) [(.str T2), (yb 14), (yb 15)])), (w64 0), (.slice 3048 0 6 (.opn 6)), (.str ⟨0, 0⟩), .nilSlice, (.slice 3627 0 4 (.opn 7)), (.slice 3687 0 4 (.exact 4)), .nilSlice, (.slice 3850 0 2 (.opn 4)), (w64 0), (w64 0), (w64 0), (w64 0), .nilSlice, (.bool false), (.bool false), (.iface 268 (.agg [(.slice 3303 0 2 (.exact 2)), (.slice 3303 2 4 (.opn 1))])), (.slice 3176 0 8 (.opn 2)), (i64 4)] 103 .solid)), q2_11, q2_14, q2_15, q2_13, q2_12]
  next' := 3919
theorem b23_ok [Val] (h : AllEq tab2) : b23.Ok P G := Fact.ok_of (n := 100000) (EnvOk.know (EnvOk.tab env0 h) (l := []) knowsNone) (by kernel_rfl)
def b24 : Fact where
  f := 46
  args := [(.sy .str (.op (.hole [540, 564]) [(.str T2), (yb 14), (yb 15)]))]
  next := 2962
  pre := []
  r := (.tuple [(.ptr 3052 0), (.agg [(i64 0), (w64 0), (.str ⟨0, 0⟩)])])
  objs := [q2_12, q2_13, (4115, (.row [(w64 512), (w64 768)] 96 (.buf 0 false))), q2_16, q2_15, q2_14, q2_11, (3052, (.row [(.sy .str (.op (.hole [540, 564]) [(.str T2), (yb 14), (yb 15)])), (w64 0), (.slice 3048 0 6 (.opn 6)), (.str ⟨0, 0⟩), .nilSlice, (.slice 3627 0 4 (.opn 7)), (.slice 3687 0 4 (.exact 4)), .nilSlice, (.slice 3850 0 2 (.opn 4)), (w64 0), (w64 0), (w64 0), (w64 0), (.slice 4115 0 1 (.opn 2)), (.bool false), (.bool false), (.iface 268 (.agg [(.slice 3303 0 2 (.exact 2)), (.slice 3303 2 4 (.opn 1))])), (.slice 3176 0 8 (.opn 2)), (i64 4)] 103 .solid))]
  next' := 4150
theorem b24_ok [Val] (h : AllEq tab2) : b24.Ok P G := Fact.ok_of (n := 100000) (EnvOk.know (EnvOk.tab env0 h) (l := [b21, b22, b23]) (knows (b21_ok h) (knows (b22_ok h) (knows (b23_ok h) knowsNone)))) (by kernel_rfl)
end Go.Proofs.YtjmjbjnbfodalaaGreat
set_option maxRecDepth 1000000
namespace Go.Proofs.YtjmjbjnbfodalaaGreat
open Go.Tc
def q3_0 : Nat × AObj := (3, (.row [(.str ⟨1, 102⟩), (.str ⟨0, 0⟩), (.str ⟨0, 0⟩), (.bool false), (i64 1), (i64 0), (i64 1), (w64 4), (.str ⟨1, 103⟩), (.str ⟨0, 0⟩), (.str ⟨0, 0⟩), (.bool false), (i64 1), (i64 0), (i64 0), (w64 0), (.str ⟨1, 104⟩), (.str ⟨0, 0⟩), (.str ⟨0, 0⟩), (.bool false), (i64 2), (i64 0), (i64 0), (w64 0)] 139 .solid))
def q3_1 : Nat × AObj := (700, (.row [(w64 4), (w64 0), (w64 6), (w64 32), (w64 7), (w64 128), (w64 8), (w64 0), (w64 23), (w64 128), (w64 2), (w64 72), (w64 5), (w64 200), (w64 10), (w64 7)] 259 (.buf 0 false)))
def q3_2 : Nat × AObj := (698, (.row (rle [(1, (w8 2)), (3, (w8 0)), (1, (w8 4)), (3, (w8 0)), (1, (w8 3)), (3, (w8 0)), (1, (w8 2)), (15, (w8 0)), (1, (w8 1)), (27, (w8 0)), (1, (w8 1)), (3, (w8 0)), (1, (w8 16)), (1, (w8 0)), (1, (w8 1)), (1, (w8 0)), (1, (w8 4)), (15, (w8 0)), (1, (w8 3)), (3, (w8 0)), (1, (w8 16)), (19, (w8 0)), (1, (w8 5)), (3, (w8 0)), (1, (w8 32)), (27, (w8 0)), (1, (w8 5)), (3, (w8 0)), (1, (sb 14)), (11, (w8 0)), (1, (w8 8)), (7, (w8 0)), (1, (w8 5)), (3, (w8 0)), (1, (sb 15)), (11, (w8 0)), (1, (w8 16)), (7, (w8 0)), (1, (w8 5)), (3, (w8 0)), (1, (sb 16)), (12, (w8 0)), (1, (w8 102)), (1, (w8 0)), (1, (w8 103)), (1, (w8 0)), (1, (w8 104)), (1, (w8 0))]) 5 (.buf 0 false)))
def q3_3 : Nat × AObj := (144, (.map [⟨(.str ⟨0, 0⟩), (i64 0), 0⟩, ⟨(.str ⟨1, 102⟩), (i64 1), 1⟩, ⟨(.str ⟨1, 103⟩), (i64 3), 2⟩, ⟨(.str ⟨1, 104⟩), (i64 5), 3⟩] 4))
def q3_4 : Nat × AObj := (461, (.row [(w8 0), (w8 102), (w8 0), (w8 103), (w8 0), (w8 104), (w8 0)] 5 (.buf 7 false)))
def q3_5 : Nat × AObj := (1328, (.row [(w64 4), (w64 0), (w64 6), (w64 32), (w64 7), (w64 128), (w64 8), (w64 0), (w64 23), (w64 128), (w64 2), (w64 72), (w64 5), (w64 200), (w64 10), (w64 7)] 259 (.buf 0 false)))
def q3_6 : Nat × AObj := (1326, (.row (rle [(1, (w8 2)), (3, (w8 0)), (1, (w8 4)), (3, (w8 0)), (1, (w8 3)), (3, (w8 0)), (1, (w8 2)), (15, (w8 0)), (1, (w8 1)), (27, (w8 0)), (1, (w8 1)), (3, (w8 0)), (1, (w8 16)), (1, (w8 0)), (1, (w8 1)), (1, (w8 0)), (1, (w8 4)), (1, (w8 1)), (14, (w8 0)), (1, (w8 3)), (3, (w8 0)), (1, (w8 16)), (19, (w8 0)), (1, (w8 5)), (3, (w8 0)), (1, (w8 32)), (20, (w8 0)), (1, (w8 3)), (6, (w8 0)), (1, (w8 5)), (3, (w8 0)), (1, (sb 14)), (11, (w8 0)), (1, (w8 8)), (1, (w8 3)), (6, (w8 0)), (1, (w8 5)), (3, (w8 0)), (1, (sb 15)), (11, (w8 0)), (1, (w8 16)), (1, (w8 3)), (6, (w8 0)), (1, (w8 5)), (3, (w8 0)), (1, (sb 16)), (12, (w8 0)), (1, (w8 102)), (1, (w8 0)), (1, (w8 103)), (1, (w8 0)), (1, (w8 104)), (1, (w8 0))]) 5 (.buf 0 false)))
def q3_7 : Nat × AObj := (772, (.map [⟨(.str ⟨0, 0⟩), (i64 0), 0⟩, ⟨(.str ⟨1, 102⟩), (i64 1), 1⟩, ⟨(.str ⟨1, 103⟩), (i64 3), 2⟩, ⟨(.str ⟨1, 104⟩), (i64 5), 3⟩] 4))
def q3_8 : Nat × AObj := (1089, (.row [(w8 0), (w8 102), (w8 0), (w8 103), (w8 0), (w8 104), (w8 0)] 5 (.buf 7 false)))
def q3_9 : Nat × AObj := (132, (.row [(.str ⟨0, 0⟩), .nilSlice, (.slice 3 0 3 (.exact 3)), (.str ⟨16, 0⟩), (.str ⟨0, 0⟩), .nilSlice, (.slice 46 0 3 (.opn 1)), .nilSlice, .nilSlice, (.bool false), (.bool false), (.bool false), (w64 256), (w64 272), (w64 512), (w64 768), (w64 792), (.slice 143 0 3 (.exact 3)), (.ptr 132 18), (.slice 1089 0 7 (.opn 1)), (.map 772), (.slice 142 0 3 (.opn 1)), (i64 1), (.map 775), .nilSlice, (.ptr 132 25), (.slice 1326 0 207 (.opn 1)), (.slice 1328 0 8 (.opn 2))] 193 .solid))
def q3_10 : Nat × AObj := (1326, (.row (rle [(1, (w8 2)), (3, (w8 0)), (1, (w8 4)), (3, (w8 0)), (1, (w8 3)), (3, (w8 0)), (1, (w8 2)), (15, (w8 0)), (1, (w8 1)), (27, (w8 0)), (1, (w8 1)), (3, (w8 0)), (1, (w8 16)), (1, (w8 0)), (1, (w8 1)), (1, (w8 0)), (1, (w8 4)), (1, (w8 1)), (14, (w8 0)), (1, (w8 3)), (3, (w8 0)), (1, (w8 16)), (19, (w8 0)), (1, (w8 5)), (3, (w8 0)), (1, (w8 32)), (20, (w8 0)), (1, (w8 3)), (6, (w8 0)), (1, (w8 5)), (3, (w8 0)), (1, (sb 14)), (11, (w8 0)), (1, (w8 8)), (1, (w8 3)), (6, (w8 0)), (1, (w8 5)), (3, (w8 0)), (1, (sb 15)), (11, (w8 0)), (1, (w8 16)), (1, (w8 3)), (6, (w8 0)), (1, (w8 5)), (3, (w8 0)), (1, (sb 16)), (12, (w8 0)), (1, (w8 102)), (1, (w8 0)), (1, (w8 103)), (1, (w8 0)), (1, (w8 104)), (1, (w8 0))]) 5 (.buf 207 false)))
def q3_11 : Nat × AObj := (3847, (.row [(w32 1), (i64 4), (w64 400), (w64 0), (w64 207), (w64 207), (w32 1), (i64 5), (w64 607), (w64 256), (w64 52), (w64 52), (w32 1), (i64 6), (w64 659), (w64 512), (w64 144), (w64 144), (w32 2), (i64 6), (w64 659), (w64 512), (w64 144), (w64 144), (w32 0x6474e552), (i64 4), (w64 659), (w64 512), (w64 0), (w64 256), (w32 1), (i64 6), (w64 803), (w64 768), (w64 24), (w64 24)] 169 (.buf 0 false)))
def q3_12 : Nat × AObj := (3975, (.row [(w64 4), (w64 0), (w64 6), (w64 32), (w64 7), (w64 128), (w64 8), (w64 0), (w64 23), (w64 128), (w64 2), (w64 72), (w64 5), (w64 200), (w64 10), (w64 7)] 259 (.buf 0 false)))
def q3_13 : Nat × AObj := (4102, (.row [(w32 3), (w32 2), (w32 0), (w32 0), (w32 0), (w32 1)] 167 (.buf 0 false)))
def q3_14 : Nat × AObj := (3851, (.row [(.sy .str (.op (.hole [540, 564, 588]) [(.str T3), (yb 14), (yb 15), (yb 16)])), (w64 0), (.slice 3847 0 6 (.opn 6)), (.str ⟨0, 0⟩), .nilSlice, .nilSlice, .nilSlice, .nilSlice, .nilSlice, (w64 0), (w64 0), (w64 0), (w64 0), .nilSlice, (.bool false), (.bool false), (.iface 268 (.agg [(.slice 4102 0 2 (.exact 2)), (.slice 4102 2 4 (.opn 1))])), (.slice 3975 0 8 (.opn 2)), (i64 4)] 103 .solid))
def q3_15 : Nat × AObj := (4426, (.row [(.str ⟨0, 0⟩), (i64 0), (i64 0), (i64 0), (.bool false), (w64 0), (w64 0), (.str ⟨1, 102⟩), (i64 1), (i64 0), (i64 0), (.bool true), (w64 260), (w64 0), (.str ⟨1, 103⟩), (i64 1), (i64 0), (i64 0), (.bool false), (w64 0), (w64 0), (.str ⟨1, 104⟩), (i64 2), (i64 0), (i64 0), (.bool false), (w64 0), (w64 0)] 150 (.buf 0 false)))
def q3_16 : Nat × AObj := (4486, (.row [(.str ⟨0, 0⟩), (.str ⟨0, 0⟩), (.bool false), (.str ⟨0, 0⟩), (.str ⟨0, 0⟩), (.bool false), (.str ⟨0, 0⟩), (.str ⟨0, 0⟩), (.bool false), (.str ⟨0, 0⟩), (.str ⟨0, 0⟩), (.bool false)] 210 .solid))
def q3_17 : Nat × AObj := (4669, (.row [(w64 768), (i64 5), (si 14), (w64 0), (w64 776), (i64 5), (si 15), (w64 0), (w64 784), (i64 5), (si 16), (w64 0)] 31 (.buf 0 false)))
def b25 : Fact where
  f := 75
  args := [(.ptr 132 0)]
  next := 144
  pre := [(142, (.row [(i64 0), (i64 1), (i64 2)] 3 (.buf 0 false))), (143, (.row [(i64 1), (i64 2), (i64 3)] 3 .solid)), (46, (.row [(si 2), (si 3), (si 4)] 3 (.buf 0 false))), q3_0, (132, (.row [(.str ⟨0, 0⟩), .nilSlice, (.slice 3 0 3 (.exact 3)), (.str ⟨16, 0⟩), (.str ⟨0, 0⟩), .nilSlice, (.slice 46 0 3 (.opn 1)), .nilSlice, .nilSlice, (.bool false), (.bool false), (.bool false), (w64 0), (w64 0), (w64 0), (w64 0), (w64 0), (.slice 143 0 3 (.exact 3)), .nilPtr, .nilSlice, .nilMap, (.slice 142 0 3 (.opn 1)), (i64 1), .nilMap, .nilSlice, .nilPtr, .nilSlice, .nilSlice] 193 .solid))]
  r := (.tuple [])
  objs := [q3_1, q3_2, (147, (.map [] 0)), q3_3, q3_4, (132, (.row [(.str ⟨0, 0⟩), .nilSlice, (.slice 3 0 3 (.exact 3)), (.str ⟨16, 0⟩), (.str ⟨0, 0⟩), .nilSlice, (.slice 46 0 3 (.opn 1)), .nilSlice, .nilSlice, (.bool false), (.bool false), (.bool false), (w64 0), (w64 0), (w64 0), (w64 0), (w64 0), (.slice 143 0 3 (.exact 3)), (.ptr 132 18), (.slice 461 0 7 (.opn 1)), (.map 144), (.slice 142 0 3 (.opn 1)), (i64 1), (.map 147), .nilSlice, (.ptr 132 25), (.slice 698 0 207 (.opn 1)), (.slice 700 0 8 (.opn 2))] 193 .solid)), q3_0, (46, (.row [(si 2), (si 3), (si 4)] 3 (.buf 0 false))), (143, (.row [(i64 1), (i64 2), (i64 3)] 3 .solid)), (142, (.row [(i64 0), (i64 1), (i64 2)] 3 (.buf 0 false)))]
  next' := 701
theorem b25_ok [Val] (h : AllEq tab3) : b25.Ok P G := Fact.ok_of (n := 100000) (EnvOk.know (EnvOk.tab env0 h) (l := []) knowsNone) (by kernel_rfl)
def b26 : Fact where
  f := 75
  args := [(.ptr 132 0)]
  next := 772
  pre := [q3_1, q3_2, (147, (.map [] 0)), (142, (.row [(i64 0), (i64 1), (i64 2)] 3 (.buf 0 false))), q3_3, q3_4, (143, (.row [(i64 1), (i64 2), (i64 3)] 3 .solid)), (46, (.row [(si 2), (si 3), (si 4)] 3 (.buf 0 false))), q3_0, (132, (.row [(.str ⟨0, 0⟩), .nilSlice, (.slice 3 0 3 (.exact 3)), (.str ⟨16, 0⟩), (.str ⟨0, 0⟩), .nilSlice, (.slice 46 0 3 (.opn 1)), .nilSlice, .nilSlice, (.bool false), (.bool false), (.bool false), (w64 256), (w64 272), (w64 512), (w64 768), (w64 792), (.slice 143 0 3 (.exact 3)), (.ptr 132 18), (.slice 461 0 7 (.opn 1)), (.map 144), (.slice 142 0 3 (.opn 1)), (i64 1), (.map 147), .nilSlice, (.ptr 132 25), (.slice 698 0 207 (.opn 1)), (.slice 700 0 8 (.opn 2))] 193 .solid))]
  r := (.tuple [])
  objs := [q3_5, q3_6, (775, (.map [] 0)), q3_7, q3_8, q3_9, q3_0, (46, (.row [(si 2), (si 3), (si 4)] 3 (.buf 0 false))), (143, (.row [(i64 1), (i64 2), (i64 3)] 3 .solid)), q3_4, q3_3, (142, (.row [(i64 0), (i64 1), (i64 2)] 3 (.buf 0 false))), (147, (.map [] 0)), q3_2, q3_1]
  next' := 1329
theorem b26_ok [Val] (h : AllEq tab3) : b26.Ok P G := Fact.ok_of (n := 100000) (EnvOk.know (EnvOk.tab env0 h) (l := []) knowsNone) (by kernel_rfl)
def b27 : Fact where
  f := 150
  args := [(.ptr 132 0)]
  next := 1401
  pre := [q3_5, q3_10, (775, (.map [] 0)), (142, (.row [(i64 0), (i64 1), (i64 2)] 3 (.buf 0 false))), q3_7, q3_8, (143, (.row [(i64 1), (i64 2), (i64 3)] 3 .solid)), (46, (.row [(si 2), (si 3), (si 4)] 3 (.buf 0 false))), q3_0, q3_9]
  r := (.str ⟨36, 0x170e0000033e0e1f67000e00170e0000033ece1e67000e00170e0000033e8e1e67000e00⟩)
  objs := [q3_9, q3_0, (46, (.row [(si 2), (si 3), (si 4)] 3 (.buf 0 false))), (143, (.row [(i64 1), (i64 2), (i64 3)] 3 .solid)), q3_8, q3_7, (142, (.row [(i64 0), (i64 1), (i64 2)] 3 (.buf 0 false))), (775, (.map [] 0)), q3_10, q3_5]
  next' := 3486
theorem b27_ok [Val] (h : AllEq tab3) : b27.Ok P G := Fact.ok_of (n := 100000) (EnvOk.know (EnvOk.tab env0 h) (l := [e0.at_ 1402, e1.at_ 1535, e2.at_ 1912, e0.at_ 2097, e3.at_ 2230, e2.at_ 2607, e0.at_ 2792, e4.at_ 2925, e2.at_ 3302]) (knows (e0_at (by decide)) (knows (e1_at (by decide)) (knows (e2_at (by decide)) (knows (e0_at (by decide)) (knows (e3_at (by decide)) (knows (e2_at (by decide)) (knows (e0_at (by decide)) (knows (e4_at (by decide)) (knows (e2_at (by decide)) knowsNone)))))))))) (by kernel_rfl)
def b28 : Fact where
  f := 79
  args := [(.ptr 132 0)]
  next := 1338
  pre := [q3_5, q3_6, (775, (.map [] 0)), (142, (.row [(i64 0), (i64 1), (i64 2)] 3 (.buf 0 false))), q3_7, q3_8, (143, (.row [(i64 1), (i64 2), (i64 3)] 3 .solid)), (46, (.row [(si 2), (si 3), (si 4)] 3 (.buf 0 false))), q3_0, q3_9]
  r := (.sy .str (.op (.hole [540, 564, 588]) [(.str T3), (yb 14), (yb 15), (yb 16)]))
  objs := [q3_9, q3_0, (46, (.row [(si 2), (si 3), (si 4)] 3 (.buf 0 false))), (143, (.row [(i64 1), (i64 2), (i64 3)] 3 .solid)), q3_8, q3_7, (142, (.row [(i64 0), (i64 1), (i64 2)] 3 (.buf 0 false))), (775, (.map [] 0)), q3_10, q3_5]
  next' := 3760
theorem b28_ok [Val] (h : AllEq tab3) : b28.Ok P G := Fact.ok_of (n := 100000) (EnvOk.know (EnvOk.tab env0 h) (l := [b27]) (knows (b27_ok h) knowsNone)) (by kernel_rfl)
def b29 : Fact where
  f := 45
  args := [(.agg [(.str ⟨0, 0⟩), .nilSlice, (.slice 3 0 3 (.exact 3)), (.str ⟨16, 0⟩), (.str ⟨0, 0⟩), .nilSlice, (.slice 46 0 3 (.opn 1)), .nilSlice, .nilSlice, (.bool false), (.bool false), (.bool false)])]
  next := 47
  pre := [(46, (.row [(si 2), (si 3), (si 4)] 3 (.buf 0 false))), q3_0]
  r := (.tuple [(.sy .str (.op (.hole [540, 564, 588]) [(.str T3), (yb 14), (yb 15), (yb 16)])), (.agg [(w64 256), (w64 272), (w64 512), (w64 768), (w64 792), (.slice 143 0 3 (.exact 3))]), (i64 0)])
  objs := [q3_0, (46, (.row [(si 2), (si 3), (si 4)] 3 (.buf 0 false))), (143, (.row [(i64 1), (i64 2), (i64 3)] 3 .solid))]
  next' := 3760
theorem b29_ok [Val] (h : AllEq tab3) : b29.Ok P G := Fact.ok_of (n := 100000) (EnvOk.know (EnvOk.tab env0 h) (l := [b25, b26, b28]) (knows (b25_ok h) (knows (b26_ok h) (knows (b28_ok h) knowsNone)))) (by kernel_rfl)
def b30 : Fact where
  f := 80
  args := [(.sy .str (.op (.hole [540, 564, 588]) [(.str T3), (yb 14), (yb 15), (yb 16)]))]
  next := 3762
  pre := []
  r := (.tuple [(.agg [(.sy .str (.op (.hole [540, 564, 588]) [(.str T3), (yb 14), (yb 15), (yb 16)])), (w64 0), (.slice 3847 0 6 (.opn 6))]), (.agg [(i64 0), (w64 0), (.str ⟨0, 0⟩)])])
  objs := [q3_11]
  next' := 3848
theorem b30_ok [Val] (h : AllEq tab3) : b30.Ok P G := Fact.ok_of (n := 100000) (EnvOk.know (EnvOk.tab env0 h) (l := []) knowsNone) (by kernel_rfl)
def b31 : Fact where
  f := 81
  args := [(.agg [(.sy .str (.op (.hole [540, 564, 588]) [(.str T3), (yb 14), (yb 15), (yb 16)])), (w64 0), (.slice 3847 0 6 (.opn 6))])]
  next := 3852
  pre := [q3_11]
  r := (.tuple [(.slice 3975 0 8 (.opn 2)), (.agg [(i64 0), (w64 0), (.str ⟨0, 0⟩)])])
  objs := [q3_11, q3_12]
  next' := 3985
theorem b31_ok [Val] (h : AllEq tab3) : b31.Ok P G := Fact.ok_of (n := 100000) (EnvOk.know (EnvOk.tab env0 h) (l := []) knowsNone) (by kernel_rfl)
def b32 : Fact where
  f := 82
  args := [(.ptr 3851 0)]
  next := 3987
  pre := [q3_12, q3_11, (3851, (.row [(.sy .str (.op (.hole [540, 564, 588]) [(.str T3), (yb 14), (yb 15), (yb 16)])), (w64 0), (.slice 3847 0 6 (.opn 6)), (.str ⟨0, 0⟩), .nilSlice, .nilSlice, .nilSlice, .nilSlice, .nilSlice, (w64 0), (w64 0), (w64 0), (w64 0), .nilSlice, (.bool false), (.bool false), .nilIface, (.slice 3975 0 8 (.opn 2)), (i64 0)] 103 .solid))]
  r := (.agg [(i64 0), (w64 0), (.str ⟨0, 0⟩)])
  objs := [q3_13, q3_14, q3_11, q3_12]
  next' := 4129
theorem b32_ok [Val] (h : AllEq tab3) : b32.Ok P G := Fact.ok_of (n := 100000) (EnvOk.know (EnvOk.tab env0 h) (l := []) knowsNone) (by kernel_rfl)
def b33 : Fact where
  f := 83
  args := [(.ptr 3851 0)]
  next := 4131
  pre := [q3_12, q3_13, q3_11, q3_14]
  r := (.agg [(i64 0), (w64 0), (.str ⟨0, 0⟩)])
  objs := [q3_15, (3851, (.row [(.sy .str (.op (.hole [540, 564, 588]) [(.str T3), (yb 14), (yb 15), (yb 16)])), (w64 0), (.slice 3847 0 6 (.opn 6)), (.str ⟨0, 0⟩), .nilSlice, (.slice 4426 0 4 (.opn 7)), .nilSlice, .nilSlice, .nilSlice, (w64 0), (w64 0), (w64 0), (w64 0), .nilSlice, (.bool false), (.bool false), (.iface 268 (.agg [(.slice 4102 0 2 (.exact 2)), (.slice 4102 2 4 (.opn 1))])), (.slice 3975 0 8 (.opn 2)), (i64 4)] 103 .solid)), q3_11, q3_13, q3_12]
  next' := 4427
theorem b33_ok [Val] (h : AllEq tab3) : b33.Ok P G := Fact.ok_of (n := 100000) (EnvOk.know (EnvOk.tab env0 h) (l := []) knowsNone) (by kernel_rfl)
def b34 : Fact where
  f := 86
  args := [(.ptr 3851 0)]
  next := 4489
  pre := [q3_12, q3_13, q3_16, q3_15, q3_11, (3851, (.row [(.sy .str (.op (.hole [540, 564, 588]) [(.str T3), (yb 14), (yb 15), (yb 16)])), (w64 0), (.slice 3847 0 6 (.opn 6)), (.str ⟨0, 0⟩), .nilSlice, (.slice 4426 0 4 (.opn 7)), (.slice 4486 0 4 (.exact 4)), .nilSlice, .nilSlice, (w64 0), (w64 0), (w64 0), (w64 0), .nilSlice, (.bool false), (.bool false), (.iface 268 (.agg [(.slice 4102 0 2 (.exact 2)), (.slice 4102 2 4 (.opn 1))])), (.slice 3975 0 8 (.opn 2)), (i64 4)] 103 .solid))]
  r := (.agg [(i64 0), (w64 0), (.str ⟨0, 0⟩)])
  objs := [q3_17, (3851, (.row [(.sy .str (.op (.hole [540, 564, 588]) [(.str T3), (yb 14), (yb 15), (yb 16)])), (w64 0), (.slice 3847 0 6 (.opn 6)), (.str ⟨0, 0⟩), .nilSlice, (.slice 4426 0 4 (.opn 7)), (.slice 4486 0 4 (.exact 4)), .nilSlice, (.slice 4669 0 3 (.opn 4)), (w64 0), (w64 0), (w64 0), (w64 0), .nilSlice, (.bool false), (.bool false), (.iface 268 (.agg [(.slice 4102 0 2 (.exact 2)), (.slice 4102 2 4 (.opn 1))])), (.slice 3975 0 8 (.opn 2)), (i64 4)] 103 .solid)), q3_11, q3_15, q3_16, q3_13, q3_12]
  next' := 4771
theorem b34_ok [Val] (h : AllEq tab3) : b34.Ok P G := Fact.ok_of (n := 100000) (EnvOk.know (EnvOk.tab env0 h) (l := []) knowsNone) (by kernel_rfl)
def b35 : Fact where
  f := 46
  args := [(.sy .str (.op (.hole [540, 564, 588]) [(.str T3), (yb 14), (yb 15), (yb 16)]))]
  next := 3761
  pre := []
  r := (.tuple [(.ptr 3851 0), (.agg [(i64 0), (w64 0), (.str ⟨0, 0⟩)])])
  objs := [q3_12, q3_13, (4967, (.row [(w64 512), (w64 768)] 96 (.buf 0 false))), q3_17, q3_16, q3_15, q3_11, (3851, (.row [(.sy .str (.op (.hole [540, 564, 588]) [(.str T3), (yb 14), (yb 15), (yb 16)])), (w64 0), (.slice 3847 0 6 (.opn 6)), (.str ⟨0, 0⟩), .nilSlice, (.slice 4426 0 4 (.opn 7)), (.slice 4486 0 4 (.exact 4)), .nilSlice, (.slice 4669 0 3 (.opn 4)), (w64 0), (w64 0), (w64 0), (w64 0), (.slice 4967 0 1 (.opn 2)), (.bool false), (.bool false), (.iface 268 (.agg [(.slice 4102 0 2 (.exact 2)), (.slice 4102 2 4 (.opn 1))])), (.slice 3975 0 8 (.opn 2)), (i64 4)] 103 .solid))]
  next' := 5002
theorem b35_ok [Val] (h : AllEq tab3) : b35.Ok P G := Fact.ok_of (n := 100000) (EnvOk.know (EnvOk.tab env0 h) (l := [b30, b31, b32, b33, b34]) (knows (b30_ok h) (knows (b31_ok h) (knows (b32_ok h) (knows (b33_ok h) (knows (b34_ok h) knowsNone)))))) (by kernel_rfl)
end Go.Proofs.YtjmjbjnbfodalaaGreat
