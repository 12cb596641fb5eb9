/- files with 4 slots: what pack.Build and object.Read answer, in parts. No condition. -/
import Derived.Test.YtjmjbjnbfodalaaGreatLzE
set_option linter.unusedSimpArgs false
set_option linter.unusedVariables false
set_option linter.unusedSectionVars false
set_option maxRecDepth 1000000
namespace Go.Proofs.YtjmjbjnbfodalaaGreat
open Go.Tc
def q4_0 : Nat × AObj := (60, (.row [(si 2), (si 3), (si 4), (si 5)] 3 (.buf 0 false)))
def q4_1 : Nat × AObj := (3, (.row [(.str ⟨1, 102⟩), (.str ⟨0, 0⟩), (.str ⟨0, 0⟩), (.bool false), (i64 1), (i64 0), (i64 1), (w64 4), (.str ⟨1, 103⟩), (.str ⟨0, 0⟩), (.str ⟨0, 0⟩), (.bool false), (i64 1), (i64 0), (i64 0), (w64 0), (.str ⟨1, 104⟩), (.str ⟨0, 0⟩), (.str ⟨0, 0⟩), (.bool false), (i64 2), (i64 0), (i64 0), (w64 0)] 139 .solid))
def q4_2 : Nat × AObj := (759, (.row [(w64 4), (w64 0), (w64 6), (w64 32), (w64 7), (w64 128), (w64 8), (w64 0), (w64 23), (w64 128), (w64 2), (w64 96), (w64 5), (w64 224), (w64 10), (w64 7)] 259 (.buf 0 false)))
def q4_3 : Nat × AObj := (757, (.row (rle [(1, (w8 2)), (3, (w8 0)), (1, (w8 4)), (3, (w8 0)), (1, (w8 3)), (3, (w8 0)), (1, (w8 2)), (15, (w8 0)), (1, (w8 1)), (27, (w8 0)), (1, (w8 1)), (3, (w8 0)), (1, (w8 16)), (1, (w8 0)), (1, (w8 1)), (1, (w8 0)), (1, (w8 4)), (15, (w8 0)), (1, (w8 3)), (3, (w8 0)), (1, (w8 16)), (19, (w8 0)), (1, (w8 5)), (3, (w8 0)), (1, (w8 32)), (27, (w8 0)), (1, (w8 5)), (3, (w8 0)), (1, (sb 14)), (11, (w8 0)), (1, (w8 8)), (7, (w8 0)), (1, (w8 5)), (3, (w8 0)), (1, (sb 15)), (11, (w8 0)), (1, (w8 16)), (7, (w8 0)), (1, (w8 5)), (3, (w8 0)), (1, (sb 16)), (11, (w8 0)), (1, (w8 24)), (7, (w8 0)), (1, (w8 5)), (3, (w8 0)), (1, (sb 17)), (12, (w8 0)), (1, (w8 102)), (1, (w8 0)), (1, (w8 103)), (1, (w8 0)), (1, (w8 104)), (1, (w8 0))]) 5 (.buf 0 false)))
def q4_4 : Nat × AObj := (158, (.map [⟨(.str ⟨0, 0⟩), (i64 0), 0⟩, ⟨(.str ⟨1, 102⟩), (i64 1), 1⟩, ⟨(.str ⟨1, 103⟩), (i64 3), 2⟩, ⟨(.str ⟨1, 104⟩), (i64 5), 3⟩] 4))
def q4_5 : Nat × AObj := (475, (.row [(w8 0), (w8 102), (w8 0), (w8 103), (w8 0), (w8 104), (w8 0)] 5 (.buf 7 false)))
def q4_6 : Nat × AObj := (1432, (.row [(w64 4), (w64 0), (w64 6), (w64 32), (w64 7), (w64 128), (w64 8), (w64 0), (w64 23), (w64 128), (w64 2), (w64 96), (w64 5), (w64 224), (w64 10), (w64 7)] 259 (.buf 0 false)))
def q4_7 : Nat × AObj := (1430, (.row (rle [(1, (w8 2)), (3, (w8 0)), (1, (w8 4)), (3, (w8 0)), (1, (w8 3)), (3, (w8 0)), (1, (w8 2)), (15, (w8 0)), (1, (w8 1)), (27, (w8 0)), (1, (w8 1)), (3, (w8 0)), (1, (w8 16)), (1, (w8 0)), (1, (w8 1)), (1, (w8 0)), (1, (w8 4)), (1, (w8 1)), (14, (w8 0)), (1, (w8 3)), (3, (w8 0)), (1, (w8 16)), (19, (w8 0)), (1, (w8 5)), (3, (w8 0)), (1, (w8 32)), (20, (w8 0)), (1, (w8 3)), (6, (w8 0)), (1, (w8 5)), (3, (w8 0)), (1, (sb 14)), (11, (w8 0)), (1, (w8 8)), (1, (w8 3)), (6, (w8 0)), (1, (w8 5)), (3, (w8 0)), (1, (sb 15)), (11, (w8 0)), (1, (w8 16)), (1, (w8 3)), (6, (w8 0)), (1, (w8 5)), (3, (w8 0)), (1, (sb 16)), (11, (w8 0)), (1, (w8 24)), (1, (w8 3)), (6, (w8 0)), (1, (w8 5)), (3, (w8 0)), (1, (sb 17)), (12, (w8 0)), (1, (w8 102)), (1, (w8 0)), (1, (w8 103)), (1, (w8 0)), (1, (w8 104)), (1, (w8 0))]) 5 (.buf 0 false)))
def q4_8 : Nat × AObj := (831, (.map [⟨(.str ⟨0, 0⟩), (i64 0), 0⟩, ⟨(.str ⟨1, 102⟩), (i64 1), 1⟩, ⟨(.str ⟨1, 103⟩), (i64 3), 2⟩, ⟨(.str ⟨1, 104⟩), (i64 5), 3⟩] 4))
def q4_9 : Nat × AObj := (1148, (.row [(w8 0), (w8 102), (w8 0), (w8 103), (w8 0), (w8 104), (w8 0)] 5 (.buf 7 false)))
def q4_10 : Nat × AObj := (146, (.row [(.str ⟨0, 0⟩), .nilSlice, (.slice 3 0 3 (.exact 3)), (.str ⟨16, 0⟩), (.str ⟨0, 0⟩), .nilSlice, (.slice 60 0 4 (.opn 1)), .nilSlice, .nilSlice, (.bool false), (.bool false), (.bool false), (w64 256), (w64 272), (w64 512), (w64 768), (w64 800), (.slice 157 0 3 (.exact 3)), (.ptr 146 18), (.slice 1148 0 7 (.opn 1)), (.map 831), (.slice 156 0 3 (.opn 1)), (i64 1), (.map 834), .nilSlice, (.ptr 146 25), (.slice 1430 0 231 (.opn 1)), (.slice 1432 0 8 (.opn 2))] 193 .solid))
def q4_11 : Nat × AObj := (1430, (.row (rle [(1, (w8 2)), (3, (w8 0)), (1, (w8 4)), (3, (w8 0)), (1, (w8 3)), (3, (w8 0)), (1, (w8 2)), (15, (w8 0)), (1, (w8 1)), (27, (w8 0)), (1, (w8 1)), (3, (w8 0)), (1, (w8 16)), (1, (w8 0)), (1, (w8 1)), (1, (w8 0)), (1, (w8 4)), (1, (w8 1)), (14, (w8 0)), (1, (w8 3)), (3, (w8 0)), (1, (w8 16)), (19, (w8 0)), (1, (w8 5)), (3, (w8 0)), (1, (w8 32)), (20, (w8 0)), (1, (w8 3)), (6, (w8 0)), (1, (w8 5)), (3, (w8 0)), (1, (sb 14)), (11, (w8 0)), (1, (w8 8)), (1, (w8 3)), (6, (w8 0)), (1, (w8 5)), (3, (w8 0)), (1, (sb 15)), (11, (w8 0)), (1, (w8 16)), (1, (w8 3)), (6, (w8 0)), (1, (w8 5)), (3, (w8 0)), (1, (sb 16)), (11, (w8 0)), (1, (w8 24)), (1, (w8 3)), (6, (w8 0)), (1, (w8 5)), (3, (w8 0)), (1, (sb 17)), (12, (w8 0)), (1, (w8 102)), (1, (w8 0)), (1, (w8 103)), (1, (w8 0)), (1, (w8 104)), (1, (w8 0))]) 5 (.buf 231 false)))
def q4_12 : Nat × AObj := (4646, (.row [(w32 1), (i64 4), (w64 400), (w64 0), (w64 231), (w64 231), (w32 1), (i64 5), (w64 631), (w64 256), (w64 64), (w64 64), (w32 1), (i64 6), (w64 695), (w64 512), (w64 144), (w64 144), (w32 2), (i64 6), (w64 695), (w64 512), (w64 144), (w64 144), (w32 0x6474e552), (i64 4), (w64 695), (w64 512), (w64 0), (w64 256), (w32 1), (i64 6), (w64 839), (w64 768), (w64 32), (w64 32)] 169 (.buf 0 false)))
def b36 : Fact where
  f := 75
  args := [(.ptr 146 0)]
  next := 158
  pre := [(156, (.row [(i64 0), (i64 1), (i64 2)] 3 (.buf 0 false))), (157, (.row [(i64 1), (i64 2), (i64 3)] 3 .solid)), q4_0, q4_1, (146, (.row [(.str ⟨0, 0⟩), .nilSlice, (.slice 3 0 3 (.exact 3)), (.str ⟨16, 0⟩), (.str ⟨0, 0⟩), .nilSlice, (.slice 60 0 4 (.opn 1)), .nilSlice, .nilSlice, (.bool false), (.bool false), (.bool false), (w64 0), (w64 0), (w64 0), (w64 0), (w64 0), (.slice 157 0 3 (.exact 3)), .nilPtr, .nilSlice, .nilMap, (.slice 156 0 3 (.opn 1)), (i64 1), .nilMap, .nilSlice, .nilPtr, .nilSlice, .nilSlice] 193 .solid))]
  r := (.tuple [])
  objs := [q4_2, q4_3, (161, (.map [] 0)), q4_4, q4_5, (146, (.row [(.str ⟨0, 0⟩), .nilSlice, (.slice 3 0 3 (.exact 3)), (.str ⟨16, 0⟩), (.str ⟨0, 0⟩), .nilSlice, (.slice 60 0 4 (.opn 1)), .nilSlice, .nilSlice, (.bool false), (.bool false), (.bool false), (w64 0), (w64 0), (w64 0), (w64 0), (w64 0), (.slice 157 0 3 (.exact 3)), (.ptr 146 18), (.slice 475 0 7 (.opn 1)), (.map 158), (.slice 156 0 3 (.opn 1)), (i64 1), (.map 161), .nilSlice, (.ptr 146 25), (.slice 757 0 231 (.opn 1)), (.slice 759 0 8 (.opn 2))] 193 .solid)), q4_1, q4_0, (157, (.row [(i64 1), (i64 2), (i64 3)] 3 .solid)), (156, (.row [(i64 0), (i64 1), (i64 2)] 3 (.buf 0 false)))]
  next' := 760
theorem b36_ok [Val] (h : AllEq tab4) : b36.Ok P G := Fact.ok_of (n := 100000) (EnvOk.know (EnvOk.tab env0 h) (l := []) knowsNone) (by kernel_rfl)
def b37 : Fact where
  f := 75
  args := [(.ptr 146 0)]
  next := 831
  pre := [q4_2, q4_3, (161, (.map [] 0)), (156, (.row [(i64 0), (i64 1), (i64 2)] 3 (.buf 0 false))), q4_4, q4_5, (157, (.row [(i64 1), (i64 2), (i64 3)] 3 .solid)), q4_0, q4_1, (146, (.row [(.str ⟨0, 0⟩), .nilSlice, (.slice 3 0 3 (.exact 3)), (.str ⟨16, 0⟩), (.str ⟨0, 0⟩), .nilSlice, (.slice 60 0 4 (.opn 1)), .nilSlice, .nilSlice, (.bool false), (.bool false), (.bool false), (w64 256), (w64 272), (w64 512), (w64 768), (w64 800), (.slice 157 0 3 (.exact 3)), (.ptr 146 18), (.slice 475 0 7 (.opn 1)), (.map 158), (.slice 156 0 3 (.opn 1)), (i64 1), (.map 161), .nilSlice, (.ptr 146 25), (.slice 757 0 231 (.opn 1)), (.slice 759 0 8 (.opn 2))] 193 .solid))]
  r := (.tuple [])
  objs := [q4_6, q4_7, (834, (.map [] 0)), q4_8, q4_9, q4_10, q4_1, q4_0, (157, (.row [(i64 1), (i64 2), (i64 3)] 3 .solid)), q4_5, q4_4, (156, (.row [(i64 0), (i64 1), (i64 2)] 3 (.buf 0 false))), (161, (.map [] 0)), q4_3, q4_2]
  next' := 1433
theorem b37_ok [Val] (h : AllEq tab4) : b37.Ok P G := Fact.ok_of (n := 100000) (EnvOk.know (EnvOk.tab env0 h) (l := []) knowsNone) (by kernel_rfl)
def b38 : Fact where
  f := 150
  args := [(.ptr 146 0)]
  next := 1505
  pre := [q4_6, q4_11, (834, (.map [] 0)), (156, (.row [(i64 0), (i64 1), (i64 2)] 3 (.buf 0 false))), q4_8, q4_9, (157, (.row [(i64 1), (i64 2), (i64 3)] 3 .solid)), q4_0, q4_1, q4_10]
  r := (.str ⟨48, 0x170e0000033e0e1f67000e00170e0000033ece1e67000e00170e0000033e8e1e67000e00170e0000033e4e1e67000e00⟩)
  objs := [q4_10, q4_1, q4_0, (157, (.row [(i64 1), (i64 2), (i64 3)] 3 .solid)), q4_9, q4_8, (156, (.row [(i64 0), (i64 1), (i64 2)] 3 (.buf 0 false))), (834, (.map [] 0)), q4_11, q4_6]
  next' := 4285
theorem b38_ok [Val] (h : AllEq tab4) : b38.Ok P G := Fact.ok_of (n := 100000) (EnvOk.know (EnvOk.tab env0 h) (l := [e0.at_ 1506, e1.at_ 1639, e2.at_ 2016, e0.at_ 2201, e3.at_ 2334, e2.at_ 2711, e0.at_ 2896, e4.at_ 3029, e2.at_ 3406, e0.at_ 3591, e5.at_ 3724, e2.at_ 4101]) (knows (e0_at (by decide)) (knows (e1_at (by decide)) (knows (e2_at (by decide)) (knows (e0_at (by decide)) (knows (e3_at (by decide)) (knows (e2_at (by decide)) (knows (e0_at (by decide)) (knows (e4_at (by decide)) (knows (e2_at (by decide)) (knows (e0_at (by decide)) (knows (e5_at (by decide)) (knows (e2_at (by decide)) knowsNone))))))))))))) (by kernel_rfl)
def b39 : Fact where
  f := 79
  args := [(.ptr 146 0)]
  next := 1442
  pre := [q4_6, q4_7, (834, (.map [] 0)), (156, (.row [(i64 0), (i64 1), (i64 2)] 3 (.buf 0 false))), q4_8, q4_9, (157, (.row [(i64 1), (i64 2), (i64 3)] 3 .solid)), q4_0, q4_1, q4_10]
  r := (.sy .str (.op (.hole [540, 564, 588, 612]) [(.str T4), (yb 14), (yb 15), (yb 16), (yb 17)]))
  objs := [q4_10, q4_1, q4_0, (157, (.row [(i64 1), (i64 2), (i64 3)] 3 .solid)), q4_9, q4_8, (156, (.row [(i64 0), (i64 1), (i64 2)] 3 (.buf 0 false))), (834, (.map [] 0)), q4_11, q4_6]
  next' := 4559
theorem b39_ok [Val] (h : AllEq tab4) : b39.Ok P G := Fact.ok_of (n := 100000) (EnvOk.know (EnvOk.tab env0 h) (l := [b38]) (knows (b38_ok h) knowsNone)) (by kernel_rfl)
def b40 : Fact where
  f := 45
  args := [(.agg [(.str ⟨0, 0⟩), .nilSlice, (.slice 3 0 3 (.exact 3)), (.str ⟨16, 0⟩), (.str ⟨0, 0⟩), .nilSlice, (.slice 60 0 4 (.opn 1)), .nilSlice, .nilSlice, (.bool false), (.bool false), (.bool false)])]
  next := 61
  pre := [q4_0, q4_1]
  r := (.tuple [(.sy .str (.op (.hole [540, 564, 588, 612]) [(.str T4), (yb 14), (yb 15), (yb 16), (yb 17)])), (.agg [(w64 256), (w64 272), (w64 512), (w64 768), (w64 800), (.slice 157 0 3 (.exact 3))]), (i64 0)])
  objs := [q4_1, q4_0, (157, (.row [(i64 1), (i64 2), (i64 3)] 3 .solid))]
  next' := 4559
theorem b40_ok [Val] (h : AllEq tab4) : b40.Ok P G := Fact.ok_of (n := 100000) (EnvOk.know (EnvOk.tab env0 h) (l := [b36, b37, b39]) (knows (b36_ok h) (knows (b37_ok h) (knows (b39_ok h) knowsNone)))) (by kernel_rfl)
def b41 : Fact where
  f := 80
  args := [(.sy .str (.op (.hole [540, 564, 588, 612]) [(.str T4), (yb 14), (yb 15), (yb 16), (yb 17)]))]
  next := 4561
  pre := []
  r := (.tuple [(.agg [(.sy .str (.op (.hole [540, 564, 588, 612]) [(.str T4), (yb 14), (yb 15), (yb 16), (yb 17)])), (w64 0), (.slice 4646 0 6 (.opn 6))]), (.agg [(i64 0), (w64 0), (.str ⟨0, 0⟩)])])
  objs := [q4_12]
  next' := 4647
theorem b41_ok [Val] (h : AllEq tab4) : b41.Ok P G := Fact.ok_of (n := 100000) (EnvOk.know (EnvOk.tab env0 h) (l := []) knowsNone) (by kernel_rfl)
def b42 : Fact where
  f := 46
  args := [(.sy .str (.op (.hole [540, 564, 588, 612]) [(.str T4), (yb 14), (yb 15), (yb 16), (yb 17)]))]
  next := 4560
  pre := []
  r := (.tuple [(.ptr 4650 0), (.agg [(i64 0), (w64 0), (.str ⟨0, 0⟩)])])
  objs := [(4774, (.row [(w64 4), (w64 0), (w64 6), (w64 32), (w64 7), (w64 128), (w64 8), (w64 0), (w64 23), (w64 128), (w64 2), (w64 96), (w64 5), (w64 224), (w64 10), (w64 7)] 259 (.buf 0 false))), (4901, (.row [(w32 3), (w32 2), (w32 0), (w32 0), (w32 0), (w32 1)] 167 (.buf 0 false))), (5819, (.row [(w64 512), (w64 768)] 96 (.buf 0 false))), (5488, (.row [(w64 768), (i64 5), (si 14), (w64 0), (w64 776), (i64 5), (si 15), (w64 0), (w64 784), (i64 5), (si 16), (w64 0), (w64 792), (i64 5), (si 17), (w64 0)] 31 (.buf 0 false))), (5285, (.row [(.str ⟨0, 0⟩), (.str ⟨0, 0⟩), (.bool false), (.str ⟨0, 0⟩), (.str ⟨0, 0⟩), (.bool false), (.str ⟨0, 0⟩), (.str ⟨0, 0⟩), (.bool false), (.str ⟨0, 0⟩), (.str ⟨0, 0⟩), (.bool false)] 210 .solid)), (5225, (.row [(.str ⟨0, 0⟩), (i64 0), (i64 0), (i64 0), (.bool false), (w64 0), (w64 0), (.str ⟨1, 102⟩), (i64 1), (i64 0), (i64 0), (.bool true), (w64 260), (w64 0), (.str ⟨1, 103⟩), (i64 1), (i64 0), (i64 0), (.bool false), (w64 0), (w64 0), (.str ⟨1, 104⟩), (i64 2), (i64 0), (i64 0), (.bool false), (w64 0), (w64 0)] 150 (.buf 0 false))), q4_12, (4650, (.row [(.sy .str (.op (.hole [540, 564, 588, 612]) [(.str T4), (yb 14), (yb 15), (yb 16), (yb 17)])), (w64 0), (.slice 4646 0 6 (.opn 6)), (.str ⟨0, 0⟩), .nilSlice, (.slice 5225 0 4 (.opn 7)), (.slice 5285 0 4 (.exact 4)), .nilSlice, (.slice 5488 0 4 (.opn 4)), (w64 0), (w64 0), (w64 0), (w64 0), (.slice 5819 0 1 (.opn 2)), (.bool false), (.bool false), (.iface 268 (.agg [(.slice 4901 0 2 (.exact 2)), (.slice 4901 2 4 (.opn 1))])), (.slice 4774 0 8 (.opn 2)), (i64 4)] 103 .solid))]
  next' := 5854
theorem b42_ok [Val] (h : AllEq tab4) : b42.Ok P G := Fact.ok_of (n := 100000) (EnvOk.know (EnvOk.tab env0 h) (l := [b41]) (knows (b41_ok h) knowsNone)) (by kernel_rfl)
end Go.Proofs.YtjmjbjnbfodalaaGreat
set_option maxRecDepth 1000000
namespace Go.Proofs.YtjmjbjnbfodalaaGreat
open Go.Tc
def q5_0 : Nat × AObj := (74, (.row [(si 2), (si 3), (si 4), (si 5), (si 6)] 3 (.buf 0 false)))
def q5_1 : Nat × AObj := (3, (.row [(.str ⟨1, 102⟩), (.str ⟨0, 0⟩), (.str ⟨0, 0⟩), (.bool false), (i64 1), (i64 0), (i64 1), (w64 4), (.str ⟨1, 103⟩), (.str ⟨0, 0⟩), (.str ⟨0, 0⟩), (.bool false), (i64 1), (i64 0), (i64 0), (w64 0), (.str ⟨1, 104⟩), (.str ⟨0, 0⟩), (.str ⟨0, 0⟩), (.bool false), (i64 2), (i64 0), (i64 0), (w64 0)] 139 .solid))
def q5_2 : Nat × AObj := (818, (.row [(w64 4), (w64 0), (w64 6), (w64 32), (w64 7), (w64 128), (w64 8), (w64 0), (w64 23), (w64 128), (w64 2), (w64 120), (w64 5), (w64 248), (w64 10), (w64 7)] 259 (.buf 0 false)))
def q5_3 : Nat × AObj := (816, (.row (rle [(1, (w8 2)), (3, (w8 0)), (1, (w8 4)), (3, (w8 0)), (1, (w8 3)), (3, (w8 0)), (1, (w8 2)), (15, (w8 0)), (1, (w8 1)), (27, (w8 0)), (1, (w8 1)), (3, (w8 0)), (1, (w8 16)), (1, (w8 0)), (1, (w8 1)), (1, (w8 0)), (1, (w8 4)), (15, (w8 0)), (1, (w8 3)), (3, (w8 0)), (1, (w8 16)), (19, (w8 0)), (1, (w8 5)), (3, (w8 0)), (1, (w8 32)), (27, (w8 0)), (1, (w8 5)), (3, (w8 0)), (1, (sb 14)), (11, (w8 0)), (1, (w8 8)), (7, (w8 0)), (1, (w8 5)), (3, (w8 0)), (1, (sb 15)), (11, (w8 0)), (1, (w8 16)), (7, (w8 0)), (1, (w8 5)), (3, (w8 0)), (1, (sb 16)), (11, (w8 0)), (1, (w8 24)), (7, (w8 0)), (1, (w8 5)), (3, (w8 0)), (1, (sb 17)), (11, (w8 0)), (1, (w8 32)), (7, (w8 0)), (1, (w8 5)), (3, (w8 0)), (1, (sb 18)), (12, (w8 0)), (1, (w8 102)), (1, (w8 0)), (1, (w8 103)), (1, (w8 0)), (1, (w8 104)), (1, (w8 0))]) 5 (.buf 0 false)))
def q5_4 : Nat × AObj := (172, (.map [⟨(.str ⟨0, 0⟩), (i64 0), 0⟩, ⟨(.str ⟨1, 102⟩), (i64 1), 1⟩, ⟨(.str ⟨1, 103⟩), (i64 3), 2⟩, ⟨(.str ⟨1, 104⟩), (i64 5), 3⟩] 4))
def q5_5 : Nat × AObj := (489, (.row [(w8 0), (w8 102), (w8 0), (w8 103), (w8 0), (w8 104), (w8 0)] 5 (.buf 7 false)))
def q5_6 : Nat × AObj := (1536, (.row [(w64 4), (w64 0), (w64 6), (w64 32), (w64 7), (w64 128), (w64 8), (w64 0), (w64 23), (w64 128), (w64 2), (w64 120), (w64 5), (w64 248), (w64 10), (w64 7)] 259 (.buf 0 false)))
def q5_7 : Nat × AObj := (1534, (.row (rle [(1, (w8 2)), (3, (w8 0)), (1, (w8 4)), (3, (w8 0)), (1, (w8 3)), (3, (w8 0)), (1, (w8 2)), (15, (w8 0)), (1, (w8 1)), (27, (w8 0)), (1, (w8 1)), (3, (w8 0)), (1, (w8 16)), (1, (w8 0)), (1, (w8 1)), (1, (w8 0)), (1, (w8 4)), (1, (w8 1)), (14, (w8 0)), (1, (w8 3)), (3, (w8 0)), (1, (w8 16)), (19, (w8 0)), (1, (w8 5)), (3, (w8 0)), (1, (w8 32)), (20, (w8 0)), (1, (w8 3)), (6, (w8 0)), (1, (w8 5)), (3, (w8 0)), (1, (sb 14)), (11, (w8 0)), (1, (w8 8)), (1, (w8 3)), (6, (w8 0)), (1, (w8 5)), (3, (w8 0)), (1, (sb 15)), (11, (w8 0)), (1, (w8 16)), (1, (w8 3)), (6, (w8 0)), (1, (w8 5)), (3, (w8 0)), (1, (sb 16)), (11, (w8 0)), (1, (w8 24)), (1, (w8 3)), (6, (w8 0)), (1, (w8 5)), (3, (w8 0)), (1, (sb 17)), (11, (w8 0)), (1, (w8 32)), (1, (w8 3)), (6, (w8 0)), (1, (w8 5)), (3, (w8 0)), (1, (sb 18)), (12, (w8 0)), (1, (w8 102)), (1, (w8 0)), (1, (w8 103)), (1, (w8 0)), (1, (w8 104)), (1, (w8 0))]) 5 (.buf 0 false)))
def q5_8 : Nat × AObj := (890, (.map [⟨(.str ⟨0, 0⟩), (i64 0), 0⟩, ⟨(.str ⟨1, 102⟩), (i64 1), 1⟩, ⟨(.str ⟨1, 103⟩), (i64 3), 2⟩, ⟨(.str ⟨1, 104⟩), (i64 5), 3⟩] 4))
def q5_9 : Nat × AObj := (1207, (.row [(w8 0), (w8 102), (w8 0), (w8 103), (w8 0), (w8 104), (w8 0)] 5 (.buf 7 false)))
def q5_10 : Nat × AObj := (160, (.row [(.str ⟨0, 0⟩), .nilSlice, (.slice 3 0 3 (.exact 3)), (.str ⟨16, 0⟩), (.str ⟨0, 0⟩), .nilSlice, (.slice 74 0 5 (.opn 1)), .nilSlice, .nilSlice, (.bool false), (.bool false), (.bool false), (w64 256), (w64 272), (w64 512), (w64 768), (w64 808), (.slice 171 0 3 (.exact 3)), (.ptr 160 18), (.slice 1207 0 7 (.opn 1)), (.map 890), (.slice 170 0 3 (.opn 1)), (i64 1), (.map 893), .nilSlice, (.ptr 160 25), (.slice 1534 0 255 (.opn 1)), (.slice 1536 0 8 (.opn 2))] 193 .solid))
def q5_11 : Nat × AObj := (1534, (.row (rle [(1, (w8 2)), (3, (w8 0)), (1, (w8 4)), (3, (w8 0)), (1, (w8 3)), (3, (w8 0)), (1, (w8 2)), (15, (w8 0)), (1, (w8 1)), (27, (w8 0)), (1, (w8 1)), (3, (w8 0)), (1, (w8 16)), (1, (w8 0)), (1, (w8 1)), (1, (w8 0)), (1, (w8 4)), (1, (w8 1)), (14, (w8 0)), (1, (w8 3)), (3, (w8 0)), (1, (w8 16)), (19, (w8 0)), (1, (w8 5)), (3, (w8 0)), (1, (w8 32)), (20, (w8 0)), (1, (w8 3)), (6, (w8 0)), (1, (w8 5)), (3, (w8 0)), (1, (sb 14)), (11, (w8 0)), (1, (w8 8)), (1, (w8 3)), (6, (w8 0)), (1, (w8 5)), (3, (w8 0)), (1, (sb 15)), (11, (w8 0)), (1, (w8 16)), (1, (w8 3)), (6, (w8 0)), (1, (w8 5)), (3, (w8 0)), (1, (sb 16)), (11, (w8 0)), (1, (w8 24)), (1, (w8 3)), (6, (w8 0)), (1, (w8 5)), (3, (w8 0)), (1, (sb 17)), (11, (w8 0)), (1, (w8 32)), (1, (w8 3)), (6, (w8 0)), (1, (w8 5)), (3, (w8 0)), (1, (sb 18)), (12, (w8 0)), (1, (w8 102)), (1, (w8 0)), (1, (w8 103)), (1, (w8 0)), (1, (w8 104)), (1, (w8 0))]) 5 (.buf 255 false)))
def q5_12 : Nat × AObj := (5445, (.row [(w32 1), (i64 4), (w64 400), (w64 0), (w64 255), (w64 255), (w32 1), (i64 5), (w64 655), (w64 256), (w64 76), (w64 76), (w32 1), (i64 6), (w64 731), (w64 512), (w64 144), (w64 144), (w32 2), (i64 6), (w64 731), (w64 512), (w64 144), (w64 144), (w32 0x6474e552), (i64 4), (w64 731), (w64 512), (w64 0), (w64 256), (w32 1), (i64 6), (w64 875), (w64 768), (w64 40), (w64 40)] 169 (.buf 0 false)))
def q5_13 : Nat × AObj := (5573, (.row [(w64 4), (w64 0), (w64 6), (w64 32), (w64 7), (w64 128), (w64 8), (w64 0), (w64 23), (w64 128), (w64 2), (w64 120), (w64 5), (w64 248), (w64 10), (w64 7)] 259 (.buf 0 false)))
def q5_14 : Nat × AObj := (5700, (.row [(w32 3), (w32 2), (w32 0), (w32 0), (w32 0), (w32 1)] 167 (.buf 0 false)))
def q5_15 : Nat × AObj := (6084, (.row [(.str ⟨0, 0⟩), (.str ⟨0, 0⟩), (.bool false), (.str ⟨0, 0⟩), (.str ⟨0, 0⟩), (.bool false), (.str ⟨0, 0⟩), (.str ⟨0, 0⟩), (.bool false), (.str ⟨0, 0⟩), (.str ⟨0, 0⟩), (.bool false)] 210 .solid))
def q5_16 : Nat × AObj := (6024, (.row [(.str ⟨0, 0⟩), (i64 0), (i64 0), (i64 0), (.bool false), (w64 0), (w64 0), (.str ⟨1, 102⟩), (i64 1), (i64 0), (i64 0), (.bool true), (w64 260), (w64 0), (.str ⟨1, 103⟩), (i64 1), (i64 0), (i64 0), (.bool false), (w64 0), (w64 0), (.str ⟨1, 104⟩), (i64 2), (i64 0), (i64 0), (.bool false), (w64 0), (w64 0)] 150 (.buf 0 false)))
def q5_17 : Nat × AObj := (6307, (.row [(w64 768), (i64 5), (si 14), (w64 0), (w64 776), (i64 5), (si 15), (w64 0), (w64 784), (i64 5), (si 16), (w64 0), (w64 792), (i64 5), (si 17), (w64 0), (w64 800), (i64 5), (si 18), (w64 0)] 31 (.buf 0 false)))
def b43 : Fact where
  f := 75
  args := [(.ptr 160 0)]
  next := 172
  pre := [(170, (.row [(i64 0), (i64 1), (i64 2)] 3 (.buf 0 false))), (171, (.row [(i64 1), (i64 2), (i64 3)] 3 .solid)), q5_0, q5_1, (160, (.row [(.str ⟨0, 0⟩), .nilSlice, (.slice 3 0 3 (.exact 3)), (.str ⟨16, 0⟩), (.str ⟨0, 0⟩), .nilSlice, (.slice 74 0 5 (.opn 1)), .nilSlice, .nilSlice, (.bool false), (.bool false), (.bool false), (w64 0), (w64 0), (w64 0), (w64 0), (w64 0), (.slice 171 0 3 (.exact 3)), .nilPtr, .nilSlice, .nilMap, (.slice 170 0 3 (.opn 1)), (i64 1), .nilMap, .nilSlice, .nilPtr, .nilSlice, .nilSlice] 193 .solid))]
  r := (.tuple [])
  objs := [q5_2, q5_3, (175, (.map [] 0)), q5_4, q5_5, (160, (.row [(.str ⟨0, 0⟩), .nilSlice, (.slice 3 0 3 (.exact 3)), (.str ⟨16, 0⟩), (.str ⟨0, 0⟩), .nilSlice, (.slice 74 0 5 (.opn 1)), .nilSlice, .nilSlice, (.bool false), (.bool false), (.bool false), (w64 0), (w64 0), (w64 0), (w64 0), (w64 0), (.slice 171 0 3 (.exact 3)), (.ptr 160 18), (.slice 489 0 7 (.opn 1)), (.map 172), (.slice 170 0 3 (.opn 1)), (i64 1), (.map 175), .nilSlice, (.ptr 160 25), (.slice 816 0 255 (.opn 1)), (.slice 818 0 8 (.opn 2))] 193 .solid)), q5_1, q5_0, (171, (.row [(i64 1), (i64 2), (i64 3)] 3 .solid)), (170, (.row [(i64 0), (i64 1), (i64 2)] 3 (.buf 0 false)))]
  next' := 819
theorem b43_ok [Val] (h : AllEq tab5) : b43.Ok P G := Fact.ok_of (n := 100000) (EnvOk.know (EnvOk.tab env0 h) (l := []) knowsNone) (by kernel_rfl)
def b44 : Fact where
  f := 75
  args := [(.ptr 160 0)]
  next := 890
  pre := [q5_2, q5_3, (175, (.map [] 0)), (170, (.row [(i64 0), (i64 1), (i64 2)] 3 (.buf 0 false))), q5_4, q5_5, (171, (.row [(i64 1), (i64 2), (i64 3)] 3 .solid)), q5_0, q5_1, (160, (.row [(.str ⟨0, 0⟩), .nilSlice, (.slice 3 0 3 (.exact 3)), (.str ⟨16, 0⟩), (.str ⟨0, 0⟩), .nilSlice, (.slice 74 0 5 (.opn 1)), .nilSlice, .nilSlice, (.bool false), (.bool false), (.bool false), (w64 256), (w64 272), (w64 512), (w64 768), (w64 808), (.slice 171 0 3 (.exact 3)), (.ptr 160 18), (.slice 489 0 7 (.opn 1)), (.map 172), (.slice 170 0 3 (.opn 1)), (i64 1), (.map 175), .nilSlice, (.ptr 160 25), (.slice 816 0 255 (.opn 1)), (.slice 818 0 8 (.opn 2))] 193 .solid))]
  r := (.tuple [])
  objs := [q5_6, q5_7, (893, (.map [] 0)), q5_8, q5_9, q5_10, q5_1, q5_0, (171, (.row [(i64 1), (i64 2), (i64 3)] 3 .solid)), q5_5, q5_4, (170, (.row [(i64 0), (i64 1), (i64 2)] 3 (.buf 0 false))), (175, (.map [] 0)), q5_3, q5_2]
  next' := 1537
theorem b44_ok [Val] (h : AllEq tab5) : b44.Ok P G := Fact.ok_of (n := 100000) (EnvOk.know (EnvOk.tab env0 h) (l := []) knowsNone) (by kernel_rfl)
def b45 : Fact where
  f := 150
  args := [(.ptr 160 0)]
  next := 1609
  pre := [q5_6, q5_11, (893, (.map [] 0)), (170, (.row [(i64 0), (i64 1), (i64 2)] 3 (.buf 0 false))), q5_8, q5_9, (171, (.row [(i64 1), (i64 2), (i64 3)] 3 .solid)), q5_0, q5_1, q5_10]
  r := (.str T5)
  objs := [q5_10, q5_1, q5_0, (171, (.row [(i64 1), (i64 2), (i64 3)] 3 .solid)), q5_9, q5_8, (170, (.row [(i64 0), (i64 1), (i64 2)] 3 (.buf 0 false))), (893, (.map [] 0)), q5_11, q5_6]
  next' := 5084
theorem b45_ok [Val] (h : AllEq tab5) : b45.Ok P G := Fact.ok_of (n := 100000) (EnvOk.know (EnvOk.tab env0 h) (l := [e0.at_ 1610, e1.at_ 1743, e2.at_ 2120, e0.at_ 2305, e3.at_ 2438, e2.at_ 2815, e0.at_ 3000, e4.at_ 3133, e2.at_ 3510, e0.at_ 3695, e5.at_ 3828, e2.at_ 4205, e0.at_ 4390, e6.at_ 4523, e2.at_ 4900]) (knows (e0_at (by decide)) (knows (e1_at (by decide)) (knows (e2_at (by decide)) (knows (e0_at (by decide)) (knows (e3_at (by decide)) (knows (e2_at (by decide)) (knows (e0_at (by decide)) (knows (e4_at (by decide)) (knows (e2_at (by decide)) (knows (e0_at (by decide)) (knows (e5_at (by decide)) (knows (e2_at (by decide)) (knows (e0_at (by decide)) (knows (e6_at (by decide)) (knows (e2_at (by decide)) knowsNone)))))))))))))))) (by kernel_rfl)
def b46 : Fact where
  f := 79
  args := [(.ptr 160 0)]
  next := 1546
  pre := [q5_6, q5_7, (893, (.map [] 0)), (170, (.row [(i64 0), (i64 1), (i64 2)] 3 (.buf 0 false))), q5_8, q5_9, (171, (.row [(i64 1), (i64 2), (i64 3)] 3 .solid)), q5_0, q5_1, q5_10]
  r := (.sy .str (.op (.hole [540, 564, 588, 612, 636]) [(.str T6), (yb 14), (yb 15), (yb 16), (yb 17), (yb 18)]))
  objs := [q5_10, q5_1, q5_0, (171, (.row [(i64 1), (i64 2), (i64 3)] 3 .solid)), q5_9, q5_8, (170, (.row [(i64 0), (i64 1), (i64 2)] 3 (.buf 0 false))), (893, (.map [] 0)), q5_11, q5_6]
  next' := 5358
theorem b46_ok [Val] (h : AllEq tab5) : b46.Ok P G := Fact.ok_of (n := 100000) (EnvOk.know (EnvOk.tab env0 h) (l := [b45]) (knows (b45_ok h) knowsNone)) (by kernel_rfl)
def b47 : Fact where
  f := 45
  args := [(.agg [(.str ⟨0, 0⟩), .nilSlice, (.slice 3 0 3 (.exact 3)), (.str ⟨16, 0⟩), (.str ⟨0, 0⟩), .nilSlice, (.slice 74 0 5 (.opn 1)), .nilSlice, .nilSlice, (.bool false), (.bool false), (.bool false)])]
  next := 75
  pre := [q5_0, q5_1]
  r := (.tuple [(.sy .str (.op (.hole [540, 564, 588, 612, 636]) [(.str T6), (yb 14), (yb 15), (yb 16), (yb 17), (yb 18)])), (.agg [(w64 256), (w64 272), (w64 512), (w64 768), (w64 808), (.slice 171 0 3 (.exact 3))]), (i64 0)])
  objs := [q5_1, q5_0, (171, (.row [(i64 1), (i64 2), (i64 3)] 3 .solid))]
  next' := 5358
theorem b47_ok [Val] (h : AllEq tab5) : b47.Ok P G := Fact.ok_of (n := 100000) (EnvOk.know (EnvOk.tab env0 h) (l := [b43, b44, b46]) (knows (b43_ok h) (knows (b44_ok h) (knows (b46_ok h) knowsNone)))) (by kernel_rfl)
def b48 : Fact where
  f := 80
  args := [(.sy .str (.op (.hole [540, 564, 588, 612, 636]) [(.str T6), (yb 14), (yb 15), (yb 16), (yb 17), (yb 18)]))]
  next := 5360
  pre := []
  r := (.tuple [(.agg [(.sy .str (.op (.hole [540, 564, 588, 612, 636]) [(.str T6), (yb 14), (yb 15), (yb 16), (yb 17), (yb 18)])), (w64 0), (.slice 5445 0 6 (.opn 6))]), (.agg [(i64 0), (w64 0), (.str ⟨0, 0⟩)])])
  objs := [q5_12]
  next' := 5446
theorem b48_ok [Val] (h : AllEq tab5) : b48.Ok P G := Fact.ok_of (n := 100000) (EnvOk.know (EnvOk.tab env0 h) (l := []) knowsNone) (by kernel_rfl)
def b49 : Fact where
  f := 86
  args := [(.ptr 5449 0)]
  next := 6087
  pre := [q5_13, q5_14, q5_15, q5_16, q5_12, (5449, (.row [(.sy .str (.op (.hole [540, 564, 588, 612, 636]) [(.str T6), (yb 14), (yb 15), (yb 16), (yb 17), (yb 18)])), (w64 0), (.slice 5445 0 6 (.opn 6)), (.str ⟨0, 0⟩), .nilSlice, (.slice 6024 0 4 (.opn 7)), (.slice 6084 0 4 (.exact 4)), .nilSlice, .nilSlice, (w64 0), (w64 0), (w64 0), (w64 0), .nilSlice, (.bool false), (.bool false), (.iface 268 (.agg [(.slice 5700 0 2 (.exact 2)), (.slice 5700 2 4 (.opn 1))])), (.slice 5573 0 8 (.opn 2)), (i64 4)] 103 .solid))]
  r := (.agg [(i64 0), (w64 0), (.str ⟨0, 0⟩)])
  objs := [q5_17, (5449, (.row [(.sy .str (.op (.hole [540, 564, 588, 612, 636]) [(.str T6), (yb 14), (yb 15), (yb 16), (yb 17), (yb 18)])), (w64 0), (.slice 5445 0 6 (.opn 6)), (.str ⟨0, 0⟩), .nilSlice, (.slice 6024 0 4 (.opn 7)), (.slice 6084 0 4 (.exact 4)), .nilSlice, (.slice 6307 0 5 (.opn 4)), (w64 0), (w64 0), (w64 0), (w64 0), .nilSlice, (.bool false), (.bool false), (.iface 268 (.agg [(.slice 5700 0 2 (.exact 2)), (.slice 5700 2 4 (.opn 1))])), (.slice 5573 0 8 (.opn 2)), (i64 4)] 103 .solid)), q5_12, q5_16, q5_15, q5_14, q5_13]
  next' := 6475
theorem b49_ok [Val] (h : AllEq tab5) : b49.Ok P G := Fact.ok_of (n := 100000) (EnvOk.know (EnvOk.tab env0 h) (l := []) knowsNone) (by kernel_rfl)
def b50 : Fact where
  f := 46
  args := [(.sy .str (.op (.hole [540, 564, 588, 612, 636]) [(.str T6), (yb 14), (yb 15), (yb 16), (yb 17), (yb 18)]))]
  next := 5359
  pre := []
  r := (.tuple [(.ptr 5449 0), (.agg [(i64 0), (w64 0), (.str ⟨0, 0⟩)])])
  objs := [q5_13, q5_14, (6671, (.row [(w64 512), (w64 768)] 96 (.buf 0 false))), q5_17, q5_15, q5_16, q5_12, (5449, (.row [(.sy .str (.op (.hole [540, 564, 588, 612, 636]) [(.str T6), (yb 14), (yb 15), (yb 16), (yb 17), (yb 18)])), (w64 0), (.slice 5445 0 6 (.opn 6)), (.str ⟨0, 0⟩), .nilSlice, (.slice 6024 0 4 (.opn 7)), (.slice 6084 0 4 (.exact 4)), .nilSlice, (.slice 6307 0 5 (.opn 4)), (w64 0), (w64 0), (w64 0), (w64 0), (.slice 6671 0 1 (.opn 2)), (.bool false), (.bool false), (.iface 268 (.agg [(.slice 5700 0 2 (.exact 2)), (.slice 5700 2 4 (.opn 1))])), (.slice 5573 0 8 (.opn 2)), (i64 4)] 103 .solid))]
  next' := 6706
theorem b50_ok [Val] (h : AllEq tab5) : b50.Ok P G := Fact.ok_of (n := 100000) (EnvOk.know (EnvOk.tab env0 h) (l := [b48, b49]) (knows (b48_ok h) (knows (b49_ok h) knowsNone))) (by kernel_rfl)
end Go.Proofs.YtjmjbjnbfodalaaGreat
