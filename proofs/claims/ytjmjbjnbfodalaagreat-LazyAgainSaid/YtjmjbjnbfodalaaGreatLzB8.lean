/- files with 8 slots: what pack.Build and object.Read answer, in parts. No condition. -/
import Derived.Test.YtjmjbjnbfodalaaGreatLzE
set_option linter.unusedSimpArgs false
set_option linter.unusedVariables false
set_option linter.unusedSectionVars false
set_option maxRecDepth 1000000
namespace Go.Proofs.YtjmjbjnbfodalaaGreat
open Go.Tc
def q8_0 : Nat × AObj := (116, (.row [(si 2), (si 3), (si 4), (si 5), (si 6), (si 7), (si 8), (si 9)] 3 (.buf 0 false)))
def q8_1 : Nat × AObj := (3, (.row [(.str ⟨1, 102⟩), (.str ⟨0, 0⟩), (.str ⟨0, 0⟩), (.bool false), (i64 1), (i64 0), (i64 1), (w64 4), (.str ⟨1, 103⟩), (.str ⟨0, 0⟩), (.str ⟨0, 0⟩), (.bool false), (i64 1), (i64 0), (i64 0), (w64 0), (.str ⟨1, 104⟩), (.str ⟨0, 0⟩), (.str ⟨0, 0⟩), (.bool false), (i64 2), (i64 0), (i64 0), (w64 0)] 139 .solid))
def q8_2 : Nat × AObj := (995, (.row [(w64 4), (w64 0), (w64 6), (w64 32), (w64 7), (w64 128), (w64 8), (w64 0), (w64 23), (w64 128), (w64 2), (w64 192), (w64 5), (w64 320), (w64 10), (w64 7)] 259 (.buf 0 false)))
def q8_3 : Nat × AObj := (993, (.row (rle [(1, (w8 2)), (3, (w8 0)), (1, (w8 4)), (3, (w8 0)), (1, (w8 3)), (3, (w8 0)), (1, (w8 2)), (15, (w8 0)), (1, (w8 1)), (27, (w8 0)), (1, (w8 1)), (3, (w8 0)), (1, (w8 16)), (1, (w8 0)), (1, (w8 1)), (1, (w8 0)), (1, (w8 4)), (15, (w8 0)), (1, (w8 3)), (3, (w8 0)), (1, (w8 16)), (19, (w8 0)), (1, (w8 5)), (3, (w8 0)), (1, (w8 32)), (27, (w8 0)), (1, (w8 5)), (3, (w8 0)), (1, (sb 14)), (11, (w8 0)), (1, (w8 8)), (7, (w8 0)), (1, (w8 5)), (3, (w8 0)), (1, (sb 15)), (11, (w8 0)), (1, (w8 16)), (7, (w8 0)), (1, (w8 5)), (3, (w8 0)), (1, (sb 16)), (11, (w8 0)), (1, (w8 24)), (7, (w8 0)), (1, (w8 5)), (3, (w8 0)), (1, (sb 17)), (11, (w8 0)), (1, (w8 32)), (7, (w8 0)), (1, (w8 5)), (3, (w8 0)), (1, (sb 18)), (11, (w8 0)), (1, (w8 40)), (7, (w8 0)), (1, (w8 5)), (3, (w8 0)), (1, (sb 19)), (11, (w8 0)), (1, (w8 48)), (7, (w8 0)), (1, (w8 5)), (3, (w8 0)), (1, (sb 20)), (11, (w8 0)), (1, (w8 56)), (7, (w8 0)), (1, (w8 5)), (3, (w8 0)), (1, (sb 21)), (12, (w8 0)), (1, (w8 102)), (1, (w8 0)), (1, (w8 103)), (1, (w8 0)), (1, (w8 104)), (1, (w8 0))]) 5 (.buf 0 false)))
def q8_4 : Nat × AObj := (214, (.map [⟨(.str ⟨0, 0⟩), (i64 0), 0⟩, ⟨(.str ⟨1, 102⟩), (i64 1), 1⟩, ⟨(.str ⟨1, 103⟩), (i64 3), 2⟩, ⟨(.str ⟨1, 104⟩), (i64 5), 3⟩] 4))
def q8_5 : Nat × AObj := (531, (.row [(w8 0), (w8 102), (w8 0), (w8 103), (w8 0), (w8 104), (w8 0)] 5 (.buf 7 false)))
def q8_6 : Nat × AObj := (1848, (.row [(w64 4), (w64 0), (w64 6), (w64 32), (w64 7), (w64 128), (w64 8), (w64 0), (w64 23), (w64 128), (w64 2), (w64 192), (w64 5), (w64 320), (w64 10), (w64 7)] 259 (.buf 0 false)))
def q8_7 : Nat × AObj := (1846, (.row (rle [(1, (w8 2)), (3, (w8 0)), (1, (w8 4)), (3, (w8 0)), (1, (w8 3)), (3, (w8 0)), (1, (w8 2)), (15, (w8 0)), (1, (w8 1)), (27, (w8 0)), (1, (w8 1)), (3, (w8 0)), (1, (w8 16)), (1, (w8 0)), (1, (w8 1)), (1, (w8 0)), (1, (w8 4)), (1, (w8 2)), (14, (w8 0)), (1, (w8 3)), (3, (w8 0)), (1, (w8 16)), (19, (w8 0)), (1, (w8 5)), (3, (w8 0)), (1, (w8 32)), (20, (w8 0)), (1, (w8 4)), (6, (w8 0)), (1, (w8 5)), (3, (w8 0)), (1, (sb 14)), (11, (w8 0)), (1, (w8 8)), (1, (w8 4)), (6, (w8 0)), (1, (w8 5)), (3, (w8 0)), (1, (sb 15)), (11, (w8 0)), (1, (w8 16)), (1, (w8 4)), (6, (w8 0)), (1, (w8 5)), (3, (w8 0)), (1, (sb 16)), (11, (w8 0)), (1, (w8 24)), (1, (w8 4)), (6, (w8 0)), (1, (w8 5)), (3, (w8 0)), (1, (sb 17)), (11, (w8 0)), (1, (w8 32)), (1, (w8 4)), (6, (w8 0)), (1, (w8 5)), (3, (w8 0)), (1, (sb 18)), (11, (w8 0)), (1, (w8 40)), (1, (w8 4)), (6, (w8 0)), (1, (w8 5)), (3, (w8 0)), (1, (sb 19)), (11, (w8 0)), (1, (w8 48)), (1, (w8 4)), (6, (w8 0)), (1, (w8 5)), (3, (w8 0)), (1, (sb 20)), (11, (w8 0)), (1, (w8 56)), (1, (w8 4)), (6, (w8 0)), (1, (w8 5)), (3, (w8 0)), (1, (sb 21)), (12, (w8 0)), (1, (w8 102)), (1, (w8 0)), (1, (w8 103)), (1, (w8 0)), (1, (w8 104)), (1, (w8 0))]) 5 (.buf 0 false)))
def q8_8 : Nat × AObj := (1067, (.map [⟨(.str ⟨0, 0⟩), (i64 0), 0⟩, ⟨(.str ⟨1, 102⟩), (i64 1), 1⟩, ⟨(.str ⟨1, 103⟩), (i64 3), 2⟩, ⟨(.str ⟨1, 104⟩), (i64 5), 3⟩] 4))
def q8_9 : Nat × AObj := (1384, (.row [(w8 0), (w8 102), (w8 0), (w8 103), (w8 0), (w8 104), (w8 0)] 5 (.buf 7 false)))
def q8_10 : Nat × AObj := (202, (.row [(.str ⟨0, 0⟩), .nilSlice, (.slice 3 0 3 (.exact 3)), (.str ⟨16, 0⟩), (.str ⟨0, 0⟩), .nilSlice, (.slice 116 0 8 (.opn 1)), .nilSlice, .nilSlice, (.bool false), (.bool false), (.bool false), (w64 512), (w64 528), (w64 768), (w64 1024), (w64 1088), (.slice 213 0 3 (.exact 3)), (.ptr 202 18), (.slice 1384 0 7 (.opn 1)), (.map 1067), (.slice 212 0 3 (.opn 1)), (i64 1), (.map 1070), .nilSlice, (.ptr 202 25), (.slice 1846 0 327 (.opn 1)), (.slice 1848 0 8 (.opn 2))] 193 .solid))
def q8_11 : Nat × AObj := (1846, (.row (rle [(1, (w8 2)), (3, (w8 0)), (1, (w8 4)), (3, (w8 0)), (1, (w8 3)), (3, (w8 0)), (1, (w8 2)), (15, (w8 0)), (1, (w8 1)), (27, (w8 0)), (1, (w8 1)), (3, (w8 0)), (1, (w8 16)), (1, (w8 0)), (1, (w8 1)), (1, (w8 0)), (1, (w8 4)), (1, (w8 2)), (14, (w8 0)), (1, (w8 3)), (3, (w8 0)), (1, (w8 16)), (19, (w8 0)), (1, (w8 5)), (3, (w8 0)), (1, (w8 32)), (20, (w8 0)), (1, (w8 4)), (6, (w8 0)), (1, (w8 5)), (3, (w8 0)), (1, (sb 14)), (11, (w8 0)), (1, (w8 8)), (1, (w8 4)), (6, (w8 0)), (1, (w8 5)), (3, (w8 0)), (1, (sb 15)), (11, (w8 0)), (1, (w8 16)), (1, (w8 4)), (6, (w8 0)), (1, (w8 5)), (3, (w8 0)), (1, (sb 16)), (11, (w8 0)), (1, (w8 24)), (1, (w8 4)), (6, (w8 0)), (1, (w8 5)), (3, (w8 0)), (1, (sb 17)), (11, (w8 0)), (1, (w8 32)), (1, (w8 4)), (6, (w8 0)), (1, (w8 5)), (3, (w8 0)), (1, (sb 18)), (11, (w8 0)), (1, (w8 40)), (1, (w8 4)), (6, (w8 0)), (1, (w8 5)), (3, (w8 0)), (1, (sb 19)), (11, (w8 0)), (1, (w8 48)), (1, (w8 4)), (6, (w8 0)), (1, (w8 5)), (3, (w8 0)), (1, (sb 20)), (11, (w8 0)), (1, (w8 56)), (1, (w8 4)), (6, (w8 0)), (1, (w8 5)), (3, (w8 0)), (1, (sb 21)), (12, (w8 0)), (1, (w8 102)), (1, (w8 0)), (1, (w8 103)), (1, (w8 0)), (1, (w8 104)), (1, (w8 0))]) 5 (.buf 327 false)))
def q8_12 : Nat × AObj := (7842, (.row [(w32 1), (i64 4), (w64 400), (w64 0), (w64 327), (w64 327), (w32 1), (i64 5), (w64 727), (w64 512), (w64 112), (w64 112), (w32 1), (i64 6), (w64 839), (w64 768), (w64 144), (w64 144), (w32 2), (i64 6), (w64 839), (w64 768), (w64 144), (w64 144), (w32 0x6474e552), (i64 4), (w64 839), (w64 768), (w64 0), (w64 256), (w32 1), (i64 6), (w64 983), (w64 1024), (w64 64), (w64 64)] 169 (.buf 0 false)))
def q8_13 : Nat × AObj := (7970, (.row [(w64 4), (w64 0), (w64 6), (w64 32), (w64 7), (w64 128), (w64 8), (w64 0), (w64 23), (w64 128), (w64 2), (w64 192), (w64 5), (w64 320), (w64 10), (w64 7)] 259 (.buf 0 false)))
def q8_14 : Nat × AObj := (8097, (.row [(w32 3), (w32 2), (w32 0), (w32 0), (w32 0), (w32 1)] 167 (.buf 0 false)))
def q8_15 : Nat × AObj := (8481, (.row [(.str ⟨0, 0⟩), (.str ⟨0, 0⟩), (.bool false), (.str ⟨0, 0⟩), (.str ⟨0, 0⟩), (.bool false), (.str ⟨0, 0⟩), (.str ⟨0, 0⟩), (.bool false), (.str ⟨0, 0⟩), (.str ⟨0, 0⟩), (.bool false)] 210 .solid))
def q8_16 : Nat × AObj := (8421, (.row [(.str ⟨0, 0⟩), (i64 0), (i64 0), (i64 0), (.bool false), (w64 0), (w64 0), (.str ⟨1, 102⟩), (i64 1), (i64 0), (i64 0), (.bool true), (w64 516), (w64 0), (.str ⟨1, 103⟩), (i64 1), (i64 0), (i64 0), (.bool false), (w64 0), (w64 0), (.str ⟨1, 104⟩), (i64 2), (i64 0), (i64 0), (.bool false), (w64 0), (w64 0)] 150 (.buf 0 false)))
def q8_17 : Nat × AObj := (8764, (.row [(w64 1024), (i64 5), (si 14), (w64 0), (w64 1032), (i64 5), (si 15), (w64 0), (w64 1040), (i64 5), (si 16), (w64 0), (w64 1048), (i64 5), (si 17), (w64 0), (w64 1056), (i64 5), (si 18), (w64 0), (w64 1064), (i64 5), (si 19), (w64 0), (w64 1072), (i64 5), (si 20), (w64 0), (w64 1080), (i64 5), (si 21), (w64 0)] 31 (.buf 0 false)))
def b67 : Fact where
  f := 73
  args := [(.agg [(.str ⟨0, 0⟩), .nilSlice, (.slice 3 0 3 (.exact 3)), (.str ⟨16, 0⟩), (.str ⟨0, 0⟩), .nilSlice, (.slice 116 0 8 (.opn 1)), .nilSlice, .nilSlice, (.bool false), (.bool false), (.bool false)])]
  next := 119
  pre := [q8_0, q8_1]
  r := (.bool true)
  objs := [q8_1, q8_0]
  next' := 202
theorem b67_ok [Val] (h : AllEq tab8) : b67.Ok P G := Fact.ok_of (n := 100000) (EnvOk.know (EnvOk.tab env0 h) (l := []) knowsNone) (by kernel_rfl)
def b68 : Fact where
  f := 75
  args := [(.ptr 202 0)]
  next := 214
  pre := [(212, (.row [(i64 0), (i64 1), (i64 2)] 3 (.buf 0 false))), (213, (.row [(i64 1), (i64 2), (i64 3)] 3 .solid)), q8_0, q8_1, (202, (.row [(.str ⟨0, 0⟩), .nilSlice, (.slice 3 0 3 (.exact 3)), (.str ⟨16, 0⟩), (.str ⟨0, 0⟩), .nilSlice, (.slice 116 0 8 (.opn 1)), .nilSlice, .nilSlice, (.bool false), (.bool false), (.bool false), (w64 0), (w64 0), (w64 0), (w64 0), (w64 0), (.slice 213 0 3 (.exact 3)), .nilPtr, .nilSlice, .nilMap, (.slice 212 0 3 (.opn 1)), (i64 1), .nilMap, .nilSlice, .nilPtr, .nilSlice, .nilSlice] 193 .solid))]
  r := (.tuple [])
  objs := [q8_2, q8_3, (217, (.map [] 0)), q8_4, q8_5, (202, (.row [(.str ⟨0, 0⟩), .nilSlice, (.slice 3 0 3 (.exact 3)), (.str ⟨16, 0⟩), (.str ⟨0, 0⟩), .nilSlice, (.slice 116 0 8 (.opn 1)), .nilSlice, .nilSlice, (.bool false), (.bool false), (.bool false), (w64 0), (w64 0), (w64 0), (w64 0), (w64 0), (.slice 213 0 3 (.exact 3)), (.ptr 202 18), (.slice 531 0 7 (.opn 1)), (.map 214), (.slice 212 0 3 (.opn 1)), (i64 1), (.map 217), .nilSlice, (.ptr 202 25), (.slice 993 0 327 (.opn 1)), (.slice 995 0 8 (.opn 2))] 193 .solid)), q8_1, q8_0, (213, (.row [(i64 1), (i64 2), (i64 3)] 3 .solid)), (212, (.row [(i64 0), (i64 1), (i64 2)] 3 (.buf 0 false)))]
  next' := 996
theorem b68_ok [Val] (h : AllEq tab8) : b68.Ok P G := Fact.ok_of (n := 100000) (EnvOk.know (EnvOk.tab env0 h) (l := []) knowsNone) (by kernel_rfl)
def b69 : Fact where
  f := 75
  args := [(.ptr 202 0)]
  next := 1067
  pre := [q8_2, q8_3, (217, (.map [] 0)), (212, (.row [(i64 0), (i64 1), (i64 2)] 3 (.buf 0 false))), q8_4, q8_5, (213, (.row [(i64 1), (i64 2), (i64 3)] 3 .solid)), q8_0, q8_1, (202, (.row [(.str ⟨0, 0⟩), .nilSlice, (.slice 3 0 3 (.exact 3)), (.str ⟨16, 0⟩), (.str ⟨0, 0⟩), .nilSlice, (.slice 116 0 8 (.opn 1)), .nilSlice, .nilSlice, (.bool false), (.bool false), (.bool false), (w64 512), (w64 528), (w64 768), (w64 1024), (w64 1088), (.slice 213 0 3 (.exact 3)), (.ptr 202 18), (.slice 531 0 7 (.opn 1)), (.map 214), (.slice 212 0 3 (.opn 1)), (i64 1), (.map 217), .nilSlice, (.ptr 202 25), (.slice 993 0 327 (.opn 1)), (.slice 995 0 8 (.opn 2))] 193 .solid))]
  r := (.tuple [])
  objs := [q8_6, q8_7, (1070, (.map [] 0)), q8_8, q8_9, q8_10, q8_1, q8_0, (213, (.row [(i64 1), (i64 2), (i64 3)] 3 .solid)), q8_5, q8_4, (212, (.row [(i64 0), (i64 1), (i64 2)] 3 (.buf 0 false))), (217, (.map [] 0)), q8_3, q8_2]
  next' := 1849
theorem b69_ok [Val] (h : AllEq tab8) : b69.Ok P G := Fact.ok_of (n := 100000) (EnvOk.know (EnvOk.tab env0 h) (l := []) knowsNone) (by kernel_rfl)
def b70 : Fact where
  f := 150
  args := [(.ptr 202 0)]
  next := 1921
  pre := [q8_6, q8_11, (1070, (.map [] 0)), (212, (.row [(i64 0), (i64 1), (i64 2)] 3 (.buf 0 false))), q8_8, q8_9, (213, (.row [(i64 1), (i64 2), (i64 3)] 3 .solid)), q8_0, q8_1, q8_10]
  r := (.str T11)
  objs := [q8_10, q8_1, q8_0, (213, (.row [(i64 1), (i64 2), (i64 3)] 3 .solid)), q8_9, q8_8, (212, (.row [(i64 0), (i64 1), (i64 2)] 3 (.buf 0 false))), (1070, (.map [] 0)), q8_11, q8_6]
  next' := 7481
theorem b70_ok [Val] (h : AllEq tab8) : b70.Ok P G := Fact.ok_of (n := 100000) (EnvOk.know (EnvOk.tab env0 h) (l := [e0.at_ 1922, e1.at_ 2055, e2.at_ 2432, e0.at_ 2617, e3.at_ 2750, e2.at_ 3127, e0.at_ 3312, e4.at_ 3445, e2.at_ 3822, e0.at_ 4007, e5.at_ 4140, e2.at_ 4517, e0.at_ 4702, e6.at_ 4835, e2.at_ 5212, e0.at_ 5397, e7.at_ 5530, e2.at_ 5907, e0.at_ 6092, e8.at_ 6225, e2.at_ 6602, e0.at_ 6787, e9.at_ 6920, e2.at_ 7297]) (knows (e0_at (by decide)) (knows (e1_at (by decide)) (knows (e2_at (by decide)) (knows (e0_at (by decide)) (knows (e3_at (by decide)) (knows (e2_at (by decide)) (knows (e0_at (by decide)) (knows (e4_at (by decide)) (knows (e2_at (by decide)) (knows (e0_at (by decide)) (knows (e5_at (by decide)) (knows (e2_at (by decide)) (knows (e0_at (by decide)) (knows (e6_at (by decide)) (knows (e2_at (by decide)) (knows (e0_at (by decide)) (knows (e7_at (by decide)) (knows (e2_at (by decide)) (knows (e0_at (by decide)) (knows (e8_at (by decide)) (knows (e2_at (by decide)) (knows (e0_at (by decide)) (knows (e9_at (by decide)) (knows (e2_at (by decide)) knowsNone))))))))))))))))))))))))) (by kernel_rfl)
def b71 : Fact where
  f := 79
  args := [(.ptr 202 0)]
  next := 1858
  pre := [q8_6, q8_7, (1070, (.map [] 0)), (212, (.row [(i64 0), (i64 1), (i64 2)] 3 (.buf 0 false))), q8_8, q8_9, (213, (.row [(i64 1), (i64 2), (i64 3)] 3 .solid)), q8_0, q8_1, q8_10]
  r := (.sy .str (.op (.hole [540, 564, 588, 612, 636, 660, 684, 708]) [(.str T12), (yb 14), (yb 15), (yb 16), (yb 17), (yb 18), (yb 19), (yb 20), (yb 21)]))
  objs := [q8_10, q8_1, q8_0, (213, (.row [(i64 1), (i64 2), (i64 3)] 3 .solid)), q8_9, q8_8, (212, (.row [(i64 0), (i64 1), (i64 2)] 3 (.buf 0 false))), (1070, (.map [] 0)), q8_11, q8_6]
  next' := 7755
theorem b71_ok [Val] (h : AllEq tab8) : b71.Ok P G := Fact.ok_of (n := 100000) (EnvOk.know (EnvOk.tab env0 h) (l := [b70]) (knows (b70_ok h) knowsNone)) (by kernel_rfl)
def b72 : Fact where
  f := 45
  args := [(.agg [(.str ⟨0, 0⟩), .nilSlice, (.slice 3 0 3 (.exact 3)), (.str ⟨16, 0⟩), (.str ⟨0, 0⟩), .nilSlice, (.slice 116 0 8 (.opn 1)), .nilSlice, .nilSlice, (.bool false), (.bool false), (.bool false)])]
  next := 117
  pre := [q8_0, q8_1]
  r := (.tuple [(.sy .str (.op (.hole [540, 564, 588, 612, 636, 660, 684, 708]) [(.str T12), (yb 14), (yb 15), (yb 16), (yb 17), (yb 18), (yb 19), (yb 20), (yb 21)])), (.agg [(w64 512), (w64 528), (w64 768), (w64 1024), (w64 1088), (.slice 213 0 3 (.exact 3))]), (i64 0)])
  objs := [q8_1, q8_0, (213, (.row [(i64 1), (i64 2), (i64 3)] 3 .solid))]
  next' := 7755
theorem b72_ok [Val] (h : AllEq tab8) : b72.Ok P G := Fact.ok_of (n := 100000) (EnvOk.know (EnvOk.tab env0 h) (l := [b67, b68, b69, b71]) (knows (b67_ok h) (knows (b68_ok h) (knows (b69_ok h) (knows (b71_ok h) knowsNone))))) (by kernel_rfl)
def b73 : Fact where
  f := 80
  args := [(.sy .str (.op (.hole [540, 564, 588, 612, 636, 660, 684, 708]) [(.str T12), (yb 14), (yb 15), (yb 16), (yb 17), (yb 18), (yb 19), (yb 20), (yb 21)]))]
  next := 7757
  pre := []
  r := (.tuple [(.agg [(.sy .str (.op (.hole [540, 564, 588, 612, 636, 660, 684, 708]) [(.str T12), (yb 14), (yb 15), (yb 16), (yb 17), (yb 18), (yb 19), (yb 20), (yb 21)])), (w64 0), (.slice 7842 0 6 (.opn 6))]), (.agg [(i64 0), (w64 0), (.str ⟨0, 0⟩)])])
  objs := [q8_12]
  next' := 7843
theorem b73_ok [Val] (h : AllEq tab8) : b73.Ok P G := Fact.ok_of (n := 100000) (EnvOk.know (EnvOk.tab env0 h) (l := []) knowsNone) (by kernel_rfl)
def b74 : Fact where
  f := 86
  args := [(.ptr 7846 0)]
  next := 8484
  pre := [q8_13, q8_14, q8_15, q8_16, q8_12, (7846, (.row [(.sy .str (.op (.hole [540, 564, 588, 612, 636, 660, 684, 708]) [(.str T12), (yb 14), (yb 15), (yb 16), (yb 17), (yb 18), (yb 19), (yb 20), (yb 21)])), (w64 0), (.slice 7842 0 6 (.opn 6)), (.str ⟨0, 0⟩), .nilSlice, (.slice 8421 0 4 (.opn 7)), (.slice 8481 0 4 (.exact 4)), .nilSlice, .nilSlice, (w64 0), (w64 0), (w64 0), (w64 0), .nilSlice, (.bool false), (.bool false), (.iface 268 (.agg [(.slice 8097 0 2 (.exact 2)), (.slice 8097 2 4 (.opn 1))])), (.slice 7970 0 8 (.opn 2)), (i64 4)] 103 .solid))]
  r := (.agg [(i64 0), (w64 0), (.str ⟨0, 0⟩)])
  objs := [q8_17, (7846, (.row [(.sy .str (.op (.hole [540, 564, 588, 612, 636, 660, 684, 708]) [(.str T12), (yb 14), (yb 15), (yb 16), (yb 17), (yb 18), (yb 19), (yb 20), (yb 21)])), (w64 0), (.slice 7842 0 6 (.opn 6)), (.str ⟨0, 0⟩), .nilSlice, (.slice 8421 0 4 (.opn 7)), (.slice 8481 0 4 (.exact 4)), .nilSlice, (.slice 8764 0 8 (.opn 4)), (w64 0), (w64 0), (w64 0), (w64 0), .nilSlice, (.bool false), (.bool false), (.iface 268 (.agg [(.slice 8097 0 2 (.exact 2)), (.slice 8097 2 4 (.opn 1))])), (.slice 7970 0 8 (.opn 2)), (i64 4)] 103 .solid)), q8_12, q8_16, q8_15, q8_14, q8_13]
  next' := 9031
theorem b74_ok [Val] (h : AllEq tab8) : b74.Ok P G := Fact.ok_of (n := 100000) (EnvOk.know (EnvOk.tab env0 h) (l := []) knowsNone) (by kernel_rfl)
def b75 : Fact where
  f := 46
  args := [(.sy .str (.op (.hole [540, 564, 588, 612, 636, 660, 684, 708]) [(.str T12), (yb 14), (yb 15), (yb 16), (yb 17), (yb 18), (yb 19), (yb 20), (yb 21)]))]
  next := 7756
  pre := []
  r := (.tuple [(.ptr 7846 0), (.agg [(i64 0), (w64 0), (.str ⟨0, 0⟩)])])
  objs := [q8_13, q8_14, (9227, (.row [(w64 768), (w64 1024)] 96 (.buf 0 false))), q8_17, q8_15, q8_16, q8_12, (7846, (.row [(.sy .str (.op (.hole [540, 564, 588, 612, 636, 660, 684, 708]) [(.str T12), (yb 14), (yb 15), (yb 16), (yb 17), (yb 18), (yb 19), (yb 20), (yb 21)])), (w64 0), (.slice 7842 0 6 (.opn 6)), (.str ⟨0, 0⟩), .nilSlice, (.slice 8421 0 4 (.opn 7)), (.slice 8481 0 4 (.exact 4)), .nilSlice, (.slice 8764 0 8 (.opn 4)), (w64 0), (w64 0), (w64 0), (w64 0), (.slice 9227 0 1 (.opn 2)), (.bool false), (.bool false), (.iface 268 (.agg [(.slice 8097 0 2 (.exact 2)), (.slice 8097 2 4 (.opn 1))])), (.slice 7970 0 8 (.opn 2)), (i64 4)] 103 .solid))]
  next' := 9262
theorem b75_ok [Val] (h : AllEq tab8) : b75.Ok P G := Fact.ok_of (n := 100000) (EnvOk.know (EnvOk.tab env0 h) (l := [b73, b74]) (knows (b73_ok h) (knows (b74_ok h) knowsNone))) (by kernel_rfl)
end Go.Proofs.YtjmjbjnbfodalaaGreat
set_option maxRecDepth 1000000
namespace Go.Proofs.YtjmjbjnbfodalaaGreat
open Go.Tc
def q9_0 : Nat × AObj := (228, (.map [⟨(.str ⟨0, 0⟩), (i64 0), 0⟩, ⟨(.str ⟨1, 102⟩), (i64 1), 1⟩, ⟨(.str ⟨1, 103⟩), (i64 3), 2⟩, ⟨(.str ⟨1, 104⟩), (i64 5), 3⟩] 4))
def q9_1 : Nat × AObj := (545, (.row [(w8 0), (w8 102), (w8 0), (w8 103), (w8 0), (w8 104), (w8 0)] 5 (.buf 0 false)))
def q9_2 : Nat × AObj := (130, (.row [(si 2), (si 3), (si 4), (si 5), (si 6), (si 7), (si 8), (si 9), (si 10)] 3 (.buf 0 false)))
def q9_3 : Nat × AObj := (3, (.row [(.str ⟨1, 102⟩), (.str ⟨0, 0⟩), (.str ⟨0, 0⟩), (.bool false), (i64 1), (i64 0), (i64 1), (w64 4), (.str ⟨1, 103⟩), (.str ⟨0, 0⟩), (.str ⟨0, 0⟩), (.bool false), (i64 1), (i64 0), (i64 0), (w64 0), (.str ⟨1, 104⟩), (.str ⟨0, 0⟩), (.str ⟨0, 0⟩), (.bool false), (i64 2), (i64 0), (i64 0), (w64 0)] 139 .solid))
def q9_4 : Nat × AObj := (1054, (.row [(w64 4), (w64 0), (w64 6), (w64 32), (w64 7), (w64 128), (w64 8), (w64 0), (w64 23), (w64 128), (w64 2), (w64 216), (w64 5), (w64 344), (w64 10), (w64 7)] 259 (.buf 0 false)))
def q9_5 : Nat × AObj := (1052, (.row (rle [(1, (w8 2)), (3, (w8 0)), (1, (w8 4)), (3, (w8 0)), (1, (w8 3)), (3, (w8 0)), (1, (w8 2)), (15, (w8 0)), (1, (w8 1)), (27, (w8 0)), (1, (w8 1)), (3, (w8 0)), (1, (w8 16)), (1, (w8 0)), (1, (w8 1)), (1, (w8 0)), (1, (w8 4)), (15, (w8 0)), (1, (w8 3)), (3, (w8 0)), (1, (w8 16)), (19, (w8 0)), (1, (w8 5)), (3, (w8 0)), (1, (w8 32)), (27, (w8 0)), (1, (w8 5)), (3, (w8 0)), (1, (sb 14)), (11, (w8 0)), (1, (w8 8)), (7, (w8 0)), (1, (w8 5)), (3, (w8 0)), (1, (sb 15)), (11, (w8 0)), (1, (w8 16)), (7, (w8 0)), (1, (w8 5)), (3, (w8 0)), (1, (sb 16)), (11, (w8 0)), (1, (w8 24)), (7, (w8 0)), (1, (w8 5)), (3, (w8 0)), (1, (sb 17)), (11, (w8 0)), (1, (w8 32)), (7, (w8 0)), (1, (w8 5)), (3, (w8 0)), (1, (sb 18)), (11, (w8 0)), (1, (w8 40)), (7, (w8 0)), (1, (w8 5)), (3, (w8 0)), (1, (sb 19)), (11, (w8 0)), (1, (w8 48)), (7, (w8 0)), (1, (w8 5)), (3, (w8 0)), (1, (sb 20)), (11, (w8 0)), (1, (w8 56)), (7, (w8 0)), (1, (w8 5)), (3, (w8 0)), (1, (sb 21)), (11, (w8 0)), (1, (w8 64)), (7, (w8 0)), (1, (w8 5)), (3, (w8 0)), (1, (sb 22)), (12, (w8 0)), (1, (w8 102)), (1, (w8 0)), (1, (w8 103)), (1, (w8 0)), (1, (w8 104)), (1, (w8 0))]) 5 (.buf 0 false)))
def q9_6 : Nat × AObj := (545, (.row [(w8 0), (w8 102), (w8 0), (w8 103), (w8 0), (w8 104), (w8 0)] 5 (.buf 7 false)))
def q9_7 : Nat × AObj := (1126, (.map [⟨(.str ⟨0, 0⟩), (i64 0), 0⟩, ⟨(.str ⟨1, 102⟩), (i64 1), 1⟩, ⟨(.str ⟨1, 103⟩), (i64 3), 2⟩, ⟨(.str ⟨1, 104⟩), (i64 5), 3⟩] 4))
def q9_8 : Nat × AObj := (1443, (.row [(w8 0), (w8 102), (w8 0), (w8 103), (w8 0), (w8 104), (w8 0)] 5 (.buf 0 false)))
def q9_9 : Nat × AObj := (1952, (.row [(w64 4), (w64 0), (w64 6), (w64 32), (w64 7), (w64 128), (w64 8), (w64 0), (w64 23), (w64 128), (w64 2), (w64 216), (w64 5), (w64 344), (w64 10), (w64 7)] 259 (.buf 0 false)))
def q9_10 : Nat × AObj := (1950, (.row (rle [(1, (w8 2)), (3, (w8 0)), (1, (w8 4)), (3, (w8 0)), (1, (w8 3)), (3, (w8 0)), (1, (w8 2)), (15, (w8 0)), (1, (w8 1)), (27, (w8 0)), (1, (w8 1)), (3, (w8 0)), (1, (w8 16)), (1, (w8 0)), (1, (w8 1)), (1, (w8 0)), (1, (w8 4)), (1, (w8 2)), (14, (w8 0)), (1, (w8 3)), (3, (w8 0)), (1, (w8 16)), (19, (w8 0)), (1, (w8 5)), (3, (w8 0)), (1, (w8 32)), (20, (w8 0)), (1, (w8 4)), (6, (w8 0)), (1, (w8 5)), (3, (w8 0)), (1, (sb 14)), (11, (w8 0)), (1, (w8 8)), (1, (w8 4)), (6, (w8 0)), (1, (w8 5)), (3, (w8 0)), (1, (sb 15)), (11, (w8 0)), (1, (w8 16)), (1, (w8 4)), (6, (w8 0)), (1, (w8 5)), (3, (w8 0)), (1, (sb 16)), (11, (w8 0)), (1, (w8 24)), (1, (w8 4)), (6, (w8 0)), (1, (w8 5)), (3, (w8 0)), (1, (sb 17)), (11, (w8 0)), (1, (w8 32)), (1, (w8 4)), (6, (w8 0)), (1, (w8 5)), (3, (w8 0)), (1, (sb 18)), (11, (w8 0)), (1, (w8 40)), (1, (w8 4)), (6, (w8 0)), (1, (w8 5)), (3, (w8 0)), (1, (sb 19)), (11, (w8 0)), (1, (w8 48)), (1, (w8 4)), (6, (w8 0)), (1, (w8 5)), (3, (w8 0)), (1, (sb 20)), (11, (w8 0)), (1, (w8 56)), (1, (w8 4)), (6, (w8 0)), (1, (w8 5)), (3, (w8 0)), (1, (sb 21)), (11, (w8 0)), (1, (w8 64)), (1, (w8 4)), (6, (w8 0)), (1, (w8 5)), (3, (w8 0)), (1, (sb 22)), (12, (w8 0)), (1, (w8 102)), (1, (w8 0)), (1, (w8 103)), (1, (w8 0)), (1, (w8 104)), (1, (w8 0))]) 5 (.buf 0 false)))
def q9_11 : Nat × AObj := (1443, (.row [(w8 0), (w8 102), (w8 0), (w8 103), (w8 0), (w8 104), (w8 0)] 5 (.buf 7 false)))
def q9_12 : Nat × AObj := (216, (.row [(.str ⟨0, 0⟩), .nilSlice, (.slice 3 0 3 (.exact 3)), (.str ⟨16, 0⟩), (.str ⟨0, 0⟩), .nilSlice, (.slice 130 0 9 (.opn 1)), .nilSlice, .nilSlice, (.bool false), (.bool false), (.bool false), (w64 512), (w64 528), (w64 768), (w64 1024), (w64 1096), (.slice 227 0 3 (.exact 3)), (.ptr 216 18), (.slice 1443 0 7 (.opn 1)), (.map 1126), (.slice 226 0 3 (.opn 1)), (i64 1), (.map 1129), .nilSlice, (.ptr 216 25), (.slice 1950 0 351 (.opn 1)), (.slice 1952 0 8 (.opn 2))] 193 .solid))
def q9_13 : Nat × AObj := (1950, (.row (rle [(1, (w8 2)), (3, (w8 0)), (1, (w8 4)), (3, (w8 0)), (1, (w8 3)), (3, (w8 0)), (1, (w8 2)), (15, (w8 0)), (1, (w8 1)), (27, (w8 0)), (1, (w8 1)), (3, (w8 0)), (1, (w8 16)), (1, (w8 0)), (1, (w8 1)), (1, (w8 0)), (1, (w8 4)), (1, (w8 2)), (14, (w8 0)), (1, (w8 3)), (3, (w8 0)), (1, (w8 16)), (19, (w8 0)), (1, (w8 5)), (3, (w8 0)), (1, (w8 32)), (20, (w8 0)), (1, (w8 4)), (6, (w8 0)), (1, (w8 5)), (3, (w8 0)), (1, (sb 14)), (11, (w8 0)), (1, (w8 8)), (1, (w8 4)), (6, (w8 0)), (1, (w8 5)), (3, (w8 0)), (1, (sb 15)), (11, (w8 0)), (1, (w8 16)), (1, (w8 4)), (6, (w8 0)), (1, (w8 5)), (3, (w8 0)), (1, (sb 16)), (11, (w8 0)), (1, (w8 24)), (1, (w8 4)), (6, (w8 0)), (1, (w8 5)), (3, (w8 0)), (1, (sb 17)), (11, (w8 0)), (1, (w8 32)), (1, (w8 4)), (6, (w8 0)), (1, (w8 5)), (3, (w8 0)), (1, (sb 18)), (11, (w8 0)), (1, (w8 40)), (1, (w8 4)), (6, (w8 0)), (1, (w8 5)), (3, (w8 0)), (1, (sb 19)), (11, (w8 0)), (1, (w8 48)), (1, (w8 4)), (6, (w8 0)), (1, (w8 5)), (3, (w8 0)), (1, (sb 20)), (11, (w8 0)), (1, (w8 56)), (1, (w8 4)), (6, (w8 0)), (1, (w8 5)), (3, (w8 0)), (1, (sb 21)), (11, (w8 0)), (1, (w8 64)), (1, (w8 4)), (6, (w8 0)), (1, (w8 5)), (3, (w8 0)), (1, (sb 22)), (12, (w8 0)), (1, (w8 102)), (1, (w8 0)), (1, (w8 103)), (1, (w8 0)), (1, (w8 104)), (1, (w8 0))]) 5 (.buf 351 false)))
def q9_14 : Nat × AObj := (8641, (.row [(w32 1), (i64 4), (w64 400), (w64 0), (w64 351), (w64 351), (w32 1), (i64 5), (w64 751), (w64 512), (w64 124), (w64 124), (w32 1), (i64 6), (w64 875), (w64 768), (w64 144), (w64 144), (w32 2), (i64 6), (w64 875), (w64 768), (w64 144), (w64 144), (w32 0x6474e552), (i64 4), (w64 875), (w64 768), (w64 0), (w64 256), (w32 1), (i64 6), (w64 1019), (w64 1024), (w64 72), (w64 72)] 169 (.buf 0 false)))
def q9_15 : Nat × AObj := (8769, (.row [(w64 4), (w64 0), (w64 6), (w64 32), (w64 7), (w64 128), (w64 8), (w64 0), (w64 23), (w64 128), (w64 2), (w64 216), (w64 5), (w64 344), (w64 10), (w64 7)] 259 (.buf 0 false)))
def q9_16 : Nat × AObj := (8896, (.row [(w32 3), (w32 2), (w32 0), (w32 0), (w32 0), (w32 1)] 167 (.buf 0 false)))
def q9_17 : Nat × AObj := (9220, (.row [(.str ⟨0, 0⟩), (i64 0), (i64 0), (i64 0), (.bool false), (w64 0), (w64 0), (.str ⟨1, 102⟩), (i64 1), (i64 0), (i64 0), (.bool true), (w64 516), (w64 0), (.str ⟨1, 103⟩), (i64 1), (i64 0), (i64 0), (.bool false), (w64 0), (w64 0), (.str ⟨1, 104⟩), (i64 2), (i64 0), (i64 0), (.bool false), (w64 0), (w64 0)] 150 (.buf 0 false)))
def q9_18 : Nat × AObj := (9280, (.row [(.str ⟨0, 0⟩), (.str ⟨0, 0⟩), (.bool false), (.str ⟨0, 0⟩), (.str ⟨0, 0⟩), (.bool false), (.str ⟨0, 0⟩), (.str ⟨0, 0⟩), (.bool false), (.str ⟨0, 0⟩), (.str ⟨0, 0⟩), (.bool false)] 210 .solid))
def q9_19 : Nat × AObj := (9583, (.row [(w64 1024), (i64 5), (si 14), (w64 0), (w64 1032), (i64 5), (si 15), (w64 0), (w64 1040), (i64 5), (si 16), (w64 0), (w64 1048), (i64 5), (si 17), (w64 0), (w64 1056), (i64 5), (si 18), (w64 0), (w64 1064), (i64 5), (si 19), (w64 0), (w64 1072), (i64 5), (si 20), (w64 0), (w64 1080), (i64 5), (si 21), (w64 0), (w64 1088), (i64 5), (si 22), (w64 0)] 31 (.buf 0 false)))
def b76 : Fact where
  f := 146
  args := [(.ptr 216 0)]
  next := 592
  pre := [(580, (.row [(w64 4), (w64 0), (w64 6), (w64 32)] 259 (.buf 0 false))), (581, (.row (rle [(1, (w8 2)), (3, (w8 0)), (1, (w8 4)), (3, (w8 0)), (1, (w8 3)), (3, (w8 0)), (1, (w8 2)), (15, (w8 0)), (1, (w8 1)), (27, (w8 0)), (1, (w8 1)), (3, (w8 0)), (1, (w8 16)), (1, (w8 0)), (1, (w8 1)), (1, (w8 0)), (1, (w8 4)), (15, (w8 0)), (1, (w8 3)), (3, (w8 0)), (1, (w8 16)), (19, (w8 0)), (1, (w8 5)), (3, (w8 0)), (1, (w8 32)), (19, (w8 0))]) 5 (.buf 0 false))), (231, (.map [] 0)), (226, (.row [(i64 0), (i64 1), (i64 2)] 3 (.buf 0 false))), q9_0, q9_1, (227, (.row [(i64 1), (i64 2), (i64 3)] 3 .solid)), q9_2, q9_3, (216, (.row [(.str ⟨0, 0⟩), .nilSlice, (.slice 3 0 3 (.exact 3)), (.str ⟨16, 0⟩), (.str ⟨0, 0⟩), .nilSlice, (.slice 130 0 9 (.opn 1)), .nilSlice, .nilSlice, (.bool false), (.bool false), (.bool false), (w64 0), (w64 0), (w64 0), (w64 0), (w64 0), (.slice 227 0 3 (.exact 3)), (.ptr 216 18), (.slice 545 0 7 (.opn 1)), (.map 228), (.slice 226 0 3 (.opn 1)), (i64 1), (.map 231), .nilSlice, (.ptr 216 25), (.slice 581 0 128 (.opn 1)), (.slice 580 0 2 (.opn 2))] 193 .solid))]
  r := (.tuple [])
  objs := [(1019, (.row [(w64 4), (w64 0), (w64 6), (w64 32), (w64 7), (w64 128), (w64 8), (w64 0), (w64 23), (w64 128), (w64 2), (w64 216)] 259 (.buf 0 false))), (1017, (.row (rle [(1, (w8 2)), (3, (w8 0)), (1, (w8 4)), (3, (w8 0)), (1, (w8 3)), (3, (w8 0)), (1, (w8 2)), (15, (w8 0)), (1, (w8 1)), (27, (w8 0)), (1, (w8 1)), (3, (w8 0)), (1, (w8 16)), (1, (w8 0)), (1, (w8 1)), (1, (w8 0)), (1, (w8 4)), (15, (w8 0)), (1, (w8 3)), (3, (w8 0)), (1, (w8 16)), (19, (w8 0)), (1, (w8 5)), (3, (w8 0)), (1, (w8 32)), (27, (w8 0)), (1, (w8 5)), (3, (w8 0)), (1, (sb 14)), (11, (w8 0)), (1, (w8 8)), (7, (w8 0)), (1, (w8 5)), (3, (w8 0)), (1, (sb 15)), (11, (w8 0)), (1, (w8 16)), (7, (w8 0)), (1, (w8 5)), (3, (w8 0)), (1, (sb 16)), (11, (w8 0)), (1, (w8 24)), (7, (w8 0)), (1, (w8 5)), (3, (w8 0)), (1, (sb 17)), (11, (w8 0)), (1, (w8 32)), (7, (w8 0)), (1, (w8 5)), (3, (w8 0)), (1, (sb 18)), (11, (w8 0)), (1, (w8 40)), (7, (w8 0)), (1, (w8 5)), (3, (w8 0)), (1, (sb 19)), (11, (w8 0)), (1, (w8 48)), (7, (w8 0)), (1, (w8 5)), (3, (w8 0)), (1, (sb 20)), (11, (w8 0)), (1, (w8 56)), (7, (w8 0)), (1, (w8 5)), (3, (w8 0)), (1, (sb 21)), (11, (w8 0)), (1, (w8 64)), (7, (w8 0)), (1, (w8 5)), (3, (w8 0)), (1, (sb 22)), (11, (w8 0))]) 5 (.buf 0 false))), (216, (.row [(.str ⟨0, 0⟩), .nilSlice, (.slice 3 0 3 (.exact 3)), (.str ⟨16, 0⟩), (.str ⟨0, 0⟩), .nilSlice, (.slice 130 0 9 (.opn 1)), .nilSlice, .nilSlice, (.bool false), (.bool false), (.bool false), (w64 0), (w64 0), (w64 0), (w64 0), (w64 0), (.slice 227 0 3 (.exact 3)), (.ptr 216 18), (.slice 545 0 7 (.opn 1)), (.map 228), (.slice 226 0 3 (.opn 1)), (i64 1), (.map 231), .nilSlice, (.ptr 216 25), (.slice 1017 0 344 (.opn 1)), (.slice 1019 0 6 (.opn 2))] 193 .solid)), q9_3, q9_2, (227, (.row [(i64 1), (i64 2), (i64 3)] 3 .solid)), q9_1, q9_0, (226, (.row [(i64 0), (i64 1), (i64 2)] 3 (.buf 0 false))), (231, (.map [] 0))]
  next' := 1020
theorem b76_ok [Val] (h : AllEq tab9) : b76.Ok P G := Fact.ok_of (n := 100000) (EnvOk.know (EnvOk.tab env0 h) (l := []) knowsNone) (by kernel_rfl)
def b77 : Fact where
  f := 75
  args := [(.ptr 216 0)]
  next := 228
  pre := [(226, (.row [(i64 0), (i64 1), (i64 2)] 3 (.buf 0 false))), (227, (.row [(i64 1), (i64 2), (i64 3)] 3 .solid)), q9_2, q9_3, (216, (.row [(.str ⟨0, 0⟩), .nilSlice, (.slice 3 0 3 (.exact 3)), (.str ⟨16, 0⟩), (.str ⟨0, 0⟩), .nilSlice, (.slice 130 0 9 (.opn 1)), .nilSlice, .nilSlice, (.bool false), (.bool false), (.bool false), (w64 0), (w64 0), (w64 0), (w64 0), (w64 0), (.slice 227 0 3 (.exact 3)), .nilPtr, .nilSlice, .nilMap, (.slice 226 0 3 (.opn 1)), (i64 1), .nilMap, .nilSlice, .nilPtr, .nilSlice, .nilSlice] 193 .solid))]
  r := (.tuple [])
  objs := [q9_4, q9_5, (231, (.map [] 0)), q9_0, q9_6, (216, (.row [(.str ⟨0, 0⟩), .nilSlice, (.slice 3 0 3 (.exact 3)), (.str ⟨16, 0⟩), (.str ⟨0, 0⟩), .nilSlice, (.slice 130 0 9 (.opn 1)), .nilSlice, .nilSlice, (.bool false), (.bool false), (.bool false), (w64 0), (w64 0), (w64 0), (w64 0), (w64 0), (.slice 227 0 3 (.exact 3)), (.ptr 216 18), (.slice 545 0 7 (.opn 1)), (.map 228), (.slice 226 0 3 (.opn 1)), (i64 1), (.map 231), .nilSlice, (.ptr 216 25), (.slice 1052 0 351 (.opn 1)), (.slice 1054 0 8 (.opn 2))] 193 .solid)), q9_3, q9_2, (227, (.row [(i64 1), (i64 2), (i64 3)] 3 .solid)), (226, (.row [(i64 0), (i64 1), (i64 2)] 3 (.buf 0 false)))]
  next' := 1055
theorem b77_ok [Val] (h : AllEq tab9) : b77.Ok P G := Fact.ok_of (n := 100000) (EnvOk.know (EnvOk.tab env0 h) (l := [b76]) (knows (b76_ok h) knowsNone)) (by kernel_rfl)
def b78 : Fact where
  f := 146
  args := [(.ptr 216 0)]
  next := 1490
  pre := [(1478, (.row [(w64 4), (w64 0), (w64 6), (w64 32)] 259 (.buf 0 false))), (1479, (.row (rle [(1, (w8 2)), (3, (w8 0)), (1, (w8 4)), (3, (w8 0)), (1, (w8 3)), (3, (w8 0)), (1, (w8 2)), (15, (w8 0)), (1, (w8 1)), (27, (w8 0)), (1, (w8 1)), (3, (w8 0)), (1, (w8 16)), (1, (w8 0)), (1, (w8 1)), (1, (w8 0)), (1, (w8 4)), (1, (w8 2)), (14, (w8 0)), (1, (w8 3)), (3, (w8 0)), (1, (w8 16)), (19, (w8 0)), (1, (w8 5)), (3, (w8 0)), (1, (w8 32)), (19, (w8 0))]) 5 (.buf 0 false))), (1129, (.map [] 0)), (226, (.row [(i64 0), (i64 1), (i64 2)] 3 (.buf 0 false))), q9_7, q9_8, (227, (.row [(i64 1), (i64 2), (i64 3)] 3 .solid)), q9_2, q9_3, (216, (.row [(.str ⟨0, 0⟩), .nilSlice, (.slice 3 0 3 (.exact 3)), (.str ⟨16, 0⟩), (.str ⟨0, 0⟩), .nilSlice, (.slice 130 0 9 (.opn 1)), .nilSlice, .nilSlice, (.bool false), (.bool false), (.bool false), (w64 512), (w64 528), (w64 768), (w64 1024), (w64 1096), (.slice 227 0 3 (.exact 3)), (.ptr 216 18), (.slice 1443 0 7 (.opn 1)), (.map 1126), (.slice 226 0 3 (.opn 1)), (i64 1), (.map 1129), .nilSlice, (.ptr 216 25), (.slice 1479 0 128 (.opn 1)), (.slice 1478 0 2 (.opn 2))] 193 .solid))]
  r := (.tuple [])
  objs := [(1917, (.row [(w64 4), (w64 0), (w64 6), (w64 32), (w64 7), (w64 128), (w64 8), (w64 0), (w64 23), (w64 128), (w64 2), (w64 216)] 259 (.buf 0 false))), (1915, (.row (rle [(1, (w8 2)), (3, (w8 0)), (1, (w8 4)), (3, (w8 0)), (1, (w8 3)), (3, (w8 0)), (1, (w8 2)), (15, (w8 0)), (1, (w8 1)), (27, (w8 0)), (1, (w8 1)), (3, (w8 0)), (1, (w8 16)), (1, (w8 0)), (1, (w8 1)), (1, (w8 0)), (1, (w8 4)), (1, (w8 2)), (14, (w8 0)), (1, (w8 3)), (3, (w8 0)), (1, (w8 16)), (19, (w8 0)), (1, (w8 5)), (3, (w8 0)), (1, (w8 32)), (20, (w8 0)), (1, (w8 4)), (6, (w8 0)), (1, (w8 5)), (3, (w8 0)), (1, (sb 14)), (11, (w8 0)), (1, (w8 8)), (1, (w8 4)), (6, (w8 0)), (1, (w8 5)), (3, (w8 0)), (1, (sb 15)), (11, (w8 0)), (1, (w8 16)), (1, (w8 4)), (6, (w8 0)), (1, (w8 5)), (3, (w8 0)), (1, (sb 16)), (11, (w8 0)), (1, (w8 24)), (1, (w8 4)), (6, (w8 0)), (1, (w8 5)), (3, (w8 0)), (1, (sb 17)), (11, (w8 0)), (1, (w8 32)), (1, (w8 4)), (6, (w8 0)), (1, (w8 5)), (3, (w8 0)), (1, (sb 18)), (11, (w8 0)), (1, (w8 40)), (1, (w8 4)), (6, (w8 0)), (1, (w8 5)), (3, (w8 0)), (1, (sb 19)), (11, (w8 0)), (1, (w8 48)), (1, (w8 4)), (6, (w8 0)), (1, (w8 5)), (3, (w8 0)), (1, (sb 20)), (11, (w8 0)), (1, (w8 56)), (1, (w8 4)), (6, (w8 0)), (1, (w8 5)), (3, (w8 0)), (1, (sb 21)), (11, (w8 0)), (1, (w8 64)), (1, (w8 4)), (6, (w8 0)), (1, (w8 5)), (3, (w8 0)), (1, (sb 22)), (11, (w8 0))]) 5 (.buf 0 false))), (216, (.row [(.str ⟨0, 0⟩), .nilSlice, (.slice 3 0 3 (.exact 3)), (.str ⟨16, 0⟩), (.str ⟨0, 0⟩), .nilSlice, (.slice 130 0 9 (.opn 1)), .nilSlice, .nilSlice, (.bool false), (.bool false), (.bool false), (w64 512), (w64 528), (w64 768), (w64 1024), (w64 1096), (.slice 227 0 3 (.exact 3)), (.ptr 216 18), (.slice 1443 0 7 (.opn 1)), (.map 1126), (.slice 226 0 3 (.opn 1)), (i64 1), (.map 1129), .nilSlice, (.ptr 216 25), (.slice 1915 0 344 (.opn 1)), (.slice 1917 0 6 (.opn 2))] 193 .solid)), q9_3, q9_2, (227, (.row [(i64 1), (i64 2), (i64 3)] 3 .solid)), q9_8, q9_7, (226, (.row [(i64 0), (i64 1), (i64 2)] 3 (.buf 0 false))), (1129, (.map [] 0))]
  next' := 1918
theorem b78_ok [Val] (h : AllEq tab9) : b78.Ok P G := Fact.ok_of (n := 100000) (EnvOk.know (EnvOk.tab env0 h) (l := []) knowsNone) (by kernel_rfl)
def b79 : Fact where
  f := 75
  args := [(.ptr 216 0)]
  next := 1126
  pre := [q9_4, q9_5, (231, (.map [] 0)), (226, (.row [(i64 0), (i64 1), (i64 2)] 3 (.buf 0 false))), q9_0, q9_6, (227, (.row [(i64 1), (i64 2), (i64 3)] 3 .solid)), q9_2, q9_3, (216, (.row [(.str ⟨0, 0⟩), .nilSlice, (.slice 3 0 3 (.exact 3)), (.str ⟨16, 0⟩), (.str ⟨0, 0⟩), .nilSlice, (.slice 130 0 9 (.opn 1)), .nilSlice, .nilSlice, (.bool false), (.bool false), (.bool false), (w64 512), (w64 528), (w64 768), (w64 1024), (w64 1096), (.slice 227 0 3 (.exact 3)), (.ptr 216 18), (.slice 545 0 7 (.opn 1)), (.map 228), (.slice 226 0 3 (.opn 1)), (i64 1), (.map 231), .nilSlice, (.ptr 216 25), (.slice 1052 0 351 (.opn 1)), (.slice 1054 0 8 (.opn 2))] 193 .solid))]
  r := (.tuple [])
  objs := [q9_9, q9_10, (1129, (.map [] 0)), q9_7, q9_11, q9_12, q9_3, q9_2, (227, (.row [(i64 1), (i64 2), (i64 3)] 3 .solid)), q9_6, q9_0, (226, (.row [(i64 0), (i64 1), (i64 2)] 3 (.buf 0 false))), (231, (.map [] 0)), q9_5, q9_4]
  next' := 1953
theorem b79_ok [Val] (h : AllEq tab9) : b79.Ok P G := Fact.ok_of (n := 100000) (EnvOk.know (EnvOk.tab env0 h) (l := [b78]) (knows (b78_ok h) knowsNone)) (by kernel_rfl)
def b80 : Fact where
  f := 150
  args := [(.ptr 216 0)]
  next := 2025
  pre := [q9_9, q9_13, (1129, (.map [] 0)), (226, (.row [(i64 0), (i64 1), (i64 2)] 3 (.buf 0 false))), q9_7, q9_11, (227, (.row [(i64 1), (i64 2), (i64 3)] 3 .solid)), q9_2, q9_3, q9_12]
  r := (.str T13)
  objs := [q9_12, q9_3, q9_2, (227, (.row [(i64 1), (i64 2), (i64 3)] 3 .solid)), q9_11, q9_7, (226, (.row [(i64 0), (i64 1), (i64 2)] 3 (.buf 0 false))), (1129, (.map [] 0)), q9_13, q9_9]
  next' := 8280
theorem b80_ok [Val] (h : AllEq tab9) : b80.Ok P G := Fact.ok_of (n := 100000) (EnvOk.know (EnvOk.tab env0 h) (l := [e0.at_ 2026, e1.at_ 2159, e2.at_ 2536, e0.at_ 2721, e3.at_ 2854, e2.at_ 3231, e0.at_ 3416, e4.at_ 3549, e2.at_ 3926, e0.at_ 4111, e5.at_ 4244, e2.at_ 4621, e0.at_ 4806, e6.at_ 4939, e2.at_ 5316, e0.at_ 5501, e7.at_ 5634, e2.at_ 6011, e0.at_ 6196, e8.at_ 6329, e2.at_ 6706, e0.at_ 6891, e9.at_ 7024, e2.at_ 7401, e0.at_ 7586, e10.at_ 7719, e2.at_ 8096]) (knows (e0_at (by decide)) (knows (e1_at (by decide)) (knows (e2_at (by decide)) (knows (e0_at (by decide)) (knows (e3_at (by decide)) (knows (e2_at (by decide)) (knows (e0_at (by decide)) (knows (e4_at (by decide)) (knows (e2_at (by decide)) (knows (e0_at (by decide)) (knows (e5_at (by decide)) (knows (e2_at (by decide)) (knows (e0_at (by decide)) (knows (e6_at (by decide)) (knows (e2_at (by decide)) (knows (e0_at (by decide)) (knows (e7_at (by decide)) (knows (e2_at (by decide)) (knows (e0_at (by decide)) (knows (e8_at (by decide)) (knows (e2_at (by decide)) (knows (e0_at (by decide)) (knows (e9_at (by decide)) (knows (e2_at (by decide)) (knows (e0_at (by decide)) (knows (e10_at (by decide)) (knows (e2_at (by decide)) knowsNone)))))))))))))))))))))))))))) (by kernel_rfl)
def b81 : Fact where
  f := 79
  args := [(.ptr 216 0)]
  next := 1962
  pre := [q9_9, q9_10, (1129, (.map [] 0)), (226, (.row [(i64 0), (i64 1), (i64 2)] 3 (.buf 0 false))), q9_7, q9_11, (227, (.row [(i64 1), (i64 2), (i64 3)] 3 .solid)), q9_2, q9_3, q9_12]
  r := (.sy .str (.op (.hole [540, 564, 588, 612, 636, 660, 684, 708, 732]) [(.str T14), (yb 14), (yb 15), (yb 16), (yb 17), (yb 18), (yb 19), (yb 20), (yb 21), (yb 22)]))
  objs := [q9_12, q9_3, q9_2, (227, (.row [(i64 1), (i64 2), (i64 3)] 3 .solid)), q9_11, q9_7, (226, (.row [(i64 0), (i64 1), (i64 2)] 3 (.buf 0 false))), (1129, (.map [] 0)), q9_13, q9_9]
  next' := 8554
theorem b81_ok [Val] (h : AllEq tab9) : b81.Ok P G := Fact.ok_of (n := 100000) (EnvOk.know (EnvOk.tab env0 h) (l := [b80]) (knows (b80_ok h) knowsNone)) (by kernel_rfl)
def b82 : Fact where
  f := 45
  args := [(.agg [(.str ⟨0, 0⟩), .nilSlice, (.slice 3 0 3 (.exact 3)), (.str ⟨16, 0⟩), (.str ⟨0, 0⟩), .nilSlice, (.slice 130 0 9 (.opn 1)), .nilSlice, .nilSlice, (.bool false), (.bool false), (.bool false)])]
  next := 131
  pre := [q9_2, q9_3]
  r := (.tuple [(.sy .str (.op (.hole [540, 564, 588, 612, 636, 660, 684, 708, 732]) [(.str T14), (yb 14), (yb 15), (yb 16), (yb 17), (yb 18), (yb 19), (yb 20), (yb 21), (yb 22)])), (.agg [(w64 512), (w64 528), (w64 768), (w64 1024), (w64 1096), (.slice 227 0 3 (.exact 3))]), (i64 0)])
  objs := [q9_3, q9_2, (227, (.row [(i64 1), (i64 2), (i64 3)] 3 .solid))]
  next' := 8554
theorem b82_ok [Val] (h : AllEq tab9) : b82.Ok P G := Fact.ok_of (n := 100000) (EnvOk.know (EnvOk.tab env0 h) (l := [b77, b79, b81]) (knows (b77_ok h) (knows (b79_ok h) (knows (b81_ok h) knowsNone)))) (by kernel_rfl)
def b83 : Fact where
  f := 80
  args := [(.sy .str (.op (.hole [540, 564, 588, 612, 636, 660, 684, 708, 732]) [(.str T14), (yb 14), (yb 15), (yb 16), (yb 17), (yb 18), (yb 19), (yb 20), (yb 21), (yb 22)]))]
  next := 8556
  pre := []
  r := (.tuple [(.agg [(.sy .str (.op (.hole [540, 564, 588, 612, 636, 660, 684, 708, 732]) [(.str T14), (yb 14), (yb 15), (yb 16), (yb 17), (yb 18), (yb 19), (yb 20), (yb 21), (yb 22)])), (w64 0), (.slice 8641 0 6 (.opn 6))]), (.agg [(i64 0), (w64 0), (.str ⟨0, 0⟩)])])
  objs := [q9_14]
  next' := 8642
theorem b83_ok [Val] (h : AllEq tab9) : b83.Ok P G := Fact.ok_of (n := 100000) (EnvOk.know (EnvOk.tab env0 h) (l := []) knowsNone) (by kernel_rfl)
def b84 : Fact where
  f := 83
  args := [(.ptr 8645 0)]
  next := 8925
  pre := [q9_15, q9_16, q9_14, (8645, (.row [(.sy .str (.op (.hole [540, 564, 588, 612, 636, 660, 684, 708, 732]) [(.str T14), (yb 14), (yb 15), (yb 16), (yb 17), (yb 18), (yb 19), (yb 20), (yb 21), (yb 22)])), (w64 0), (.slice 8641 0 6 (.opn 6)), (.str ⟨0, 0⟩), .nilSlice, .nilSlice, .nilSlice, .nilSlice, .nilSlice, (w64 0), (w64 0), (w64 0), (w64 0), .nilSlice, (.bool false), (.bool false), (.iface 268 (.agg [(.slice 8896 0 2 (.exact 2)), (.slice 8896 2 4 (.opn 1))])), (.slice 8769 0 8 (.opn 2)), (i64 4)] 103 .solid))]
  r := (.agg [(i64 0), (w64 0), (.str ⟨0, 0⟩)])
  objs := [q9_17, (8645, (.row [(.sy .str (.op (.hole [540, 564, 588, 612, 636, 660, 684, 708, 732]) [(.str T14), (yb 14), (yb 15), (yb 16), (yb 17), (yb 18), (yb 19), (yb 20), (yb 21), (yb 22)])), (w64 0), (.slice 8641 0 6 (.opn 6)), (.str ⟨0, 0⟩), .nilSlice, (.slice 9220 0 4 (.opn 7)), .nilSlice, .nilSlice, .nilSlice, (w64 0), (w64 0), (w64 0), (w64 0), .nilSlice, (.bool false), (.bool false), (.iface 268 (.agg [(.slice 8896 0 2 (.exact 2)), (.slice 8896 2 4 (.opn 1))])), (.slice 8769 0 8 (.opn 2)), (i64 4)] 103 .solid)), q9_14, q9_16, q9_15]
  next' := 9221
theorem b84_ok [Val] (h : AllEq tab9) : b84.Ok P G := Fact.ok_of (n := 100000) (EnvOk.know (EnvOk.tab env0 h) (l := []) knowsNone) (by kernel_rfl)
def b85 : Fact where
  f := 86
  args := [(.ptr 8645 0)]
  next := 9283
  pre := [q9_15, q9_16, q9_18, q9_17, q9_14, (8645, (.row [(.sy .str (.op (.hole [540, 564, 588, 612, 636, 660, 684, 708, 732]) [(.str T14), (yb 14), (yb 15), (yb 16), (yb 17), (yb 18), (yb 19), (yb 20), (yb 21), (yb 22)])), (w64 0), (.slice 8641 0 6 (.opn 6)), (.str ⟨0, 0⟩), .nilSlice, (.slice 9220 0 4 (.opn 7)), (.slice 9280 0 4 (.exact 4)), .nilSlice, .nilSlice, (w64 0), (w64 0), (w64 0), (w64 0), .nilSlice, (.bool false), (.bool false), (.iface 268 (.agg [(.slice 8896 0 2 (.exact 2)), (.slice 8896 2 4 (.opn 1))])), (.slice 8769 0 8 (.opn 2)), (i64 4)] 103 .solid))]
  r := (.agg [(i64 0), (w64 0), (.str ⟨0, 0⟩)])
  objs := [q9_19, (8645, (.row [(.sy .str (.op (.hole [540, 564, 588, 612, 636, 660, 684, 708, 732]) [(.str T14), (yb 14), (yb 15), (yb 16), (yb 17), (yb 18), (yb 19), (yb 20), (yb 21), (yb 22)])), (w64 0), (.slice 8641 0 6 (.opn 6)), (.str ⟨0, 0⟩), .nilSlice, (.slice 9220 0 4 (.opn 7)), (.slice 9280 0 4 (.exact 4)), .nilSlice, (.slice 9583 0 9 (.opn 4)), (w64 0), (w64 0), (w64 0), (w64 0), .nilSlice, (.bool false), (.bool false), (.iface 268 (.agg [(.slice 8896 0 2 (.exact 2)), (.slice 8896 2 4 (.opn 1))])), (.slice 8769 0 8 (.opn 2)), (i64 4)] 103 .solid)), q9_14, q9_17, q9_18, q9_16, q9_15]
  next' := 9883
theorem b85_ok [Val] (h : AllEq tab9) : b85.Ok P G := Fact.ok_of (n := 100000) (EnvOk.know (EnvOk.tab env0 h) (l := []) knowsNone) (by kernel_rfl)
def b86 : Fact where
  f := 46
  args := [(.sy .str (.op (.hole [540, 564, 588, 612, 636, 660, 684, 708, 732]) [(.str T14), (yb 14), (yb 15), (yb 16), (yb 17), (yb 18), (yb 19), (yb 20), (yb 21), (yb 22)]))]
  next := 8555
  pre := []
  r := (.tuple [(.ptr 8645 0), (.agg [(i64 0), (w64 0), (.str ⟨0, 0⟩)])])
  objs := [q9_15, q9_16, (10079, (.row [(w64 768), (w64 1024)] 96 (.buf 0 false))), q9_19, q9_18, q9_17, q9_14, (8645, (.row [(.sy .str (.op (.hole [540, 564, 588, 612, 636, 660, 684, 708, 732]) [(.str T14), (yb 14), (yb 15), (yb 16), (yb 17), (yb 18), (yb 19), (yb 20), (yb 21), (yb 22)])), (w64 0), (.slice 8641 0 6 (.opn 6)), (.str ⟨0, 0⟩), .nilSlice, (.slice 9220 0 4 (.opn 7)), (.slice 9280 0 4 (.exact 4)), .nilSlice, (.slice 9583 0 9 (.opn 4)), (w64 0), (w64 0), (w64 0), (w64 0), (.slice 10079 0 1 (.opn 2)), (.bool false), (.bool false), (.iface 268 (.agg [(.slice 8896 0 2 (.exact 2)), (.slice 8896 2 4 (.opn 1))])), (.slice 8769 0 8 (.opn 2)), (i64 4)] 103 .solid))]
  next' := 10114
theorem b86_ok [Val] (h : AllEq tab9) : b86.Ok P G := Fact.ok_of (n := 100000) (EnvOk.know (EnvOk.tab env0 h) (l := [b83, b84, b85]) (knows (b83_ok h) (knows (b84_ok h) (knows (b85_ok h) knowsNone)))) (by kernel_rfl)
end Go.Proofs.YtjmjbjnbfodalaaGreat
