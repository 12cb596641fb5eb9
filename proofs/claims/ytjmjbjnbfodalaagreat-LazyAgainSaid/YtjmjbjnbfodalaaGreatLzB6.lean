/- files with 6 slots: what pack.Build and object.Read answer, in parts. No condition. -/
import Derived.Test.YtjmjbjnbfodalaaGreatLzE
set_option linter.unusedSimpArgs false
set_option linter.unusedVariables false
set_option linter.unusedSectionVars false
set_option maxRecDepth 1000000
namespace Go.Proofs.YtjmjbjnbfodalaaGreat
open Go.Tc
def q6_0 : Nat × AObj := (88, (.row [(si 2), (si 3), (si 4), (si 5), (si 6), (si 7)] 3 (.buf 0 false)))
def q6_1 : Nat × AObj := (3, (.row [(.str ⟨1, 102⟩), (.str ⟨0, 0⟩), (.str ⟨0, 0⟩), (.bool false), (i64 1), (i64 0), (i64 1), (w64 4), (.str ⟨1, 103⟩), (.str ⟨0, 0⟩), (.str ⟨0, 0⟩), (.bool false), (i64 1), (i64 0), (i64 0), (w64 0), (.str ⟨1, 104⟩), (.str ⟨0, 0⟩), (.str ⟨0, 0⟩), (.bool false), (i64 2), (i64 0), (i64 0), (w64 0)] 139 .solid))
def q6_2 : Nat × AObj := (877, (.row [(w64 4), (w64 0), (w64 6), (w64 32), (w64 7), (w64 128), (w64 8), (w64 0), (w64 23), (w64 128), (w64 2), (w64 144), (w64 5), (w64 272), (w64 10), (w64 7)] 259 (.buf 0 false)))
def q6_3 : Nat × AObj := (875, (.row (rle [(1, (w8 2)), (3, (w8 0)), (1, (w8 4)), (3, (w8 0)), (1, (w8 3)), (3, (w8 0)), (1, (w8 2)), (15, (w8 0)), (1, (w8 1)), (27, (w8 0)), (1, (w8 1)), (3, (w8 0)), (1, (w8 16)), (1, (w8 0)), (1, (w8 1)), (1, (w8 0)), (1, (w8 4)), (15, (w8 0)), (1, (w8 3)), (3, (w8 0)), (1, (w8 16)), (19, (w8 0)), (1, (w8 5)), (3, (w8 0)), (1, (w8 32)), (27, (w8 0)), (1, (w8 5)), (3, (w8 0)), (1, (sb 14)), (11, (w8 0)), (1, (w8 8)), (7, (w8 0)), (1, (w8 5)), (3, (w8 0)), (1, (sb 15)), (11, (w8 0)), (1, (w8 16)), (7, (w8 0)), (1, (w8 5)), (3, (w8 0)), (1, (sb 16)), (11, (w8 0)), (1, (w8 24)), (7, (w8 0)), (1, (w8 5)), (3, (w8 0)), (1, (sb 17)), (11, (w8 0)), (1, (w8 32)), (7, (w8 0)), (1, (w8 5)), (3, (w8 0)), (1, (sb 18)), (11, (w8 0)), (1, (w8 40)), (7, (w8 0)), (1, (w8 5)), (3, (w8 0)), (1, (sb 19)), (12, (w8 0)), (1, (w8 102)), (1, (w8 0)), (1, (w8 103)), (1, (w8 0)), (1, (w8 104)), (1, (w8 0))]) 5 (.buf 0 false)))
def q6_4 : Nat × AObj := (186, (.map [⟨(.str ⟨0, 0⟩), (i64 0), 0⟩, ⟨(.str ⟨1, 102⟩), (i64 1), 1⟩, ⟨(.str ⟨1, 103⟩), (i64 3), 2⟩, ⟨(.str ⟨1, 104⟩), (i64 5), 3⟩] 4))
def q6_5 : Nat × AObj := (503, (.row [(w8 0), (w8 102), (w8 0), (w8 103), (w8 0), (w8 104), (w8 0)] 5 (.buf 7 false)))
def q6_6 : Nat × AObj := (1640, (.row [(w64 4), (w64 0), (w64 6), (w64 32), (w64 7), (w64 128), (w64 8), (w64 0), (w64 23), (w64 128), (w64 2), (w64 144), (w64 5), (w64 272), (w64 10), (w64 7)] 259 (.buf 0 false)))
def q6_7 : Nat × AObj := (1638, (.row (rle [(1, (w8 2)), (3, (w8 0)), (1, (w8 4)), (3, (w8 0)), (1, (w8 3)), (3, (w8 0)), (1, (w8 2)), (15, (w8 0)), (1, (w8 1)), (27, (w8 0)), (1, (w8 1)), (3, (w8 0)), (1, (w8 16)), (1, (w8 0)), (1, (w8 1)), (1, (w8 0)), (1, (w8 4)), (1, (w8 2)), (14, (w8 0)), (1, (w8 3)), (3, (w8 0)), (1, (w8 16)), (19, (w8 0)), (1, (w8 5)), (3, (w8 0)), (1, (w8 32)), (20, (w8 0)), (1, (w8 4)), (6, (w8 0)), (1, (w8 5)), (3, (w8 0)), (1, (sb 14)), (11, (w8 0)), (1, (w8 8)), (1, (w8 4)), (6, (w8 0)), (1, (w8 5)), (3, (w8 0)), (1, (sb 15)), (11, (w8 0)), (1, (w8 16)), (1, (w8 4)), (6, (w8 0)), (1, (w8 5)), (3, (w8 0)), (1, (sb 16)), (11, (w8 0)), (1, (w8 24)), (1, (w8 4)), (6, (w8 0)), (1, (w8 5)), (3, (w8 0)), (1, (sb 17)), (11, (w8 0)), (1, (w8 32)), (1, (w8 4)), (6, (w8 0)), (1, (w8 5)), (3, (w8 0)), (1, (sb 18)), (11, (w8 0)), (1, (w8 40)), (1, (w8 4)), (6, (w8 0)), (1, (w8 5)), (3, (w8 0)), (1, (sb 19)), (12, (w8 0)), (1, (w8 102)), (1, (w8 0)), (1, (w8 103)), (1, (w8 0)), (1, (w8 104)), (1, (w8 0))]) 5 (.buf 0 false)))
def q6_8 : Nat × AObj := (949, (.map [⟨(.str ⟨0, 0⟩), (i64 0), 0⟩, ⟨(.str ⟨1, 102⟩), (i64 1), 1⟩, ⟨(.str ⟨1, 103⟩), (i64 3), 2⟩, ⟨(.str ⟨1, 104⟩), (i64 5), 3⟩] 4))
def q6_9 : Nat × AObj := (1266, (.row [(w8 0), (w8 102), (w8 0), (w8 103), (w8 0), (w8 104), (w8 0)] 5 (.buf 7 false)))
def q6_10 : Nat × AObj := (174, (.row [(.str ⟨0, 0⟩), .nilSlice, (.slice 3 0 3 (.exact 3)), (.str ⟨16, 0⟩), (.str ⟨0, 0⟩), .nilSlice, (.slice 88 0 6 (.opn 1)), .nilSlice, .nilSlice, (.bool false), (.bool false), (.bool false), (w64 512), (w64 528), (w64 768), (w64 1024), (w64 1072), (.slice 185 0 3 (.exact 3)), (.ptr 174 18), (.slice 1266 0 7 (.opn 1)), (.map 949), (.slice 184 0 3 (.opn 1)), (i64 1), (.map 952), .nilSlice, (.ptr 174 25), (.slice 1638 0 279 (.opn 1)), (.slice 1640 0 8 (.opn 2))] 193 .solid))
def q6_11 : Nat × AObj := (1638, (.row (rle [(1, (w8 2)), (3, (w8 0)), (1, (w8 4)), (3, (w8 0)), (1, (w8 3)), (3, (w8 0)), (1, (w8 2)), (15, (w8 0)), (1, (w8 1)), (27, (w8 0)), (1, (w8 1)), (3, (w8 0)), (1, (w8 16)), (1, (w8 0)), (1, (w8 1)), (1, (w8 0)), (1, (w8 4)), (1, (w8 2)), (14, (w8 0)), (1, (w8 3)), (3, (w8 0)), (1, (w8 16)), (19, (w8 0)), (1, (w8 5)), (3, (w8 0)), (1, (w8 32)), (20, (w8 0)), (1, (w8 4)), (6, (w8 0)), (1, (w8 5)), (3, (w8 0)), (1, (sb 14)), (11, (w8 0)), (1, (w8 8)), (1, (w8 4)), (6, (w8 0)), (1, (w8 5)), (3, (w8 0)), (1, (sb 15)), (11, (w8 0)), (1, (w8 16)), (1, (w8 4)), (6, (w8 0)), (1, (w8 5)), (3, (w8 0)), (1, (sb 16)), (11, (w8 0)), (1, (w8 24)), (1, (w8 4)), (6, (w8 0)), (1, (w8 5)), (3, (w8 0)), (1, (sb 17)), (11, (w8 0)), (1, (w8 32)), (1, (w8 4)), (6, (w8 0)), (1, (w8 5)), (3, (w8 0)), (1, (sb 18)), (11, (w8 0)), (1, (w8 40)), (1, (w8 4)), (6, (w8 0)), (1, (w8 5)), (3, (w8 0)), (1, (sb 19)), (12, (w8 0)), (1, (w8 102)), (1, (w8 0)), (1, (w8 103)), (1, (w8 0)), (1, (w8 104)), (1, (w8 0))]) 5 (.buf 279 false)))
def q6_12 : Nat × AObj := (6244, (.row [(w32 1), (i64 4), (w64 400), (w64 0), (w64 279), (w64 279), (w32 1), (i64 5), (w64 679), (w64 512), (w64 88), (w64 88), (w32 1), (i64 6), (w64 767), (w64 768), (w64 144), (w64 144), (w32 2), (i64 6), (w64 767), (w64 768), (w64 144), (w64 144), (w32 0x6474e552), (i64 4), (w64 767), (w64 768), (w64 0), (w64 256), (w32 1), (i64 6), (w64 911), (w64 1024), (w64 48), (w64 48)] 169 (.buf 0 false)))
def q6_13 : Nat × AObj := (6372, (.row [(w64 4), (w64 0), (w64 6), (w64 32), (w64 7), (w64 128), (w64 8), (w64 0), (w64 23), (w64 128), (w64 2), (w64 144), (w64 5), (w64 272), (w64 10), (w64 7)] 259 (.buf 0 false)))
def q6_14 : Nat × AObj := (6499, (.row [(w32 3), (w32 2), (w32 0), (w32 0), (w32 0), (w32 1)] 167 (.buf 0 false)))
def q6_15 : Nat × AObj := (6883, (.row [(.str ⟨0, 0⟩), (.str ⟨0, 0⟩), (.bool false), (.str ⟨0, 0⟩), (.str ⟨0, 0⟩), (.bool false), (.str ⟨0, 0⟩), (.str ⟨0, 0⟩), (.bool false), (.str ⟨0, 0⟩), (.str ⟨0, 0⟩), (.bool false)] 210 .solid))
def q6_16 : Nat × AObj := (6823, (.row [(.str ⟨0, 0⟩), (i64 0), (i64 0), (i64 0), (.bool false), (w64 0), (w64 0), (.str ⟨1, 102⟩), (i64 1), (i64 0), (i64 0), (.bool true), (w64 516), (w64 0), (.str ⟨1, 103⟩), (i64 1), (i64 0), (i64 0), (.bool false), (w64 0), (w64 0), (.str ⟨1, 104⟩), (i64 2), (i64 0), (i64 0), (.bool false), (w64 0), (w64 0)] 150 (.buf 0 false)))
def q6_17 : Nat × AObj := (7126, (.row [(w64 1024), (i64 5), (si 14), (w64 0), (w64 1032), (i64 5), (si 15), (w64 0), (w64 1040), (i64 5), (si 16), (w64 0), (w64 1048), (i64 5), (si 17), (w64 0), (w64 1056), (i64 5), (si 18), (w64 0), (w64 1064), (i64 5), (si 19), (w64 0)] 31 (.buf 0 false)))
def b51 : Fact where
  f := 75
  args := [(.ptr 174 0)]
  next := 186
  pre := [(184, (.row [(i64 0), (i64 1), (i64 2)] 3 (.buf 0 false))), (185, (.row [(i64 1), (i64 2), (i64 3)] 3 .solid)), q6_0, q6_1, (174, (.row [(.str ⟨0, 0⟩), .nilSlice, (.slice 3 0 3 (.exact 3)), (.str ⟨16, 0⟩), (.str ⟨0, 0⟩), .nilSlice, (.slice 88 0 6 (.opn 1)), .nilSlice, .nilSlice, (.bool false), (.bool false), (.bool false), (w64 0), (w64 0), (w64 0), (w64 0), (w64 0), (.slice 185 0 3 (.exact 3)), .nilPtr, .nilSlice, .nilMap, (.slice 184 0 3 (.opn 1)), (i64 1), .nilMap, .nilSlice, .nilPtr, .nilSlice, .nilSlice] 193 .solid))]
  r := (.tuple [])
  objs := [q6_2, q6_3, (189, (.map [] 0)), q6_4, q6_5, (174, (.row [(.str ⟨0, 0⟩), .nilSlice, (.slice 3 0 3 (.exact 3)), (.str ⟨16, 0⟩), (.str ⟨0, 0⟩), .nilSlice, (.slice 88 0 6 (.opn 1)), .nilSlice, .nilSlice, (.bool false), (.bool false), (.bool false), (w64 0), (w64 0), (w64 0), (w64 0), (w64 0), (.slice 185 0 3 (.exact 3)), (.ptr 174 18), (.slice 503 0 7 (.opn 1)), (.map 186), (.slice 184 0 3 (.opn 1)), (i64 1), (.map 189), .nilSlice, (.ptr 174 25), (.slice 875 0 279 (.opn 1)), (.slice 877 0 8 (.opn 2))] 193 .solid)), q6_1, q6_0, (185, (.row [(i64 1), (i64 2), (i64 3)] 3 .solid)), (184, (.row [(i64 0), (i64 1), (i64 2)] 3 (.buf 0 false)))]
  next' := 878
theorem b51_ok [Val] (h : AllEq tab6) : b51.Ok P G := Fact.ok_of (n := 100000) (EnvOk.know (EnvOk.tab env0 h) (l := []) knowsNone) (by kernel_rfl)
def b52 : Fact where
  f := 75
  args := [(.ptr 174 0)]
  next := 949
  pre := [q6_2, q6_3, (189, (.map [] 0)), (184, (.row [(i64 0), (i64 1), (i64 2)] 3 (.buf 0 false))), q6_4, q6_5, (185, (.row [(i64 1), (i64 2), (i64 3)] 3 .solid)), q6_0, q6_1, (174, (.row [(.str ⟨0, 0⟩), .nilSlice, (.slice 3 0 3 (.exact 3)), (.str ⟨16, 0⟩), (.str ⟨0, 0⟩), .nilSlice, (.slice 88 0 6 (.opn 1)), .nilSlice, .nilSlice, (.bool false), (.bool false), (.bool false), (w64 512), (w64 528), (w64 768), (w64 1024), (w64 1072), (.slice 185 0 3 (.exact 3)), (.ptr 174 18), (.slice 503 0 7 (.opn 1)), (.map 186), (.slice 184 0 3 (.opn 1)), (i64 1), (.map 189), .nilSlice, (.ptr 174 25), (.slice 875 0 279 (.opn 1)), (.slice 877 0 8 (.opn 2))] 193 .solid))]
  r := (.tuple [])
  objs := [q6_6, q6_7, (952, (.map [] 0)), q6_8, q6_9, q6_10, q6_1, q6_0, (185, (.row [(i64 1), (i64 2), (i64 3)] 3 .solid)), q6_5, q6_4, (184, (.row [(i64 0), (i64 1), (i64 2)] 3 (.buf 0 false))), (189, (.map [] 0)), q6_3, q6_2]
  next' := 1641
theorem b52_ok [Val] (h : AllEq tab6) : b52.Ok P G := Fact.ok_of (n := 100000) (EnvOk.know (EnvOk.tab env0 h) (l := []) knowsNone) (by kernel_rfl)
def b53 : Fact where
  f := 150
  args := [(.ptr 174 0)]
  next := 1713
  pre := [q6_6, q6_11, (952, (.map [] 0)), (184, (.row [(i64 0), (i64 1), (i64 2)] 3 (.buf 0 false))), q6_8, q6_9, (185, (.row [(i64 1), (i64 2), (i64 3)] 3 .solid)), q6_0, q6_1, q6_10]
  r := (.str T7)
  objs := [q6_10, q6_1, q6_0, (185, (.row [(i64 1), (i64 2), (i64 3)] 3 .solid)), q6_9, q6_8, (184, (.row [(i64 0), (i64 1), (i64 2)] 3 (.buf 0 false))), (952, (.map [] 0)), q6_11, q6_6]
  next' := 5883
theorem b53_ok [Val] (h : AllEq tab6) : b53.Ok P G := Fact.ok_of (n := 100000) (EnvOk.know (EnvOk.tab env0 h) (l := [e0.at_ 1714, e1.at_ 1847, e2.at_ 2224, e0.at_ 2409, e3.at_ 2542, e2.at_ 2919, e0.at_ 3104, e4.at_ 3237, e2.at_ 3614, e0.at_ 3799, e5.at_ 3932, e2.at_ 4309, e0.at_ 4494, e6.at_ 4627, e2.at_ 5004, e0.at_ 5189, e7.at_ 5322, e2.at_ 5699]) (knows (e0_at (by decide)) (knows (e1_at (by decide)) (knows (e2_at (by decide)) (knows (e0_at (by decide)) (knows (e3_at (by decide)) (knows (e2_at (by decide)) (knows (e0_at (by decide)) (knows (e4_at (by decide)) (knows (e2_at (by decide)) (knows (e0_at (by decide)) (knows (e5_at (by decide)) (knows (e2_at (by decide)) (knows (e0_at (by decide)) (knows (e6_at (by decide)) (knows (e2_at (by decide)) (knows (e0_at (by decide)) (knows (e7_at (by decide)) (knows (e2_at (by decide)) knowsNone))))))))))))))))))) (by kernel_rfl)
def b54 : Fact where
  f := 79
  args := [(.ptr 174 0)]
  next := 1650
  pre := [q6_6, q6_7, (952, (.map [] 0)), (184, (.row [(i64 0), (i64 1), (i64 2)] 3 (.buf 0 false))), q6_8, q6_9, (185, (.row [(i64 1), (i64 2), (i64 3)] 3 .solid)), q6_0, q6_1, q6_10]
  r := (.sy .str (.op (.hole [540, 564, 588, 612, 636, 660]) [(.str T8), (yb 14), (yb 15), (yb 16), (yb 17), (yb 18), (yb 19)]))
  objs := [q6_10, q6_1, q6_0, (185, (.row [(i64 1), (i64 2), (i64 3)] 3 .solid)), q6_9, q6_8, (184, (.row [(i64 0), (i64 1), (i64 2)] 3 (.buf 0 false))), (952, (.map [] 0)), q6_11, q6_6]
  next' := 6157
theorem b54_ok [Val] (h : AllEq tab6) : b54.Ok P G := Fact.ok_of (n := 100000) (EnvOk.know (EnvOk.tab env0 h) (l := [b53]) (knows (b53_ok h) knowsNone)) (by kernel_rfl)
def b55 : Fact where
  f := 45
  args := [(.agg [(.str ⟨0, 0⟩), .nilSlice, (.slice 3 0 3 (.exact 3)), (.str ⟨16, 0⟩), (.str ⟨0, 0⟩), .nilSlice, (.slice 88 0 6 (.opn 1)), .nilSlice, .nilSlice, (.bool false), (.bool false), (.bool false)])]
  next := 89
  pre := [q6_0, q6_1]
  r := (.tuple [(.sy .str (.op (.hole [540, 564, 588, 612, 636, 660]) [(.str T8), (yb 14), (yb 15), (yb 16), (yb 17), (yb 18), (yb 19)])), (.agg [(w64 512), (w64 528), (w64 768), (w64 1024), (w64 1072), (.slice 185 0 3 (.exact 3))]), (i64 0)])
  objs := [q6_1, q6_0, (185, (.row [(i64 1), (i64 2), (i64 3)] 3 .solid))]
  next' := 6157
theorem b55_ok [Val] (h : AllEq tab6) : b55.Ok P G := Fact.ok_of (n := 100000) (EnvOk.know (EnvOk.tab env0 h) (l := [b51, b52, b54]) (knows (b51_ok h) (knows (b52_ok h) (knows (b54_ok h) knowsNone)))) (by kernel_rfl)
def b56 : Fact where
  f := 80
  args := [(.sy .str (.op (.hole [540, 564, 588, 612, 636, 660]) [(.str T8), (yb 14), (yb 15), (yb 16), (yb 17), (yb 18), (yb 19)]))]
  next := 6159
  pre := []
  r := (.tuple [(.agg [(.sy .str (.op (.hole [540, 564, 588, 612, 636, 660]) [(.str T8), (yb 14), (yb 15), (yb 16), (yb 17), (yb 18), (yb 19)])), (w64 0), (.slice 6244 0 6 (.opn 6))]), (.agg [(i64 0), (w64 0), (.str ⟨0, 0⟩)])])
  objs := [q6_12]
  next' := 6245
theorem b56_ok [Val] (h : AllEq tab6) : b56.Ok P G := Fact.ok_of (n := 100000) (EnvOk.know (EnvOk.tab env0 h) (l := []) knowsNone) (by kernel_rfl)
def b57 : Fact where
  f := 86
  args := [(.ptr 6248 0)]
  next := 6886
  pre := [q6_13, q6_14, q6_15, q6_16, q6_12, (6248, (.row [(.sy .str (.op (.hole [540, 564, 588, 612, 636, 660]) [(.str T8), (yb 14), (yb 15), (yb 16), (yb 17), (yb 18), (yb 19)])), (w64 0), (.slice 6244 0 6 (.opn 6)), (.str ⟨0, 0⟩), .nilSlice, (.slice 6823 0 4 (.opn 7)), (.slice 6883 0 4 (.exact 4)), .nilSlice, .nilSlice, (w64 0), (w64 0), (w64 0), (w64 0), .nilSlice, (.bool false), (.bool false), (.iface 268 (.agg [(.slice 6499 0 2 (.exact 2)), (.slice 6499 2 4 (.opn 1))])), (.slice 6372 0 8 (.opn 2)), (i64 4)] 103 .solid))]
  r := (.agg [(i64 0), (w64 0), (.str ⟨0, 0⟩)])
  objs := [q6_17, (6248, (.row [(.sy .str (.op (.hole [540, 564, 588, 612, 636, 660]) [(.str T8), (yb 14), (yb 15), (yb 16), (yb 17), (yb 18), (yb 19)])), (w64 0), (.slice 6244 0 6 (.opn 6)), (.str ⟨0, 0⟩), .nilSlice, (.slice 6823 0 4 (.opn 7)), (.slice 6883 0 4 (.exact 4)), .nilSlice, (.slice 7126 0 6 (.opn 4)), (w64 0), (w64 0), (w64 0), (w64 0), .nilSlice, (.bool false), (.bool false), (.iface 268 (.agg [(.slice 6499 0 2 (.exact 2)), (.slice 6499 2 4 (.opn 1))])), (.slice 6372 0 8 (.opn 2)), (i64 4)] 103 .solid)), q6_12, q6_16, q6_15, q6_14, q6_13]
  next' := 7327
theorem b57_ok [Val] (h : AllEq tab6) : b57.Ok P G := Fact.ok_of (n := 100000) (EnvOk.know (EnvOk.tab env0 h) (l := []) knowsNone) (by kernel_rfl)
def b58 : Fact where
  f := 46
  args := [(.sy .str (.op (.hole [540, 564, 588, 612, 636, 660]) [(.str T8), (yb 14), (yb 15), (yb 16), (yb 17), (yb 18), (yb 19)]))]
  next := 6158
  pre := []
  r := (.tuple [(.ptr 6248 0), (.agg [(i64 0), (w64 0), (.str ⟨0, 0⟩)])])
  objs := [q6_13, q6_14, (7523, (.row [(w64 768), (w64 1024)] 96 (.buf 0 false))), q6_17, q6_15, q6_16, q6_12, (6248, (.row [(.sy .str (.op (.hole [540, 564, 588, 612, 636, 660]) [(.str T8), (yb 14), (yb 15), (yb 16), (yb 17), (yb 18), (yb 19)])), (w64 0), (.slice 6244 0 6 (.opn 6)), (.str ⟨0, 0⟩), .nilSlice, (.slice 6823 0 4 (.opn 7)), (.slice 6883 0 4 (.exact 4)), .nilSlice, (.slice 7126 0 6 (.opn 4)), (w64 0), (w64 0), (w64 0), (w64 0), (.slice 7523 0 1 (.opn 2)), (.bool false), (.bool false), (.iface 268 (.agg [(.slice 6499 0 2 (.exact 2)), (.slice 6499 2 4 (.opn 1))])), (.slice 6372 0 8 (.opn 2)), (i64 4)] 103 .solid))]
  next' := 7558
theorem b58_ok [Val] (h : AllEq tab6) : b58.Ok P G := Fact.ok_of (n := 100000) (EnvOk.know (EnvOk.tab env0 h) (l := [b56, b57]) (knows (b56_ok h) (knows (b57_ok h) knowsNone))) (by kernel_rfl)
end Go.Proofs.YtjmjbjnbfodalaaGreat
set_option maxRecDepth 1000000
namespace Go.Proofs.YtjmjbjnbfodalaaGreat
open Go.Tc
def q7_0 : Nat × AObj := (102, (.row [(si 2), (si 3), (si 4), (si 5), (si 6), (si 7), (si 8)] 3 (.buf 0 false)))
def q7_1 : Nat × AObj := (3, (.row [(.str ⟨1, 102⟩), (.str ⟨0, 0⟩), (.str ⟨0, 0⟩), (.bool false), (i64 1), (i64 0), (i64 1), (w64 4), (.str ⟨1, 103⟩), (.str ⟨0, 0⟩), (.str ⟨0, 0⟩), (.bool false), (i64 1), (i64 0), (i64 0), (w64 0), (.str ⟨1, 104⟩), (.str ⟨0, 0⟩), (.str ⟨0, 0⟩), (.bool false), (i64 2), (i64 0), (i64 0), (w64 0)] 139 .solid))
def q7_2 : Nat × AObj := (936, (.row [(w64 4), (w64 0), (w64 6), (w64 32), (w64 7), (w64 128), (w64 8), (w64 0), (w64 23), (w64 128), (w64 2), (w64 168), (w64 5), (w64 296), (w64 10), (w64 7)] 259 (.buf 0 false)))
def q7_3 : Nat × AObj := (934, (.row (rle [(1, (w8 2)), (3, (w8 0)), (1, (w8 4)), (3, (w8 0)), (1, (w8 3)), (3, (w8 0)), (1, (w8 2)), (15, (w8 0)), (1, (w8 1)), (27, (w8 0)), (1, (w8 1)), (3, (w8 0)), (1, (w8 16)), (1, (w8 0)), (1, (w8 1)), (1, (w8 0)), (1, (w8 4)), (15, (w8 0)), (1, (w8 3)), (3, (w8 0)), (1, (w8 16)), (19, (w8 0)), (1, (w8 5)), (3, (w8 0)), (1, (w8 32)), (27, (w8 0)), (1, (w8 5)), (3, (w8 0)), (1, (sb 14)), (11, (w8 0)), (1, (w8 8)), (7, (w8 0)), (1, (w8 5)), (3, (w8 0)), (1, (sb 15)), (11, (w8 0)), (1, (w8 16)), (7, (w8 0)), (1, (w8 5)), (3, (w8 0)), (1, (sb 16)), (11, (w8 0)), (1, (w8 24)), (7, (w8 0)), (1, (w8 5)), (3, (w8 0)), (1, (sb 17)), (11, (w8 0)), (1, (w8 32)), (7, (w8 0)), (1, (w8 5)), (3, (w8 0)), (1, (sb 18)), (11, (w8 0)), (1, (w8 40)), (7, (w8 0)), (1, (w8 5)), (3, (w8 0)), (1, (sb 19)), (11, (w8 0)), (1, (w8 48)), (7, (w8 0)), (1, (w8 5)), (3, (w8 0)), (1, (sb 20)), (12, (w8 0)), (1, (w8 102)), (1, (w8 0)), (1, (w8 103)), (1, (w8 0)), (1, (w8 104)), (1, (w8 0))]) 5 (.buf 0 false)))
def q7_4 : Nat × AObj := (200, (.map [⟨(.str ⟨0, 0⟩), (i64 0), 0⟩, ⟨(.str ⟨1, 102⟩), (i64 1), 1⟩, ⟨(.str ⟨1, 103⟩), (i64 3), 2⟩, ⟨(.str ⟨1, 104⟩), (i64 5), 3⟩] 4))
def q7_5 : Nat × AObj := (517, (.row [(w8 0), (w8 102), (w8 0), (w8 103), (w8 0), (w8 104), (w8 0)] 5 (.buf 7 false)))
def q7_6 : Nat × AObj := (1744, (.row [(w64 4), (w64 0), (w64 6), (w64 32), (w64 7), (w64 128), (w64 8), (w64 0), (w64 23), (w64 128), (w64 2), (w64 168), (w64 5), (w64 296), (w64 10), (w64 7)] 259 (.buf 0 false)))
def q7_7 : Nat × AObj := (1742, (.row (rle [(1, (w8 2)), (3, (w8 0)), (1, (w8 4)), (3, (w8 0)), (1, (w8 3)), (3, (w8 0)), (1, (w8 2)), (15, (w8 0)), (1, (w8 1)), (27, (w8 0)), (1, (w8 1)), (3, (w8 0)), (1, (w8 16)), (1, (w8 0)), (1, (w8 1)), (1, (w8 0)), (1, (w8 4)), (1, (w8 2)), (14, (w8 0)), (1, (w8 3)), (3, (w8 0)), (1, (w8 16)), (19, (w8 0)), (1, (w8 5)), (3, (w8 0)), (1, (w8 32)), (20, (w8 0)), (1, (w8 4)), (6, (w8 0)), (1, (w8 5)), (3, (w8 0)), (1, (sb 14)), (11, (w8 0)), (1, (w8 8)), (1, (w8 4)), (6, (w8 0)), (1, (w8 5)), (3, (w8 0)), (1, (sb 15)), (11, (w8 0)), (1, (w8 16)), (1, (w8 4)), (6, (w8 0)), (1, (w8 5)), (3, (w8 0)), (1, (sb 16)), (11, (w8 0)), (1, (w8 24)), (1, (w8 4)), (6, (w8 0)), (1, (w8 5)), (3, (w8 0)), (1, (sb 17)), (11, (w8 0)), (1, (w8 32)), (1, (w8 4)), (6, (w8 0)), (1, (w8 5)), (3, (w8 0)), (1, (sb 18)), (11, (w8 0)), (1, (w8 40)), (1, (w8 4)), (6, (w8 0)), (1, (w8 5)), (3, (w8 0)), (1, (sb 19)), (11, (w8 0)), (1, (w8 48)), (1, (w8 4)), (6, (w8 0)), (1, (w8 5)), (3, (w8 0)), (1, (sb 20)), (12, (w8 0)), (1, (w8 102)), (1, (w8 0)), (1, (w8 103)), (1, (w8 0)), (1, (w8 104)), (1, (w8 0))]) 5 (.buf 0 false)))
def q7_8 : Nat × AObj := (1008, (.map [⟨(.str ⟨0, 0⟩), (i64 0), 0⟩, ⟨(.str ⟨1, 102⟩), (i64 1), 1⟩, ⟨(.str ⟨1, 103⟩), (i64 3), 2⟩, ⟨(.str ⟨1, 104⟩), (i64 5), 3⟩] 4))
def q7_9 : Nat × AObj := (1325, (.row [(w8 0), (w8 102), (w8 0), (w8 103), (w8 0), (w8 104), (w8 0)] 5 (.buf 7 false)))
def q7_10 : Nat × AObj := (188, (.row [(.str ⟨0, 0⟩), .nilSlice, (.slice 3 0 3 (.exact 3)), (.str ⟨16, 0⟩), (.str ⟨0, 0⟩), .nilSlice, (.slice 102 0 7 (.opn 1)), .nilSlice, .nilSlice, (.bool false), (.bool false), (.bool false), (w64 512), (w64 528), (w64 768), (w64 1024), (w64 1080), (.slice 199 0 3 (.exact 3)), (.ptr 188 18), (.slice 1325 0 7 (.opn 1)), (.map 1008), (.slice 198 0 3 (.opn 1)), (i64 1), (.map 1011), .nilSlice, (.ptr 188 25), (.slice 1742 0 303 (.opn 1)), (.slice 1744 0 8 (.opn 2))] 193 .solid))
def q7_11 : Nat × AObj := (1742, (.row (rle [(1, (w8 2)), (3, (w8 0)), (1, (w8 4)), (3, (w8 0)), (1, (w8 3)), (3, (w8 0)), (1, (w8 2)), (15, (w8 0)), (1, (w8 1)), (27, (w8 0)), (1, (w8 1)), (3, (w8 0)), (1, (w8 16)), (1, (w8 0)), (1, (w8 1)), (1, (w8 0)), (1, (w8 4)), (1, (w8 2)), (14, (w8 0)), (1, (w8 3)), (3, (w8 0)), (1, (w8 16)), (19, (w8 0)), (1, (w8 5)), (3, (w8 0)), (1, (w8 32)), (20, (w8 0)), (1, (w8 4)), (6, (w8 0)), (1, (w8 5)), (3, (w8 0)), (1, (sb 14)), (11, (w8 0)), (1, (w8 8)), (1, (w8 4)), (6, (w8 0)), (1, (w8 5)), (3, (w8 0)), (1, (sb 15)), (11, (w8 0)), (1, (w8 16)), (1, (w8 4)), (6, (w8 0)), (1, (w8 5)), (3, (w8 0)), (1, (sb 16)), (11, (w8 0)), (1, (w8 24)), (1, (w8 4)), (6, (w8 0)), (1, (w8 5)), (3, (w8 0)), (1, (sb 17)), (11, (w8 0)), (1, (w8 32)), (1, (w8 4)), (6, (w8 0)), (1, (w8 5)), (3, (w8 0)), (1, (sb 18)), (11, (w8 0)), (1, (w8 40)), (1, (w8 4)), (6, (w8 0)), (1, (w8 5)), (3, (w8 0)), (1, (sb 19)), (11, (w8 0)), (1, (w8 48)), (1, (w8 4)), (6, (w8 0)), (1, (w8 5)), (3, (w8 0)), (1, (sb 20)), (12, (w8 0)), (1, (w8 102)), (1, (w8 0)), (1, (w8 103)), (1, (w8 0)), (1, (w8 104)), (1, (w8 0))]) 5 (.buf 303 false)))
def q7_12 : Nat × AObj := (7043, (.row [(w32 1), (i64 4), (w64 400), (w64 0), (w64 303), (w64 303), (w32 1), (i64 5), (w64 703), (w64 512), (w64 100), (w64 100), (w32 1), (i64 6), (w64 803), (w64 768), (w64 144), (w64 144), (w32 2), (i64 6), (w64 803), (w64 768), (w64 144), (w64 144), (w32 0x6474e552), (i64 4), (w64 803), (w64 768), (w64 0), (w64 256), (w32 1), (i64 6), (w64 947), (w64 1024), (w64 56), (w64 56)] 169 (.buf 0 false)))
def q7_13 : Nat × AObj := (7171, (.row [(w64 4), (w64 0), (w64 6), (w64 32), (w64 7), (w64 128), (w64 8), (w64 0), (w64 23), (w64 128), (w64 2), (w64 168), (w64 5), (w64 296), (w64 10), (w64 7)] 259 (.buf 0 false)))
def q7_14 : Nat × AObj := (7298, (.row [(w32 3), (w32 2), (w32 0), (w32 0), (w32 0), (w32 1)] 167 (.buf 0 false)))
def q7_15 : Nat × AObj := (7682, (.row [(.str ⟨0, 0⟩), (.str ⟨0, 0⟩), (.bool false), (.str ⟨0, 0⟩), (.str ⟨0, 0⟩), (.bool false), (.str ⟨0, 0⟩), (.str ⟨0, 0⟩), (.bool false), (.str ⟨0, 0⟩), (.str ⟨0, 0⟩), (.bool false)] 210 .solid))
def q7_16 : Nat × AObj := (7622, (.row [(.str ⟨0, 0⟩), (i64 0), (i64 0), (i64 0), (.bool false), (w64 0), (w64 0), (.str ⟨1, 102⟩), (i64 1), (i64 0), (i64 0), (.bool true), (w64 516), (w64 0), (.str ⟨1, 103⟩), (i64 1), (i64 0), (i64 0), (.bool false), (w64 0), (w64 0), (.str ⟨1, 104⟩), (i64 2), (i64 0), (i64 0), (.bool false), (w64 0), (w64 0)] 150 (.buf 0 false)))
def q7_17 : Nat × AObj := (7945, (.row [(w64 1024), (i64 5), (si 14), (w64 0), (w64 1032), (i64 5), (si 15), (w64 0), (w64 1040), (i64 5), (si 16), (w64 0), (w64 1048), (i64 5), (si 17), (w64 0), (w64 1056), (i64 5), (si 18), (w64 0), (w64 1064), (i64 5), (si 19), (w64 0), (w64 1072), (i64 5), (si 20), (w64 0)] 31 (.buf 0 false)))
def b59 : Fact where
  f := 75
  args := [(.ptr 188 0)]
  next := 200
  pre := [(198, (.row [(i64 0), (i64 1), (i64 2)] 3 (.buf 0 false))), (199, (.row [(i64 1), (i64 2), (i64 3)] 3 .solid)), q7_0, q7_1, (188, (.row [(.str ⟨0, 0⟩), .nilSlice, (.slice 3 0 3 (.exact 3)), (.str ⟨16, 0⟩), (.str ⟨0, 0⟩), .nilSlice, (.slice 102 0 7 (.opn 1)), .nilSlice, .nilSlice, (.bool false), (.bool false), (.bool false), (w64 0), (w64 0), (w64 0), (w64 0), (w64 0), (.slice 199 0 3 (.exact 3)), .nilPtr, .nilSlice, .nilMap, (.slice 198 0 3 (.opn 1)), (i64 1), .nilMap, .nilSlice, .nilPtr, .nilSlice, .nilSlice] 193 .solid))]
  r := (.tuple [])
  objs := [q7_2, q7_3, (203, (.map [] 0)), q7_4, q7_5, (188, (.row [(.str ⟨0, 0⟩), .nilSlice, (.slice 3 0 3 (.exact 3)), (.str ⟨16, 0⟩), (.str ⟨0, 0⟩), .nilSlice, (.slice 102 0 7 (.opn 1)), .nilSlice, .nilSlice, (.bool false), (.bool false), (.bool false), (w64 0), (w64 0), (w64 0), (w64 0), (w64 0), (.slice 199 0 3 (.exact 3)), (.ptr 188 18), (.slice 517 0 7 (.opn 1)), (.map 200), (.slice 198 0 3 (.opn 1)), (i64 1), (.map 203), .nilSlice, (.ptr 188 25), (.slice 934 0 303 (.opn 1)), (.slice 936 0 8 (.opn 2))] 193 .solid)), q7_1, q7_0, (199, (.row [(i64 1), (i64 2), (i64 3)] 3 .solid)), (198, (.row [(i64 0), (i64 1), (i64 2)] 3 (.buf 0 false)))]
  next' := 937
theorem b59_ok [Val] (h : AllEq tab7) : b59.Ok P G := Fact.ok_of (n := 100000) (EnvOk.know (EnvOk.tab env0 h) (l := []) knowsNone) (by kernel_rfl)
def b60 : Fact where
  f := 75
  args := [(.ptr 188 0)]
  next := 1008
  pre := [q7_2, q7_3, (203, (.map [] 0)), (198, (.row [(i64 0), (i64 1), (i64 2)] 3 (.buf 0 false))), q7_4, q7_5, (199, (.row [(i64 1), (i64 2), (i64 3)] 3 .solid)), q7_0, q7_1, (188, (.row [(.str ⟨0, 0⟩), .nilSlice, (.slice 3 0 3 (.exact 3)), (.str ⟨16, 0⟩), (.str ⟨0, 0⟩), .nilSlice, (.slice 102 0 7 (.opn 1)), .nilSlice, .nilSlice, (.bool false), (.bool false), (.bool false), (w64 512), (w64 528), (w64 768), (w64 1024), (w64 1080), (.slice 199 0 3 (.exact 3)), (.ptr 188 18), (.slice 517 0 7 (.opn 1)), (.map 200), (.slice 198 0 3 (.opn 1)), (i64 1), (.map 203), .nilSlice, (.ptr 188 25), (.slice 934 0 303 (.opn 1)), (.slice 936 0 8 (.opn 2))] 193 .solid))]
  r := (.tuple [])
  objs := [q7_6, q7_7, (1011, (.map [] 0)), q7_8, q7_9, q7_10, q7_1, q7_0, (199, (.row [(i64 1), (i64 2), (i64 3)] 3 .solid)), q7_5, q7_4, (198, (.row [(i64 0), (i64 1), (i64 2)] 3 (.buf 0 false))), (203, (.map [] 0)), q7_3, q7_2]
  next' := 1745
theorem b60_ok [Val] (h : AllEq tab7) : b60.Ok P G := Fact.ok_of (n := 100000) (EnvOk.know (EnvOk.tab env0 h) (l := []) knowsNone) (by kernel_rfl)
def b61 : Fact where
  f := 150
  args := [(.ptr 188 0)]
  next := 1817
  pre := [q7_6, q7_11, (1011, (.map [] 0)), (198, (.row [(i64 0), (i64 1), (i64 2)] 3 (.buf 0 false))), q7_8, q7_9, (199, (.row [(i64 1), (i64 2), (i64 3)] 3 .solid)), q7_0, q7_1, q7_10]
  r := (.str T9)
  objs := [q7_10, q7_1, q7_0, (199, (.row [(i64 1), (i64 2), (i64 3)] 3 .solid)), q7_9, q7_8, (198, (.row [(i64 0), (i64 1), (i64 2)] 3 (.buf 0 false))), (1011, (.map [] 0)), q7_11, q7_6]
  next' := 6682
theorem b61_ok [Val] (h : AllEq tab7) : b61.Ok P G := Fact.ok_of (n := 100000) (EnvOk.know (EnvOk.tab env0 h) (l := [e0.at_ 1818, e1.at_ 1951, e2.at_ 2328, e0.at_ 2513, e3.at_ 2646, e2.at_ 3023, e0.at_ 3208, e4.at_ 3341, e2.at_ 3718, e0.at_ 3903, e5.at_ 4036, e2.at_ 4413, e0.at_ 4598, e6.at_ 4731, e2.at_ 5108, e0.at_ 5293, e7.at_ 5426, e2.at_ 5803, e0.at_ 5988, e8.at_ 6121, e2.at_ 6498]) (knows (e0_at (by decide)) (knows (e1_at (by decide)) (knows (e2_at (by decide)) (knows (e0_at (by decide)) (knows (e3_at (by decide)) (knows (e2_at (by decide)) (knows (e0_at (by decide)) (knows (e4_at (by decide)) (knows (e2_at (by decide)) (knows (e0_at (by decide)) (knows (e5_at (by decide)) (knows (e2_at (by decide)) (knows (e0_at (by decide)) (knows (e6_at (by decide)) (knows (e2_at (by decide)) (knows (e0_at (by decide)) (knows (e7_at (by decide)) (knows (e2_at (by decide)) (knows (e0_at (by decide)) (knows (e8_at (by decide)) (knows (e2_at (by decide)) knowsNone)))))))))))))))))))))) (by kernel_rfl)
def b62 : Fact where
  f := 79
  args := [(.ptr 188 0)]
  next := 1754
  pre := [q7_6, q7_7, (1011, (.map [] 0)), (198, (.row [(i64 0), (i64 1), (i64 2)] 3 (.buf 0 false))), q7_8, q7_9, (199, (.row [(i64 1), (i64 2), (i64 3)] 3 .solid)), q7_0, q7_1, q7_10]
  r := (.sy .str (.op (.hole [540, 564, 588, 612, 636, 660, 684]) [(.str T10), (yb 14), (yb 15), (yb 16), (yb 17), (yb 18), (yb 19), (yb 20)]))
  objs := [q7_10, q7_1, q7_0, (199, (.row [(i64 1), (i64 2), (i64 3)] 3 .solid)), q7_9, q7_8, (198, (.row [(i64 0), (i64 1), (i64 2)] 3 (.buf 0 false))), (1011, (.map [] 0)), q7_11, q7_6]
  next' := 6956
theorem b62_ok [Val] (h : AllEq tab7) : b62.Ok P G := Fact.ok_of (n := 100000) (EnvOk.know (EnvOk.tab env0 h) (l := [b61]) (knows (b61_ok h) knowsNone)) (by kernel_rfl)
def b63 : Fact where
  f := 45
  args := [(.agg [(.str ⟨0, 0⟩), .nilSlice, (.slice 3 0 3 (.exact 3)), (.str ⟨16, 0⟩), (.str ⟨0, 0⟩), .nilSlice, (.slice 102 0 7 (.opn 1)), .nilSlice, .nilSlice, (.bool false), (.bool false), (.bool false)])]
  next := 103
  pre := [q7_0, q7_1]
  r := (.tuple [(.sy .str (.op (.hole [540, 564, 588, 612, 636, 660, 684]) [(.str T10), (yb 14), (yb 15), (yb 16), (yb 17), (yb 18), (yb 19), (yb 20)])), (.agg [(w64 512), (w64 528), (w64 768), (w64 1024), (w64 1080), (.slice 199 0 3 (.exact 3))]), (i64 0)])
  objs := [q7_1, q7_0, (199, (.row [(i64 1), (i64 2), (i64 3)] 3 .solid))]
  next' := 6956
theorem b63_ok [Val] (h : AllEq tab7) : b63.Ok P G := Fact.ok_of (n := 100000) (EnvOk.know (EnvOk.tab env0 h) (l := [b59, b60, b62]) (knows (b59_ok h) (knows (b60_ok h) (knows (b62_ok h) knowsNone)))) (by kernel_rfl)
def b64 : Fact where
  f := 80
  args := [(.sy .str (.op (.hole [540, 564, 588, 612, 636, 660, 684]) [(.str T10), (yb 14), (yb 15), (yb 16), (yb 17), (yb 18), (yb 19), (yb 20)]))]
  next := 6958
  pre := []
  r := (.tuple [(.agg [(.sy .str (.op (.hole [540, 564, 588, 612, 636, 660, 684]) [(.str T10), (yb 14), (yb 15), (yb 16), (yb 17), (yb 18), (yb 19), (yb 20)])), (w64 0), (.slice 7043 0 6 (.opn 6))]), (.agg [(i64 0), (w64 0), (.str ⟨0, 0⟩)])])
  objs := [q7_12]
  next' := 7044
theorem b64_ok [Val] (h : AllEq tab7) : b64.Ok P G := Fact.ok_of (n := 100000) (EnvOk.know (EnvOk.tab env0 h) (l := []) knowsNone) (by kernel_rfl)
def b65 : Fact where
  f := 86
  args := [(.ptr 7047 0)]
  next := 7685
  pre := [q7_13, q7_14, q7_15, q7_16, q7_12, (7047, (.row [(.sy .str (.op (.hole [540, 564, 588, 612, 636, 660, 684]) [(.str T10), (yb 14), (yb 15), (yb 16), (yb 17), (yb 18), (yb 19), (yb 20)])), (w64 0), (.slice 7043 0 6 (.opn 6)), (.str ⟨0, 0⟩), .nilSlice, (.slice 7622 0 4 (.opn 7)), (.slice 7682 0 4 (.exact 4)), .nilSlice, .nilSlice, (w64 0), (w64 0), (w64 0), (w64 0), .nilSlice, (.bool false), (.bool false), (.iface 268 (.agg [(.slice 7298 0 2 (.exact 2)), (.slice 7298 2 4 (.opn 1))])), (.slice 7171 0 8 (.opn 2)), (i64 4)] 103 .solid))]
  r := (.agg [(i64 0), (w64 0), (.str ⟨0, 0⟩)])
  objs := [q7_17, (7047, (.row [(.sy .str (.op (.hole [540, 564, 588, 612, 636, 660, 684]) [(.str T10), (yb 14), (yb 15), (yb 16), (yb 17), (yb 18), (yb 19), (yb 20)])), (w64 0), (.slice 7043 0 6 (.opn 6)), (.str ⟨0, 0⟩), .nilSlice, (.slice 7622 0 4 (.opn 7)), (.slice 7682 0 4 (.exact 4)), .nilSlice, (.slice 7945 0 7 (.opn 4)), (w64 0), (w64 0), (w64 0), (w64 0), .nilSlice, (.bool false), (.bool false), (.iface 268 (.agg [(.slice 7298 0 2 (.exact 2)), (.slice 7298 2 4 (.opn 1))])), (.slice 7171 0 8 (.opn 2)), (i64 4)] 103 .solid)), q7_12, q7_16, q7_15, q7_14, q7_13]
  next' := 8179
theorem b65_ok [Val] (h : AllEq tab7) : b65.Ok P G := Fact.ok_of (n := 100000) (EnvOk.know (EnvOk.tab env0 h) (l := []) knowsNone) (by kernel_rfl)
def b66 : Fact where
  f := 46
  args := [(.sy .str (.op (.hole [540, 564, 588, 612, 636, 660, 684]) [(.str T10), (yb 14), (yb 15), (yb 16), (yb 17), (yb 18), (yb 19), (yb 20)]))]
  next := 6957
  pre := []
  r := (.tuple [(.ptr 7047 0), (.agg [(i64 0), (w64 0), (.str ⟨0, 0⟩)])])
  objs := [q7_13, q7_14, (8375, (.row [(w64 768), (w64 1024)] 96 (.buf 0 false))), q7_17, q7_15, q7_16, q7_12, (7047, (.row [(.sy .str (.op (.hole [540, 564, 588, 612, 636, 660, 684]) [(.str T10), (yb 14), (yb 15), (yb 16), (yb 17), (yb 18), (yb 19), (yb 20)])), (w64 0), (.slice 7043 0 6 (.opn 6)), (.str ⟨0, 0⟩), .nilSlice, (.slice 7622 0 4 (.opn 7)), (.slice 7682 0 4 (.exact 4)), .nilSlice, (.slice 7945 0 7 (.opn 4)), (w64 0), (w64 0), (w64 0), (w64 0), (.slice 8375 0 1 (.opn 2)), (.bool false), (.bool false), (.iface 268 (.agg [(.slice 7298 0 2 (.exact 2)), (.slice 7298 2 4 (.opn 1))])), (.slice 7171 0 8 (.opn 2)), (i64 4)] 103 .solid))]
  next' := 8410
theorem b66_ok [Val] (h : AllEq tab7) : b66.Ok P G := Fact.ok_of (n := 100000) (EnvOk.know (EnvOk.tab env0 h) (l := [b64, b65]) (knows (b64_ok h) (knows (b65_ok h) knowsNone))) (by kernel_rfl)
end Go.Proofs.YtjmjbjnbfodalaaGreat
