/- files with 10 slots: what pack.Build and object.Read answer, in parts. No condition. -/
import Derived.Test.YtjmjbjnbfodalaaGreatLzE
set_option linter.unusedSimpArgs false
set_option linter.unusedVariables false
set_option linter.unusedSectionVars false
set_option maxRecDepth 1000000
namespace Go.Proofs.YtjmjbjnbfodalaaGreat
open Go.Tc
def q10_0 : Nat × AObj := (144, (.row [(si 2), (si 3), (si 4), (si 5), (si 6), (si 7), (si 8), (si 9), (si 10), (si 11)] 3 (.buf 0 false)))
def q10_1 : Nat × AObj := (3, (.row [(.str ⟨1, 102⟩), (.str ⟨0, 0⟩), (.str ⟨0, 0⟩), (.bool false), (i64 1), (i64 0), (i64 1), (w64 4), (.str ⟨1, 103⟩), (.str ⟨0, 0⟩), (.str ⟨0, 0⟩), (.bool false), (i64 1), (i64 0), (i64 0), (w64 0), (.str ⟨1, 104⟩), (.str ⟨0, 0⟩), (.str ⟨0, 0⟩), (.bool false), (i64 2), (i64 0), (i64 0), (w64 0)] 139 .solid))
def q10_2 : Nat × AObj := (1113, (.row [(w64 4), (w64 0), (w64 6), (w64 32), (w64 7), (w64 128), (w64 8), (w64 0), (w64 23), (w64 128), (w64 2), (w64 240), (w64 5), (w64 368), (w64 10), (w64 7)] 259 (.buf 0 false)))
def q10_3 : Nat × AObj := (1111, (.row (rle [(1, (w8 2)), (3, (w8 0)), (1, (w8 4)), (3, (w8 0)), (1, (w8 3)), (3, (w8 0)), (1, (w8 2)), (15, (w8 0)), (1, (w8 1)), (27, (w8 0)), (1, (w8 1)), (3, (w8 0)), (1, (w8 16)), (1, (w8 0)), (1, (w8 1)), (1, (w8 0)), (1, (w8 4)), (15, (w8 0)), (1, (w8 3)), (3, (w8 0)), (1, (w8 16)), (19, (w8 0)), (1, (w8 5)), (3, (w8 0)), (1, (w8 32)), (27, (w8 0)), (1, (w8 5)), (3, (w8 0)), (1, (sb 14)), (11, (w8 0)), (1, (w8 8)), (7, (w8 0)), (1, (w8 5)), (3, (w8 0)), (1, (sb 15)), (11, (w8 0)), (1, (w8 16)), (7, (w8 0)), (1, (w8 5)), (3, (w8 0)), (1, (sb 16)), (11, (w8 0)), (1, (w8 24)), (7, (w8 0)), (1, (w8 5)), (3, (w8 0)), (1, (sb 17)), (11, (w8 0)), (1, (w8 32)), (7, (w8 0)), (1, (w8 5)), (3, (w8 0)), (1, (sb 18)), (11, (w8 0)), (1, (w8 40)), (7, (w8 0)), (1, (w8 5)), (3, (w8 0)), (1, (sb 19)), (11, (w8 0)), (1, (w8 48)), (7, (w8 0)), (1, (w8 5)), (3, (w8 0)), (1, (sb 20)), (11, (w8 0)), (1, (w8 56)), (7, (w8 0)), (1, (w8 5)), (3, (w8 0)), (1, (sb 21)), (11, (w8 0)), (1, (w8 64)), (7, (w8 0)), (1, (w8 5)), (3, (w8 0)), (1, (sb 22)), (11, (w8 0)), (1, (w8 72)), (7, (w8 0)), (1, (w8 5)), (3, (w8 0)), (1, (sb 23)), (12, (w8 0)), (1, (w8 102)), (1, (w8 0)), (1, (w8 103)), (1, (w8 0)), (1, (w8 104)), (1, (w8 0))]) 5 (.buf 0 false)))
def q10_4 : Nat × AObj := (242, (.map [⟨(.str ⟨0, 0⟩), (i64 0), 0⟩, ⟨(.str ⟨1, 102⟩), (i64 1), 1⟩, ⟨(.str ⟨1, 103⟩), (i64 3), 2⟩, ⟨(.str ⟨1, 104⟩), (i64 5), 3⟩] 4))
def q10_5 : Nat × AObj := (559, (.row [(w8 0), (w8 102), (w8 0), (w8 103), (w8 0), (w8 104), (w8 0)] 5 (.buf 7 false)))
def q10_6 : Nat × AObj := (2056, (.row [(w64 4), (w64 0), (w64 6), (w64 32), (w64 7), (w64 128), (w64 8), (w64 0), (w64 23), (w64 128), (w64 2), (w64 240), (w64 5), (w64 368), (w64 10), (w64 7)] 259 (.buf 0 false)))
def q10_7 : Nat × AObj := (2054, (.row (rle [(1, (w8 2)), (3, (w8 0)), (1, (w8 4)), (3, (w8 0)), (1, (w8 3)), (3, (w8 0)), (1, (w8 2)), (15, (w8 0)), (1, (w8 1)), (27, (w8 0)), (1, (w8 1)), (3, (w8 0)), (1, (w8 16)), (1, (w8 0)), (1, (w8 1)), (1, (w8 0)), (1, (w8 4)), (1, (w8 2)), (14, (w8 0)), (1, (w8 3)), (3, (w8 0)), (1, (w8 16)), (19, (w8 0)), (1, (w8 5)), (3, (w8 0)), (1, (w8 32)), (20, (w8 0)), (1, (w8 4)), (6, (w8 0)), (1, (w8 5)), (3, (w8 0)), (1, (sb 14)), (11, (w8 0)), (1, (w8 8)), (1, (w8 4)), (6, (w8 0)), (1, (w8 5)), (3, (w8 0)), (1, (sb 15)), (11, (w8 0)), (1, (w8 16)), (1, (w8 4)), (6, (w8 0)), (1, (w8 5)), (3, (w8 0)), (1, (sb 16)), (11, (w8 0)), (1, (w8 24)), (1, (w8 4)), (6, (w8 0)), (1, (w8 5)), (3, (w8 0)), (1, (sb 17)), (11, (w8 0)), (1, (w8 32)), (1, (w8 4)), (6, (w8 0)), (1, (w8 5)), (3, (w8 0)), (1, (sb 18)), (11, (w8 0)), (1, (w8 40)), (1, (w8 4)), (6, (w8 0)), (1, (w8 5)), (3, (w8 0)), (1, (sb 19)), (11, (w8 0)), (1, (w8 48)), (1, (w8 4)), (6, (w8 0)), (1, (w8 5)), (3, (w8 0)), (1, (sb 20)), (11, (w8 0)), (1, (w8 56)), (1, (w8 4)), (6, (w8 0)), (1, (w8 5)), (3, (w8 0)), (1, (sb 21)), (11, (w8 0)), (1, (w8 64)), (1, (w8 4)), (6, (w8 0)), (1, (w8 5)), (3, (w8 0)), (1, (sb 22)), (11, (w8 0)), (1, (w8 72)), (1, (w8 4)), (6, (w8 0)), (1, (w8 5)), (3, (w8 0)), (1, (sb 23)), (12, (w8 0)), (1, (w8 102)), (1, (w8 0)), (1, (w8 103)), (1, (w8 0)), (1, (w8 104)), (1, (w8 0))]) 5 (.buf 0 false)))
def q10_8 : Nat × AObj := (1185, (.map [⟨(.str ⟨0, 0⟩), (i64 0), 0⟩, ⟨(.str ⟨1, 102⟩), (i64 1), 1⟩, ⟨(.str ⟨1, 103⟩), (i64 3), 2⟩, ⟨(.str ⟨1, 104⟩), (i64 5), 3⟩] 4))
def q10_9 : Nat × AObj := (1502, (.row [(w8 0), (w8 102), (w8 0), (w8 103), (w8 0), (w8 104), (w8 0)] 5 (.buf 7 false)))
def q10_10 : Nat × AObj := (230, (.row [(.str ⟨0, 0⟩), .nilSlice, (.slice 3 0 3 (.exact 3)), (.str ⟨16, 0⟩), (.str ⟨0, 0⟩), .nilSlice, (.slice 144 0 10 (.opn 1)), .nilSlice, .nilSlice, (.bool false), (.bool false), (.bool false), (w64 512), (w64 528), (w64 768), (w64 1024), (w64 1104), (.slice 241 0 3 (.exact 3)), (.ptr 230 18), (.slice 1502 0 7 (.opn 1)), (.map 1185), (.slice 240 0 3 (.opn 1)), (i64 1), (.map 1188), .nilSlice, (.ptr 230 25), (.slice 2054 0 375 (.opn 1)), (.slice 2056 0 8 (.opn 2))] 193 .solid))
def q10_11 : Nat × AObj := (2054, (.row (rle [(1, (w8 2)), (3, (w8 0)), (1, (w8 4)), (3, (w8 0)), (1, (w8 3)), (3, (w8 0)), (1, (w8 2)), (15, (w8 0)), (1, (w8 1)), (27, (w8 0)), (1, (w8 1)), (3, (w8 0)), (1, (w8 16)), (1, (w8 0)), (1, (w8 1)), (1, (w8 0)), (1, (w8 4)), (1, (w8 2)), (14, (w8 0)), (1, (w8 3)), (3, (w8 0)), (1, (w8 16)), (19, (w8 0)), (1, (w8 5)), (3, (w8 0)), (1, (w8 32)), (20, (w8 0)), (1, (w8 4)), (6, (w8 0)), (1, (w8 5)), (3, (w8 0)), (1, (sb 14)), (11, (w8 0)), (1, (w8 8)), (1, (w8 4)), (6, (w8 0)), (1, (w8 5)), (3, (w8 0)), (1, (sb 15)), (11, (w8 0)), (1, (w8 16)), (1, (w8 4)), (6, (w8 0)), (1, (w8 5)), (3, (w8 0)), (1, (sb 16)), (11, (w8 0)), (1, (w8 24)), (1, (w8 4)), (6, (w8 0)), (1, (w8 5)), (3, (w8 0)), (1, (sb 17)), (11, (w8 0)), (1, (w8 32)), (1, (w8 4)), (6, (w8 0)), (1, (w8 5)), (3, (w8 0)), (1, (sb 18)), (11, (w8 0)), (1, (w8 40)), (1, (w8 4)), (6, (w8 0)), (1, (w8 5)), (3, (w8 0)), (1, (sb 19)), (11, (w8 0)), (1, (w8 48)), (1, (w8 4)), (6, (w8 0)), (1, (w8 5)), (3, (w8 0)), (1, (sb 20)), (11, (w8 0)), (1, (w8 56)), (1, (w8 4)), (6, (w8 0)), (1, (w8 5)), (3, (w8 0)), (1, (sb 21)), (11, (w8 0)), (1, (w8 64)), (1, (w8 4)), (6, (w8 0)), (1, (w8 5)), (3, (w8 0)), (1, (sb 22)), (11, (w8 0)), (1, (w8 72)), (1, (w8 4)), (6, (w8 0)), (1, (w8 5)), (3, (w8 0)), (1, (sb 23)), (12, (w8 0)), (1, (w8 102)), (1, (w8 0)), (1, (w8 103)), (1, (w8 0)), (1, (w8 104)), (1, (w8 0))]) 5 (.buf 375 false)))
def q10_12 : Nat × AObj := (9440, (.row [(w32 1), (i64 4), (w64 400), (w64 0), (w64 375), (w64 375), (w32 1), (i64 5), (w64 775), (w64 512), (w64 136), (w64 136), (w32 1), (i64 6), (w64 911), (w64 768), (w64 144), (w64 144), (w32 2), (i64 6), (w64 911), (w64 768), (w64 144), (w64 144), (w32 0x6474e552), (i64 4), (w64 911), (w64 768), (w64 0), (w64 256), (w32 1), (i64 6), (w64 1055), (w64 1024), (w64 80), (w64 80)] 169 (.buf 0 false)))
def q10_13 : Nat × AObj := (9568, (.row [(w64 4), (w64 0), (w64 6), (w64 32), (w64 7), (w64 128), (w64 8), (w64 0), (w64 23), (w64 128), (w64 2), (w64 240), (w64 5), (w64 368), (w64 10), (w64 7)] 259 (.buf 0 false)))
def q10_14 : Nat × AObj := (9695, (.row [(w32 3), (w32 2), (w32 0), (w32 0), (w32 0), (w32 1)] 167 (.buf 0 false)))
def q10_15 : Nat × AObj := (10079, (.row [(.str ⟨0, 0⟩), (.str ⟨0, 0⟩), (.bool false), (.str ⟨0, 0⟩), (.str ⟨0, 0⟩), (.bool false), (.str ⟨0, 0⟩), (.str ⟨0, 0⟩), (.bool false), (.str ⟨0, 0⟩), (.str ⟨0, 0⟩), (.bool false)] 210 .solid))
def q10_16 : Nat × AObj := (10019, (.row [(.str ⟨0, 0⟩), (i64 0), (i64 0), (i64 0), (.bool false), (w64 0), (w64 0), (.str ⟨1, 102⟩), (i64 1), (i64 0), (i64 0), (.bool true), (w64 516), (w64 0), (.str ⟨1, 103⟩), (i64 1), (i64 0), (i64 0), (.bool false), (w64 0), (w64 0), (.str ⟨1, 104⟩), (i64 2), (i64 0), (i64 0), (.bool false), (w64 0), (w64 0)] 150 (.buf 0 false)))
def q10_17 : Nat × AObj := (10402, (.row [(w64 1024), (i64 5), (si 14), (w64 0), (w64 1032), (i64 5), (si 15), (w64 0), (w64 1040), (i64 5), (si 16), (w64 0), (w64 1048), (i64 5), (si 17), (w64 0), (w64 1056), (i64 5), (si 18), (w64 0), (w64 1064), (i64 5), (si 19), (w64 0), (w64 1072), (i64 5), (si 20), (w64 0), (w64 1080), (i64 5), (si 21), (w64 0), (w64 1088), (i64 5), (si 22), (w64 0), (w64 1096), (i64 5), (si 23), (w64 0)] 31 (.buf 0 false)))
def b87 : Fact where
  f := 75
  args := [(.ptr 230 0)]
  next := 242
  pre := [(240, (.row [(i64 0), (i64 1), (i64 2)] 3 (.buf 0 false))), (241, (.row [(i64 1), (i64 2), (i64 3)] 3 .solid)), q10_0, q10_1, (230, (.row [(.str ⟨0, 0⟩), .nilSlice, (.slice 3 0 3 (.exact 3)), (.str ⟨16, 0⟩), (.str ⟨0, 0⟩), .nilSlice, (.slice 144 0 10 (.opn 1)), .nilSlice, .nilSlice, (.bool false), (.bool false), (.bool false), (w64 0), (w64 0), (w64 0), (w64 0), (w64 0), (.slice 241 0 3 (.exact 3)), .nilPtr, .nilSlice, .nilMap, (.slice 240 0 3 (.opn 1)), (i64 1), .nilMap, .nilSlice, .nilPtr, .nilSlice, .nilSlice] 193 .solid))]
  r := (.tuple [])
  objs := [q10_2, q10_3, (245, (.map [] 0)), q10_4, q10_5, (230, (.row [(.str ⟨0, 0⟩), .nilSlice, (.slice 3 0 3 (.exact 3)), (.str ⟨16, 0⟩), (.str ⟨0, 0⟩), .nilSlice, (.slice 144 0 10 (.opn 1)), .nilSlice, .nilSlice, (.bool false), (.bool false), (.bool false), (w64 0), (w64 0), (w64 0), (w64 0), (w64 0), (.slice 241 0 3 (.exact 3)), (.ptr 230 18), (.slice 559 0 7 (.opn 1)), (.map 242), (.slice 240 0 3 (.opn 1)), (i64 1), (.map 245), .nilSlice, (.ptr 230 25), (.slice 1111 0 375 (.opn 1)), (.slice 1113 0 8 (.opn 2))] 193 .solid)), q10_1, q10_0, (241, (.row [(i64 1), (i64 2), (i64 3)] 3 .solid)), (240, (.row [(i64 0), (i64 1), (i64 2)] 3 (.buf 0 false)))]
  next' := 1114
theorem b87_ok [Val] (h : AllEq tab10) : b87.Ok P G := Fact.ok_of (n := 100000) (EnvOk.know (EnvOk.tab env0 h) (l := []) knowsNone) (by kernel_rfl)
def b88 : Fact where
  f := 75
  args := [(.ptr 230 0)]
  next := 1185
  pre := [q10_2, q10_3, (245, (.map [] 0)), (240, (.row [(i64 0), (i64 1), (i64 2)] 3 (.buf 0 false))), q10_4, q10_5, (241, (.row [(i64 1), (i64 2), (i64 3)] 3 .solid)), q10_0, q10_1, (230, (.row [(.str ⟨0, 0⟩), .nilSlice, (.slice 3 0 3 (.exact 3)), (.str ⟨16, 0⟩), (.str ⟨0, 0⟩), .nilSlice, (.slice 144 0 10 (.opn 1)), .nilSlice, .nilSlice, (.bool false), (.bool false), (.bool false), (w64 512), (w64 528), (w64 768), (w64 1024), (w64 1104), (.slice 241 0 3 (.exact 3)), (.ptr 230 18), (.slice 559 0 7 (.opn 1)), (.map 242), (.slice 240 0 3 (.opn 1)), (i64 1), (.map 245), .nilSlice, (.ptr 230 25), (.slice 1111 0 375 (.opn 1)), (.slice 1113 0 8 (.opn 2))] 193 .solid))]
  r := (.tuple [])
  objs := [q10_6, q10_7, (1188, (.map [] 0)), q10_8, q10_9, q10_10, q10_1, q10_0, (241, (.row [(i64 1), (i64 2), (i64 3)] 3 .solid)), q10_5, q10_4, (240, (.row [(i64 0), (i64 1), (i64 2)] 3 (.buf 0 false))), (245, (.map [] 0)), q10_3, q10_2]
  next' := 2057
theorem b88_ok [Val] (h : AllEq tab10) : b88.Ok P G := Fact.ok_of (n := 100000) (EnvOk.know (EnvOk.tab env0 h) (l := []) knowsNone) (by kernel_rfl)
def b89 : Fact where
  f := 150
  args := [(.ptr 230 0)]
  next := 2129
  pre := [q10_6, q10_11, (1188, (.map [] 0)), (240, (.row [(i64 0), (i64 1), (i64 2)] 3 (.buf 0 false))), q10_8, q10_9, (241, (.row [(i64 1), (i64 2), (i64 3)] 3 .solid)), q10_0, q10_1, q10_10]
  r := (.str T15)
  objs := [q10_10, q10_1, q10_0, (241, (.row [(i64 1), (i64 2), (i64 3)] 3 .solid)), q10_9, q10_8, (240, (.row [(i64 0), (i64 1), (i64 2)] 3 (.buf 0 false))), (1188, (.map [] 0)), q10_11, q10_6]
  next' := 9079
theorem b89_ok [Val] (h : AllEq tab10) : b89.Ok P G := Fact.ok_of (n := 100000) (EnvOk.know (EnvOk.tab env0 h) (l := [e0.at_ 2130, e1.at_ 2263, e2.at_ 2640, e0.at_ 2825, e3.at_ 2958, e2.at_ 3335, e0.at_ 3520, e4.at_ 3653, e2.at_ 4030, e0.at_ 4215, e5.at_ 4348, e2.at_ 4725, e0.at_ 4910, e6.at_ 5043, e2.at_ 5420, e0.at_ 5605, e7.at_ 5738, e2.at_ 6115, e0.at_ 6300, e8.at_ 6433, e2.at_ 6810, e0.at_ 6995, e9.at_ 7128, e2.at_ 7505, e0.at_ 7690, e10.at_ 7823, e2.at_ 8200, e0.at_ 8385, e11.at_ 8518, e2.at_ 8895]) (knows (e0_at (by decide)) (knows (e1_at (by decide)) (knows (e2_at (by decide)) (knows (e0_at (by decide)) (knows (e3_at (by decide)) (knows (e2_at (by decide)) (knows (e0_at (by decide)) (knows (e4_at (by decide)) (knows (e2_at (by decide)) (knows (e0_at (by decide)) (knows (e5_at (by decide)) (knows (e2_at (by decide)) (knows (e0_at (by decide)) (knows (e6_at (by decide)) (knows (e2_at (by decide)) (knows (e0_at (by decide)) (knows (e7_at (by decide)) (knows (e2_at (by decide)) (knows (e0_at (by decide)) (knows (e8_at (by decide)) (knows (e2_at (by decide)) (knows (e0_at (by decide)) (knows (e9_at (by decide)) (knows (e2_at (by decide)) (knows (e0_at (by decide)) (knows (e10_at (by decide)) (knows (e2_at (by decide)) (knows (e0_at (by decide)) (knows (e11_at (by decide)) (knows (e2_at (by decide)) knowsNone))))))))))))))))))))))))))))))) (by kernel_rfl)
def b90 : Fact where
  f := 79
  args := [(.ptr 230 0)]
  next := 2066
  pre := [q10_6, q10_7, (1188, (.map [] 0)), (240, (.row [(i64 0), (i64 1), (i64 2)] 3 (.buf 0 false))), q10_8, q10_9, (241, (.row [(i64 1), (i64 2), (i64 3)] 3 .solid)), q10_0, q10_1, q10_10]
  r := (.sy .str (.op (.hole [540, 564, 588, 612, 636, 660, 684, 708, 732, 756]) [(.str T16), (yb 14), (yb 15), (yb 16), (yb 17), (yb 18), (yb 19), (yb 20), (yb 21), (yb 22), (yb 23)]))
  objs := [q10_10, q10_1, q10_0, (241, (.row [(i64 1), (i64 2), (i64 3)] 3 .solid)), q10_9, q10_8, (240, (.row [(i64 0), (i64 1), (i64 2)] 3 (.buf 0 false))), (1188, (.map [] 0)), q10_11, q10_6]
  next' := 9353
theorem b90_ok [Val] (h : AllEq tab10) : b90.Ok P G := Fact.ok_of (n := 100000) (EnvOk.know (EnvOk.tab env0 h) (l := [b89]) (knows (b89_ok h) knowsNone)) (by kernel_rfl)
def b91 : Fact where
  f := 45
  args := [(.agg [(.str ⟨0, 0⟩), .nilSlice, (.slice 3 0 3 (.exact 3)), (.str ⟨16, 0⟩), (.str ⟨0, 0⟩), .nilSlice, (.slice 144 0 10 (.opn 1)), .nilSlice, .nilSlice, (.bool false), (.bool false), (.bool false)])]
  next := 145
  pre := [q10_0, q10_1]
  r := (.tuple [(.sy .str (.op (.hole [540, 564, 588, 612, 636, 660, 684, 708, 732, 756]) [(.str T16), (yb 14), (yb 15), (yb 16), (yb 17), (yb 18), (yb 19), (yb 20), (yb 21), (yb 22), (yb 23)])), (.agg [(w64 512), (w64 528), (w64 768), (w64 1024), (w64 1104), (.slice 241 0 3 (.exact 3))]), (i64 0)])
  objs := [q10_1, q10_0, (241, (.row [(i64 1), (i64 2), (i64 3)] 3 .solid))]
  next' := 9353
theorem b91_ok [Val] (h : AllEq tab10) : b91.Ok P G := Fact.ok_of (n := 100000) (EnvOk.know (EnvOk.tab env0 h) (l := [b87, b88, b90]) (knows (b87_ok h) (knows (b88_ok h) (knows (b90_ok h) knowsNone)))) (by kernel_rfl)
def b92 : Fact where
  f := 80
  args := [(.sy .str (.op (.hole [540, 564, 588, 612, 636, 660, 684, 708, 732, 756]) [(.str T16), (yb 14), (yb 15), (yb 16), (yb 17), (yb 18), (yb 19), (yb 20), (yb 21), (yb 22), (yb 23)]))]
  next := 9355
  pre := []
  r := (.tuple [(.agg [(.sy .str (.op (.hole [540, 564, 588, 612, 636, 660, 684, 708, 732, 756]) [(.str T16), (yb 14), (yb 15), (yb 16), (yb 17), (yb 18), (yb 19), (yb 20), (yb 21), (yb 22), (yb 23)])), (w64 0), (.slice 9440 0 6 (.opn 6))]), (.agg [(i64 0), (w64 0), (.str ⟨0, 0⟩)])])
  objs := [q10_12]
  next' := 9441
theorem b92_ok [Val] (h : AllEq tab10) : b92.Ok P G := Fact.ok_of (n := 100000) (EnvOk.know (EnvOk.tab env0 h) (l := []) knowsNone) (by kernel_rfl)
def b93 : Fact where
  f := 86
  args := [(.ptr 9444 0)]
  next := 10082
  pre := [q10_13, q10_14, q10_15, q10_16, q10_12, (9444, (.row [(.sy .str (.op (.hole [540, 564, 588, 612, 636, 660, 684, 708, 732, 756]) [(.str T16), (yb 14), (yb 15), (yb 16), (yb 17), (yb 18), (yb 19), (yb 20), (yb 21), (yb 22), (yb 23)])), (w64 0), (.slice 9440 0 6 (.opn 6)), (.str ⟨0, 0⟩), .nilSlice, (.slice 10019 0 4 (.opn 7)), (.slice 10079 0 4 (.exact 4)), .nilSlice, .nilSlice, (w64 0), (w64 0), (w64 0), (w64 0), .nilSlice, (.bool false), (.bool false), (.iface 268 (.agg [(.slice 9695 0 2 (.exact 2)), (.slice 9695 2 4 (.opn 1))])), (.slice 9568 0 8 (.opn 2)), (i64 4)] 103 .solid))]
  r := (.agg [(i64 0), (w64 0), (.str ⟨0, 0⟩)])
  objs := [q10_17, (9444, (.row [(.sy .str (.op (.hole [540, 564, 588, 612, 636, 660, 684, 708, 732, 756]) [(.str T16), (yb 14), (yb 15), (yb 16), (yb 17), (yb 18), (yb 19), (yb 20), (yb 21), (yb 22), (yb 23)])), (w64 0), (.slice 9440 0 6 (.opn 6)), (.str ⟨0, 0⟩), .nilSlice, (.slice 10019 0 4 (.opn 7)), (.slice 10079 0 4 (.exact 4)), .nilSlice, (.slice 10402 0 10 (.opn 4)), (w64 0), (w64 0), (w64 0), (w64 0), .nilSlice, (.bool false), (.bool false), (.iface 268 (.agg [(.slice 9695 0 2 (.exact 2)), (.slice 9695 2 4 (.opn 1))])), (.slice 9568 0 8 (.opn 2)), (i64 4)] 103 .solid)), q10_12, q10_16, q10_15, q10_14, q10_13]
  next' := 10735
theorem b93_ok [Val] (h : AllEq tab10) : b93.Ok P G := Fact.ok_of (n := 100000) (EnvOk.know (EnvOk.tab env0 h) (l := []) knowsNone) (by kernel_rfl)
def b94 : Fact where
  f := 46
  args := [(.sy .str (.op (.hole [540, 564, 588, 612, 636, 660, 684, 708, 732, 756]) [(.str T16), (yb 14), (yb 15), (yb 16), (yb 17), (yb 18), (yb 19), (yb 20), (yb 21), (yb 22), (yb 23)]))]
  next := 9354
  pre := []
  r := (.tuple [(.ptr 9444 0), (.agg [(i64 0), (w64 0), (.str ⟨0, 0⟩)])])
  objs := [q10_13, q10_14, (10931, (.row [(w64 768), (w64 1024)] 96 (.buf 0 false))), q10_17, q10_15, q10_16, q10_12, (9444, (.row [(.sy .str (.op (.hole [540, 564, 588, 612, 636, 660, 684, 708, 732, 756]) [(.str T16), (yb 14), (yb 15), (yb 16), (yb 17), (yb 18), (yb 19), (yb 20), (yb 21), (yb 22), (yb 23)])), (w64 0), (.slice 9440 0 6 (.opn 6)), (.str ⟨0, 0⟩), .nilSlice, (.slice 10019 0 4 (.opn 7)), (.slice 10079 0 4 (.exact 4)), .nilSlice, (.slice 10402 0 10 (.opn 4)), (w64 0), (w64 0), (w64 0), (w64 0), (.slice 10931 0 1 (.opn 2)), (.bool false), (.bool false), (.iface 268 (.agg [(.slice 9695 0 2 (.exact 2)), (.slice 9695 2 4 (.opn 1))])), (.slice 9568 0 8 (.opn 2)), (i64 4)] 103 .solid))]
  next' := 10966
theorem b94_ok [Val] (h : AllEq tab10) : b94.Ok P G := Fact.ok_of (n := 100000) (EnvOk.know (EnvOk.tab env0 h) (l := [b92, b93]) (knows (b92_ok h) (knows (b93_ok h) knowsNone))) (by kernel_rfl)
end Go.Proofs.YtjmjbjnbfodalaaGreat
set_option maxRecDepth 1000000
namespace Go.Proofs.YtjmjbjnbfodalaaGreat
open Go.Tc
def q11_0 : Nat × AObj := (158, (.row [(si 2), (si 3), (si 4), (si 5), (si 6), (si 7), (si 8), (si 9), (si 10), (si 11), (si 12)] 3 (.buf 0 false)))
def q11_1 : Nat × AObj := (3, (.row [(.str ⟨1, 102⟩), (.str ⟨0, 0⟩), (.str ⟨0, 0⟩), (.bool false), (i64 1), (i64 0), (i64 1), (w64 4), (.str ⟨1, 103⟩), (.str ⟨0, 0⟩), (.str ⟨0, 0⟩), (.bool false), (i64 1), (i64 0), (i64 0), (w64 0), (.str ⟨1, 104⟩), (.str ⟨0, 0⟩), (.str ⟨0, 0⟩), (.bool false), (i64 2), (i64 0), (i64 0), (w64 0)] 139 .solid))
def q11_2 : Nat × AObj := (1172, (.row [(w64 4), (w64 0), (w64 6), (w64 32), (w64 7), (w64 128), (w64 8), (w64 0), (w64 23), (w64 128), (w64 2), (w64 264), (w64 5), (w64 392), (w64 10), (w64 7)] 259 (.buf 0 false)))
def q11_3 : Nat × AObj := (1170, (.row (rle [(1, (w8 2)), (3, (w8 0)), (1, (w8 4)), (3, (w8 0)), (1, (w8 3)), (3, (w8 0)), (1, (w8 2)), (15, (w8 0)), (1, (w8 1)), (27, (w8 0)), (1, (w8 1)), (3, (w8 0)), (1, (w8 16)), (1, (w8 0)), (1, (w8 1)), (1, (w8 0)), (1, (w8 4)), (15, (w8 0)), (1, (w8 3)), (3, (w8 0)), (1, (w8 16)), (19, (w8 0)), (1, (w8 5)), (3, (w8 0)), (1, (w8 32)), (27, (w8 0)), (1, (w8 5)), (3, (w8 0)), (1, (sb 14)), (11, (w8 0)), (1, (w8 8)), (7, (w8 0)), (1, (w8 5)), (3, (w8 0)), (1, (sb 15)), (11, (w8 0)), (1, (w8 16)), (7, (w8 0)), (1, (w8 5)), (3, (w8 0)), (1, (sb 16)), (11, (w8 0)), (1, (w8 24)), (7, (w8 0)), (1, (w8 5)), (3, (w8 0)), (1, (sb 17)), (11, (w8 0)), (1, (w8 32)), (7, (w8 0)), (1, (w8 5)), (3, (w8 0)), (1, (sb 18)), (11, (w8 0)), (1, (w8 40)), (7, (w8 0)), (1, (w8 5)), (3, (w8 0)), (1, (sb 19)), (11, (w8 0)), (1, (w8 48)), (7, (w8 0)), (1, (w8 5)), (3, (w8 0)), (1, (sb 20)), (11, (w8 0)), (1, (w8 56)), (7, (w8 0)), (1, (w8 5)), (3, (w8 0)), (1, (sb 21)), (11, (w8 0)), (1, (w8 64)), (7, (w8 0)), (1, (w8 5)), (3, (w8 0)), (1, (sb 22)), (11, (w8 0)), (1, (w8 72)), (7, (w8 0)), (1, (w8 5)), (3, (w8 0)), (1, (sb 23)), (11, (w8 0)), (1, (w8 80)), (7, (w8 0)), (1, (w8 5)), (3, (w8 0)), (1, (sb 24)), (12, (w8 0)), (1, (w8 102)), (1, (w8 0)), (1, (w8 103)), (1, (w8 0)), (1, (w8 104)), (1, (w8 0))]) 5 (.buf 0 false)))
def q11_4 : Nat × AObj := (256, (.map [⟨(.str ⟨0, 0⟩), (i64 0), 0⟩, ⟨(.str ⟨1, 102⟩), (i64 1), 1⟩, ⟨(.str ⟨1, 103⟩), (i64 3), 2⟩, ⟨(.str ⟨1, 104⟩), (i64 5), 3⟩] 4))
def q11_5 : Nat × AObj := (573, (.row [(w8 0), (w8 102), (w8 0), (w8 103), (w8 0), (w8 104), (w8 0)] 5 (.buf 7 false)))
def q11_6 : Nat × AObj := (2160, (.row [(w64 4), (w64 0), (w64 6), (w64 32), (w64 7), (w64 128), (w64 8), (w64 0), (w64 23), (w64 128), (w64 2), (w64 264), (w64 5), (w64 392), (w64 10), (w64 7)] 259 (.buf 0 false)))
def q11_7 : Nat × AObj := (2158, (.row (rle [(1, (w8 2)), (3, (w8 0)), (1, (w8 4)), (3, (w8 0)), (1, (w8 3)), (3, (w8 0)), (1, (w8 2)), (15, (w8 0)), (1, (w8 1)), (27, (w8 0)), (1, (w8 1)), (3, (w8 0)), (1, (w8 16)), (1, (w8 0)), (1, (w8 1)), (1, (w8 0)), (1, (w8 4)), (1, (w8 2)), (14, (w8 0)), (1, (w8 3)), (3, (w8 0)), (1, (w8 16)), (19, (w8 0)), (1, (w8 5)), (3, (w8 0)), (1, (w8 32)), (20, (w8 0)), (1, (w8 4)), (6, (w8 0)), (1, (w8 5)), (3, (w8 0)), (1, (sb 14)), (11, (w8 0)), (1, (w8 8)), (1, (w8 4)), (6, (w8 0)), (1, (w8 5)), (3, (w8 0)), (1, (sb 15)), (11, (w8 0)), (1, (w8 16)), (1, (w8 4)), (6, (w8 0)), (1, (w8 5)), (3, (w8 0)), (1, (sb 16)), (11, (w8 0)), (1, (w8 24)), (1, (w8 4)), (6, (w8 0)), (1, (w8 5)), (3, (w8 0)), (1, (sb 17)), (11, (w8 0)), (1, (w8 32)), (1, (w8 4)), (6, (w8 0)), (1, (w8 5)), (3, (w8 0)), (1, (sb 18)), (11, (w8 0)), (1, (w8 40)), (1, (w8 4)), (6, (w8 0)), (1, (w8 5)), (3, (w8 0)), (1, (sb 19)), (11, (w8 0)), (1, (w8 48)), (1, (w8 4)), (6, (w8 0)), (1, (w8 5)), (3, (w8 0)), (1, (sb 20)), (11, (w8 0)), (1, (w8 56)), (1, (w8 4)), (6, (w8 0)), (1, (w8 5)), (3, (w8 0)), (1, (sb 21)), (11, (w8 0)), (1, (w8 64)), (1, (w8 4)), (6, (w8 0)), (1, (w8 5)), (3, (w8 0)), (1, (sb 22)), (11, (w8 0)), (1, (w8 72)), (1, (w8 4)), (6, (w8 0)), (1, (w8 5)), (3, (w8 0)), (1, (sb 23)), (11, (w8 0)), (1, (w8 80)), (1, (w8 4)), (6, (w8 0)), (1, (w8 5)), (3, (w8 0)), (1, (sb 24)), (12, (w8 0)), (1, (w8 102)), (1, (w8 0)), (1, (w8 103)), (1, (w8 0)), (1, (w8 104)), (1, (w8 0))]) 5 (.buf 0 false)))
def q11_8 : Nat × AObj := (1244, (.map [⟨(.str ⟨0, 0⟩), (i64 0), 0⟩, ⟨(.str ⟨1, 102⟩), (i64 1), 1⟩, ⟨(.str ⟨1, 103⟩), (i64 3), 2⟩, ⟨(.str ⟨1, 104⟩), (i64 5), 3⟩] 4))
def q11_9 : Nat × AObj := (1561, (.row [(w8 0), (w8 102), (w8 0), (w8 103), (w8 0), (w8 104), (w8 0)] 5 (.buf 7 false)))
def q11_10 : Nat × AObj := (244, (.row [(.str ⟨0, 0⟩), .nilSlice, (.slice 3 0 3 (.exact 3)), (.str ⟨16, 0⟩), (.str ⟨0, 0⟩), .nilSlice, (.slice 158 0 11 (.opn 1)), .nilSlice, .nilSlice, (.bool false), (.bool false), (.bool false), (w64 512), (w64 528), (w64 768), (w64 1024), (w64 1112), (.slice 255 0 3 (.exact 3)), (.ptr 244 18), (.slice 1561 0 7 (.opn 1)), (.map 1244), (.slice 254 0 3 (.opn 1)), (i64 1), (.map 1247), .nilSlice, (.ptr 244 25), (.slice 2158 0 399 (.opn 1)), (.slice 2160 0 8 (.opn 2))] 193 .solid))
def q11_11 : Nat × AObj := (2158, (.row (rle [(1, (w8 2)), (3, (w8 0)), (1, (w8 4)), (3, (w8 0)), (1, (w8 3)), (3, (w8 0)), (1, (w8 2)), (15, (w8 0)), (1, (w8 1)), (27, (w8 0)), (1, (w8 1)), (3, (w8 0)), (1, (w8 16)), (1, (w8 0)), (1, (w8 1)), (1, (w8 0)), (1, (w8 4)), (1, (w8 2)), (14, (w8 0)), (1, (w8 3)), (3, (w8 0)), (1, (w8 16)), (19, (w8 0)), (1, (w8 5)), (3, (w8 0)), (1, (w8 32)), (20, (w8 0)), (1, (w8 4)), (6, (w8 0)), (1, (w8 5)), (3, (w8 0)), (1, (sb 14)), (11, (w8 0)), (1, (w8 8)), (1, (w8 4)), (6, (w8 0)), (1, (w8 5)), (3, (w8 0)), (1, (sb 15)), (11, (w8 0)), (1, (w8 16)), (1, (w8 4)), (6, (w8 0)), (1, (w8 5)), (3, (w8 0)), (1, (sb 16)), (11, (w8 0)), (1, (w8 24)), (1, (w8 4)), (6, (w8 0)), (1, (w8 5)), (3, (w8 0)), (1, (sb 17)), (11, (w8 0)), (1, (w8 32)), (1, (w8 4)), (6, (w8 0)), (1, (w8 5)), (3, (w8 0)), (1, (sb 18)), (11, (w8 0)), (1, (w8 40)), (1, (w8 4)), (6, (w8 0)), (1, (w8 5)), (3, (w8 0)), (1, (sb 19)), (11, (w8 0)), (1, (w8 48)), (1, (w8 4)), (6, (w8 0)), (1, (w8 5)), (3, (w8 0)), (1, (sb 20)), (11, (w8 0)), (1, (w8 56)), (1, (w8 4)), (6, (w8 0)), (1, (w8 5)), (3, (w8 0)), (1, (sb 21)), (11, (w8 0)), (1, (w8 64)), (1, (w8 4)), (6, (w8 0)), (1, (w8 5)), (3, (w8 0)), (1, (sb 22)), (11, (w8 0)), (1, (w8 72)), (1, (w8 4)), (6, (w8 0)), (1, (w8 5)), (3, (w8 0)), (1, (sb 23)), (11, (w8 0)), (1, (w8 80)), (1, (w8 4)), (6, (w8 0)), (1, (w8 5)), (3, (w8 0)), (1, (sb 24)), (12, (w8 0)), (1, (w8 102)), (1, (w8 0)), (1, (w8 103)), (1, (w8 0)), (1, (w8 104)), (1, (w8 0))]) 5 (.buf 399 false)))
def q11_12 : Nat × AObj := (10239, (.row [(w32 1), (i64 4), (w64 400), (w64 0), (w64 399), (w64 399), (w32 1), (i64 5), (w64 799), (w64 512), (w64 148), (w64 148), (w32 1), (i64 6), (w64 947), (w64 768), (w64 144), (w64 144), (w32 2), (i64 6), (w64 947), (w64 768), (w64 144), (w64 144), (w32 0x6474e552), (i64 4), (w64 947), (w64 768), (w64 0), (w64 256), (w32 1), (i64 6), (w64 1091), (w64 1024), (w64 88), (w64 88)] 169 (.buf 0 false)))
def q11_13 : Nat × AObj := (10367, (.row [(w64 4), (w64 0), (w64 6), (w64 32), (w64 7), (w64 128), (w64 8), (w64 0), (w64 23), (w64 128), (w64 2), (w64 264), (w64 5), (w64 392), (w64 10), (w64 7)] 259 (.buf 0 false)))
def q11_14 : Nat × AObj := (10494, (.row [(w32 3), (w32 2), (w32 0), (w32 0), (w32 0), (w32 1)] 167 (.buf 0 false)))
def q11_15 : Nat × AObj := (10878, (.row [(.str ⟨0, 0⟩), (.str ⟨0, 0⟩), (.bool false), (.str ⟨0, 0⟩), (.str ⟨0, 0⟩), (.bool false), (.str ⟨0, 0⟩), (.str ⟨0, 0⟩), (.bool false), (.str ⟨0, 0⟩), (.str ⟨0, 0⟩), (.bool false)] 210 .solid))
def q11_16 : Nat × AObj := (10818, (.row [(.str ⟨0, 0⟩), (i64 0), (i64 0), (i64 0), (.bool false), (w64 0), (w64 0), (.str ⟨1, 102⟩), (i64 1), (i64 0), (i64 0), (.bool true), (w64 516), (w64 0), (.str ⟨1, 103⟩), (i64 1), (i64 0), (i64 0), (.bool false), (w64 0), (w64 0), (.str ⟨1, 104⟩), (i64 2), (i64 0), (i64 0), (.bool false), (w64 0), (w64 0)] 150 (.buf 0 false)))
def q11_17 : Nat × AObj := (11221, (.row [(w64 1024), (i64 5), (si 14), (w64 0), (w64 1032), (i64 5), (si 15), (w64 0), (w64 1040), (i64 5), (si 16), (w64 0), (w64 1048), (i64 5), (si 17), (w64 0), (w64 1056), (i64 5), (si 18), (w64 0), (w64 1064), (i64 5), (si 19), (w64 0), (w64 1072), (i64 5), (si 20), (w64 0), (w64 1080), (i64 5), (si 21), (w64 0), (w64 1088), (i64 5), (si 22), (w64 0), (w64 1096), (i64 5), (si 23), (w64 0), (w64 1104), (i64 5), (si 24), (w64 0)] 31 (.buf 0 false)))
def b95 : Fact where
  f := 75
  args := [(.ptr 244 0)]
  next := 256
  pre := [(254, (.row [(i64 0), (i64 1), (i64 2)] 3 (.buf 0 false))), (255, (.row [(i64 1), (i64 2), (i64 3)] 3 .solid)), q11_0, q11_1, (244, (.row [(.str ⟨0, 0⟩), .nilSlice, (.slice 3 0 3 (.exact 3)), (.str ⟨16, 0⟩), (.str ⟨0, 0⟩), .nilSlice, (.slice 158 0 11 (.opn 1)), .nilSlice, .nilSlice, (.bool false), (.bool false), (.bool false), (w64 0), (w64 0), (w64 0), (w64 0), (w64 0), (.slice 255 0 3 (.exact 3)), .nilPtr, .nilSlice, .nilMap, (.slice 254 0 3 (.opn 1)), (i64 1), .nilMap, .nilSlice, .nilPtr, .nilSlice, .nilSlice] 193 .solid))]
  r := (.tuple [])
  objs := [q11_2, q11_3, (259, (.map [] 0)), q11_4, q11_5, (244, (.row [(.str ⟨0, 0⟩), .nilSlice, (.slice 3 0 3 (.exact 3)), (.str ⟨16, 0⟩), (.str ⟨0, 0⟩), .nilSlice, (.slice 158 0 11 (.opn 1)), .nilSlice, .nilSlice, (.bool false), (.bool false), (.bool false), (w64 0), (w64 0), (w64 0), (w64 0), (w64 0), (.slice 255 0 3 (.exact 3)), (.ptr 244 18), (.slice 573 0 7 (.opn 1)), (.map 256), (.slice 254 0 3 (.opn 1)), (i64 1), (.map 259), .nilSlice, (.ptr 244 25), (.slice 1170 0 399 (.opn 1)), (.slice 1172 0 8 (.opn 2))] 193 .solid)), q11_1, q11_0, (255, (.row [(i64 1), (i64 2), (i64 3)] 3 .solid)), (254, (.row [(i64 0), (i64 1), (i64 2)] 3 (.buf 0 false)))]
  next' := 1173
theorem b95_ok [Val] (h : AllEq tab11) : b95.Ok P G := Fact.ok_of (n := 100000) (EnvOk.know (EnvOk.tab env0 h) (l := []) knowsNone) (by kernel_rfl)
def b96 : Fact where
  f := 75
  args := [(.ptr 244 0)]
  next := 1244
  pre := [q11_2, q11_3, (259, (.map [] 0)), (254, (.row [(i64 0), (i64 1), (i64 2)] 3 (.buf 0 false))), q11_4, q11_5, (255, (.row [(i64 1), (i64 2), (i64 3)] 3 .solid)), q11_0, q11_1, (244, (.row [(.str ⟨0, 0⟩), .nilSlice, (.slice 3 0 3 (.exact 3)), (.str ⟨16, 0⟩), (.str ⟨0, 0⟩), .nilSlice, (.slice 158 0 11 (.opn 1)), .nilSlice, .nilSlice, (.bool false), (.bool false), (.bool false), (w64 512), (w64 528), (w64 768), (w64 1024), (w64 1112), (.slice 255 0 3 (.exact 3)), (.ptr 244 18), (.slice 573 0 7 (.opn 1)), (.map 256), (.slice 254 0 3 (.opn 1)), (i64 1), (.map 259), .nilSlice, (.ptr 244 25), (.slice 1170 0 399 (.opn 1)), (.slice 1172 0 8 (.opn 2))] 193 .solid))]
  r := (.tuple [])
  objs := [q11_6, q11_7, (1247, (.map [] 0)), q11_8, q11_9, q11_10, q11_1, q11_0, (255, (.row [(i64 1), (i64 2), (i64 3)] 3 .solid)), q11_5, q11_4, (254, (.row [(i64 0), (i64 1), (i64 2)] 3 (.buf 0 false))), (259, (.map [] 0)), q11_3, q11_2]
  next' := 2161
theorem b96_ok [Val] (h : AllEq tab11) : b96.Ok P G := Fact.ok_of (n := 100000) (EnvOk.know (EnvOk.tab env0 h) (l := []) knowsNone) (by kernel_rfl)
def b97 : Fact where
  f := 150
  args := [(.ptr 244 0)]
  next := 2233
  pre := [q11_6, q11_11, (1247, (.map [] 0)), (254, (.row [(i64 0), (i64 1), (i64 2)] 3 (.buf 0 false))), q11_8, q11_9, (255, (.row [(i64 1), (i64 2), (i64 3)] 3 .solid)), q11_0, q11_1, q11_10]
  r := (.str T17)
  objs := [q11_10, q11_1, q11_0, (255, (.row [(i64 1), (i64 2), (i64 3)] 3 .solid)), q11_9, q11_8, (254, (.row [(i64 0), (i64 1), (i64 2)] 3 (.buf 0 false))), (1247, (.map [] 0)), q11_11, q11_6]
  next' := 9878
theorem b97_ok [Val] (h : AllEq tab11) : b97.Ok P G := Fact.ok_of (n := 100000) (EnvOk.know (EnvOk.tab env0 h) (l := [e0.at_ 2234, e1.at_ 2367, e2.at_ 2744, e0.at_ 2929, e3.at_ 3062, e2.at_ 3439, e0.at_ 3624, e4.at_ 3757, e2.at_ 4134, e0.at_ 4319, e5.at_ 4452, e2.at_ 4829, e0.at_ 5014, e6.at_ 5147, e2.at_ 5524, e0.at_ 5709, e7.at_ 5842, e2.at_ 6219, e0.at_ 6404, e8.at_ 6537, e2.at_ 6914, e0.at_ 7099, e9.at_ 7232, e2.at_ 7609, e0.at_ 7794, e10.at_ 7927, e2.at_ 8304, e0.at_ 8489, e11.at_ 8622, e2.at_ 8999, e0.at_ 9184, e12.at_ 9317, e2.at_ 9694]) (knows (e0_at (by decide)) (knows (e1_at (by decide)) (knows (e2_at (by decide)) (knows (e0_at (by decide)) (knows (e3_at (by decide)) (knows (e2_at (by decide)) (knows (e0_at (by decide)) (knows (e4_at (by decide)) (knows (e2_at (by decide)) (knows (e0_at (by decide)) (knows (e5_at (by decide)) (knows (e2_at (by decide)) (knows (e0_at (by decide)) (knows (e6_at (by decide)) (knows (e2_at (by decide)) (knows (e0_at (by decide)) (knows (e7_at (by decide)) (knows (e2_at (by decide)) (knows (e0_at (by decide)) (knows (e8_at (by decide)) (knows (e2_at (by decide)) (knows (e0_at (by decide)) (knows (e9_at (by decide)) (knows (e2_at (by decide)) (knows (e0_at (by decide)) (knows (e10_at (by decide)) (knows (e2_at (by decide)) (knows (e0_at (by decide)) (knows (e11_at (by decide)) (knows (e2_at (by decide)) (knows (e0_at (by decide)) (knows (e12_at (by decide)) (knows (e2_at (by decide)) knowsNone)))))))))))))))))))))))))))))))))) (by kernel_rfl)
def b98 : Fact where
  f := 79
  args := [(.ptr 244 0)]
  next := 2170
  pre := [q11_6, q11_7, (1247, (.map [] 0)), (254, (.row [(i64 0), (i64 1), (i64 2)] 3 (.buf 0 false))), q11_8, q11_9, (255, (.row [(i64 1), (i64 2), (i64 3)] 3 .solid)), q11_0, q11_1, q11_10]
  r := (.sy .str (.op (.hole [540, 564, 588, 612, 636, 660, 684, 708, 732, 756, 780]) [(.str T18), (yb 14), (yb 15), (yb 16), (yb 17), (yb 18), (yb 19), (yb 20), (yb 21), (yb 22), (yb 23), (yb 24)]))
  objs := [q11_10, q11_1, q11_0, (255, (.row [(i64 1), (i64 2), (i64 3)] 3 .solid)), q11_9, q11_8, (254, (.row [(i64 0), (i64 1), (i64 2)] 3 (.buf 0 false))), (1247, (.map [] 0)), q11_11, q11_6]
  next' := 10152
theorem b98_ok [Val] (h : AllEq tab11) : b98.Ok P G := Fact.ok_of (n := 100000) (EnvOk.know (EnvOk.tab env0 h) (l := [b97]) (knows (b97_ok h) knowsNone)) (by kernel_rfl)
def b99 : Fact where
  f := 45
  args := [(.agg [(.str ⟨0, 0⟩), .nilSlice, (.slice 3 0 3 (.exact 3)), (.str ⟨16, 0⟩), (.str ⟨0, 0⟩), .nilSlice, (.slice 158 0 11 (.opn 1)), .nilSlice, .nilSlice, (.bool false), (.bool false), (.bool false)])]
  next := 159
  pre := [q11_0, q11_1]
  r := (.tuple [(.sy .str (.op (.hole [540, 564, 588, 612, 636, 660, 684, 708, 732, 756, 780]) [(.str T18), (yb 14), (yb 15), (yb 16), (yb 17), (yb 18), (yb 19), (yb 20), (yb 21), (yb 22), (yb 23), (yb 24)])), (.agg [(w64 512), (w64 528), (w64 768), (w64 1024), (w64 1112), (.slice 255 0 3 (.exact 3))]), (i64 0)])
  objs := [q11_1, q11_0, (255, (.row [(i64 1), (i64 2), (i64 3)] 3 .solid))]
  next' := 10152
theorem b99_ok [Val] (h : AllEq tab11) : b99.Ok P G := Fact.ok_of (n := 100000) (EnvOk.know (EnvOk.tab env0 h) (l := [b95, b96, b98]) (knows (b95_ok h) (knows (b96_ok h) (knows (b98_ok h) knowsNone)))) (by kernel_rfl)
def b100 : Fact where
  f := 80
  args := [(.sy .str (.op (.hole [540, 564, 588, 612, 636, 660, 684, 708, 732, 756, 780]) [(.str T18), (yb 14), (yb 15), (yb 16), (yb 17), (yb 18), (yb 19), (yb 20), (yb 21), (yb 22), (yb 23), (yb 24)]))]
  next := 10154
  pre := []
  r := (.tuple [(.agg [(.sy .str (.op (.hole [540, 564, 588, 612, 636, 660, 684, 708, 732, 756, 780]) [(.str T18), (yb 14), (yb 15), (yb 16), (yb 17), (yb 18), (yb 19), (yb 20), (yb 21), (yb 22), (yb 23), (yb 24)])), (w64 0), (.slice 10239 0 6 (.opn 6))]), (.agg [(i64 0), (w64 0), (.str ⟨0, 0⟩)])])
  objs := [q11_12]
  next' := 10240
theorem b100_ok [Val] (h : AllEq tab11) : b100.Ok P G := Fact.ok_of (n := 100000) (EnvOk.know (EnvOk.tab env0 h) (l := []) knowsNone) (by kernel_rfl)
def b101 : Fact where
  f := 86
  args := [(.ptr 10243 0)]
  next := 10881
  pre := [q11_13, q11_14, q11_15, q11_16, q11_12, (10243, (.row [(.sy .str (.op (.hole [540, 564, 588, 612, 636, 660, 684, 708, 732, 756, 780]) [(.str T18), (yb 14), (yb 15), (yb 16), (yb 17), (yb 18), (yb 19), (yb 20), (yb 21), (yb 22), (yb 23), (yb 24)])), (w64 0), (.slice 10239 0 6 (.opn 6)), (.str ⟨0, 0⟩), .nilSlice, (.slice 10818 0 4 (.opn 7)), (.slice 10878 0 4 (.exact 4)), .nilSlice, .nilSlice, (w64 0), (w64 0), (w64 0), (w64 0), .nilSlice, (.bool false), (.bool false), (.iface 268 (.agg [(.slice 10494 0 2 (.exact 2)), (.slice 10494 2 4 (.opn 1))])), (.slice 10367 0 8 (.opn 2)), (i64 4)] 103 .solid))]
  r := (.agg [(i64 0), (w64 0), (.str ⟨0, 0⟩)])
  objs := [q11_17, (10243, (.row [(.sy .str (.op (.hole [540, 564, 588, 612, 636, 660, 684, 708, 732, 756, 780]) [(.str T18), (yb 14), (yb 15), (yb 16), (yb 17), (yb 18), (yb 19), (yb 20), (yb 21), (yb 22), (yb 23), (yb 24)])), (w64 0), (.slice 10239 0 6 (.opn 6)), (.str ⟨0, 0⟩), .nilSlice, (.slice 10818 0 4 (.opn 7)), (.slice 10878 0 4 (.exact 4)), .nilSlice, (.slice 11221 0 11 (.opn 4)), (w64 0), (w64 0), (w64 0), (w64 0), .nilSlice, (.bool false), (.bool false), (.iface 268 (.agg [(.slice 10494 0 2 (.exact 2)), (.slice 10494 2 4 (.opn 1))])), (.slice 10367 0 8 (.opn 2)), (i64 4)] 103 .solid)), q11_12, q11_16, q11_15, q11_14, q11_13]
  next' := 11587
theorem b101_ok [Val] (h : AllEq tab11) : b101.Ok P G := Fact.ok_of (n := 100000) (EnvOk.know (EnvOk.tab env0 h) (l := []) knowsNone) (by kernel_rfl)
def b102 : Fact where
  f := 46
  args := [(.sy .str (.op (.hole [540, 564, 588, 612, 636, 660, 684, 708, 732, 756, 780]) [(.str T18), (yb 14), (yb 15), (yb 16), (yb 17), (yb 18), (yb 19), (yb 20), (yb 21), (yb 22), (yb 23), (yb 24)]))]
  next := 10153
  pre := []
  r := (.tuple [(.ptr 10243 0), (.agg [(i64 0), (w64 0), (.str ⟨0, 0⟩)])])
  objs := [q11_13, q11_14, (11783, (.row [(w64 768), (w64 1024)] 96 (.buf 0 false))), q11_17, q11_15, q11_16, q11_12, (10243, (.row [(.sy .str (.op (.hole [540, 564, 588, 612, 636, 660, 684, 708, 732, 756, 780]) [(.str T18), (yb 14), (yb 15), (yb 16), (yb 17), (yb 18), (yb 19), (yb 20), (yb 21), (yb 22), (yb 23), (yb 24)])), (w64 0), (.slice 10239 0 6 (.opn 6)), (.str ⟨0, 0⟩), .nilSlice, (.slice 10818 0 4 (.opn 7)), (.slice 10878 0 4 (.exact 4)), .nilSlice, (.slice 11221 0 11 (.opn 4)), (w64 0), (w64 0), (w64 0), (w64 0), (.slice 11783 0 1 (.opn 2)), (.bool false), (.bool false), (.iface 268 (.agg [(.slice 10494 0 2 (.exact 2)), (.slice 10494 2 4 (.opn 1))])), (.slice 10367 0 8 (.opn 2)), (i64 4)] 103 .solid))]
  next' := 11818
theorem b102_ok [Val] (h : AllEq tab11) : b102.Ok P G := Fact.ok_of (n := 100000) (EnvOk.know (EnvOk.tab env0 h) (l := [b100, b101]) (knows (b100_ok h) (knows (b101_ok h) knowsNone))) (by kernel_rfl)
end Go.Proofs.YtjmjbjnbfodalaaGreat
