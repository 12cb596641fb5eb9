/- files with 12 slots: what pack.Build and object.Read answer, in parts. No condition. -/
import Derived.Test.YtjmjbjnbfodalaaGreatLzE
set_option linter.unusedSimpArgs false
set_option linter.unusedVariables false
set_option linter.unusedSectionVars false
set_option maxRecDepth 1000000
namespace Go.Proofs.YtjmjbjnbfodalaaGreat
open Go.Tc
def q12_0 : Nat × AObj := (172, (.row [(si 2), (si 3), (si 4), (si 5), (si 6), (si 7), (si 8), (si 9), (si 10), (si 11), (si 12), (si 13)] 3 (.buf 0 false)))
def q12_1 : Nat × AObj := (3, (.row [(.str ⟨1, 102⟩), (.str ⟨0, 0⟩), (.str ⟨0, 0⟩), (.bool false), (i64 1), (i64 0), (i64 1), (w64 4), (.str ⟨1, 103⟩), (.str ⟨0, 0⟩), (.str ⟨0, 0⟩), (.bool false), (i64 1), (i64 0), (i64 0), (w64 0), (.str ⟨1, 104⟩), (.str ⟨0, 0⟩), (.str ⟨0, 0⟩), (.bool false), (i64 2), (i64 0), (i64 0), (w64 0)] 139 .solid))
def q12_2 : Nat × AObj := (1231, (.row [(w64 4), (w64 0), (w64 6), (w64 32), (w64 7), (w64 128), (w64 8), (w64 0), (w64 23), (w64 128), (w64 2), (w64 288), (w64 5), (w64 416), (w64 10), (w64 7)] 259 (.buf 0 false)))
def q12_3 : Nat × AObj := (1229, (.row (rle [(1, (w8 2)), (3, (w8 0)), (1, (w8 4)), (3, (w8 0)), (1, (w8 3)), (3, (w8 0)), (1, (w8 2)), (15, (w8 0)), (1, (w8 1)), (27, (w8 0)), (1, (w8 1)), (3, (w8 0)), (1, (w8 16)), (1, (w8 0)), (1, (w8 1)), (1, (w8 0)), (1, (w8 4)), (15, (w8 0)), (1, (w8 3)), (3, (w8 0)), (1, (w8 16)), (19, (w8 0)), (1, (w8 5)), (3, (w8 0)), (1, (w8 32)), (27, (w8 0)), (1, (w8 5)), (3, (w8 0)), (1, (sb 14)), (11, (w8 0)), (1, (w8 8)), (7, (w8 0)), (1, (w8 5)), (3, (w8 0)), (1, (sb 15)), (11, (w8 0)), (1, (w8 16)), (7, (w8 0)), (1, (w8 5)), (3, (w8 0)), (1, (sb 16)), (11, (w8 0)), (1, (w8 24)), (7, (w8 0)), (1, (w8 5)), (3, (w8 0)), (1, (sb 17)), (11, (w8 0)), (1, (w8 32)), (7, (w8 0)), (1, (w8 5)), (3, (w8 0)), (1, (sb 18)), (11, (w8 0)), (1, (w8 40)), (7, (w8 0)), (1, (w8 5)), (3, (w8 0)), (1, (sb 19)), (11, (w8 0)), (1, (w8 48)), (7, (w8 0)), (1, (w8 5)), (3, (w8 0)), (1, (sb 20)), (11, (w8 0)), (1, (w8 56)), (7, (w8 0)), (1, (w8 5)), (3, (w8 0)), (1, (sb 21)), (11, (w8 0)), (1, (w8 64)), (7, (w8 0)), (1, (w8 5)), (3, (w8 0)), (1, (sb 22)), (11, (w8 0)), (1, (w8 72)), (7, (w8 0)), (1, (w8 5)), (3, (w8 0)), (1, (sb 23)), (11, (w8 0)), (1, (w8 80)), (7, (w8 0)), (1, (w8 5)), (3, (w8 0)), (1, (sb 24)), (11, (w8 0)), (1, (w8 88)), (7, (w8 0)), (1, (w8 5)), (3, (w8 0)), (1, (sb 25)), (12, (w8 0)), (1, (w8 102)), (1, (w8 0)), (1, (w8 103)), (1, (w8 0)), (1, (w8 104)), (1, (w8 0))]) 5 (.buf 0 false)))
def q12_4 : Nat × AObj := (270, (.map [⟨(.str ⟨0, 0⟩), (i64 0), 0⟩, ⟨(.str ⟨1, 102⟩), (i64 1), 1⟩, ⟨(.str ⟨1, 103⟩), (i64 3), 2⟩, ⟨(.str ⟨1, 104⟩), (i64 5), 3⟩] 4))
def q12_5 : Nat × AObj := (587, (.row [(w8 0), (w8 102), (w8 0), (w8 103), (w8 0), (w8 104), (w8 0)] 5 (.buf 7 false)))
def q12_6 : Nat × AObj := (2264, (.row [(w64 4), (w64 0), (w64 6), (w64 32), (w64 7), (w64 128), (w64 8), (w64 0), (w64 23), (w64 128), (w64 2), (w64 288), (w64 5), (w64 416), (w64 10), (w64 7)] 259 (.buf 0 false)))
def q12_7 : Nat × AObj := (2262, (.row (rle [(1, (w8 2)), (3, (w8 0)), (1, (w8 4)), (3, (w8 0)), (1, (w8 3)), (3, (w8 0)), (1, (w8 2)), (15, (w8 0)), (1, (w8 1)), (27, (w8 0)), (1, (w8 1)), (3, (w8 0)), (1, (w8 16)), (1, (w8 0)), (1, (w8 1)), (1, (w8 0)), (1, (w8 4)), (1, (w8 2)), (14, (w8 0)), (1, (w8 3)), (3, (w8 0)), (1, (w8 16)), (19, (w8 0)), (1, (w8 5)), (3, (w8 0)), (1, (w8 32)), (20, (w8 0)), (1, (w8 4)), (6, (w8 0)), (1, (w8 5)), (3, (w8 0)), (1, (sb 14)), (11, (w8 0)), (1, (w8 8)), (1, (w8 4)), (6, (w8 0)), (1, (w8 5)), (3, (w8 0)), (1, (sb 15)), (11, (w8 0)), (1, (w8 16)), (1, (w8 4)), (6, (w8 0)), (1, (w8 5)), (3, (w8 0)), (1, (sb 16)), (11, (w8 0)), (1, (w8 24)), (1, (w8 4)), (6, (w8 0)), (1, (w8 5)), (3, (w8 0)), (1, (sb 17)), (11, (w8 0)), (1, (w8 32)), (1, (w8 4)), (6, (w8 0)), (1, (w8 5)), (3, (w8 0)), (1, (sb 18)), (11, (w8 0)), (1, (w8 40)), (1, (w8 4)), (6, (w8 0)), (1, (w8 5)), (3, (w8 0)), (1, (sb 19)), (11, (w8 0)), (1, (w8 48)), (1, (w8 4)), (6, (w8 0)), (1, (w8 5)), (3, (w8 0)), (1, (sb 20)), (11, (w8 0)), (1, (w8 56)), (1, (w8 4)), (6, (w8 0)), (1, (w8 5)), (3, (w8 0)), (1, (sb 21)), (11, (w8 0)), (1, (w8 64)), (1, (w8 4)), (6, (w8 0)), (1, (w8 5)), (3, (w8 0)), (1, (sb 22)), (11, (w8 0)), (1, (w8 72)), (1, (w8 4)), (6, (w8 0)), (1, (w8 5)), (3, (w8 0)), (1, (sb 23)), (11, (w8 0)), (1, (w8 80)), (1, (w8 4)), (6, (w8 0)), (1, (w8 5)), (3, (w8 0)), (1, (sb 24)), (11, (w8 0)), (1, (w8 88)), (1, (w8 4)), (6, (w8 0)), (1, (w8 5)), (3, (w8 0)), (1, (sb 25)), (12, (w8 0)), (1, (w8 102)), (1, (w8 0)), (1, (w8 103)), (1, (w8 0)), (1, (w8 104)), (1, (w8 0))]) 5 (.buf 0 false)))
def q12_8 : Nat × AObj := (1303, (.map [⟨(.str ⟨0, 0⟩), (i64 0), 0⟩, ⟨(.str ⟨1, 102⟩), (i64 1), 1⟩, ⟨(.str ⟨1, 103⟩), (i64 3), 2⟩, ⟨(.str ⟨1, 104⟩), (i64 5), 3⟩] 4))
def q12_9 : Nat × AObj := (1620, (.row [(w8 0), (w8 102), (w8 0), (w8 103), (w8 0), (w8 104), (w8 0)] 5 (.buf 7 false)))
def q12_10 : Nat × AObj := (258, (.row [(.str ⟨0, 0⟩), .nilSlice, (.slice 3 0 3 (.exact 3)), (.str ⟨16, 0⟩), (.str ⟨0, 0⟩), .nilSlice, (.slice 172 0 12 (.opn 1)), .nilSlice, .nilSlice, (.bool false), (.bool false), (.bool false), (w64 512), (w64 528), (w64 768), (w64 1024), (w64 1120), (.slice 269 0 3 (.exact 3)), (.ptr 258 18), (.slice 1620 0 7 (.opn 1)), (.map 1303), (.slice 268 0 3 (.opn 1)), (i64 1), (.map 1306), .nilSlice, (.ptr 258 25), (.slice 2262 0 423 (.opn 1)), (.slice 2264 0 8 (.opn 2))] 193 .solid))
def q12_11 : Nat × AObj := (2262, (.row (rle [(1, (w8 2)), (3, (w8 0)), (1, (w8 4)), (3, (w8 0)), (1, (w8 3)), (3, (w8 0)), (1, (w8 2)), (15, (w8 0)), (1, (w8 1)), (27, (w8 0)), (1, (w8 1)), (3, (w8 0)), (1, (w8 16)), (1, (w8 0)), (1, (w8 1)), (1, (w8 0)), (1, (w8 4)), (1, (w8 2)), (14, (w8 0)), (1, (w8 3)), (3, (w8 0)), (1, (w8 16)), (19, (w8 0)), (1, (w8 5)), (3, (w8 0)), (1, (w8 32)), (20, (w8 0)), (1, (w8 4)), (6, (w8 0)), (1, (w8 5)), (3, (w8 0)), (1, (sb 14)), (11, (w8 0)), (1, (w8 8)), (1, (w8 4)), (6, (w8 0)), (1, (w8 5)), (3, (w8 0)), (1, (sb 15)), (11, (w8 0)), (1, (w8 16)), (1, (w8 4)), (6, (w8 0)), (1, (w8 5)), (3, (w8 0)), (1, (sb 16)), (11, (w8 0)), (1, (w8 24)), (1, (w8 4)), (6, (w8 0)), (1, (w8 5)), (3, (w8 0)), (1, (sb 17)), (11, (w8 0)), (1, (w8 32)), (1, (w8 4)), (6, (w8 0)), (1, (w8 5)), (3, (w8 0)), (1, (sb 18)), (11, (w8 0)), (1, (w8 40)), (1, (w8 4)), (6, (w8 0)), (1, (w8 5)), (3, (w8 0)), (1, (sb 19)), (11, (w8 0)), (1, (w8 48)), (1, (w8 4)), (6, (w8 0)), (1, (w8 5)), (3, (w8 0)), (1, (sb 20)), (11, (w8 0)), (1, (w8 56)), (1, (w8 4)), (6, (w8 0)), (1, (w8 5)), (3, (w8 0)), (1, (sb 21)), (11, (w8 0)), (1, (w8 64)), (1, (w8 4)), (6, (w8 0)), (1, (w8 5)), (3, (w8 0)), (1, (sb 22)), (11, (w8 0)), (1, (w8 72)), (1, (w8 4)), (6, (w8 0)), (1, (w8 5)), (3, (w8 0)), (1, (sb 23)), (11, (w8 0)), (1, (w8 80)), (1, (w8 4)), (6, (w8 0)), (1, (w8 5)), (3, (w8 0)), (1, (sb 24)), (11, (w8 0)), (1, (w8 88)), (1, (w8 4)), (6, (w8 0)), (1, (w8 5)), (3, (w8 0)), (1, (sb 25)), (12, (w8 0)), (1, (w8 102)), (1, (w8 0)), (1, (w8 103)), (1, (w8 0)), (1, (w8 104)), (1, (w8 0))]) 5 (.buf 423 false)))
def q12_12 : Nat × AObj := (11038, (.row [(w32 1), (i64 4), (w64 400), (w64 0), (w64 423), (w64 423), (w32 1), (i64 5), (w64 823), (w64 512), (w64 160), (w64 160), (w32 1), (i64 6), (w64 983), (w64 768), (w64 144), (w64 144), (w32 2), (i64 6), (w64 983), (w64 768), (w64 144), (w64 144), (w32 0x6474e552), (i64 4), (w64 983), (w64 768), (w64 0), (w64 256), (w32 1), (i64 6), (w64 1127), (w64 1024), (w64 96), (w64 96)] 169 (.buf 0 false)))
def q12_13 : Nat × AObj := (11166, (.row [(w64 4), (w64 0), (w64 6), (w64 32), (w64 7), (w64 128), (w64 8), (w64 0), (w64 23), (w64 128), (w64 2), (w64 288), (w64 5), (w64 416), (w64 10), (w64 7)] 259 (.buf 0 false)))
def q12_14 : Nat × AObj := (11293, (.row [(w32 3), (w32 2), (w32 0), (w32 0), (w32 0), (w32 1)] 167 (.buf 0 false)))
def q12_15 : Nat × AObj := (11677, (.row [(.str ⟨0, 0⟩), (.str ⟨0, 0⟩), (.bool false), (.str ⟨0, 0⟩), (.str ⟨0, 0⟩), (.bool false), (.str ⟨0, 0⟩), (.str ⟨0, 0⟩), (.bool false), (.str ⟨0, 0⟩), (.str ⟨0, 0⟩), (.bool false)] 210 .solid))
def q12_16 : Nat × AObj := (11617, (.row [(.str ⟨0, 0⟩), (i64 0), (i64 0), (i64 0), (.bool false), (w64 0), (w64 0), (.str ⟨1, 102⟩), (i64 1), (i64 0), (i64 0), (.bool true), (w64 516), (w64 0), (.str ⟨1, 103⟩), (i64 1), (i64 0), (i64 0), (.bool false), (w64 0), (w64 0), (.str ⟨1, 104⟩), (i64 2), (i64 0), (i64 0), (.bool false), (w64 0), (w64 0)] 150 (.buf 0 false)))
def q12_17 : Nat × AObj := (12040, (.row [(w64 1024), (i64 5), (si 14), (w64 0), (w64 1032), (i64 5), (si 15), (w64 0), (w64 1040), (i64 5), (si 16), (w64 0), (w64 1048), (i64 5), (si 17), (w64 0), (w64 1056), (i64 5), (si 18), (w64 0), (w64 1064), (i64 5), (si 19), (w64 0), (w64 1072), (i64 5), (si 20), (w64 0), (w64 1080), (i64 5), (si 21), (w64 0), (w64 1088), (i64 5), (si 22), (w64 0), (w64 1096), (i64 5), (si 23), (w64 0), (w64 1104), (i64 5), (si 24), (w64 0), (w64 1112), (i64 5), (si 25), (w64 0)] 31 (.buf 0 false)))
def b103 : Fact where
  f := 75
  args := [(.ptr 258 0)]
  next := 270
  pre := [(268, (.row [(i64 0), (i64 1), (i64 2)] 3 (.buf 0 false))), (269, (.row [(i64 1), (i64 2), (i64 3)] 3 .solid)), q12_0, q12_1, (258, (.row [(.str ⟨0, 0⟩), .nilSlice, (.slice 3 0 3 (.exact 3)), (.str ⟨16, 0⟩), (.str ⟨0, 0⟩), .nilSlice, (.slice 172 0 12 (.opn 1)), .nilSlice, .nilSlice, (.bool false), (.bool false), (.bool false), (w64 0), (w64 0), (w64 0), (w64 0), (w64 0), (.slice 269 0 3 (.exact 3)), .nilPtr, .nilSlice, .nilMap, (.slice 268 0 3 (.opn 1)), (i64 1), .nilMap, .nilSlice, .nilPtr, .nilSlice, .nilSlice] 193 .solid))]
  r := (.tuple [])
  objs := [q12_2, q12_3, (273, (.map [] 0)), q12_4, q12_5, (258, (.row [(.str ⟨0, 0⟩), .nilSlice, (.slice 3 0 3 (.exact 3)), (.str ⟨16, 0⟩), (.str ⟨0, 0⟩), .nilSlice, (.slice 172 0 12 (.opn 1)), .nilSlice, .nilSlice, (.bool false), (.bool false), (.bool false), (w64 0), (w64 0), (w64 0), (w64 0), (w64 0), (.slice 269 0 3 (.exact 3)), (.ptr 258 18), (.slice 587 0 7 (.opn 1)), (.map 270), (.slice 268 0 3 (.opn 1)), (i64 1), (.map 273), .nilSlice, (.ptr 258 25), (.slice 1229 0 423 (.opn 1)), (.slice 1231 0 8 (.opn 2))] 193 .solid)), q12_1, q12_0, (269, (.row [(i64 1), (i64 2), (i64 3)] 3 .solid)), (268, (.row [(i64 0), (i64 1), (i64 2)] 3 (.buf 0 false)))]
  next' := 1232
theorem b103_ok [Val] (h : AllEq tab12) : b103.Ok P G := Fact.ok_of (n := 100000) (EnvOk.know (EnvOk.tab env0 h) (l := []) knowsNone) (by kernel_rfl)
def b104 : Fact where
  f := 75
  args := [(.ptr 258 0)]
  next := 1303
  pre := [q12_2, q12_3, (273, (.map [] 0)), (268, (.row [(i64 0), (i64 1), (i64 2)] 3 (.buf 0 false))), q12_4, q12_5, (269, (.row [(i64 1), (i64 2), (i64 3)] 3 .solid)), q12_0, q12_1, (258, (.row [(.str ⟨0, 0⟩), .nilSlice, (.slice 3 0 3 (.exact 3)), (.str ⟨16, 0⟩), (.str ⟨0, 0⟩), .nilSlice, (.slice 172 0 12 (.opn 1)), .nilSlice, .nilSlice, (.bool false), (.bool false), (.bool false), (w64 512), (w64 528), (w64 768), (w64 1024), (w64 1120), (.slice 269 0 3 (.exact 3)), (.ptr 258 18), (.slice 587 0 7 (.opn 1)), (.map 270), (.slice 268 0 3 (.opn 1)), (i64 1), (.map 273), .nilSlice, (.ptr 258 25), (.slice 1229 0 423 (.opn 1)), (.slice 1231 0 8 (.opn 2))] 193 .solid))]
  r := (.tuple [])
  objs := [q12_6, q12_7, (1306, (.map [] 0)), q12_8, q12_9, q12_10, q12_1, q12_0, (269, (.row [(i64 1), (i64 2), (i64 3)] 3 .solid)), q12_5, q12_4, (268, (.row [(i64 0), (i64 1), (i64 2)] 3 (.buf 0 false))), (273, (.map [] 0)), q12_3, q12_2]
  next' := 2265
theorem b104_ok [Val] (h : AllEq tab12) : b104.Ok P G := Fact.ok_of (n := 100000) (EnvOk.know (EnvOk.tab env0 h) (l := []) knowsNone) (by kernel_rfl)
def b105 : Fact where
  f := 150
  args := [(.ptr 258 0)]
  next := 2337
  pre := [q12_6, q12_11, (1306, (.map [] 0)), (268, (.row [(i64 0), (i64 1), (i64 2)] 3 (.buf 0 false))), q12_8, q12_9, (269, (.row [(i64 1), (i64 2), (i64 3)] 3 .solid)), q12_0, q12_1, q12_10]
  r := (.str T19)
  objs := [q12_10, q12_1, q12_0, (269, (.row [(i64 1), (i64 2), (i64 3)] 3 .solid)), q12_9, q12_8, (268, (.row [(i64 0), (i64 1), (i64 2)] 3 (.buf 0 false))), (1306, (.map [] 0)), q12_11, q12_6]
  next' := 10677
theorem b105_ok [Val] (h : AllEq tab12) : b105.Ok P G := Fact.ok_of (n := 100000) (EnvOk.know (EnvOk.tab env0 h) (l := [e0.at_ 2338, e1.at_ 2471, e2.at_ 2848, e0.at_ 3033, e3.at_ 3166, e2.at_ 3543, e0.at_ 3728, e4.at_ 3861, e2.at_ 4238, e0.at_ 4423, e5.at_ 4556, e2.at_ 4933, e0.at_ 5118, e6.at_ 5251, e2.at_ 5628, e0.at_ 5813, e7.at_ 5946, e2.at_ 6323, e0.at_ 6508, e8.at_ 6641, e2.at_ 7018, e0.at_ 7203, e9.at_ 7336, e2.at_ 7713, e0.at_ 7898, e10.at_ 8031, e2.at_ 8408, e0.at_ 8593, e11.at_ 8726, e2.at_ 9103, e0.at_ 9288, e12.at_ 9421, e2.at_ 9798, e0.at_ 9983, e13.at_ 10116, e2.at_ 10493]) (knows (e0_at (by decide)) (knows (e1_at (by decide)) (knows (e2_at (by decide)) (knows (e0_at (by decide)) (knows (e3_at (by decide)) (knows (e2_at (by decide)) (knows (e0_at (by decide)) (knows (e4_at (by decide)) (knows (e2_at (by decide)) (knows (e0_at (by decide)) (knows (e5_at (by decide)) (knows (e2_at (by decide)) (knows (e0_at (by decide)) (knows (e6_at (by decide)) (knows (e2_at (by decide)) (knows (e0_at (by decide)) (knows (e7_at (by decide)) (knows (e2_at (by decide)) (knows (e0_at (by decide)) (knows (e8_at (by decide)) (knows (e2_at (by decide)) (knows (e0_at (by decide)) (knows (e9_at (by decide)) (knows (e2_at (by decide)) (knows (e0_at (by decide)) (knows (e10_at (by decide)) (knows (e2_at (by decide)) (knows (e0_at (by decide)) (knows (e11_at (by decide)) (knows (e2_at (by decide)) (knows (e0_at (by decide)) (knows (e12_at (by decide)) (knows (e2_at (by decide)) (knows (e0_at (by decide)) (knows (e13_at (by decide)) (knows (e2_at (by decide)) knowsNone))))))))))))))))))))))))))))))))))))) (by kernel_rfl)
def b106 : Fact where
  f := 79
  args := [(.ptr 258 0)]
  next := 2274
  pre := [q12_6, q12_7, (1306, (.map [] 0)), (268, (.row [(i64 0), (i64 1), (i64 2)] 3 (.buf 0 false))), q12_8, q12_9, (269, (.row [(i64 1), (i64 2), (i64 3)] 3 .solid)), q12_0, q12_1, q12_10]
  r := (.sy .str (.op (.hole [540, 564, 588, 612, 636, 660, 684, 708, 732, 756, 780, 804]) [(.str T20), (yb 14), (yb 15), (yb 16), (yb 17), (yb 18), (yb 19), (yb 20), (yb 21), (yb 22), (yb 23), (yb 24), (yb 25)]))
  objs := [q12_10, q12_1, q12_0, (269, (.row [(i64 1), (i64 2), (i64 3)] 3 .solid)), q12_9, q12_8, (268, (.row [(i64 0), (i64 1), (i64 2)] 3 (.buf 0 false))), (1306, (.map [] 0)), q12_11, q12_6]
  next' := 10951
theorem b106_ok [Val] (h : AllEq tab12) : b106.Ok P G := Fact.ok_of (n := 100000) (EnvOk.know (EnvOk.tab env0 h) (l := [b105]) (knows (b105_ok h) knowsNone)) (by kernel_rfl)
def b107 : Fact where
  f := 45
  args := [(.agg [(.str ⟨0, 0⟩), .nilSlice, (.slice 3 0 3 (.exact 3)), (.str ⟨16, 0⟩), (.str ⟨0, 0⟩), .nilSlice, (.slice 172 0 12 (.opn 1)), .nilSlice, .nilSlice, (.bool false), (.bool false), (.bool false)])]
  next := 173
  pre := [q12_0, q12_1]
  r := (.tuple [(.sy .str (.op (.hole [540, 564, 588, 612, 636, 660, 684, 708, 732, 756, 780, 804]) [(.str T20), (yb 14), (yb 15), (yb 16), (yb 17), (yb 18), (yb 19), (yb 20), (yb 21), (yb 22), (yb 23), (yb 24), (yb 25)])), (.agg [(w64 512), (w64 528), (w64 768), (w64 1024), (w64 1120), (.slice 269 0 3 (.exact 3))]), (i64 0)])
  objs := [q12_1, q12_0, (269, (.row [(i64 1), (i64 2), (i64 3)] 3 .solid))]
  next' := 10951
theorem b107_ok [Val] (h : AllEq tab12) : b107.Ok P G := Fact.ok_of (n := 100000) (EnvOk.know (EnvOk.tab env0 h) (l := [b103, b104, b106]) (knows (b103_ok h) (knows (b104_ok h) (knows (b106_ok h) knowsNone)))) (by kernel_rfl)
def b108 : Fact where
  f := 80
  args := [(.sy .str (.op (.hole [540, 564, 588, 612, 636, 660, 684, 708, 732, 756, 780, 804]) [(.str T20), (yb 14), (yb 15), (yb 16), (yb 17), (yb 18), (yb 19), (yb 20), (yb 21), (yb 22), (yb 23), (yb 24), (yb 25)]))]
  next := 10953
  pre := []
  r := (.tuple [(.agg [(.sy .str (.op (.hole [540, 564, 588, 612, 636, 660, 684, 708, 732, 756, 780, 804]) [(.str T20), (yb 14), (yb 15), (yb 16), (yb 17), (yb 18), (yb 19), (yb 20), (yb 21), (yb 22), (yb 23), (yb 24), (yb 25)])), (w64 0), (.slice 11038 0 6 (.opn 6))]), (.agg [(i64 0), (w64 0), (.str ⟨0, 0⟩)])])
  objs := [q12_12]
  next' := 11039
theorem b108_ok [Val] (h : AllEq tab12) : b108.Ok P G := Fact.ok_of (n := 100000) (EnvOk.know (EnvOk.tab env0 h) (l := []) knowsNone) (by kernel_rfl)
def b109 : Fact where
  f := 86
  args := [(.ptr 11042 0)]
  next := 11680
  pre := [q12_13, q12_14, q12_15, q12_16, q12_12, (11042, (.row [(.sy .str (.op (.hole [540, 564, 588, 612, 636, 660, 684, 708, 732, 756, 780, 804]) [(.str T20), (yb 14), (yb 15), (yb 16), (yb 17), (yb 18), (yb 19), (yb 20), (yb 21), (yb 22), (yb 23), (yb 24), (yb 25)])), (w64 0), (.slice 11038 0 6 (.opn 6)), (.str ⟨0, 0⟩), .nilSlice, (.slice 11617 0 4 (.opn 7)), (.slice 11677 0 4 (.exact 4)), .nilSlice, .nilSlice, (w64 0), (w64 0), (w64 0), (w64 0), .nilSlice, (.bool false), (.bool false), (.iface 268 (.agg [(.slice 11293 0 2 (.exact 2)), (.slice 11293 2 4 (.opn 1))])), (.slice 11166 0 8 (.opn 2)), (i64 4)] 103 .solid))]
  r := (.agg [(i64 0), (w64 0), (.str ⟨0, 0⟩)])
  objs := [q12_17, (11042, (.row [(.sy .str (.op (.hole [540, 564, 588, 612, 636, 660, 684, 708, 732, 756, 780, 804]) [(.str T20), (yb 14), (yb 15), (yb 16), (yb 17), (yb 18), (yb 19), (yb 20), (yb 21), (yb 22), (yb 23), (yb 24), (yb 25)])), (w64 0), (.slice 11038 0 6 (.opn 6)), (.str ⟨0, 0⟩), .nilSlice, (.slice 11617 0 4 (.opn 7)), (.slice 11677 0 4 (.exact 4)), .nilSlice, (.slice 12040 0 12 (.opn 4)), (w64 0), (w64 0), (w64 0), (w64 0), .nilSlice, (.bool false), (.bool false), (.iface 268 (.agg [(.slice 11293 0 2 (.exact 2)), (.slice 11293 2 4 (.opn 1))])), (.slice 11166 0 8 (.opn 2)), (i64 4)] 103 .solid)), q12_12, q12_16, q12_15, q12_14, q12_13]
  next' := 12439
theorem b109_ok [Val] (h : AllEq tab12) : b109.Ok P G := Fact.ok_of (n := 100000) (EnvOk.know (EnvOk.tab env0 h) (l := []) knowsNone) (by kernel_rfl)
def b110 : Fact where
  f := 46
  args := [(.sy .str (.op (.hole [540, 564, 588, 612, 636, 660, 684, 708, 732, 756, 780, 804]) [(.str T20), (yb 14), (yb 15), (yb 16), (yb 17), (yb 18), (yb 19), (yb 20), (yb 21), (yb 22), (yb 23), (yb 24), (yb 25)]))]
  next := 10952
  pre := []
  r := (.tuple [(.ptr 11042 0), (.agg [(i64 0), (w64 0), (.str ⟨0, 0⟩)])])
  objs := [q12_13, q12_14, (12635, (.row [(w64 768), (w64 1024)] 96 (.buf 0 false))), q12_17, q12_15, q12_16, q12_12, (11042, (.row [(.sy .str (.op (.hole [540, 564, 588, 612, 636, 660, 684, 708, 732, 756, 780, 804]) [(.str T20), (yb 14), (yb 15), (yb 16), (yb 17), (yb 18), (yb 19), (yb 20), (yb 21), (yb 22), (yb 23), (yb 24), (yb 25)])), (w64 0), (.slice 11038 0 6 (.opn 6)), (.str ⟨0, 0⟩), .nilSlice, (.slice 11617 0 4 (.opn 7)), (.slice 11677 0 4 (.exact 4)), .nilSlice, (.slice 12040 0 12 (.opn 4)), (w64 0), (w64 0), (w64 0), (w64 0), (.slice 12635 0 1 (.opn 2)), (.bool false), (.bool false), (.iface 268 (.agg [(.slice 11293 0 2 (.exact 2)), (.slice 11293 2 4 (.opn 1))])), (.slice 11166 0 8 (.opn 2)), (i64 4)] 103 .solid))]
  next' := 12670
theorem b110_ok [Val] (h : AllEq tab12) : b110.Ok P G := Fact.ok_of (n := 100000) (EnvOk.know (EnvOk.tab env0 h) (l := [b108, b109]) (knows (b108_ok h) (knows (b109_ok h) knowsNone))) (by kernel_rfl)
end Go.Proofs.YtjmjbjnbfodalaaGreat
