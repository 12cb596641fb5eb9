/- files with 0 slots: what pack.Build and object.Read answer, in parts. No condition. -/
import Derived.Test.YtjmjbjnbfodalaaGreatLzE
set_option linter.unusedSimpArgs false
set_option linter.unusedVariables false
set_option linter.unusedSectionVars false
set_option maxRecDepth 1000000
namespace Go.Proofs.YtjmjbjnbfodalaaGreat
open Go.Tc
def q0_0 : Nat × AObj := (3, (.row [(.str ⟨1, 102⟩), (.str ⟨0, 0⟩), (.str ⟨0, 0⟩), (.bool false), (i64 1), (i64 0), (i64 1), (w64 4), (.str ⟨1, 103⟩), (.str ⟨0, 0⟩), (.str ⟨0, 0⟩), (.bool false), (i64 1), (i64 0), (i64 0), (w64 0), (.str ⟨1, 104⟩), (.str ⟨0, 0⟩), (.str ⟨0, 0⟩), (.bool false), (i64 2), (i64 0), (i64 0), (w64 0)] 139 .solid))
def q0_1 : Nat × AObj := (522, (.row [(w64 4), (w64 0), (w64 6), (w64 32), (w64 7), (w64 128), (w64 8), (w64 0), (w64 23), (w64 128), (w64 2), (w64 0), (w64 5), (w64 128), (w64 10), (w64 7)] 259 (.buf 0 false)))
def q0_2 : Nat × AObj := (520, (.row (rle [(1, (w8 2)), (3, (w8 0)), (1, (w8 4)), (3, (w8 0)), (1, (w8 3)), (3, (w8 0)), (1, (w8 2)), (15, (w8 0)), (1, (w8 1)), (27, (w8 0)), (1, (w8 1)), (3, (w8 0)), (1, (w8 16)), (1, (w8 0)), (1, (w8 1)), (1, (w8 0)), (1, (w8 4)), (15, (w8 0)), (1, (w8 3)), (3, (w8 0)), (1, (w8 16)), (19, (w8 0)), (1, (w8 5)), (3, (w8 0)), (1, (w8 32)), (20, (w8 0)), (1, (w8 102)), (1, (w8 0)), (1, (w8 103)), (1, (w8 0)), (1, (w8 104)), (1, (w8 0))]) 5 (.buf 0 false)))
def q0_3 : Nat × AObj := (102, (.map [⟨(.str ⟨0, 0⟩), (i64 0), 0⟩, ⟨(.str ⟨1, 102⟩), (i64 1), 1⟩, ⟨(.str ⟨1, 103⟩), (i64 3), 2⟩, ⟨(.str ⟨1, 104⟩), (i64 5), 3⟩] 4))
def q0_4 : Nat × AObj := (419, (.row [(w8 0), (w8 102), (w8 0), (w8 103), (w8 0), (w8 104), (w8 0)] 5 (.buf 7 false)))
def q0_5 : Nat × AObj := (1014, (.row [(w64 4), (w64 0), (w64 6), (w64 32), (w64 7), (w64 128), (w64 8), (w64 0), (w64 23), (w64 128), (w64 2), (w64 0), (w64 5), (w64 128), (w64 10), (w64 7)] 259 (.buf 0 false)))
def q0_6 : Nat × AObj := (1012, (.row (rle [(1, (w8 2)), (3, (w8 0)), (1, (w8 4)), (3, (w8 0)), (1, (w8 3)), (3, (w8 0)), (1, (w8 2)), (15, (w8 0)), (1, (w8 1)), (27, (w8 0)), (1, (w8 1)), (3, (w8 0)), (1, (w8 16)), (1, (w8 0)), (1, (w8 1)), (1, (w8 0)), (1, (w8 4)), (1, (w8 1)), (14, (w8 0)), (1, (w8 3)), (3, (w8 0)), (1, (w8 16)), (19, (w8 0)), (1, (w8 5)), (3, (w8 0)), (1, (w8 32)), (20, (w8 0)), (1, (w8 102)), (1, (w8 0)), (1, (w8 103)), (1, (w8 0)), (1, (w8 104)), (1, (w8 0))]) 5 (.buf 0 false)))
def q0_7 : Nat × AObj := (594, (.map [⟨(.str ⟨0, 0⟩), (i64 0), 0⟩, ⟨(.str ⟨1, 102⟩), (i64 1), 1⟩, ⟨(.str ⟨1, 103⟩), (i64 3), 2⟩, ⟨(.str ⟨1, 104⟩), (i64 5), 3⟩] 4))
def q0_8 : Nat × AObj := (911, (.row [(w8 0), (w8 102), (w8 0), (w8 103), (w8 0), (w8 104), (w8 0)] 5 (.buf 7 false)))
def q0_9 : Nat × AObj := (90, (.row [(.str ⟨0, 0⟩), .nilSlice, (.slice 3 0 3 (.exact 3)), (.str ⟨16, 0⟩), (.str ⟨0, 0⟩), .nilSlice, .nilSlice, .nilSlice, .nilSlice, (.bool false), (.bool false), (.bool false), (w64 256), (w64 272), (w64 512), (w64 768), (w64 768), (.slice 101 0 3 (.exact 3)), (.ptr 90 18), (.slice 911 0 7 (.opn 1)), (.map 594), (.slice 100 0 3 (.opn 1)), (i64 1), (.map 597), .nilSlice, (.ptr 90 25), (.slice 1012 0 135 (.opn 1)), (.slice 1014 0 8 (.opn 2))] 193 .solid))
def q0_10 : Nat × AObj := (1422, (.row [(w32 1), (i64 4), (w64 400), (w64 0), (w64 135), (w64 135), (w32 1), (i64 5), (w64 535), (w64 256), (w64 16), (w64 16), (w32 1), (i64 6), (w64 551), (w64 512), (w64 144), (w64 144), (w32 2), (i64 6), (w64 551), (w64 512), (w64 144), (w64 144), (w32 0x6474e552), (i64 4), (w64 551), (w64 512), (w64 0), (w64 256)] 169 (.buf 0 false)))
def q0_11 : Nat × AObj := (1550, (.row [(w64 4), (w64 0), (w64 6), (w64 32), (w64 7), (w64 128), (w64 8), (w64 0), (w64 23), (w64 128), (w64 2), (w64 0), (w64 5), (w64 128), (w64 10), (w64 7)] 259 (.buf 0 false)))
def q0_12 : Nat × AObj := (1677, (.row [(w32 3), (w32 2), (w32 0), (w32 0), (w32 0), (w32 1)] 167 (.buf 0 false)))
def q0_13 : Nat × AObj := (2001, (.row [(.str ⟨0, 0⟩), (i64 0), (i64 0), (i64 0), (.bool false), (w64 0), (w64 0), (.str ⟨1, 102⟩), (i64 1), (i64 0), (i64 0), (.bool true), (w64 260), (w64 0), (.str ⟨1, 103⟩), (i64 1), (i64 0), (i64 0), (.bool false), (w64 0), (w64 0), (.str ⟨1, 104⟩), (i64 2), (i64 0), (i64 0), (.bool false), (w64 0), (w64 0)] 150 (.buf 0 false)))
def b0 : Fact where
  f := 75
  args := [(.ptr 90 0)]
  next := 102
  pre := [(100, (.row [(i64 0), (i64 1), (i64 2)] 3 (.buf 0 false))), (101, (.row [(i64 1), (i64 2), (i64 3)] 3 .solid)), q0_0, (90, (.row [(.str ⟨0, 0⟩), .nilSlice, (.slice 3 0 3 (.exact 3)), (.str ⟨16, 0⟩), (.str ⟨0, 0⟩), .nilSlice, .nilSlice, .nilSlice, .nilSlice, (.bool false), (.bool false), (.bool false), (w64 0), (w64 0), (w64 0), (w64 0), (w64 0), (.slice 101 0 3 (.exact 3)), .nilPtr, .nilSlice, .nilMap, (.slice 100 0 3 (.opn 1)), (i64 1), .nilMap, .nilSlice, .nilPtr, .nilSlice, .nilSlice] 193 .solid))]
  r := (.tuple [])
  objs := [q0_1, q0_2, (105, (.map [] 0)), q0_3, q0_4, (90, (.row [(.str ⟨0, 0⟩), .nilSlice, (.slice 3 0 3 (.exact 3)), (.str ⟨16, 0⟩), (.str ⟨0, 0⟩), .nilSlice, .nilSlice, .nilSlice, .nilSlice, (.bool false), (.bool false), (.bool false), (w64 0), (w64 0), (w64 0), (w64 0), (w64 0), (.slice 101 0 3 (.exact 3)), (.ptr 90 18), (.slice 419 0 7 (.opn 1)), (.map 102), (.slice 100 0 3 (.opn 1)), (i64 1), (.map 105), .nilSlice, (.ptr 90 25), (.slice 520 0 135 (.opn 1)), (.slice 522 0 8 (.opn 2))] 193 .solid)), q0_0, (101, (.row [(i64 1), (i64 2), (i64 3)] 3 .solid)), (100, (.row [(i64 0), (i64 1), (i64 2)] 3 (.buf 0 false)))]
  next' := 523
theorem b0_ok [Val] (h : AllEq tab0) : b0.Ok P G := Fact.ok_of (n := 100000) (EnvOk.know (EnvOk.tab env0 h) (l := []) knowsNone) (by kernel_rfl)
def b1 : Fact where
  f := 75
  args := [(.ptr 90 0)]
  next := 594
  pre := [q0_1, q0_2, (105, (.map [] 0)), (100, (.row [(i64 0), (i64 1), (i64 2)] 3 (.buf 0 false))), q0_3, q0_4, (101, (.row [(i64 1), (i64 2), (i64 3)] 3 .solid)), q0_0, (90, (.row [(.str ⟨0, 0⟩), .nilSlice, (.slice 3 0 3 (.exact 3)), (.str ⟨16, 0⟩), (.str ⟨0, 0⟩), .nilSlice, .nilSlice, .nilSlice, .nilSlice, (.bool false), (.bool false), (.bool false), (w64 256), (w64 272), (w64 512), (w64 768), (w64 768), (.slice 101 0 3 (.exact 3)), (.ptr 90 18), (.slice 419 0 7 (.opn 1)), (.map 102), (.slice 100 0 3 (.opn 1)), (i64 1), (.map 105), .nilSlice, (.ptr 90 25), (.slice 520 0 135 (.opn 1)), (.slice 522 0 8 (.opn 2))] 193 .solid))]
  r := (.tuple [])
  objs := [q0_5, q0_6, (597, (.map [] 0)), q0_7, q0_8, q0_9, q0_0, (101, (.row [(i64 1), (i64 2), (i64 3)] 3 .solid)), q0_4, q0_3, (100, (.row [(i64 0), (i64 1), (i64 2)] 3 (.buf 0 false))), (105, (.map [] 0)), q0_2, q0_1]
  next' := 1015
theorem b1_ok [Val] (h : AllEq tab0) : b1.Ok P G := Fact.ok_of (n := 100000) (EnvOk.know (EnvOk.tab env0 h) (l := []) knowsNone) (by kernel_rfl)
def b2 : Fact where
  f := 79
  args := [(.ptr 90 0)]
  next := 1024
  pre := [q0_5, q0_6, (597, (.map [] 0)), (100, (.row [(i64 0), (i64 1), (i64 2)] 3 (.buf 0 false))), q0_7, q0_8, (101, (.row [(i64 1), (i64 2), (i64 3)] 3 .solid)), q0_0, q0_9]
  r := (.str T0)
  objs := [q0_9, q0_0, (101, (.row [(i64 1), (i64 2), (i64 3)] 3 .solid)), q0_8, q0_7, (100, (.row [(i64 0), (i64 1), (i64 2)] 3 (.buf 0 false))), (597, (.map [] 0)), (1012, (.row (rle [(1, (w8 2)), (3, (w8 0)), (1, (w8 4)), (3, (w8 0)), (1, (w8 3)), (3, (w8 0)), (1, (w8 2)), (15, (w8 0)), (1, (w8 1)), (27, (w8 0)), (1, (w8 1)), (3, (w8 0)), (1, (w8 16)), (1, (w8 0)), (1, (w8 1)), (1, (w8 0)), (1, (w8 4)), (1, (w8 1)), (14, (w8 0)), (1, (w8 3)), (3, (w8 0)), (1, (w8 16)), (19, (w8 0)), (1, (w8 5)), (3, (w8 0)), (1, (w8 32)), (20, (w8 0)), (1, (w8 102)), (1, (w8 0)), (1, (w8 103)), (1, (w8 0)), (1, (w8 104)), (1, (w8 0))]) 5 (.buf 135 false))), q0_5]
  next' := 1340
theorem b2_ok [Val] (h : AllEq tab0) : b2.Ok P G := Fact.ok_of (n := 100000) (EnvOk.know (EnvOk.tab env0 h) (l := []) knowsNone) (by kernel_rfl)
def b3 : Fact where
  f := 45
  args := [(.agg [(.str ⟨0, 0⟩), .nilSlice, (.slice 3 0 3 (.exact 3)), (.str ⟨16, 0⟩), (.str ⟨0, 0⟩), .nilSlice, .nilSlice, .nilSlice, .nilSlice, (.bool false), (.bool false), (.bool false)])]
  next := 5
  pre := [q0_0]
  r := (.tuple [(.str T0), (.agg [(w64 256), (w64 272), (w64 512), (w64 768), (w64 768), (.slice 101 0 3 (.exact 3))]), (i64 0)])
  objs := [q0_0, (101, (.row [(i64 1), (i64 2), (i64 3)] 3 .solid))]
  next' := 1340
theorem b3_ok [Val] (h : AllEq tab0) : b3.Ok P G := Fact.ok_of (n := 100000) (EnvOk.know (EnvOk.tab env0 h) (l := [b0, b1, b2]) (knows (b0_ok h) (knows (b1_ok h) (knows (b2_ok h) knowsNone)))) (by kernel_rfl)
def b4 : Fact where
  f := 80
  args := [(.str T0)]
  next := 1342
  pre := []
  r := (.tuple [(.agg [(.str T0), (w64 0), (.slice 1422 0 5 (.opn 6))]), (.agg [(i64 0), (w64 0), (.str ⟨0, 0⟩)])])
  objs := [q0_10]
  next' := 1423
theorem b4_ok [Val] (h : AllEq tab0) : b4.Ok P G := Fact.ok_of (n := 100000) (EnvOk.know (EnvOk.tab env0 h) (l := []) knowsNone) (by kernel_rfl)
def b5 : Fact where
  f := 83
  args := [(.ptr 1426 0)]
  next := 1706
  pre := [q0_11, q0_12, q0_10, (1426, (.row [(.str T0), (w64 0), (.slice 1422 0 5 (.opn 6)), (.str ⟨0, 0⟩), .nilSlice, .nilSlice, .nilSlice, .nilSlice, .nilSlice, (w64 0), (w64 0), (w64 0), (w64 0), .nilSlice, (.bool false), (.bool false), (.iface 268 (.agg [(.slice 1677 0 2 (.exact 2)), (.slice 1677 2 4 (.opn 1))])), (.slice 1550 0 8 (.opn 2)), (i64 4)] 103 .solid))]
  r := (.agg [(i64 0), (w64 0), (.str ⟨0, 0⟩)])
  objs := [q0_13, (1426, (.row [(.str T0), (w64 0), (.slice 1422 0 5 (.opn 6)), (.str ⟨0, 0⟩), .nilSlice, (.slice 2001 0 4 (.opn 7)), .nilSlice, .nilSlice, .nilSlice, (w64 0), (w64 0), (w64 0), (w64 0), .nilSlice, (.bool false), (.bool false), (.iface 268 (.agg [(.slice 1677 0 2 (.exact 2)), (.slice 1677 2 4 (.opn 1))])), (.slice 1550 0 8 (.opn 2)), (i64 4)] 103 .solid)), q0_10, q0_12, q0_11]
  next' := 2002
theorem b5_ok [Val] (h : AllEq tab0) : b5.Ok P G := Fact.ok_of (n := 100000) (EnvOk.know (EnvOk.tab env0 h) (l := []) knowsNone) (by kernel_rfl)
def b6 : Fact where
  f := 46
  args := [(.str T0)]
  next := 1341
  pre := []
  r := (.tuple [(.ptr 1426 0), (.agg [(i64 0), (w64 0), (.str ⟨0, 0⟩)])])
  objs := [q0_11, q0_12, (2383, (.row [(w64 512), (w64 768)] 96 (.buf 0 false))), (2061, (.row [(.str ⟨0, 0⟩), (.str ⟨0, 0⟩), (.bool false), (.str ⟨0, 0⟩), (.str ⟨0, 0⟩), (.bool false), (.str ⟨0, 0⟩), (.str ⟨0, 0⟩), (.bool false), (.str ⟨0, 0⟩), (.str ⟨0, 0⟩), (.bool false)] 210 .solid)), q0_13, q0_10, (1426, (.row [(.str T0), (w64 0), (.slice 1422 0 5 (.opn 6)), (.str ⟨0, 0⟩), .nilSlice, (.slice 2001 0 4 (.opn 7)), (.slice 2061 0 4 (.exact 4)), .nilSlice, .nilSlice, (w64 0), (w64 0), (w64 0), (w64 0), (.slice 2383 0 1 (.opn 2)), (.bool false), (.bool false), (.iface 268 (.agg [(.slice 1677 0 2 (.exact 2)), (.slice 1677 2 4 (.opn 1))])), (.slice 1550 0 8 (.opn 2)), (i64 4)] 103 .solid))]
  next' := 2417
theorem b6_ok [Val] (h : AllEq tab0) : b6.Ok P G := Fact.ok_of (n := 100000) (EnvOk.know (EnvOk.tab env0 h) (l := [b4, b5]) (knows (b4_ok h) (knows (b5_ok h) knowsNone))) (by kernel_rfl)
end Go.Proofs.YtjmjbjnbfodalaaGreat
set_option maxRecDepth 1000000
namespace Go.Proofs.YtjmjbjnbfodalaaGreat
open Go.Tc
def q1_0 : Nat × AObj := (3, (.row [(.str ⟨1, 102⟩), (.str ⟨0, 0⟩), (.str ⟨0, 0⟩), (.bool false), (i64 1), (i64 0), (i64 1), (w64 4), (.str ⟨1, 103⟩), (.str ⟨0, 0⟩), (.str ⟨0, 0⟩), (.bool false), (i64 1), (i64 0), (i64 0), (w64 0), (.str ⟨1, 104⟩), (.str ⟨0, 0⟩), (.str ⟨0, 0⟩), (.bool false), (i64 2), (i64 0), (i64 0), (w64 0)] 139 .solid))
def q1_1 : Nat × AObj := (582, (.row [(w64 4), (w64 0), (w64 6), (w64 32), (w64 7), (w64 128), (w64 8), (w64 0), (w64 23), (w64 128), (w64 2), (w64 24), (w64 5), (w64 152), (w64 10), (w64 7)] 259 (.buf 0 false)))
def q1_2 : Nat × AObj := (580, (.row (rle [(1, (w8 2)), (3, (w8 0)), (1, (w8 4)), (3, (w8 0)), (1, (w8 3)), (3, (w8 0)), (1, (w8 2)), (15, (w8 0)), (1, (w8 1)), (27, (w8 0)), (1, (w8 1)), (3, (w8 0)), (1, (w8 16)), (1, (w8 0)), (1, (w8 1)), (1, (w8 0)), (1, (w8 4)), (15, (w8 0)), (1, (w8 3)), (3, (w8 0)), (1, (w8 16)), (19, (w8 0)), (1, (w8 5)), (3, (w8 0)), (1, (w8 32)), (27, (w8 0)), (1, (w8 5)), (3, (w8 0)), (1, (sb 14)), (12, (w8 0)), (1, (w8 102)), (1, (w8 0)), (1, (w8 103)), (1, (w8 0)), (1, (w8 104)), (1, (w8 0))]) 5 (.buf 0 false)))
def q1_3 : Nat × AObj := (116, (.map [⟨(.str ⟨0, 0⟩), (i64 0), 0⟩, ⟨(.str ⟨1, 102⟩), (i64 1), 1⟩, ⟨(.str ⟨1, 103⟩), (i64 3), 2⟩, ⟨(.str ⟨1, 104⟩), (i64 5), 3⟩] 4))
def q1_4 : Nat × AObj := (433, (.row [(w8 0), (w8 102), (w8 0), (w8 103), (w8 0), (w8 104), (w8 0)] 5 (.buf 7 false)))
def q1_5 : Nat × AObj := (1120, (.row [(w64 4), (w64 0), (w64 6), (w64 32), (w64 7), (w64 128), (w64 8), (w64 0), (w64 23), (w64 128), (w64 2), (w64 24), (w64 5), (w64 152), (w64 10), (w64 7)] 259 (.buf 0 false)))
def q1_6 : Nat × AObj := (1118, (.row (rle [(1, (w8 2)), (3, (w8 0)), (1, (w8 4)), (3, (w8 0)), (1, (w8 3)), (3, (w8 0)), (1, (w8 2)), (15, (w8 0)), (1, (w8 1)), (27, (w8 0)), (1, (w8 1)), (3, (w8 0)), (1, (w8 16)), (1, (w8 0)), (1, (w8 1)), (1, (w8 0)), (1, (w8 4)), (1, (w8 1)), (14, (w8 0)), (1, (w8 3)), (3, (w8 0)), (1, (w8 16)), (19, (w8 0)), (1, (w8 5)), (3, (w8 0)), (1, (w8 32)), (20, (w8 0)), (1, (w8 3)), (6, (w8 0)), (1, (w8 5)), (3, (w8 0)), (1, (sb 14)), (12, (w8 0)), (1, (w8 102)), (1, (w8 0)), (1, (w8 103)), (1, (w8 0)), (1, (w8 104)), (1, (w8 0))]) 5 (.buf 0 false)))
def q1_7 : Nat × AObj := (654, (.map [⟨(.str ⟨0, 0⟩), (i64 0), 0⟩, ⟨(.str ⟨1, 102⟩), (i64 1), 1⟩, ⟨(.str ⟨1, 103⟩), (i64 3), 2⟩, ⟨(.str ⟨1, 104⟩), (i64 5), 3⟩] 4))
def q1_8 : Nat × AObj := (971, (.row [(w8 0), (w8 102), (w8 0), (w8 103), (w8 0), (w8 104), (w8 0)] 5 (.buf 7 false)))
def q1_9 : Nat × AObj := (104, (.row [(.str ⟨0, 0⟩), .nilSlice, (.slice 3 0 3 (.exact 3)), (.str ⟨16, 0⟩), (.str ⟨0, 0⟩), .nilSlice, (.slice 18 0 1 (.opn 1)), .nilSlice, .nilSlice, (.bool false), (.bool false), (.bool false), (w64 256), (w64 272), (w64 512), (w64 768), (w64 776), (.slice 115 0 3 (.exact 3)), (.ptr 104 18), (.slice 971 0 7 (.opn 1)), (.map 654), (.slice 114 0 3 (.opn 1)), (i64 1), (.map 657), .nilSlice, (.ptr 104 25), (.slice 1118 0 159 (.opn 1)), (.slice 1120 0 8 (.opn 2))] 193 .solid))
def q1_10 : Nat × AObj := (1118, (.row (rle [(1, (w8 2)), (3, (w8 0)), (1, (w8 4)), (3, (w8 0)), (1, (w8 3)), (3, (w8 0)), (1, (w8 2)), (15, (w8 0)), (1, (w8 1)), (27, (w8 0)), (1, (w8 1)), (3, (w8 0)), (1, (w8 16)), (1, (w8 0)), (1, (w8 1)), (1, (w8 0)), (1, (w8 4)), (1, (w8 1)), (14, (w8 0)), (1, (w8 3)), (3, (w8 0)), (1, (w8 16)), (19, (w8 0)), (1, (w8 5)), (3, (w8 0)), (1, (w8 32)), (20, (w8 0)), (1, (w8 3)), (6, (w8 0)), (1, (w8 5)), (3, (w8 0)), (1, (sb 14)), (12, (w8 0)), (1, (w8 102)), (1, (w8 0)), (1, (w8 103)), (1, (w8 0)), (1, (w8 104)), (1, (w8 0))]) 5 (.buf 159 false)))
def q1_11 : Nat × AObj := (2249, (.row [(w32 1), (i64 4), (w64 400), (w64 0), (w64 159), (w64 159), (w32 1), (i64 5), (w64 559), (w64 256), (w64 28), (w64 28), (w32 1), (i64 6), (w64 587), (w64 512), (w64 144), (w64 144), (w32 2), (i64 6), (w64 587), (w64 512), (w64 144), (w64 144), (w32 0x6474e552), (i64 4), (w64 587), (w64 512), (w64 0), (w64 256), (w32 1), (i64 6), (w64 731), (w64 768), (w64 8), (w64 8)] 169 (.buf 0 false)))
def q1_12 : Nat × AObj := (2377, (.row [(w64 4), (w64 0), (w64 6), (w64 32), (w64 7), (w64 128), (w64 8), (w64 0), (w64 23), (w64 128), (w64 2), (w64 24), (w64 5), (w64 152), (w64 10), (w64 7)] 259 (.buf 0 false)))
def q1_13 : Nat × AObj := (2504, (.row [(w32 3), (w32 2), (w32 0), (w32 0), (w32 0), (w32 1)] 167 (.buf 0 false)))
def q1_14 : Nat × AObj := (2828, (.row [(.str ⟨0, 0⟩), (i64 0), (i64 0), (i64 0), (.bool false), (w64 0), (w64 0), (.str ⟨1, 102⟩), (i64 1), (i64 0), (i64 0), (.bool true), (w64 260), (w64 0), (.str ⟨1, 103⟩), (i64 1), (i64 0), (i64 0), (.bool false), (w64 0), (w64 0), (.str ⟨1, 104⟩), (i64 2), (i64 0), (i64 0), (.bool false), (w64 0), (w64 0)] 150 (.buf 0 false)))
def b7 : Fact where
  f := 75
  args := [(.ptr 104 0)]
  next := 116
  pre := [(114, (.row [(i64 0), (i64 1), (i64 2)] 3 (.buf 0 false))), (115, (.row [(i64 1), (i64 2), (i64 3)] 3 .solid)), (18, (.row [(si 2)] 3 (.buf 0 false))), q1_0, (104, (.row [(.str ⟨0, 0⟩), .nilSlice, (.slice 3 0 3 (.exact 3)), (.str ⟨16, 0⟩), (.str ⟨0, 0⟩), .nilSlice, (.slice 18 0 1 (.opn 1)), .nilSlice, .nilSlice, (.bool false), (.bool false), (.bool false), (w64 0), (w64 0), (w64 0), (w64 0), (w64 0), (.slice 115 0 3 (.exact 3)), .nilPtr, .nilSlice, .nilMap, (.slice 114 0 3 (.opn 1)), (i64 1), .nilMap, .nilSlice, .nilPtr, .nilSlice, .nilSlice] 193 .solid))]
  r := (.tuple [])
  objs := [q1_1, q1_2, (119, (.map [] 0)), q1_3, q1_4, (104, (.row [(.str ⟨0, 0⟩), .nilSlice, (.slice 3 0 3 (.exact 3)), (.str ⟨16, 0⟩), (.str ⟨0, 0⟩), .nilSlice, (.slice 18 0 1 (.opn 1)), .nilSlice, .nilSlice, (.bool false), (.bool false), (.bool false), (w64 0), (w64 0), (w64 0), (w64 0), (w64 0), (.slice 115 0 3 (.exact 3)), (.ptr 104 18), (.slice 433 0 7 (.opn 1)), (.map 116), (.slice 114 0 3 (.opn 1)), (i64 1), (.map 119), .nilSlice, (.ptr 104 25), (.slice 580 0 159 (.opn 1)), (.slice 582 0 8 (.opn 2))] 193 .solid)), q1_0, (18, (.row [(si 2)] 3 (.buf 0 false))), (115, (.row [(i64 1), (i64 2), (i64 3)] 3 .solid)), (114, (.row [(i64 0), (i64 1), (i64 2)] 3 (.buf 0 false)))]
  next' := 583
theorem b7_ok [Val] (h : AllEq tab1) : b7.Ok P G := Fact.ok_of (n := 100000) (EnvOk.know (EnvOk.tab env0 h) (l := []) knowsNone) (by kernel_rfl)
def b8 : Fact where
  f := 75
  args := [(.ptr 104 0)]
  next := 654
  pre := [q1_1, q1_2, (119, (.map [] 0)), (114, (.row [(i64 0), (i64 1), (i64 2)] 3 (.buf 0 false))), q1_3, q1_4, (115, (.row [(i64 1), (i64 2), (i64 3)] 3 .solid)), (18, (.row [(si 2)] 3 (.buf 0 false))), q1_0, (104, (.row [(.str ⟨0, 0⟩), .nilSlice, (.slice 3 0 3 (.exact 3)), (.str ⟨16, 0⟩), (.str ⟨0, 0⟩), .nilSlice, (.slice 18 0 1 (.opn 1)), .nilSlice, .nilSlice, (.bool false), (.bool false), (.bool false), (w64 256), (w64 272), (w64 512), (w64 768), (w64 776), (.slice 115 0 3 (.exact 3)), (.ptr 104 18), (.slice 433 0 7 (.opn 1)), (.map 116), (.slice 114 0 3 (.opn 1)), (i64 1), (.map 119), .nilSlice, (.ptr 104 25), (.slice 580 0 159 (.opn 1)), (.slice 582 0 8 (.opn 2))] 193 .solid))]
  r := (.tuple [])
  objs := [q1_5, q1_6, (657, (.map [] 0)), q1_7, q1_8, q1_9, q1_0, (18, (.row [(si 2)] 3 (.buf 0 false))), (115, (.row [(i64 1), (i64 2), (i64 3)] 3 .solid)), q1_4, q1_3, (114, (.row [(i64 0), (i64 1), (i64 2)] 3 (.buf 0 false))), (119, (.map [] 0)), q1_2, q1_1]
  next' := 1121
theorem b8_ok [Val] (h : AllEq tab1) : b8.Ok P G := Fact.ok_of (n := 100000) (EnvOk.know (EnvOk.tab env0 h) (l := []) knowsNone) (by kernel_rfl)
def b9 : Fact where
  f := 150
  args := [(.ptr 104 0)]
  next := 1193
  pre := [q1_5, q1_10, (657, (.map [] 0)), (114, (.row [(i64 0), (i64 1), (i64 2)] 3 (.buf 0 false))), q1_7, q1_8, (115, (.row [(i64 1), (i64 2), (i64 3)] 3 .solid)), (18, (.row [(si 2)] 3 (.buf 0 false))), q1_0, q1_9]
  r := (.str ⟨12, 0x170e0000033e0e1f67000e00⟩)
  objs := [q1_9, q1_0, (18, (.row [(si 2)] 3 (.buf 0 false))), (115, (.row [(i64 1), (i64 2), (i64 3)] 3 .solid)), q1_8, q1_7, (114, (.row [(i64 0), (i64 1), (i64 2)] 3 (.buf 0 false))), (657, (.map [] 0)), q1_10, q1_5]
  next' := 1888
theorem b9_ok [Val] (h : AllEq tab1) : b9.Ok P G := Fact.ok_of (n := 100000) (EnvOk.know (EnvOk.tab env0 h) (l := [e0.at_ 1194, e1.at_ 1327, e2.at_ 1704]) (knows (e0_at (by decide)) (knows (e1_at (by decide)) (knows (e2_at (by decide)) knowsNone)))) (by kernel_rfl)
def b10 : Fact where
  f := 79
  args := [(.ptr 104 0)]
  next := 1130
  pre := [q1_5, q1_6, (657, (.map [] 0)), (114, (.row [(i64 0), (i64 1), (i64 2)] 3 (.buf 0 false))), q1_7, q1_8, (115, (.row [(i64 1), (i64 2), (i64 3)] 3 .solid)), (18, (.row [(si 2)] 3 (.buf 0 false))), q1_0, q1_9]
  r := (.sy .str (.op (.hole [540]) [(.str T1), (yb 14)]))
  objs := [q1_9, q1_0, (18, (.row [(si 2)] 3 (.buf 0 false))), (115, (.row [(i64 1), (i64 2), (i64 3)] 3 .solid)), q1_8, q1_7, (114, (.row [(i64 0), (i64 1), (i64 2)] 3 (.buf 0 false))), (657, (.map [] 0)), q1_10, q1_5]
  next' := 2162
theorem b10_ok [Val] (h : AllEq tab1) : b10.Ok P G := Fact.ok_of (n := 100000) (EnvOk.know (EnvOk.tab env0 h) (l := [b9]) (knows (b9_ok h) knowsNone)) (by kernel_rfl)
def b11 : Fact where
  f := 45
  args := [(.agg [(.str ⟨0, 0⟩), .nilSlice, (.slice 3 0 3 (.exact 3)), (.str ⟨16, 0⟩), (.str ⟨0, 0⟩), .nilSlice, (.slice 18 0 1 (.opn 1)), .nilSlice, .nilSlice, (.bool false), (.bool false), (.bool false)])]
  next := 19
  pre := [(18, (.row [(si 2)] 3 (.buf 0 false))), q1_0]
  r := (.tuple [(.sy .str (.op (.hole [540]) [(.str T1), (yb 14)])), (.agg [(w64 256), (w64 272), (w64 512), (w64 768), (w64 776), (.slice 115 0 3 (.exact 3))]), (i64 0)])
  objs := [q1_0, (18, (.row [(si 2)] 3 (.buf 0 false))), (115, (.row [(i64 1), (i64 2), (i64 3)] 3 .solid))]
  next' := 2162
theorem b11_ok [Val] (h : AllEq tab1) : b11.Ok P G := Fact.ok_of (n := 100000) (EnvOk.know (EnvOk.tab env0 h) (l := [b7, b8, b10]) (knows (b7_ok h) (knows (b8_ok h) (knows (b10_ok h) knowsNone)))) (by kernel_rfl)
def b12 : Fact where
  f := 80
  args := [(.sy .str (.op (.hole [540]) [(.str T1), (yb 14)]))]
  next := 2164
  pre := []
  r := (.tuple [(.agg [(.sy .str (.op (.hole [540]) [(.str T1), (yb 14)])), (w64 0), (.slice 2249 0 6 (.opn 6))]), (.agg [(i64 0), (w64 0), (.str ⟨0, 0⟩)])])
  objs := [q1_11]
  next' := 2250
theorem b12_ok [Val] (h : AllEq tab1) : b12.Ok P G := Fact.ok_of (n := 100000) (EnvOk.know (EnvOk.tab env0 h) (l := []) knowsNone) (by kernel_rfl)
def b13 : Fact where
  f := 83
  args := [(.ptr 2253 0)]
  next := 2533
  pre := [q1_12, q1_13, q1_11, (2253, (.row [(.sy .str (.op (.hole [540]) [(.str T1), (yb 14)])), (w64 0), (.slice 2249 0 6 (.opn 6)), (.str ⟨0, 0⟩), .nilSlice, .nilSlice, .nilSlice, .nilSlice, .nilSlice, (w64 0), (w64 0), (w64 0), (w64 0), .nilSlice, (.bool false), (.bool false), (.iface 268 (.agg [(.slice 2504 0 2 (.exact 2)), (.slice 2504 2 4 (.opn 1))])), (.slice 2377 0 8 (.opn 2)), (i64 4)] 103 .solid))]
  r := (.agg [(i64 0), (w64 0), (.str ⟨0, 0⟩)])
  objs := [q1_14, (2253, (.row [(.sy .str (.op (.hole [540]) [(.str T1), (yb 14)])), (w64 0), (.slice 2249 0 6 (.opn 6)), (.str ⟨0, 0⟩), .nilSlice, (.slice 2828 0 4 (.opn 7)), .nilSlice, .nilSlice, .nilSlice, (w64 0), (w64 0), (w64 0), (w64 0), .nilSlice, (.bool false), (.bool false), (.iface 268 (.agg [(.slice 2504 0 2 (.exact 2)), (.slice 2504 2 4 (.opn 1))])), (.slice 2377 0 8 (.opn 2)), (i64 4)] 103 .solid)), q1_11, q1_13, q1_12]
  next' := 2829
theorem b13_ok [Val] (h : AllEq tab1) : b13.Ok P G := Fact.ok_of (n := 100000) (EnvOk.know (EnvOk.tab env0 h) (l := []) knowsNone) (by kernel_rfl)
def b14 : Fact where
  f := 46
  args := [(.sy .str (.op (.hole [540]) [(.str T1), (yb 14)]))]
  next := 2163
  pre := []
  r := (.tuple [(.ptr 2253 0), (.agg [(i64 0), (w64 0), (.str ⟨0, 0⟩)])])
  objs := [q1_12, q1_13, (3263, (.row [(w64 512), (w64 768)] 96 (.buf 0 false))), (3031, (.row [(w64 768), (i64 5), (si 14), (w64 0)] 31 (.buf 0 false))), (2888, (.row [(.str ⟨0, 0⟩), (.str ⟨0, 0⟩), (.bool false), (.str ⟨0, 0⟩), (.str ⟨0, 0⟩), (.bool false), (.str ⟨0, 0⟩), (.str ⟨0, 0⟩), (.bool false), (.str ⟨0, 0⟩), (.str ⟨0, 0⟩), (.bool false)] 210 .solid)), q1_14, q1_11, (2253, (.row [(.sy .str (.op (.hole [540]) [(.str T1), (yb 14)])), (w64 0), (.slice 2249 0 6 (.opn 6)), (.str ⟨0, 0⟩), .nilSlice, (.slice 2828 0 4 (.opn 7)), (.slice 2888 0 4 (.exact 4)), .nilSlice, (.slice 3031 0 1 (.opn 4)), (w64 0), (w64 0), (w64 0), (w64 0), (.slice 3263 0 1 (.opn 2)), (.bool false), (.bool false), (.iface 268 (.agg [(.slice 2504 0 2 (.exact 2)), (.slice 2504 2 4 (.opn 1))])), (.slice 2377 0 8 (.opn 2)), (i64 4)] 103 .solid))]
  next' := 3298
theorem b14_ok [Val] (h : AllEq tab1) : b14.Ok P G := Fact.ok_of (n := 100000) (EnvOk.know (EnvOk.tab env0 h) (l := [b12, b13]) (knows (b12_ok h) (knows (b13_ok h) knowsNone))) (by kernel_rfl)
end Go.Proofs.YtjmjbjnbfodalaaGreat
