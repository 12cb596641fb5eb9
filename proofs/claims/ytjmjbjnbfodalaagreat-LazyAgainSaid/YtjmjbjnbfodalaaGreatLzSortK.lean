/- slices.Sorted of the keys of a space's pages: closed checks, for each order in which the keys may come. No condition. -/
import Derived.Test.YtjmjbjnbfodalaaGreatLzSlot
import Derived.Test.YtjmjbjnbfodalaaGreatTcPick
set_option linter.unusedSimpArgs false
set_option linter.unusedVariables false
set_option linter.unusedSectionVars false
set_option maxRecDepth 1000000
namespace Go.Proofs.YtjmjbjnbfodalaaGreat
open Go.Tc
namespace so
def ins (x : Int) : List Int → List (List Int)
  | [] => [[x]]
  | y :: l => (x :: y :: l) :: (ins x l).map fun r => y :: r
def perms : List Int → List (List Int)
  | [] => [[]]
  | x :: l => (perms l).flatMap (ins x)
def keys (np : Nat) : List Int := (List.range np).map fun (i : Nat) => 65536 + 256 * (i : Int)
def orders (np : Nat) : List (List Int) := perms (keys np)
def row64 (l : List Int) : AObj := .row (l.map fun n => .int .u64 n) 27 (.buf 0 false)
def boxO : Nat × AObj := (20, .row [.map 11] 118 .solid)
def mapO (np : Nat) : Nat × AObj := (11, .map ((List.range np).map lz.entE) np)
def fnK : AV := .fn (.func 179) [] [.ptr 20 0]
def sl (b np : Nat) : AV := .slice b 0 np (.opn 1)
namespace ks
noncomputable def fn : Func := Tryz.f179
noncomputable def cd : Code := match fn.body with | some c => c | none => .skip
noncomputable def cx : Ctx := cxOf P fn cd 2
noncomputable def L : List Code := flat cd
noncomputable def bd : Code := inLoop (inBlock (L.getD 1 .skip))
noncomputable def rid : Nat := match flat bd with | .region r _ _ :: _ => r | _ => 0
noncomputable def ops : Array Oper := match flat bd with | .region _ o _ :: _ => o | _ => #[]
noncomputable def rest : List Code := (flat bd).drop 1
theorem func : P.funcs[179]? = some fn := Tryz.func179
theorem body : fn.body = some cd := by kernel_rfl
theorem at1 : L.drop 1 = .block 0 (.loop bd) :: [] := by kernel_rfl
theorem flat_bd : flat bd = .region rid ops false :: rest := by kernel_rfl
def loop : Nat × AObj := (23, .loop ⟨.ready, none, ⟨183, 13, 1⟩, ⟨[(2, .ptr 21 0)], [(6, fnK)]⟩, .at_ 245 [1, 0, 1, 2], 22⟩)
def pre (np : Nat) : List (Nat × AObj) := [boxO, mapO np, (21, .row [.nilSlice] 36 .solid), loop]
def objs (np : Nat) (p : List Int) : List (Nat × AObj) := [boxO, mapO np, (21, .row [sl 25 np] 36 .solid), loop, (25, row64 p)]
def x (np : Nat) (p : List Int) : Fact := ⟨179, [.fn (.yield 23) [] [], .ptr 20 0], 24, pre np, .tuple [], objs np p, 26⟩
def fin (np : Nat) (p : List Int) : St := { vars := [], loc := [], marks := [], objs := objs np p, next := 26 }
noncomputable def chk (np at_ : Nat) (q : List (Nat × Nat)) : Bool := exB P EC 100000 cx 24 1 L 0 ops rest (fun p => (orders np).contains p) [(25, at_)] (fin np) 8 q (startSt (x np []))
noncomputable def chkE (np : Nat) (p : List Int) : Bool := endsSo P EC cx fn (x np p) (fin np p)
theorem k4_0 : chk 4 32 [(0, 4)] = true := by kernel_rfl
theorem k4_1 : chk 4 32 [(1, 4)] = true := by kernel_rfl
theorem k4_2 : chk 4 32 [(2, 4)] = true := by kernel_rfl
theorem k4_3 : chk 4 32 [(3, 4)] = true := by kernel_rfl
theorem ke4 : (orders 4).all (chkE 4) = true := by kernel_rfl
theorem k5_0 : chk 5 34 [(0, 5), (0, 4)] = true := by kernel_rfl
theorem k5_1 : chk 5 34 [(0, 5), (1, 4)] = true := by kernel_rfl
theorem k5_2 : chk 5 34 [(0, 5), (2, 4)] = true := by kernel_rfl
theorem k5_3 : chk 5 34 [(0, 5), (3, 4)] = true := by kernel_rfl
theorem k5_4 : chk 5 34 [(1, 5), (0, 4)] = true := by kernel_rfl
theorem k5_5 : chk 5 34 [(1, 5), (1, 4)] = true := by kernel_rfl
theorem k5_6 : chk 5 34 [(1, 5), (2, 4)] = true := by kernel_rfl
theorem k5_7 : chk 5 34 [(1, 5), (3, 4)] = true := by kernel_rfl
theorem k5_8 : chk 5 34 [(2, 5), (0, 4)] = true := by kernel_rfl
theorem k5_9 : chk 5 34 [(2, 5), (1, 4)] = true := by kernel_rfl
theorem k5_10 : chk 5 34 [(2, 5), (2, 4)] = true := by kernel_rfl
theorem k5_11 : chk 5 34 [(2, 5), (3, 4)] = true := by kernel_rfl
theorem k5_12 : chk 5 34 [(3, 5), (0, 4)] = true := by kernel_rfl
theorem k5_13 : chk 5 34 [(3, 5), (1, 4)] = true := by kernel_rfl
theorem k5_14 : chk 5 34 [(3, 5), (2, 4)] = true := by kernel_rfl
theorem k5_15 : chk 5 34 [(3, 5), (3, 4)] = true := by kernel_rfl
theorem k5_16 : chk 5 34 [(4, 5), (0, 4)] = true := by kernel_rfl
theorem k5_17 : chk 5 34 [(4, 5), (1, 4)] = true := by kernel_rfl
theorem k5_18 : chk 5 34 [(4, 5), (2, 4)] = true := by kernel_rfl
theorem k5_19 : chk 5 34 [(4, 5), (3, 4)] = true := by kernel_rfl
theorem ke5 : (orders 5).all (chkE 5) = true := by kernel_rfl
end ks
namespace ap
noncomputable def fn : Func := Tryz.f245
noncomputable def cd : Code := match fn.body with | some c => c | none => .skip
noncomputable def cx : Ctx := cxOf P fn cd 2
noncomputable def L : List Code := flat cd
theorem func : P.funcs[245]? = some fn := Tryz.func245
theorem body : fn.body = some cd := by kernel_rfl
noncomputable def lc : LCode := codeAt P 245 [1, 0, 1, 2]
theorem at2 : L.drop 2 = .block 0 (.rangeFunc (.tmp 6) lc.params lc.assign lc.body) :: L.drop 3 := by kernel_rfl
def x (np : Nat) (p : List Int) : Fact := ⟨245, [.nilSlice, fnK], 21, [boxO, mapO np], sl 21 np, [boxO, mapO np, (21, row64 p)], 23⟩
def s0 (np : Nat) : St := { vars := [(2, .ptr 21 0)], loc := [(6, fnK)], marks := [], objs := [boxO, mapO np, (21, .row [.nilSlice] 36 .solid)], next := 22 }
def s1 (y : Fact) : St := { vars := [(2, .ptr 21 0)], loc := [], marks := [22], objs := (22, .dfr true) :: y.objs.filter fun q => !(q.1.beq 23), next := 26 }
def fin (np : Nat) (p : List Int) : St := { vars := [(4, sl 21 np)], loc := [], marks := [22], objs := [boxO, mapO np, (21, row64 p), (22, .dfr true)], next := 23 }
noncomputable def chkA (np : Nat) : Bool := evFl P (EC.tab []) 100000 cx none 21 (L.take 2) (startSt (x np [])) [] (subs []) [(21, 21)] .normal (s0 np)
noncomputable def chkB (np : Nat) (p : List Int) : Bool := rgB EC.nf cx (ks.x np p) (.tmp 6) (.at_ 245 [1, 0, 1, 2]) 21 (s0 np) [(21, 21), (22, 22), (25, 25)] (s1 (ks.x np p))
noncomputable def chkC (np : Nat) (p : List Int) : Bool := evFl P (EC.tab []) 100000 cx none 21 (L.drop 3) (s1 (ks.x np p)) [] (subs []) [(21, 25), (22, 22)] .ret (fin np p) && endsSo P EC cx fn (x np p) (fin np p)
theorem a4 : chkA 4 = true := by kernel_rfl
theorem b4 : (orders 4).all (chkB 4) = true := by kernel_rfl
theorem c4 : (orders 4).all (chkC 4) = true := by kernel_rfl
theorem a5 : chkA 5 = true := by kernel_rfl
theorem b5 : (orders 5).all (chkB 5) = true := by kernel_rfl
theorem c5 : (orders 5).all (chkC 5) = true := by kernel_rfl
end ap
namespace co
noncomputable def fn : Func := Tryz.f177
noncomputable def cd : Code := match fn.body with | some c => c | none => .skip
noncomputable def cx : Ctx := cxOf P fn cd 1
noncomputable def L : List Code := flat cd
theorem func : P.funcs[177]? = some fn := Tryz.func177
theorem body : fn.body = some cd := by kernel_rfl
noncomputable def rid : Nat := match L.getD 1 .skip with | .region r _ _ => r | _ => 0
noncomputable def ops : Array Oper := match L.getD 1 .skip with | .region _ o _ => o | _ => #[]
theorem at1 : L.drop 1 = .region rid ops false :: L.drop 2 := by kernel_rfl
def x (np : Nat) (p : List Int) : Fact := ⟨177, [fnK], 21, [boxO, mapO np], sl 21 np, [boxO, mapO np, (21, row64 p)], 23⟩
def s0 (np : Nat) : St := { vars := [(0, fnK)], loc := [], marks := [], objs := [boxO, mapO np], next := 21 }
def s1 (y : Fact) : St := { vars := [(2, y.r)], loc := [], marks := [], objs := y.objs, next := 23 }
noncomputable def chkA (np : Nat) : Bool := evFl P (EC.tab []) 100000 cx none 21 (L.take 1) (startSt (x np [])) [] (subs []) [] .normal (s0 np)
noncomputable def chkB (np : Nat) (p : List Int) : Bool := clB P EC 100000 cx 21 ops 1 (ap.x np p) (s0 np) [(21, 21)] (s1 (ap.x np p))
noncomputable def chkC (np : Nat) (p : List Int) : Bool := evFl P (EC.tab []) 100000 cx none 21 (L.drop 2) (s1 (ap.x np p)) [] (subs []) [(21, 21)] .ret (s1 (ap.x np p)) && endsSo P EC cx fn (x np p) (s1 (ap.x np p))
theorem a4 : chkA 4 = true := by kernel_rfl
theorem b4 : (orders 4).all (chkB 4) = true := by kernel_rfl
theorem c4 : (orders 4).all (chkC 4) = true := by kernel_rfl
theorem a5 : chkA 5 = true := by kernel_rfl
theorem b5 : (orders 5).all (chkB 5) = true := by kernel_rfl
theorem c5 : (orders 5).all (chkC 5) = true := by kernel_rfl
end co
namespace st
noncomputable def fn : Func := Tryz.f94
noncomputable def cd : Code := match fn.body with | some c => c | none => .skip
noncomputable def cx : Ctx := cxOf P fn cd 1
noncomputable def L : List Code := flat cd
theorem func : P.funcs[94]? = some fn := Tryz.func94
theorem body : fn.body = some cd := by kernel_rfl
noncomputable def rid : Nat := match L.getD 1 .skip with | .region r _ _ => r | _ => 0
noncomputable def ops : Array Oper := match L.getD 1 .skip with | .region _ o _ => o | _ => #[]
theorem at1 : L.drop 1 = .region rid ops false :: L.drop 2 := by kernel_rfl
def x (np : Nat) : Fact := ⟨94, [fnK], 21, [boxO, mapO np], sl 21 np, [boxO, mapO np, (21, row64 (keys np))], 23⟩
def s0 (np : Nat) : St := { vars := [(0, fnK)], loc := [], marks := [], objs := [boxO, mapO np], next := 21 }
def s1 (y : Fact) : St := { vars := [(3, y.r)], loc := [], marks := [], objs := y.objs, next := 23 }
def fin (np : Nat) : St := { vars := [(2, sl 21 np)], loc := [], marks := [], objs := [boxO, mapO np, (21, row64 (keys np))], next := 23 }
noncomputable def chkA (np : Nat) : Bool := evFl P (EC.tab []) 100000 cx none 21 (L.take 1) (startSt (x np)) [] (subs []) [] .normal (s0 np) && endsSo P EC cx fn (x np) (fin np)
noncomputable def chkB (np : Nat) (p : List Int) : Bool := clB P EC 100000 cx 21 ops 1 (co.x np p) (s0 np) [(21, 21)] (s1 (co.x np p))
noncomputable def chkC (np : Nat) (p : List Int) : Bool := evFl P (EC.tab []) 100000 cx none 21 (L.drop 2) (s1 (co.x np p)) [] (subs []) [(21, 21)] .ret (fin np)
theorem a4 : chkA 4 = true := by kernel_rfl
theorem b4 : (orders 4).all (chkB 4) = true := by kernel_rfl
theorem c4_0 : (((orders 4).drop 0).take 12).all (chkC 4) = true := by kernel_rfl
theorem c4_1 : (((orders 4).drop 12).take 12).all (chkC 4) = true := by kernel_rfl
theorem a5 : chkA 5 = true := by kernel_rfl
theorem b5 : (orders 5).all (chkB 5) = true := by kernel_rfl
theorem c5_0 : (((orders 5).drop 0).take 12).all (chkC 5) = true := by kernel_rfl
theorem c5_1 : (((orders 5).drop 12).take 12).all (chkC 5) = true := by kernel_rfl
theorem c5_2 : (((orders 5).drop 24).take 12).all (chkC 5) = true := by kernel_rfl
theorem c5_3 : (((orders 5).drop 36).take 12).all (chkC 5) = true := by kernel_rfl
theorem c5_4 : (((orders 5).drop 48).take 12).all (chkC 5) = true := by kernel_rfl
theorem c5_5 : (((orders 5).drop 60).take 12).all (chkC 5) = true := by kernel_rfl
theorem c5_6 : (((orders 5).drop 72).take 12).all (chkC 5) = true := by kernel_rfl
theorem c5_7 : (((orders 5).drop 84).take 12).all (chkC 5) = true := by kernel_rfl
theorem c5_8 : (((orders 5).drop 96).take 12).all (chkC 5) = true := by kernel_rfl
theorem c5_9 : (((orders 5).drop 108).take 12).all (chkC 5) = true := by kernel_rfl
end st
end so
end Go.Proofs.YtjmjbjnbfodalaaGreat
