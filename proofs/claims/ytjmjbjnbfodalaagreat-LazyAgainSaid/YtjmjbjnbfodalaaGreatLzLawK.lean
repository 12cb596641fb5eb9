/- the law LazySlots, some slots: closed checks of its pieces, of its loops' rounds. No condition. -/
import Derived.Test.YtjmjbjnbfodalaaGreatLzResK
set_option linter.unusedSimpArgs false
set_option linter.unusedVariables false
set_option linter.unusedSectionVars false
set_option maxRecDepth 1000000
namespace Go.Proofs.YtjmjbjnbfodalaaGreat
open Go.Tc
namespace lz
def ren (s : Nat → Tm) (ρ : Nat → Nat) (nx : Nat) (x : Fact) : Fact := ⟨x.f, AV.insts s ρ x.args, nx, x.pre.map fun p => (ρ p.1, p.2.inst s ρ), x.r.inst s ρ, x.objs.map fun p => (ρ p.1, p.2.inst s ρ), nx + (x.next' - x.next)⟩
def pg (np : Nat) : List (Nat × Nat) := (List.range np).map fun i => (14 + i, 14 + i)
def pgT (np d : Nat) : List (Nat × Nat) := (List.range np).map fun i => (14 + i + d, 32 + i)
def lows : List (Nat × Nat) := (List.range 12).map fun i => (1 + i, 1 + i)
def iarr (t : Tm) : AV := .sy (.isl [.int .i64]) t
def by1 (w : Tm) (j : Nat) : Tm := .op .byte [.op (.conv .u8) [.op (.shift .shr .u64) [w, .int (8 * j : Nat)]]]
def get1 (w : Tm) : Nat → Tm
  | 0 => .int 0
  | 1 => .op (.bin .or .u64) [.int 0, .op (.conv .u64) [by1 w 7]]
  | k + 2 => .op (.bin .or .u64) [.op (.shift .shl .u64) [get1 w (k + 1), .int 8], .op (.conv .u64) [by1 w (6 - k)]]
namespace ls
noncomputable def fn : Func := Tryz.f5
noncomputable def cd : Code := match fn.body with | some c => c | none => .skip
noncomputable def cx : Ctx := cxOf P fn cd 3
noncomputable def L : List Code := flat cd
noncomputable def L4 : List Code := L.drop 4
noncomputable def L5 : List Code := L4.drop 1
noncomputable def L6 : List Code := L5.drop 1
noncomputable def L8 : List Code := L6.drop 2
noncomputable def bd : Code := inLoop (inBlock (L.getD 10 .skip))
noncomputable def lp : List Code := flat bd
noncomputable def L11 : List Code := L.drop 11
noncomputable def bd2 : Code := inLoop (inBlock (L.getD 12 .skip))
noncomputable def lp2 : List Code := flat bd2
def x : Fact := ⟨5, [iarr (.v 0), bi (.v 1), iarr (.v 2)], 1, [], .bool true, [], 1⟩
def spk : Fact := ⟨14, [], 1, [], .bool true, [], 3968⟩
def up18 (b : Nat) : Nat := b + 18
def upT (b : Nat) : Nat := if b < 10 then b else b + 18
def s56 (i : Nat) : Tm := if i = 5 then .v 6 else .v i
def y2 (np : Nat) : Fact := ren .v up18 19 (xM np)
def y3 (np : Nat) : Fact := ren .v id 37 (xL np)
def y4 (np : Nat) : Fact := ren s56 upT 39 (lo.x np)
def tE (np : Nat) : List (Nat × AObj) := (spaceE np).map fun p => (p.1 + 18, p.2.inst .v up18)
def tV (np v : Nat) : List (Nat × AObj) := (spaceV np v).map fun p => (p.1 + 18, p.2.inst .v up18)
def mem : Nat × AObj := (13, .row membE 50 .solid)
def vB : List (Nat × AV) := [(0, iarr (.v 0)), (1, bi (.v 1)), (2, iarr (.v 7)), (6, .bool false), (7, .ptr 10 0), (8, .ptr 13 0), (9, lE), (10, .bool true)]
def sA : St := { vars := [(0, iarr (.v 0)), (1, bi (.v 1)), (2, iarr (.v 7)), (6, .bool false)], loc := [], marks := [], objs := [], next := 1 }
def sB (np : Nat) : St := { vars := vB, loc := [], marks := [], objs := objsE np ++ [mem], next := 19 }
def sC (np : Nat) : St := { vars := vB ++ [(11, .ptr 28 0)], loc := [], marks := [], objs := objsE np ++ mem :: tE np, next := 37 }
def blocks (np : Nat) : List (Nat × AObj) := [obOE, obSE, boundE] ++ spaceV np 5 ++ mem :: tV np 6
def vD : List (Nat × AV) := [(0, iarr (.v 0)), (1, bi (.v 1)), (2, iarr (.v 7)), (6, .bool false), (7, .ptr 10 0), (8, .ptr 13 0), (9, lE), (11, .ptr 28 0)]
def sD (np : Nat) : St := { vars := vD, loc := [], marks := [], objs := blocks np, next := 37 }
def lD : AV := .lsl 37 1 (.int 0) (.op .len [.v 2]) .opn
def obD : Nat × AObj := (37, .lrow [.bool] (.v 8) 4 (.buf 0 false))
def inv (np : Nat) : St := { vars := vD ++ [(15, lD), (16, bi (.v 9))], loc := [], marks := [], objs := blocks np ++ [obD], next := 38 }
def vF (k : Nat) : List (Nat × AV) := [(1, bi (.v 1)), (6, .bool false), (7, .ptr 10 0), (8, .ptr 13 0), (9, lE), (15, lD), (23, .int .i64 k)]
def inv2 (np k : Nat) : St := { vars := vF k, loc := [], marks := [], objs := boundE :: spaceV np 5 ++ [mem, obD], next := 38 }
def fin0 : St := { vars := [], loc := [], marks := [], objs := [], next := 1 }
def vs (n : Nat) : List Tm := (List.range n).map Tm.v
def nmB (np : Nat) : List (Nat × Nat) := (13, 19) :: lows ++ pg np
def nmC (np : Nat) : List (Nat × Nat) := [(13, 13), (28, 28), (29, 29), (30, 30)] ++ lows ++ pg np ++ pgT np 18
def nmI (np : Nat) : List (Nat × Nat) := (37, 37) :: nmC np
def nmF (np : Nat) : List (Nat × Nat) := [(37, 37), (13, 13)] ++ lows ++ pg np
noncomputable def chkB (np : Nat) : Bool := usesSo (tableNf []) G (subs (vs 5)) [] (xM np) (xM np) && evFl P ((E0.know [xM np]).tab []) 100000 cx none 1 (L4.take 1) sA [] (subs (vs 8)) (nmB np) .normal (sB np)
noncomputable def chkC (np : Nat) : Bool := usesSo (tableNf []) G (subs (vs 5)) [] (xM np) (y2 np) && evFl P ((E0.know [y2 np]).tab []) 100000 cx none 1 (L5.take 1) (sB np) [] (subs (vs 8)) (nmC np) .normal (sC np)
def nmL (np : Nat) : List (Nat × Nat) := lows ++ pg np
def nmT (np : Nat) : List (Nat × Nat) := lows.map (fun p => (p.1, upT p.1)) ++ pgT np 0
noncomputable def chkD (np : Nat) : Bool := usesSo (tableNf []) G (subs (vs 6)) (nmL np) (xL np) (y3 np) && usesSo (tableNf []) G (subs (vs 5 ++ [.v 6])) (nmT np) (lo.x np) (y4 np)
  && evFl P ((E0.know [y3 np, y4 np]).tab []) 100000 cx none 1 (L6.take 2) (sC np) [] (subs (vs 8)) (nmC np) .normal (sD np)
def lenV : Tm := .op .len [.v 2]
def tE0 : List (Tm × Tm) := [(.op .small [lenV], .bool true), (.op (.bin .leq .i64) [.int 0, lenV], .bool true), (.op (.bin .leq .i64) [lenV, lenV], .bool true)]
noncomputable def chkE (np : Nat) : Bool := evFl P (E0.tab tE0) 100000 cx none 1 (L8.take 2) (sD np) [] (subs (vs 8 ++ [.op .rep [lenV, .bool false], .int 0])) (nmI np) .normal (inv np)
def callT : Tm := .op .nth [.v 7, .v 9]
def ltC (b : Bool) : Tm × Tm := (.op (.bin .lss .i64) [.v 9, .op .len [.v 7]], .bool b)
def lt20 (b : Bool) : Tm × Tm := (.op (.bin .lss .i64) [.v 9, .int 20], .bool b)
def inC : List (Tm × Tm) := [ltC true, lt20 true, (.op (.bin .leq .i64) [.int 0, .v 9], .bool true)]
def sR (k : Nat) (x : Int) (i : Nat) : Tm := if i = 6 then ly.wset k (.int x) else .v i
def sO (i : Nat) : Tm := if i = 6 then callT else .v i
def yR (np : Nat) (fv : Int) (f : Bool) (k : Nat) : Fact := ren (sR k (val fv f)) id 38 (rs.x np fv f k)
def yG (np k : Nat) : Fact := ren .v id 38 (rs.xG np k)
def yO (np : Nat) : Fact := ren sO id 38 (rs.xO np)
def remT (k : Nat) : Tm := .op (.bin .rem .i64) [.op (.bin .add .i64) [.op (.bin .rem .i64) [.op .nth [.v 0, .int k], .int 3], .int 3], .int 3]
def g6 (k : Nat) (x : Int) : Tm × Tm := (get1 (.op .nth [.v 6, .int k]) 8, .int x)
def lt8 (k : Nat) : Tm × Tm := (.op (.bin .lss .i64) [.int k, .op .len [.v 8]], .bool true)
def tIn (b : Int) (k : Nat) (c : Int) : List (Tm × Tm) := inC ++ [(callT, .int k), (.op (.bin .geq .i64) [.int k, lenV], .bool false), ly.atT k b, ly.lenT k true, (.op (.bin .lss .i64) [.int k, .op .len [.v 0]], .bool true), (remT k, .int c)]
def setD (k : Nat) : Tm := .op .set [.v 8, .int k, .bool true]
def nxt : Tm := .op (.bin .add .i64) [.v 9, .int 1]
noncomputable def chkV (np : Nat) (b fv : Int) (f : Bool) (c : Int) (k : Nat) : Bool := usesSo (tableNf []) G (subs (vs 6 ++ [ly.wset k (.int (val fv f))])) (nmL np) (rs.x np fv f k) (yR np fv f k)
  && evFl P ((E0.know [yR np fv f k]).tab (tIn b k c ++ [g6 k (val fv f), lt8 k])) 100000 cx none 1 lp (inv np) [] (subs (vs 5 ++ [ly.wset k (.int (val fv f)), .v 6, .v 7, setD k, nxt])) (nmI np) .normal (inv np)
noncomputable def chk1 (np : Nat) (b fv : Int) (k : Nat) : Bool := chkV np b fv true 0 k
noncomputable def chk3 (np : Nat) (b fv : Int) (k : Nat) : Bool := chkV np b fv false 2 k
noncomputable def chk2 (np : Nat) (b : Int) (k : Nat) : Bool := usesSo (tableNf []) G (subs (vs 6)) (nmL np) (rs.xG np k) (yG np k)
  && evFl P ((E0.know [yG np k]).tab (tIn b k 1)) 100000 cx none 1 lp (inv np) [] (subs (vs 9 ++ [nxt])) (nmI np) .normal (inv np)
def tO0 : List (Tm × Tm) := inC ++ [(.op (.bin .lss .i64) [callT, .int 0], .bool true)]
def tO1 : List (Tm × Tm) := inC ++ [(.op (.bin .lss .i64) [callT, .int 0], .bool false), (.op (.bin .geq .i64) [callT, lenV], .bool true)]
noncomputable def chkO (np : Nat) (t : List (Tm × Tm)) : Bool := evFl P ((E0.know [yO np]).tab t) 100000 cx none 1 lp (inv np) [] (subs (vs 9 ++ [nxt])) (nmI np) .normal (inv np)
noncomputable def chkX (np : Nat) (t : List (Tm × Tm)) : Bool := evFl P (E0.tab t) 100000 cx none 1 lp (inv np) [] (subs (vs 10)) (nmI np) (.exit 0) (inv np)
noncomputable def chkN (np : Nat) : Bool := usesSo (tableNf []) G (subs (vs 6 ++ [callT])) (nmL np) (rs.xO np) (yO np) && chkO np tO0 && chkO np tO1 && chkX np [ltC false] && chkX np [ltC true, lt20 false]
noncomputable def chkF (np : Nat) : Bool := evFl P (E0.tab []) 100000 cx none 1 (L11.take 1) (inv np) [] (subs (vs 10)) (nmF np) .normal (inv2 np 0)
def eight (k : Nat) : Tm := .op .nth [.v 8, .int k]
def word5 (k : Nat) : Tm := .op .nth [.v 5, .int k]
def refE (k : Nat) : Tm := .op (.bin .add .u64) [.op (.bin .add .u64) [.int 0x10000000000, .op (.bin .mul .u64) [.int 2048, .op (.conv .u64) [.v 1]]], .int (8 * (k : Int))]
def tG (b : Int) (k : Nat) (d : Bool) : List (Tm × Tm) := [ly.atT k b, ly.lenT k true, (.op (.bin .lss .i64) [.v 1, .int 0], .bool false), (.op (.bin .gtr .i64) [.v 1, .int 0x40000000], .bool false), (get1 (word5 k) 8, word5 k), lt8 k, (eight k, .bool d), (.op .not [eight k], .bool (!d)), (.op (.bin .neq .u64) [word5 k, ly.entT k], .bool d), (.op (.bin .neq .i64) [word5 k, ly.entT k], .bool d), (.op (.bin .neq .u64) [word5 k, refE k], .bool d), (.op (.bin .neq .i64) [word5 k, refE k], .bool d)]
noncomputable def chkG (np : Nat) (b : Int) (d : Bool) (k : Nat) : Bool := evFl P (E0.tab (tG b k d)) 100000 cx none 1 lp2 (inv2 np k) [] (subs (vs 10)) (nmF np) .normal (inv2 np (k + 1))
noncomputable def chkH (np k : Nat) : Bool := evFl P (E0.tab [ly.lenT k false]) 100000 cx none 1 lp2 (inv2 np k) [] (subs (vs 10)) [] (.exit 2) fin0
end ls
end lz
end Go.Proofs.YtjmjbjnbfodalaaGreat
