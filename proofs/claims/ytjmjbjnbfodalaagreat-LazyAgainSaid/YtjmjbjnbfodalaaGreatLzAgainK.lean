/- Copy and Same of a space, and the law LazyAgain: closed checks. No condition. -/
import Derived.Test.YtjmjbjnbfodalaaGreatLzSortK
import Derived.Test.YtjmjbjnbfodalaaGreatLzLawK
set_option linter.unusedSimpArgs false
set_option linter.unusedVariables false
set_option linter.unusedSectionVars false
set_option maxRecDepth 1000000
namespace Go.Proofs.YtjmjbjnbfodalaaGreat
open Go.Tc
namespace lz
def up10 (b : Nat) : Nat := b + 10
def cp (np v : Nat) : List (Nat × AObj) := (spaceV np v).map fun p => (p.1 + 10, p.2.inst Tm.v up10)
def byE (v j i : Nat) : Tm := .op .byte [.op (.conv .u8) [.op (.shift .shr .u64) [.op .nth [.v v, .int j], .int (8 * i : Nat)]]]
def eqR (a b : Nat) : List (Tm × Tm) := (List.range 12).flatMap fun j => (List.range 8).map fun i => (.op (.bin .eql .i64) [byE a j i, byE b j i], .bool true)
def pgs (np d : Nat) : List (Nat × Nat) := (List.range np).map fun i => (14 + i, 14 + i + d)
namespace cy
noncomputable def fn : Func := Tryz.f23
noncomputable def cd : Code := match fn.body with | some c => c | none => .skip
noncomputable def cx : Ctx := cxOf P fn cd 1
noncomputable def L : List Code := flat cd
theorem func : P.funcs[23]? = some fn := Tryz.func23
theorem body : fn.body = some cd := by kernel_rfl
def x (np : Nat) : Fact := ⟨23, [.ptr 10 0], 19, spaceV np 0, .ptr 20 0, spaceV np 0 ++ cp np 0, 30⟩
def ρ (k : Nat) : Nat := if k = 20 then 26 else if k = 21 then 27 else k
def y (np : Nat) : Fact := ren .v ρ 27 (so.st.x np)
def fin (np : Nat) : St := { vars := [(2, .ptr 20 0)], loc := [], marks := [29], objs := spaceV np 0 ++ cp np 0 ++ [(29, .dfr true)], next := 30 }
noncomputable def chkU (np : Nat) : Bool := usesSo (tableNf []) G (subs []) ((20, 26) :: (11, 11) :: pgs np 0) (so.st.x np) (y np)
noncomputable def chk (np : Nat) (nm : List (Nat × Nat)) : Bool := evFl P ((EC.know [y np]).tab []) 100000 cx none 19 L (startSt (x np)) [] (subs [.v 0]) nm .ret (fin np) && endsSo P EC cx fn (x np) (fin np)
theorem u4 : chkU 4 = true := by kernel_rfl
theorem u5 : chkU 5 = true := by kernel_rfl
theorem k4 : chk 4 [(20, 21), (21, 20), (22, 295), (24, 29), (25, 73), (26, 152), (27, 231), (29, 24)] = true := by kernel_rfl
theorem k5 : chk 5 [(20, 21), (21, 20), (22, 374), (24, 29), (25, 73), (26, 152), (27, 231), (28, 310), (29, 24)] = true := by kernel_rfl
end cy
namespace sm
noncomputable def fn : Func := Tryz.f24
noncomputable def cd : Code := match fn.body with | some c => c | none => .skip
noncomputable def cx : Ctx := cxOf P fn cd 2
noncomputable def L : List Code := flat cd
theorem func : P.funcs[24]? = some fn := Tryz.func24
theorem body : fn.body = some cd := by kernel_rfl
def x (np : Nat) : Fact := ⟨24, [.ptr 20 0, .ptr 10 0], 30, spaceV np 1 ++ cp np 0, .bool true, spaceV np 1 ++ cp np 0, 32⟩
def ρ (k : Nat) : Nat := if k = 20 then 55 else if k = 21 then 56 else k + 10
def y (np : Nat) : Fact := ren .v ρ 56 (so.st.x np)
def fin (np : Nat) : St := { vars := [(4, .ptr 30 0)], loc := [], marks := [31], objs := spaceV np 1 ++ cp np 0 ++ [(30, .row [.bool true] 4 .solid), (31, .dfr true)], next := 32 }
noncomputable def chkU (np : Nat) : Bool := usesSo (tableNf []) G (subs []) ((20, 55) :: (11, 21) :: pgs np 10) (so.st.x np) (y np)
noncomputable def chk (np : Nat) : Bool := evFl P ((EC.know [y np]).tab (eqR 1 0)) 100000 cx none 30 L (startSt (x np)) [] (subs [.v 0, .v 1]) [(30, 32), (31, 53)] .ret (fin np) && endsSo P EC cx fn (x np) (fin np)
theorem u4 : chkU 4 = true := by kernel_rfl
theorem u5 : chkU 5 = true := by kernel_rfl
theorem k4 : chk 4 = true := by kernel_rfl
theorem k5 : chk 5 = true := by kernel_rfl
end sm
namespace la
noncomputable def fn : Func := Tryz.f6
noncomputable def cd : Code := match fn.body with | some c => c | none => .skip
noncomputable def cx : Ctx := cxOf P fn cd 3
noncomputable def L : List Code := flat cd
theorem func : P.funcs[6]? = some fn := Tryz.func6
theorem body : fn.body = some cd := by kernel_rfl
noncomputable def L4 : List Code := L.drop 4
noncomputable def L5 : List Code := L4.drop 1
noncomputable def L7 : List Code := L5.drop 2
noncomputable def L9 : List Code := L7.drop 2
noncomputable def L10 : List Code := L9.drop 1
noncomputable def L11 : List Code := L10.drop 1
noncomputable def L12 : List Code := L11.drop 1
noncomputable def L13 : List Code := L12.drop 1
noncomputable def L14 : List Code := L13.drop 1
noncomputable def L17 : List Code := L14.drop 3
noncomputable def L18 : List Code := L.drop 18
noncomputable def bd : Code := inLoop (inBlock (L.getD 17 .skip))
noncomputable def lp : List Code := flat bd
theorem at17 : L17 = .block 0 (.loop bd) :: L18 := by kernel_rfl
def x : Fact := ⟨6, [iarr (.v 0), bi (.v 1), bi (.v 2)], 1, [], .bool true, [], 1⟩
def mem : Nat × AObj := (13, .row membE 50 .solid)
def vA : List (Nat × AV) := [(0, iarr (.v 0)), (1, bi (.v 1)), (2, bi (.v 7)), (6, .bool false)]
def sA : St := { vars := vA, loc := [], marks := [], objs := [], next := 1 }
def vB : List (Nat × AV) := [(2, bi (.v 7)), (6, .bool false), (7, .ptr 10 0), (8, .ptr 13 0), (9, lE), (10, .bool true)]
def sB (np : Nat) : St := { vars := vB, loc := [], marks := [], objs := objsE np ++ [mem], next := 19 }
def tL (np v : Nat) : List (Nat × AObj) := [obOE, obSE, boundE] ++ spaceV np v ++ [mem]
def vL : List (Nat × AV) := [(2, bi (.v 7)), (6, .bool false), (7, .ptr 10 0), (8, .ptr 13 0), (9, lE)]
def sL (np : Nat) : St := { vars := vL, loc := [], marks := [], objs := tL np 5, next := 19 }
def vK (k : Nat) : List (Nat × AV) := [(6, .bool false), (7, .ptr 10 0), (8, .ptr 13 0), (9, lE), (11, .int .i64 k)]
def sK (np k : Nat) : St := { vars := vK k, loc := [], marks := [], objs := tL np 5, next := 19 }
def sF (np k : Nat) : St := { vars := vK k ++ [(12, .ptr 20 0)], loc := [], marks := [], objs := tL np 5 ++ cp np 5, next := 30 }
def sG (np k : Nat) (x : Int) (flt : List AV) : St := { vars := vK k ++ [(12, .ptr 20 0), (13, .int .u64 x), (14, .ptr 30 0)], loc := [], marks := [], objs := tL np 6 ++ cp np 5 ++ [(30, .row flt 43 .solid)], next := 31 }
def at12 (b : Nat) : Nat := if b < 20 then b else b + 12
def cp2 (np v : Nat) : List (Nat × AObj) := (cp np v).map fun p => (at12 p.1, p.2.inst Tm.v at12)
def sH (np k : Nat) (x : Int) (flt : List AV) : St := { vars := vK k ++ [(12, .ptr 20 0), (13, .int .u64 x), (14, .ptr 30 0), (15, .ptr 32 0)], loc := [], marks := [], objs := tL np 6 ++ cp np 5 ++ (30, .row flt 43 .solid) :: cp2 np 6, next := 42 }
def sI (np k : Nat) (x : Int) (flt : List AV) : St := { vars := vK k ++ [(12, .ptr 20 0), (13, .int .u64 x), (14, .ptr 30 0), (15, .ptr 32 0), (16, .int .u64 x), (17, .ptr 42 0)], loc := [], marks := [], objs := tL np 6 ++ cp np 5 ++ (30, .row flt 43 .solid) :: cp2 np 6 ++ [(42, .row flt 43 .solid)], next := 43 }
def vJ (x : Int) (i : Nat) : List (Nat × AV) := [(6, .bool false), (7, .ptr 10 0), (8, .ptr 13 0), (9, lE), (11, bi (.v 8)), (12, .ptr 20 0), (13, .int .u64 x), (14, .ptr 30 0), (18, .int .i64 i)]
def sJ (np : Nat) (x : Int) (flt : List AV) (i : Nat) : St := { vars := vJ x i, loc := [], marks := [], objs := boundE :: spaceV np 6 ++ mem :: cp np 5 ++ [(30, .row flt 43 .solid)], next := 31 }
def fin0 : St := { vars := [], loc := [], marks := [], objs := [], next := 1 }
def fin : St := { vars := [(6, .bool true)], loc := [], marks := [], objs := [], next := 1 }
def y3 (np : Nat) : Fact := ren .v id 19 (xL np)
def cA (np : Nat) : Fact := ren (fun _ => .v 5) id 19 (cy.x np)
def cB (np : Nat) : Fact := ren (fun _ => .v 6) at12 31 (cy.x np)
def sR (k : Nat) (x : Int) (i : Nat) : Tm := if i = 6 then ly.wset k (.int x) else .v i
def zR (np : Nat) (fv : Int) (f : Bool) (k : Nat) : Fact := ren (sR k (val fv f)) id 30 (rs.x np fv f k)
def zG (np k : Nat) : Fact := ren .v id 30 (rs.xG np k)
def s66 (i : Nat) : Tm := if i = 5 then .v 6 else .v i
def zR2 (np : Nat) (fv : Int) (f : Bool) (k : Nat) : Fact := ren s66 id 42 (rs.x np fv f k)
def zG2 (np k : Nat) : Fact := ren s66 id 42 (rs.xG np k)
def mA (np : Nat) : Fact := ren (fun _ => .v 6) at12 43 (sm.x np)
def mB (np : Nat) : Fact := ren (fun i => if i = 0 then .v 5 else .v 6) id 46 (sm.x np)
def vs (n : Nat) : List Tm := (List.range n).map Tm.v
def idT : Tm := .op (.bin .and .i64) [.v 1, .int 65535]
def nmB (np : Nat) : List (Nat × Nat) := (13, 19) :: lows ++ pgs np 0
def nmL (np : Nat) : List (Nat × Nat) := lows ++ pgs np 0
def nmM (np : Nat) : List (Nat × Nat) := (13, 13) :: nmL np
def nmC (np d : Nat) : List (Nat × Nat) := ([20, 21, 22] ++ (List.range np).map fun i => 24 + i).map fun b => (b + d, b + d)
theorem kA (g2 g3 g4 g5 g6 : Tm) : evFl P ((E0.know [ls.spk]).tab []) 100000 cx none 1 (L.take 4) (startSt x) [] (subs [.v 0, idT, g2, g3, g4, g5, g6, .v 2]) [] .normal sA = true := by kernel_rfl
def lenV : Tm := .op .len [.v 2]
noncomputable def chkB (np : Nat) : Bool := usesSo (tableNf []) G (subs (vs 5)) [] (xM np) (xM np) && evFl P ((E0.know [xM np]).tab []) 100000 cx none 1 (L4.take 1) sA [] (subs (vs 8)) (nmB np) .normal (sB np)
noncomputable def chkC (np : Nat) : Bool := usesSo (tableNf []) G (subs (vs 6)) (nmL np) (xL np) (y3 np) && evFl P ((E0.know [y3 np]).tab []) 100000 cx none 1 (L5.take 2) (sB np) [] (subs (vs 8)) (nmM np) .normal (sL np)
noncomputable def chkD (np : Nat) : Bool := evFl P (E0.tab [(.op (.bin .eql .i64) [lenV, .int 0], .bool false)]) 100000 cx none 1 (L7.take 2) (sL np) [] (subs (vs 8)) (nmM np) .normal (sL np)
def kT (k : Nat) : List (Tm × Tm) := [(.op (.bin .neq .i64) [lenV, .int 0], .bool true), (.op (.bin .rem .i64) [.op (.bin .add .i64) [.op (.bin .rem .i64) [.v 7, lenV], lenV], lenV], .int k)]
noncomputable def chkE (np k : Nat) : Bool := evFl P (E0.tab (kT k)) 100000 cx none 1 (L9.take 1) (sL np) [] (subs (vs 8)) (nmM np) .normal (sK np k)
noncomputable def chkF (np k : Nat) : Bool := evFl P ((E0.know [cA np]).tab []) 100000 cx none 1 (L10.take 1) (sK np k) [] (subs (vs 8)) (nmM np ++ nmC np 0) .normal (sF np k)
noncomputable def chkFu (np : Nat) : Bool := usesSo (tableNf []) G (subs [.v 5]) (nmL np) (cy.x np) (cA np) && usesSo (tableNf []) G (subs [.v 6]) (nmL np) (cy.x np) (cB np)
  && usesSo (tableNf []) G (subs [.v 6, .v 6]) (nmL np ++ (nmC np 0).map fun p => (p.1, p.2 + 12)) (sm.x np) (mA np) && usesSo (tableNf []) G (subs [.v 5, .v 6]) (nmL np ++ nmC np 0) (sm.x np) (mB np)
noncomputable def chkGR (np : Nat) (fv : Int) (f : Bool) (k : Nat) : Bool := usesSo (tableNf []) G (subs (vs 6 ++ [ly.wset k (.int (val fv f))])) (nmL np) (rs.x np fv f k) (zR np fv f k)
  && evFl P ((E0.know [zR np fv f k]).tab []) 100000 cx none 1 (L11.take 1) (sF np k) [] (subs (vs 6 ++ [ly.wset k (.int (val fv f)), .v 7])) ((30, 31) :: nmM np ++ nmC np 0) .normal (sG np k (val fv f) fault)
noncomputable def chkGG (np k : Nat) : Bool := usesSo (tableNf []) G (subs (vs 6)) (nmL np) (rs.xG np k) (zG np k)
  && evFl P ((E0.know [zG np k]).tab []) 100000 cx none 1 (L11.take 1) (sF np k) [] (subs (vs 6 ++ [.v 5, .v 7])) ((30, 31) :: nmM np ++ nmC np 0) .normal (sG np k 0 rs.fltG)
noncomputable def chkH (np k : Nat) (x : Int) (flt : List AV) : Bool := evFl P ((E0.know [cB np]).tab []) 100000 cx none 1 (L12.take 1) (sG np k x flt) [] (subs (vs 8)) ((30, 30) :: nmM np ++ nmC np 0 ++ nmC np 12) .normal (sH np k x flt)
noncomputable def chkIR (np : Nat) (fv : Int) (f : Bool) (k : Nat) : Bool := usesSo (tableNf []) G (subs (vs 5 ++ [.v 6, .v 6])) (nmL np) (rs.x np fv f k) (zR2 np fv f k)
  && evFl P ((E0.know [zR2 np fv f k]).tab []) 100000 cx none 1 (L13.take 1) (sH np k (val fv f) fault) [] (subs (vs 8)) ((42, 43) :: (30, 30) :: nmM np ++ nmC np 0 ++ nmC np 12) .normal (sI np k (val fv f) fault)
noncomputable def chkIG (np k : Nat) : Bool := usesSo (tableNf []) G (subs (vs 5 ++ [.v 6])) (nmL np) (rs.xG np k) (zG2 np k)
  && evFl P ((E0.know [zG2 np k]).tab []) 100000 cx none 1 (L13.take 1) (sH np k 0 rs.fltG) [] (subs (vs 8)) ((42, 43) :: (30, 30) :: nmM np ++ nmC np 0 ++ nmC np 12) .normal (sI np k 0 rs.fltG)
noncomputable def chkJ (l : List Fact) (np k : Nat) (x : Int) (flt : List AV) : Bool := evFl P ((E0.know l).tab []) 100000 cx none 1 (L14.take 3) (sI np k x flt) [] (subs (vs 8 ++ [.int k])) ((30, 30) :: nmM np ++ nmC np 0) .normal (sJ np x flt 0)
noncomputable def chkR (np : Nat) (fv : Int) (f : Bool) (k : Nat) : Bool := chkGR np fv f k && chkH np k (val fv f) fault && chkIR np fv f k && chkJ [mA np] np k (val fv f) fault
noncomputable def chkG (np k : Nat) : Bool := chkGG np k && chkH np k 0 rs.fltG && chkIG np k && chkJ [mA np, mB np] np k 0 rs.fltG
noncomputable def chkK (np k : Nat) : Bool := chkE np k && chkF np k
def hole8 (v i : Nat) : Tm := .op (.hole [0, 1, 2, 3, 4, 5, 6, 7]) (.str ⟨8, 0⟩ :: (List.range 8).map fun j => byE v i j)
def neT (i : Nat) : Tm × Tm := (.op (.sbin .neq) [hole8 5 i, hole8 6 i], .bool false)
def isT (i : Nat) (b : Bool) : List (Tm × Tm) := [(.op (.bin .neq .i64) [.int i, .v 8], .bool !b), (.op (.bin .eql .i64) [.int i, .v 8], .bool b)]
def tI (b : Int) (i : Nat) (e : Bool) : List (Tm × Tm) := ly.atT i b :: ly.lenT i true :: isT i e
noncomputable def chkN (np : Nat) (b x : Int) (flt : List AV) (i : Nat) : Bool := evFl P (E0.tab (neT i :: tI b i false)) 100000 cx none 1 lp (sJ np x flt i) [] (subs (vs 9)) ((30, 30) :: nmM np ++ nmC np 0) .normal (sJ np x flt (i + 1))
noncomputable def chkQ (np : Nat) (b x : Int) (flt : List AV) (i : Nat) : Bool := evFl P (E0.tab ((get1 (.op .nth [.v 6, .int i]) 8, .int x) :: tI b i true)) 100000 cx none 1 lp (sJ np x flt i) [] (subs (vs 9)) ((30, 30) :: nmM np ++ nmC np 0) .normal (sJ np x flt (i + 1))
noncomputable def chkM (np : Nat) (b : Int) (i : Nat) : Bool := evFl P (E0.tab (tI b i true)) 100000 cx none 1 lp (sJ np 0 rs.fltG i) [] (subs (vs 9)) ((30, 30) :: nmM np ++ nmC np 0) .normal (sJ np 0 rs.fltG (i + 1))
noncomputable def chkX (np : Nat) (x : Int) (flt : List AV) (i : Nat) : Bool := evFl P (E0.tab [ly.lenT i false]) 100000 cx none 1 lp (sJ np x flt i) [] (subs (vs 9)) [] (.exit 0) fin0
theorem kZ (g : Tm) : evFl P (E0.tab []) 100000 cx none 1 L18 fin0 [] (subs [.v 0, g, .v 7]) [] .ret fin = true := by kernel_rfl
theorem kE : endsSo P E0 cx fn x fin = true := by kernel_rfl
theorem b4 : (chkB 4 && chkC 4 && chkD 4 && chkFu 4) = true := by kernel_rfl
theorem xt4 : seg (chkX 4 65796 fault) 0 6 = true := by kernel_rfl
theorem xf4 : seg (chkX 4 0 fault) 0 6 = true := by kernel_rfl
theorem xg4 : seg (chkX 4 0 rs.fltG) 0 6 = true := by kernel_rfl
theorem b5 : (chkB 5 && chkC 5 && chkD 5 && chkFu 5) = true := by kernel_rfl
theorem xt5 : seg (chkX 5 66052 fault) 0 13 = true := by kernel_rfl
theorem xf5 : seg (chkX 5 0 fault) 0 13 = true := by kernel_rfl
theorem xg5 : seg (chkX 5 0 rs.fltG) 0 13 = true := by kernel_rfl
end la
end lz
end Go.Proofs.YtjmjbjnbfodalaaGreat
