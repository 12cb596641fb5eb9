/- reloc.Apply of slots, lazy.Lay of slots that are laid at once, lazy.Resolve: closed checks of their pieces. No condition. -/
import Derived.Test.YtjmjbjnbfodalaaGreatLzLayK
set_option linter.unusedSimpArgs false
set_option linter.unusedVariables false
set_option linter.unusedSectionVars false
set_option maxRecDepth 1000000
namespace Go.Proofs.YtjmjbjnbfodalaaGreat
open Go.Tc
namespace lz
def val (fv : Int) (f : Bool) : Int := if f then 65536 + fv else 0
def byV (v j i : Nat) : AV := .sy (.int .u8) (.op .byte [.op (.conv .u8) [.op (.shift .shr .u64) [.op .nth [.v v, .int j], .int (8 * i : Nat)]]])
def cellsV (v : Nat) : List AV := (List.range 12).flatMap fun j => (List.range 8).map fun i => byV v j i
def pageV (np v : Nat) : Nat × AObj := (13 + np, .row (.int .i64 4 :: cellsV v ++ List.replicate 160 (.int .u8 0)) 131 .solid)
def spaceV (np v : Nat) : List (Nat × AObj) := (10, .row [.map 11, .slice 12 0 1 (.opn 2), .int .i64 40] 122 .solid) :: (11, .map ((List.range np).map entE) np) :: (12, .row [.int .u64 65536, .int .u64 (65536 + 256 * np : Nat)] 96 (.buf 0 false)) :: (List.range (np - 1)).map pageE ++ [pageV np v]
def elK (k : Nat) : Tm := .op .nth [.v 2, .int k]
def fl (k i : Nat) (t : Tm) : Tm × Tm := (.op (.fld i) [elK k], t)
namespace ap
end ap
namespace lo
def x (np : Nat) : Fact := ⟨16, [.ptr 10 0, .agg membE, lE, .bool false], 19, boundE :: spaceE np, .agg fault, boundE :: spaceW np, 20⟩
end lo
namespace rs
noncomputable def fn : Func := Tryz.f18
noncomputable def cd : Code := match fn.body with | some c => c | none => .skip
noncomputable def cx : Ctx := cxOf P fn cd 4
noncomputable def L : List Code := flat cd
theorem func : P.funcs[18]? = some fn := Tryz.func18
theorem body : fn.body = some cd := by kernel_rfl
def objs (np v : Nat) : List (Nat × AObj) := [obOE, obSE, boundE] ++ spaceV np v
def fltG : List AV := [.int .i64 20, wz, .str ⟨1, 103⟩]
def fltA : List AV := [.int .i64 1, wz, se]
def x (np : Nat) (fv : Int) (f : Bool) (k : Nat) : Fact := ⟨18, [.ptr 10 0, .agg membE, lE, .int .i64 k], 19, objs np 5, .tuple [.int .u64 (val fv f), .agg fault], objs np 6, 20⟩
def xG (np k : Nat) : Fact := ⟨18, [.ptr 10 0, .agg membE, lE, .int .i64 k], 19, objs np 5, .tuple [wz, .agg fltG], objs np 5, 20⟩
def xO (np : Nat) : Fact := ⟨18, [.ptr 10 0, .agg membE, lE, bi (.v 6)], 19, objs np 5, .tuple [wz, .agg fltA], objs np 5, 20⟩
def fin (np v : Nat) (n : Int) (flt : List AV) : St := { vars := [(8, .int .u64 n), (9, .ptr 19 0)], loc := [], marks := [], objs := objs np v ++ [(19, .row flt 43 .solid)], next := 20 }
def t0 (b : Int) (k : Nat) (c : Int) : List (Tm × Tm) := [ly.atT k b, ly.lenT k true, (.op .not [.op (.bin .lss .i64) [.int k, .op .len [.v 2]]], .bool false), (.op (.bin .leq .i64) [.int ((k + 1 : Nat) : Int), .op .len [.v 2]], .bool true), fl k 1 (.int 5), fl k 2 (.int c), fl k 3 (.int 0)]
def t1 (b fv : Int) (k : Nat) : List (Tm × Tm) := t0 b k 1 ++ [fl k 6 (.int (65536 + fv)), fl k 7 (.bool true)]
def t2 (b : Int) (k : Nat) (c : Int) : List (Tm × Tm) := t0 b k c ++ [fl k 7 (.bool false)]
noncomputable def chk1 (np : Nat) (b fv : Int) (k : Nat) : Bool := evFl P (E0.tab (t1 b fv k)) 100000 cx none 19 L (startSt (x np fv true k)) [] (subs (ly.five ++ [.v 5, ly.wset k (.int (val fv true))])) [(19, 20)] .ret (fin np 6 (val fv true) fault)
noncomputable def chk3 (np : Nat) (b fv : Int) (k : Nat) : Bool := evFl P (E0.tab (t2 b k 3)) 100000 cx none 19 L (startSt (x np fv false k)) [] (subs (ly.five ++ [.v 5, ly.wset k (.int (val fv false))])) [(19, 20)] .ret (fin np 6 (val fv false) fault)
noncomputable def chk2 (np : Nat) (b fv : Int) (k : Nat) : Bool := evFl P (E0.tab (t2 b k 2)) 100000 cx none 19 L (startSt (xG np k)) [] (subs (ly.five ++ [.v 5])) [(19, 20)] .ret (fin np 5 0 fltG)
noncomputable def chkO (np : Nat) (t : List (Tm × Tm)) : Bool := evFl P (E0.tab t) 100000 cx none 19 L (startSt (xO np)) [] (subs (ly.five ++ [.v 5, .v 6])) [(19, 20)] .ret (fin np 5 0 fltA)
def oT0 : List (Tm × Tm) := [(.op (.bin .geq .i64) [.v 6, .int 0], .bool false)]
def oT1 : List (Tm × Tm) := [(.op (.bin .geq .i64) [.v 6, .int 0], .bool true), (.op .not [.op (.bin .lss .i64) [.v 6, .op .len [.v 2]]], .bool true)]
noncomputable def chkE (np : Nat) (fv : Int) (k : Nat) : Bool := endsSo P E0 cx fn (x np fv true k) (fin np 6 (val fv true) fault) && endsSo P E0 cx fn (x np fv false k) (fin np 6 (val fv false) fault) && endsSo P E0 cx fn (xG np k) (fin np 5 0 fltG)
noncomputable def chkN (np : Nat) : Bool := chkO np oT0 && chkO np oT1 && endsSo P E0 cx fn (xO np) (fin np 5 0 fltA)
theorem n4 : chkN 4 = true := by kernel_rfl
theorem n5 : chkN 5 = true := by kernel_rfl
theorem e4 : seg (chkE 4 260) 0 5 = true := by kernel_rfl
theorem c1_4_0 : seg (chk1 4 768 260) 0 4 = true := by kernel_rfl
theorem c2_4_0 : seg (chk2 4 768 260) 0 4 = true := by kernel_rfl
theorem c3_4_0 : seg (chk3 4 768 260) 0 4 = true := by kernel_rfl
theorem c1_4_4 : seg (chk1 4 768 260) 4 1 = true := by kernel_rfl
theorem c2_4_4 : seg (chk2 4 768 260) 4 1 = true := by kernel_rfl
theorem c3_4_4 : seg (chk3 4 768 260) 4 1 = true := by kernel_rfl
theorem e5 : seg (chkE 5 516) 0 12 = true := by kernel_rfl
theorem c1_5_0 : seg (chk1 5 1024 516) 0 4 = true := by kernel_rfl
theorem c2_5_0 : seg (chk2 5 1024 516) 0 4 = true := by kernel_rfl
theorem c3_5_0 : seg (chk3 5 1024 516) 0 4 = true := by kernel_rfl
theorem c1_5_4 : seg (chk1 5 1024 516) 4 4 = true := by kernel_rfl
theorem c2_5_4 : seg (chk2 5 1024 516) 4 4 = true := by kernel_rfl
theorem c3_5_4 : seg (chk3 5 1024 516) 4 4 = true := by kernel_rfl
theorem c1_5_8 : seg (chk1 5 1024 516) 8 4 = true := by kernel_rfl
theorem c2_5_8 : seg (chk2 5 1024 516) 8 4 = true := by kernel_rfl
theorem c3_5_8 : seg (chk3 5 1024 516) 8 4 = true := by kernel_rfl
end rs
end lz
end Go.Proofs.YtjmjbjnbfodalaaGreat
