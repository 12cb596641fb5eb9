/- the law ImageWords: closed checks of its pieces, of the loops' rounds. No condition. -/
import Derived.Test.YtjmjbjnbfodalaaGreatWordsK
set_option linter.unusedSimpArgs false
set_option linter.unusedVariables false
set_option linter.unusedSectionVars false
set_option maxRecDepth 100000
namespace Go.Proofs.YtjmjbjnbfodalaaGreat
open Go.Tc
namespace iw
namespace wd
-- image.Words. 0: the page's words; 1: hi; 2: nothing; 3: the words that are told
noncomputable def fn : Func := Tryz.f13
noncomputable def cd : Code := match fn.body with | some c => c | none => .skip
noncomputable def cx : Ctx := cxOf P fn cd 3
noncomputable def L : List Code := flat cd
noncomputable def rf : Code := inBlock (L.getD 3 .skip)
theorem func : P.funcs[13]? = some fn := Tryz.func13
theorem body : fn.body = some cd := by kernel_rfl
theorem at3 : L.drop 3 = .block 0 rf :: L.drop 4 := by kernel_rfl
theorem rf_eq : rf = .rangeFunc (.tmp 15) (codeAt P 13 [1, 1, 0, 1, 2]).params (codeAt P 13 [1, 1, 0, 1, 2]).assign (codeAt P 13 [1, 1, 0, 1, 2]).body := by kernel_rfl
def x (a : Nat) : Fact := ⟨13, [.ptr 2 0, at_ a, u64 (.v 1)], 5, space 0, .tuple [isl (.v 3), .int .i64 0], [], 11⟩
def xb (a : Nat) : Fact := ⟨13, [.ptr 2 0, at_ a, u64 (.v 1)], 5, space 0, .tuple [.nilSlice, .int .i64 9], [], 11⟩
def σ2 (a : Nat) : St := { vars := [(3, .ptr 5 0), (6, .ptr 6 0), (7, .ptr 7 0), (8, .ptr 8 0)], loc := [(15, .fn (.func 71) [] [.ptr 9 0])], marks := [], objs := space 0 ++ around_ .nilSlice (at_ a), next := 10 }
def ypre (a : Nat) : List (Nat × AObj) := space 0 ++ around_ .nilSlice (at_ a) ++ [(11, .loop ⟨.ready, none, ⟨69583, 34, 1⟩, ⟨[(3, .ptr 5 0), (6, .ptr 6 0), (7, .ptr 7 0), (8, .ptr 8 0)], [(15, .fn (.func 71) [] [.ptr 9 0])]⟩, .at_ 13 [1, 1, 0, 1, 2], 10⟩)]
def y (a : Nat) : Fact := ⟨71, sargs, 12, ypre a, .tuple [], okS, 12⟩
def yb (a : Nat) : Fact := ⟨71, sargs, 12, ypre a, .tuple [], badS, 12⟩
def four : List Tm := [.v 0, .v 1, .v 2, .v 3]
def nm : List (Nat × Nat) := [(1, 1), (2, 2), (3, 3), (4, 4), (5, 5), (6, 6), (7, 7), (8, 8), (9, 9), (10, 10), (11, 11)]
def chkU (a : Nat) : Bool := usesSo (tableNf []) G (subs four) nm (xs a) (y a) && usesSo (tableNf []) G (subs four) nm (iw.xb a) (yb a)
theorem kU_0 : seg chkU 0 32 = true := by kernel_rfl
theorem kU_1 : seg chkU 32 32 = true := by kernel_rfl
theorem kU_2 : seg chkU 64 32 = true := by kernel_rfl
theorem kU_3 : seg chkU 96 32 = true := by kernel_rfl
theorem kU (k : Nat) (hk : k < 128) : chkU k = true := segs4 (n := 32) kU_0 kU_1 kU_2 kU_3 k hk
def n5 : List (Nat × Nat) := [(5, 5), (6, 6), (7, 7), (8, 8), (9, 9)]
noncomputable def chkA (a : Nat) : Bool := evFl P (E0.tab []) 100000 cx none 5 (L.take 3) (startSt (x a)) [] (subs four) n5 .normal (σ2 a) && evFl P (E0.tab []) 100000 cx none 5 (L.take 3) (startSt (xb a)) [] (subs four) n5 .normal (σ2 a)
theorem kA_0 : seg chkA 0 32 = true := by kernel_rfl
theorem kA_1 : seg chkA 32 32 = true := by kernel_rfl
theorem kA_2 : seg chkA 64 32 = true := by kernel_rfl
theorem kA_3 : seg chkA 96 32 = true := by kernel_rfl
theorem kA (k : Nat) (hk : k < 128) : chkA k = true := segs4 (n := 32) kA_0 kA_1 kA_2 kA_3 k hk
def mid : St := { vars := [(6, .ptr 6 0), (7, .ptr 7 0), (8, .ptr 8 0)], loc := [], marks := [10], objs := [(6, row1 .nilSlice 36), (7, row1 (.int .i64 0) 38), (8, row1 (isl (.v 3)) 36), (10, .dfr true)], next := 11 }
def fin : St := { vars := [(6, .ptr 6 0), (7, .ptr 7 0)], loc := [], marks := [10], objs := [(6, row1 (isl (.v 3)) 36), (7, row1 (.int .i64 0) 38), (10, .dfr true)], next := 11 }
def finB : St := { vars := [(6, .ptr 6 0), (7, .ptr 7 0)], loc := [], marks := [10], objs := [(6, row1 .nilSlice 36), (7, row1 (.int .i64 9) 38), (10, .dfr true)], next := 11 }
noncomputable def chkR (a : Nat) : Bool := evRange P ((E0.know [y a]).tab []) 100000 cx none 5 (.tmp 15) (.at_ 13 [1, 1, 0, 1, 2]) (σ2 a) [] (subs four) [(6, 6), (7, 7), (8, 8), (10, 10)] .normal mid && evRange P ((E0.know [yb a]).tab []) 100000 cx none 5 (.tmp 15) (.at_ 13 [1, 1, 0, 1, 2]) (σ2 a) [] (subs four) [(6, 6), (7, 7), (10, 10)] .ret finB
theorem kR_0 : seg chkR 0 32 = true := by kernel_rfl
theorem kR_1 : seg chkR 32 32 = true := by kernel_rfl
theorem kR_2 : seg chkR 64 32 = true := by kernel_rfl
theorem kR_3 : seg chkR 96 32 = true := by kernel_rfl
theorem kR (k : Nat) (hk : k < 128) : chkR k = true := segs4 (n := 32) kR_0 kR_1 kR_2 kR_3 k hk
theorem kF : evFl P (E0.tab []) 100000 cx none 5 (L.drop 4) mid [] (subs four) [(6, 6), (7, 7), (10, 10)] .ret fin = true := by kernel_rfl
theorem endOk (a : Nat) : endsSo P E0 cx fn (x a) fin = true := by kernel_rfl
theorem endBad (a : Nat) : endsSo P E0 cx fn (xb a) finB = true := by kernel_rfl
end wd

-- the law
noncomputable def fn : Func := Tryz.f4
noncomputable def cd : Code := match fn.body with | some c => c | none => .skip
noncomputable def cx : Ctx := cxOf P fn cd 3
noncomputable def L : List Code := flat cd
noncomputable def bd : Code := inLoop (inBlock (L.getD 6 .skip))
noncomputable def lp : List Code := flat bd
noncomputable def bd2 : Code := inLoop (inBlock (L.getD 17 .skip))
noncomputable def lp2 : List Code := flat bd2
theorem func : P.funcs[4]? = some fn := Tryz.func4
theorem body : fn.body = some cd := by kernel_rfl
theorem at6 : L.drop 6 = .block 0 (.loop bd) :: L.drop 7 := by kernel_rfl
theorem at17 : (L.drop 9).drop 8 = .block 2 (.loop bd2) :: L.drop 18 := by kernel_rfl
def x : Fact := ⟨4, [isl (.v 0), u64 (.v 1), u64 (.v 2)], 1, [], .bool true, [], 1⟩
def spk : Fact := ⟨9, [], 1, [], .bool true, [], 4901⟩
def zeros : Tm := .op .mk (List.replicate 32 (.int 0))
theorem kA : evFl P ((E0.know [spk]).tab []) 100000 cx none 1 (L.take 6) (startSt x) [] (subs [.v 0, .v 1, .v 2, zeros]) [(2, 4902), (1, 4901), (3, 4986), (4, 4997)] .normal (inv 0) = true := by kernel_rfl
def T1 (b : Bool) (i : Nat) : List (Tm × Tm) := [(.op (.bin .lss .i64) [.int (i : Int), .op .len [.v 0]], .bool b)]
def upd (i : Nat) : Tm := .op .mk ((List.range 32).map fun (k : Nat) => if k = i then .op .nth [.v 0, .int (i : Int)] else .op .nth [.v 3, .int (k : Int)])
def nm4 : List (Nat × Nat) := [(1, 1), (2, 2), (3, 3), (4, 4)]
noncomputable def chkL (i : Nat) : Bool := evFl P (E0.tab (T1 true i)) 100000 cx none 1 lp (inv i) [] (subs [.v 0, .v 1, .v 2, upd i]) nm4 .normal (inv (i + 1))
theorem kL_0 : seg chkL 0 8 = true := by kernel_rfl
theorem kL_1 : seg chkL 8 8 = true := by kernel_rfl
theorem kL_2 : seg chkL 16 8 = true := by kernel_rfl
theorem kL_3 : seg chkL 24 8 = true := by kernel_rfl
theorem kL (k : Nat) (hk : k < 32) : chkL k = true := segs4 (n := 8) kL_0 kL_1 kL_2 kL_3 k hk
noncomputable def chkX (i : Nat) : Bool := evFl P (E0.tab (T1 false i)) 100000 cx none 1 lp (inv i) [] (subs [.v 0, .v 1, .v 2, .v 3]) nm4 (.exit 0) laid
theorem kX_0 : seg chkX 0 8 = true := by kernel_rfl
theorem kX_1 : seg chkX 8 8 = true := by kernel_rfl
theorem kX_2 : seg chkX 16 8 = true := by kernel_rfl
theorem kX_3 : seg chkX 24 8 = true := by kernel_rfl
theorem kX (k : Nat) (hk : k < 32) : chkX k = true := segs4 (n := 8) kX_0 kX_1 kX_2 kX_3 k hk
theorem kX32 (b : Bool) : evFl P (E0.tab (T1 b 32)) 100000 cx none 1 lp (inv 32) [] (subs [.v 0, .v 1, .v 2, .v 3]) nm4 (.exit 0) laid = true := by cases b <;> kernel_rfl
def loT : Tm := .op (.bin .add .u64) [.int 65536, .op (.bin .mul .u64) [.op (.bin .and .u64) [.v 1, .int 127], .int 8]]
def hiT : Tm := .op (.bin .add .u64) [.int 65536, .op (.bin .and .u64) [.v 2, .int 511]]
def TW (a : Nat) : List (Tm × Tm) := [(loT, st.atT a)]
def yw (a : Nat) : Fact := ⟨13, [.ptr 2 0, at_ a, u64 hiT], 5, space 3, .tuple [isl (.v 4), .int .i64 0], [], 11⟩
def ywb (a : Nat) : Fact := ⟨13, [.ptr 2 0, at_ a, u64 hiT], 5, space 3, .tuple [.nilSlice, .int .i64 9], [], 11⟩
def wts : List Tm := [.v 3, hiT, .int 0, .v 4]
def chkV (a : Nat) : Bool := usesSo (tableNf (TW a)) G (subs wts) nm4 (wd.x a) (yw a) && usesSo (tableNf (TW a)) G (subs wts) nm4 (wd.xb a) (ywb a)
theorem kV_0 : seg chkV 0 32 = true := by kernel_rfl
theorem kV_1 : seg chkV 32 32 = true := by kernel_rfl
theorem kV_2 : seg chkV 64 32 = true := by kernel_rfl
theorem kV_3 : seg chkV 96 32 = true := by kernel_rfl
theorem kV (k : Nat) (hk : k < 128) : chkV k = true := segs4 (n := 32) kV_0 kV_1 kV_2 kV_3 k hk
noncomputable def chkW (a : Nat) : Bool := evFl P ((E0.know [yw a]).tab (TW a)) 100000 cx none 1 ((L.drop 7).take 2) laid [] (subs [.v 0, st.atT a, hiT, .v 4]) [] .normal gotOk
  && evFl P ((E0.know [ywb a]).tab (TW a)) 100000 cx none 1 ((L.drop 7).take 2) laid [] (subs [.v 0, st.atT a, hiT, .v 4]) [] .normal gotBad
theorem kW_0 : seg chkW 0 32 = true := by kernel_rfl
theorem kW_1 : seg chkW 32 32 = true := by kernel_rfl
theorem kW_2 : seg chkW 64 32 = true := by kernel_rfl
theorem kW_3 : seg chkW 96 32 = true := by kernel_rfl
theorem kW (k : Nat) (hk : k < 128) : chkW k = true := segs4 (n := 32) kW_0 kW_1 kW_2 kW_3 k hk
-- behind image.Words
def nT : Tm := .op (.bin .quo .i64) [.op (.conv .i64) [.op (.bin .sub .u64) [.v 2, .v 1]], .int 8]
def kT : Tm := .op (.bin .add .i64) [.op (.bin .quo .i64) [.op (.conv .i64) [.op (.bin .sub .u64) [.v 1, .int 65536]], .int 8], .v 5]
def endT : Tm := .op (.bin .add .u64) [.v 1, .op (.bin .mul .u64) [.int 8, .op (.conv .u64) [nT]]]
def leT (b : Bool) : Tm × Tm := (.op (.bin .leq .i64) [.v 2, .v 1], .bool b)
def gtN (b : Bool) : Tm × Tm := (.op (.bin .gtr .i64) [nT, .int 0], .bool b)
def gtE (b : Bool) : Tm × Tm := (.op (.bin .gtr .i64) [endT, .int 65792], .bool b)
def neN : Tm × Tm := (.op (.bin .neq .i64) [.op .len [.v 3], nT], .bool false)
def six : List Tm := [.v 0, .v 1, .v 2, .v 3, nT, .int 0]
theorem kO0 (a b c : Tm) : evFl P (E0.tab [leT true, (.op (.bin .eql .i64) [.op .len [.v 3], .int 0], .bool true)]) 100000 cx none 1 (L.drop 9) gotOk [] (subs [a, b, c]) [] .ret fin = true := by kernel_rfl
theorem kO3 : evFl P (E0.tab [leT false, gtN true, gtE false, neN]) 100000 cx none 1 ((L.drop 9).take 8) gotOk [] (subs six) [] .normal last = true := by kernel_rfl
theorem kO5 : evFl P (E0.tab [leT false, gtN false, neN]) 100000 cx none 1 ((L.drop 9).take 8) gotOk [] (subs six) [] .normal last = true := by kernel_rfl
theorem kB1 (a b c : Tm) : evFl P (E0.tab [leT false, gtN true, gtE true]) 100000 cx none 1 (L.drop 9) gotBad [] (subs [a, b, c]) [] .ret fin = true := by kernel_rfl
def ltI (b : Bool) : Tm × Tm := (.op (.bin .lss .i64) [.v 5, .v 4], .bool b)
def ltK (b : Bool) : Tm × Tm := (.op (.bin .lss .i64) [kT, .op .len [.v 0]], .bool b)
def lt32 (b : Bool) : Tm × Tm := (.op (.bin .lss .i64) [kT, .int 32], .bool b)
def inI : List (Tm × Tm) := [(.op (.bin .leq .i64) [.int 0, .v 5], .bool true), (.op (.bin .lss .i64) [.v 5, .op .len [.v 3]], .bool true)]
def ne0 : Tm × Tm := (.op (.bin .neq .i64) [.op .nth [.v 3, .v 5], .int 0], .bool false)
def neL : Tm × Tm := (.op (.bin .neq .i64) [.op .nth [.v 3, .v 5], .op .nth [.v 0, kT]], .bool false)
def nxt : List Tm := [.v 0, .v 1, .v 2, .v 3, .v 4, .op (.bin .add .i64) [.v 5, .int 1]]
theorem kM1 : evFl P (E0.tab (ltI true :: ltK true :: lt32 true :: (.op (.bin .leq .i64) [.int 0, kT], .bool true) :: inI ++ [neL])) 100000 cx none 1 lp2 last [] (subs nxt) [] .normal last = true := by kernel_rfl
theorem kM3 : evFl P (E0.tab (ltI true :: ltK true :: lt32 false :: inI ++ [ne0])) 100000 cx none 1 lp2 last [] (subs nxt) [] .normal last = true := by kernel_rfl
theorem kM5 : evFl P (E0.tab (ltI true :: ltK false :: inI ++ [ne0])) 100000 cx none 1 lp2 last [] (subs nxt) [] .normal last = true := by kernel_rfl
def fin0 : St := { vars := [], loc := [], marks := [], objs := [], next := 1 }
theorem kM6 : evFl P (E0.tab [ltI false]) 100000 cx none 1 lp2 last [] (subs []) [] (.exit 2) fin0 = true := by kernel_rfl
theorem kZ (a b c : Tm) : evFl P (E0.tab []) 100000 cx none 1 (L.drop 18) fin0 [] (subs [a, b, c]) [] .ret fin = true := by kernel_rfl
end iw
end Go.Proofs.YtjmjbjnbfodalaaGreat
