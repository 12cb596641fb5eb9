/- lazy.Lay of slots that are laid late: closed checks of its pieces, of the loop's rounds. No condition. -/
import Derived.Test.YtjmjbjnbfodalaaGreatLzSlot
set_option linter.unusedSimpArgs false
set_option linter.unusedVariables false
set_option linter.unusedSectionVars false
set_option maxRecDepth 1000000
namespace Go.Proofs.YtjmjbjnbfodalaaGreat
open Go.Tc
namespace lz
def byT (j i : Nat) : AV := .sy (.int .u8) (.op .byte [.op (.conv .u8) [.op (.shift .shr .u64) [.op .nth [.v 5, .int j], .int (8 * i : Nat)]]])
def wcells : List AV := (List.range 12).flatMap fun j => (List.range 8).map fun i => byT j i
def pageW (np : Nat) : Nat × AObj := (13 + np, .row (.int .i64 4 :: wcells ++ List.replicate 160 (.int .u8 0)) 131 .solid)
def spaceW (np : Nat) : List (Nat × AObj) := (10, .row [.map 11, .slice 12 0 1 (.opn 2), .int .i64 40] 122 .solid) :: (11, .map ((List.range np).map entE) np) :: (12, .row [.int .u64 65536, .int .u64 (65536 + 256 * np : Nat)] 96 (.buf 0 false)) :: (List.range (np - 1)).map pageE ++ [pageW np]
def invL (np k : Nat) : St := { vars := [(0, .ptr 10 0), (5, .ptr 19 0), (8, .ptr 20 0), (20, lE), (21, bi (.op .len [.v 2])), (22, .int .i64 k)], loc := [], marks := [], objs := boundE :: spaceW np ++ [(19, .row membE 50 .solid), (20, .row fault 43 .solid)], next := 21 }
def xL (np : Nat) : Fact := ⟨16, [.ptr 10 0, .agg membE, lE, .bool true], 19, boundE :: spaceE np, .agg fault, boundE :: spaceW np, 20⟩
def seg (f : Nat → Bool) (a n : Nat) : Bool := (List.range n).all fun i => f (a + i)
theorem seg_at {f : Nat → Bool} {a n : Nat} (h : seg f a n = true) (k : Nat) (h1 : a ≤ k) (h2 : k < a + n) : f k = true := by
  have := List.all_eq_true.1 h (k - a) (List.mem_range.2 (by omega))
  rwa [show a + (k - a) = k by omega] at this
namespace ly
noncomputable def fn : Func := Tryz.f16
noncomputable def cd : Code := match fn.body with | some c => c | none => .skip
noncomputable def cx : Ctx := cxOf P fn cd 4
noncomputable def L : List Code := flat cd
noncomputable def bl : Code := inLoop (inBlock (L.getD 4 .skip))
noncomputable def lp : List Code := flat bl
theorem func : P.funcs[16]? = some fn := Tryz.func16
theorem body : fn.body = some cd := by kernel_rfl
theorem at4 : L.drop 4 = .block 0 (.loop bl) :: L.drop 5 := by kernel_rfl
def five : List Tm := [.v 0, .v 1, .v 2, .v 3, .v 4]
def nm : List (Nat × Nat) := [(19, 19), (20, 20)]
def entT (k : Nat) : Tm := .op (.bin .add .u64) [.int 0x10000000000, .op (.bin .mul .u64) [.int 8, .op (.bin .add .u64) [.op (.bin .mul .u64) [.op (.conv .u64) [.v 1], .int 256], .int k]]]
def wset (k : Nat) (t : Tm) : Tm := .op .mk ((List.range 12).map fun j => if j = k then t else .op .nth [.v 5, .int j])
def atT (k : Nat) (b : Int) : Tm × Tm := (.op (.fld 0) [.op .nth [.v 2, .int k]], .int (b + 8 * (k : Int)))
def lenT (k : Nat) (b : Bool) : Tm × Tm := (.op (.bin .lss .i64) [.int k, .op .len [.v 2]], .bool b)
def tL (b : Int) (k : Nat) : List (Tm × Tm) := [atT k b, lenT k true, (.op (.bin .lss .i64) [.v 1, .int 0], .bool false), (.op (.bin .gtr .i64) [.v 1, .int 0x40000000], .bool false), (.op (.bin .eql .u64) [entT k, .int 0], .bool false), (.op (.bin .eql .i64) [entT k, .int 0], .bool false)]
theorem kA4 : evFl P (E0.tab []) 100000 cx none 19 (L.take 4) (startSt (xL 4)) [] (subs (five ++ [.op .mk (List.replicate 12 (.int 0))])) nm .normal (invL 4 0) = true := by kernel_rfl
theorem kA5 : evFl P (E0.tab []) 100000 cx none 19 (L.take 4) (startSt (xL 5)) [] (subs (five ++ [.op .mk (List.replicate 12 (.int 0))])) nm .normal (invL 5 0) = true := by kernel_rfl
def finL (np : Nat) : St := { vars := [(8, .ptr 19 0)], loc := [], marks := [], objs := boundE :: spaceW np ++ [(19, .row fault 43 .solid)], next := 20 }
theorem kZ4 : evFl P (E0.tab []) 100000 cx none 19 (L.drop 5) (finL 4) [] (subs (five ++ [.v 5])) [(19, 19)] .ret (finL 4) = true := by kernel_rfl
theorem kZ5 : evFl P (E0.tab []) 100000 cx none 19 (L.drop 5) (finL 5) [] (subs (five ++ [.v 5])) [(19, 19)] .ret (finL 5) = true := by kernel_rfl
noncomputable def chkX (np k : Nat) : Bool := evFl P (E0.tab [lenT k false]) 100000 cx none 19 lp (invL np k) [] (subs (five ++ [.v 5])) [(19, 20)] (.exit 0) (finL np)
noncomputable def chkL (np : Nat) (b : Int) (k : Nat) : Bool := evFl P (E0.tab (tL b k)) 100000 cx none 19 lp (invL np k) [] (subs (five ++ [wset k (entT k)])) nm .normal (invL np (k + 1))
theorem kX4 : seg (chkX 4) 0 13 = true := by kernel_rfl
theorem kL4_0 : seg (chkL 4 768) 0 4 = true := by kernel_rfl
theorem kL4_4 : seg (chkL 4 768) 4 4 = true := by kernel_rfl
theorem kL4_8 : seg (chkL 4 768) 8 4 = true := by kernel_rfl
theorem kX5 : seg (chkX 5) 0 13 = true := by kernel_rfl
theorem kL5_0 : seg (chkL 5 1024) 0 4 = true := by kernel_rfl
theorem kL5_4 : seg (chkL 5 1024) 4 4 = true := by kernel_rfl
theorem kL5_8 : seg (chkL 5 1024) 8 4 = true := by kernel_rfl
end ly
end lz
end Go.Proofs.YtjmjbjnbfodalaaGreat
