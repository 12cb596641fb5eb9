/- image.Words over a page of words that are not known: those that are there, or the fault. No condition but the bounds of the law's own numbers. -/
import Derived.Test.YtjmjbjnbfodalaaGreatEnv
import Derived.Test.YtjmjbjnbfodalaaGreatTcStr
set_option linter.unusedSimpArgs false
set_option linter.unusedVariables false
set_option linter.unusedSectionVars false
set_option maxRecDepth 100000
namespace Go.Proofs.YtjmjbjnbfodalaaGreat
open Go.Tc

/-- words, as data. -/
def di (l : List Nat) : D := .list (l.map fun (n : Nat) => .int (n : Int))
theorem di_len (l : List Nat) : (l.map fun (n : Nat) => D.int (n : Int)).length = l.length := List.length_map _
theorem di_nth (l : List Nat) (k : Nat) (h : k < l.length) : (l.map fun (n : Nat) => D.int (n : Int)).getD k .bad = .int (l[k] : Int) := by simp [List.getD_eq_getElem?_getD, h]
theorem and_mask (n k : Nat) (hn : n < 2 ^ 64) (hk : k ≤ 64) : intD .and .u64 (n : Int) ((2 ^ k - 1 : Nat) : Int) = .int ((n % 2 ^ k : Nat) : Int) := by
  have hk2 : 2 ^ k ≤ 2 ^ 64 := Nat.pow_le_pow_right (by omega) hk
  have h1 : (BitVec.ofInt 64 ((n : Nat) : Int)) = BitVec.ofNat 64 n := BitVec.ofInt_natCast _ _
  have h2 : (BitVec.ofInt 64 ((2 ^ k - 1 : Nat) : Int)) = BitVec.ofNat 64 (2 ^ k - 1) := BitVec.ofInt_natCast _ _
  have hp : 0 < 2 ^ k := Nat.pow_pos (by omega)
  show D.int (IntKind.u64.wrap (((BitVec.ofInt 64 ((n : Nat) : Int)) &&& (BitVec.ofInt 64 ((2 ^ k - 1 : Nat) : Int))).toNat : Int)) = _
  rw [h1, h2, BitVec.toNat_and, BitVec.toNat_ofNat, BitVec.toNat_ofNat, Nat.mod_eq_of_lt hn, Nat.mod_eq_of_lt (by omega), Nat.and_two_pow_sub_one_eq_mod]
  have := Nat.mod_lt n hp
  rw [wrap_u64 (by omega)]

namespace iw
-- 0: the list; 1: lo; 2: hi; 3: the page's words
def s (t : Tm) : AV := .sy .str t
def i64 (t : Tm) : AV := .sy (.int .i64) t
def u64 (t : Tm) : AV := .sy (.int .u64) t
def isl (t : Tm) : AV := .sy (.isl [.int .u64]) t
/-- a byte of a word of the page. -/
def cellT (v k j : Nat) : Tm := .op .byte [.op (.conv .u8) [.op (.shift .shr .u64) [.op .nth [.v v, .int (k : Int)], .int ((8 * j : Nat) : Int)]]]
def words (v : Nat) : Nat → Nat → List AV
  | _, 0 => []
  | k, n + 1 => (List.range 8).map (fun j => AV.sy (.int .u8) (cellT v k j)) ++ words v (k + 1) n
def page (v : Nat) : AObj := .row (.int .i64 6 :: words v 0 32) 131 .solid
def space (v : Nat) : List (Nat × AObj) := [(1, .map [⟨.int .u64 65536, .ptr 4 0, 0⟩] 1), (2, .row [.map 1, .slice 3 0 1 (.opn 2), .int .i64 4] 122 .solid), (3, .row [.int .u64 65536, .int .u64 65792] 96 (.buf 0 false)), (4, page v)]
def base (lo hi : AV) : List (Nat × AV) := [(0, isl (.v 0)), (1, lo), (2, hi), (7, .ptr 2 0)]
/-- the loop that lays the words. -/
def inv (i : Nat) : St := { vars := base (u64 (.v 1)) (u64 (.v 2)) ++ [(9, .int .i64 i)], loc := [], marks := [], objs := space 3, next := 5 }
/-- behind it. -/
def laid : St := { vars := base (u64 (.v 1)) (u64 (.v 2)), loc := [], marks := [], objs := space 3, next := 5 }
def lpo (st : LoopState) (pd : Option Code) : AObj := .loop ⟨st, pd, ⟨69583, 34, 1⟩, ⟨[(3, .ptr 5 0), (6, .ptr 6 0), (7, .ptr 7 0), (8, .ptr 8 0)], []⟩, .at_ 13 [1, 1, 0, 1, 2], 10⟩
def row1 (t : AV) (ty : Nat) : AObj := .row [t] ty .solid
def at_ (k : Nat) : AV := .int .u64 ((65536 + 8 * k : Nat) : Int)
/-- what lies around the steps. 0: the page's words; 1: hi; 2: how many; 3: what has been told -/
def around_ (out : AV) (at0 : AV) : List (Nat × AObj) := [(5, row1 (.ptr 2 0) 37), (6, row1 .nilSlice 36), (7, row1 (.int .i64 0) 38), (8, row1 out 36), (9, .row [at0, u64 (.v 1)] 96 .solid)]
def sargs : List AV := [.fn (.yield 11) [] [], .ptr 9 0]
def spre (k : Nat) : List (Nat × AObj) := space 0 ++ around_ .nilSlice (at_ k) ++ [(11, lpo .ready none)]
def invS (k : Nat) : St := { vars := [(0, .fn (.yield 11) [] []), (1, .ptr 9 0), (3, u64 (.v 2))], loc := [], marks := [], objs := space 0 ++ around_ (.lsl 12 1 (.int 0) (.op .len [.v 3]) .opn) (at_ k) ++ [(11, lpo .ready none), (12, .lrow [.int .u64] (.v 3) 27 (.buf 0 false))], next := 13 }
def okS : List (Nat × AObj) := [(6, row1 .nilSlice 36), (7, row1 (.int .i64 0) 38), (8, row1 (isl (.v 3)) 36), (11, lpo .ready none)]
def badS : List (Nat × AObj) := [(6, row1 .nilSlice 36), (7, row1 (.int .i64 9) 38), (11, lpo .done (some .ret))]
def endS : St := { vars := [], loc := [], marks := [], objs := okS, next := 12 }
def endB : St := { vars := [], loc := [], marks := [], objs := badS, next := 12 }
def xs (k : Nat) : Fact := ⟨71, sargs, 12, spre k, .tuple [], okS, 12⟩
def xb (k : Nat) : Fact := ⟨71, sargs, 12, spre k, .tuple [], badS, 12⟩
/-- behind image.Words. 0: the list; 1: lo; 2: hi; 3: the words -/
def got (t e : AV) : St := { vars := [(0, isl (.v 0)), (1, u64 (.v 1)), (2, u64 (.v 2)), (10, t), (11, e)], loc := [], marks := [], objs := [], next := 1 }
def gotOk : St := got (isl (.v 3)) (.int .i64 0)
def gotBad : St := got .nilSlice (.int .i64 9)
/-- the last loop. 4: how many; 5: its number -/
def last : St := { vars := [(0, isl (.v 0)), (1, u64 (.v 1)), (10, isl (.v 3)), (12, i64 (.v 4)), (13, i64 (.v 5))], loc := [], marks := [], objs := [], next := 1 }
def fin : St := { vars := [(6, .bool true)], loc := [], marks := [], objs := [], next := 1 }


/-- how many words of an array. -/
def cnt (a hi : Nat) : Nat := if hi ≤ 65536 + 8 * a then 0 else (hi - (65536 + 8 * a)) / 8

/-- some checks in a row. -/
def seg (f : Nat → Bool) (a n : Nat) : Bool := (List.range n).all fun i => f (a + i)
theorem seg_at {f : Nat → Bool} {a n : Nat} (h : seg f a n = true) (k : Nat) (h1 : a ≤ k) (h2 : k < a + n) : f k = true := by
  have := List.all_eq_true.1 h (k - a) (List.mem_range.2 (by omega))
  rwa [show a + (k - a) = k by omega] at this
theorem segs4 {f : Nat → Bool} {n : Nat} (h0 : seg f 0 n = true) (h1 : seg f n n = true) (h2 : seg f (2 * n) n = true) (h3 : seg f (3 * n) n = true) (k : Nat) (hk : k < 4 * n) : f k = true := by
  by_cases a1 : k < n
  · exact seg_at h0 k (Nat.zero_le _) (by omega)
  by_cases a2 : k < 2 * n
  · exact seg_at h1 k (by omega) (by omega)
  by_cases a3 : k < 3 * n
  · exact seg_at h2 k (by omega) (by omega)
  · exact seg_at h3 k (by omega) (by omega)

namespace st
noncomputable def fn : Func := Tryz.f71
noncomputable def cd : Code := match fn.body with | some c => c | none => .skip
noncomputable def cx : Ctx := cxOf P fn cd 2
noncomputable def L : List Code := flat cd
noncomputable def bd : Code := inLoop (inBlock (L.getD 1 .skip))
noncomputable def lp : List Code := flat bd
theorem func : P.funcs[71]? = some fn := Tryz.func71
theorem body : fn.body = some cd := by kernel_rfl
theorem at1 : L.drop 1 = [.block 0 (.loop bd)] := by kernel_rfl
def atT (k : Nat) : Tm := .int ((65536 + 8 * k : Nat) : Int)
def TA (b : Bool) (k : Nat) : List (Tm × Tm) := [(.op (.bin .leq .i64) [.v 1, atT k], .bool b)]
def n0T (k : Nat) : Tm := .op (.bin .quo .u64) [.op (.bin .sub .u64) [.v 1, atT k], .int 8]
noncomputable def chkA1 (k : Nat) : Bool := evFl P (E0.tab (TA true k)) 100000 cx none 12 (L.take 1) (startSt (xs k)) [] (subs [.v 0, .v 1, .int 0, .op .mk []]) [] .normal (invS k)
noncomputable def chkA2 (k : Nat) : Bool := evFl P (E0.tab (TA false k)) 100000 cx none 12 (L.take 1) (startSt (xs k)) [] (subs [.v 0, .v 1, n0T k, .op .mk []]) [] .normal (invS k)
theorem kA1_0 : seg chkA1 0 32 = true := by kernel_rfl
theorem kA1_1 : seg chkA1 32 32 = true := by kernel_rfl
theorem kA1_2 : seg chkA1 64 32 = true := by kernel_rfl
theorem kA1_3 : seg chkA1 96 32 = true := by kernel_rfl
theorem kA1 (k : Nat) (hk : k < 128) : chkA1 k = true := segs4 (n := 32) kA1_0 kA1_1 kA1_2 kA1_3 k hk
theorem kA2_0 : seg chkA2 0 32 = true := by kernel_rfl
theorem kA2_1 : seg chkA2 32 32 = true := by kernel_rfl
theorem kA2_2 : seg chkA2 64 32 = true := by kernel_rfl
theorem kA2_3 : seg chkA2 96 32 = true := by kernel_rfl
theorem kA2 (k : Nat) (hk : k < 128) : chkA2 k = true := segs4 (n := 32) kA2_0 kA2_1 kA2_2 kA2_3 k hk
def wT (k : Nat) : Tm := .op .nth [.v 0, .int (k : Int)]
def catO (k : Nat) : Tm := .op .cat [.v 3, .op .mk [getTm (wT k) 8]]
def TS (k : Nat) : List (Tm × Tm) := [(.op (.bin .gtr .i64) [.v 2, .int 0], .bool true), (.op (.bin .leq .i64) [.op .len [.v 3], .op .len [.v 3]], .bool true), (.op .small [.op .nadd [.op .len [.v 3], .int 1]], .bool true), (.op .len [catO k], .op .nadd [.op .len [.v 3], .int 1])]
noncomputable def chkS (k : Nat) : Bool := evFl P (EC.tab (TS k)) 100000 cx none 12 lp (invS k) [] (subs [.v 0, .v 1, .op (.bin .sub .u64) [.v 2, .int 1], catO k]) [(12, 26)] .normal (invS (k + 1))
theorem kS_0 : seg chkS 0 8 = true := by kernel_rfl
theorem kS_1 : seg chkS 8 8 = true := by kernel_rfl
theorem kS_2 : seg chkS 16 8 = true := by kernel_rfl
theorem kS_3 : seg chkS 24 8 = true := by kernel_rfl
theorem kS (k : Nat) (hk : k < 32) : chkS k = true := segs4 (n := 8) kS_0 kS_1 kS_2 kS_3 k hk
def TF (b : Bool) : List (Tm × Tm) := [(.op (.bin .gtr .i64) [.v 2, .int 0], .bool b)]
noncomputable def chkF (k : Nat) : Bool := k.blt 32 || evFl P (EC.tab (TF true)) 100000 cx none 12 lp (invS k) [] (subs [.v 0, .v 1, .int 0, .op .mk []]) [] .ret endB
theorem kF_0 : seg chkF 0 32 = true := by kernel_rfl
theorem kF_1 : seg chkF 32 32 = true := by kernel_rfl
theorem kF_2 : seg chkF 64 32 = true := by kernel_rfl
theorem kF_3 : seg chkF 96 32 = true := by kernel_rfl
theorem kF (k : Nat) (hk : k < 128) : chkF k = true := segs4 (n := 32) kF_0 kF_1 kF_2 kF_3 k hk
noncomputable def chkE (k : Nat) : Bool := evFl P (EC.tab (TF false)) 100000 cx none 12 lp (invS k) [.ice 12] (subs [.v 0, .v 1, .v 2, .v 3]) [] (.exit 0) endS
theorem kE_0 : seg chkE 0 32 = true := by kernel_rfl
theorem kE_1 : seg chkE 32 32 = true := by kernel_rfl
theorem kE_2 : seg chkE 64 32 = true := by kernel_rfl
theorem kE_3 : seg chkE 96 32 = true := by kernel_rfl
theorem kE (k : Nat) (hk : k < 128) : chkE k = true := segs4 (n := 32) kE_0 kE_1 kE_2 kE_3 k hk

end st
end iw
end Go.Proofs.YtjmjbjnbfodalaaGreat
