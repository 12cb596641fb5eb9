/- show.Line: one of a text's lines, by its number. No condition but the text's length. -/
import Derived.Test.YtkkoidhohapjcaaGreatDoorRef
set_option linter.unusedSimpArgs false
set_option linter.unusedVariables false
set_option linter.unusedSectionVars false
set_option maxRecDepth 100000
namespace Go.Proofs.YtkkoidhohapjcaaGreatDoor
open Go.Tc

namespace el
-- the iterator within Line. 0: the text; 1: the number; 2: the answer; 3: what is left; 4: the number by then
def s (t : Tm) : AV := .sy .str t
def i64 (t : Tm) : AV := .sy (.int .i64) t
def row1 (t : AV) (ty : Nat) : AObj := .row [t] ty .solid
def rows (n r : Tm) (a : AV) (b : Bool) : List (Nat × AObj) := [(7, row1 (i64 n) 3), (8, row1 a 9), (9, row1 (.bool b) 4), (10, row1 (s r) 9)]
def vs : List (Nat × AV) := [(3, .ptr 7 0), (4, .ptr 8 0), (5, .ptr 9 0)]
def lpo : AObj := .loop ⟨.ready, none, ⟨635, 15, 7⟩, ⟨vs, []⟩, .at_ 6 [1, 0, 1, 2], 11⟩
def lpd : AObj := .loop ⟨.done, some .ret, ⟨635, 15, 7⟩, ⟨vs, []⟩, .at_ 6 [1, 0, 1, 2], 11⟩
def pre : List (Nat × AObj) := [(7, row1 (i64 (.v 1)) 3), (8, row1 (.str ⟨0, 0⟩) 9), (9, row1 (.bool false) 4), (10, row1 (s (.v 0)) 9), (12, lpo)]
def args : List AV := [.fn (.yield 12) [] [], .ptr 10 0]
def inv : St := { vars := [(0, .fn (.yield 12) [] []), (1, .ptr 10 0)], loc := [], marks := [], objs := [(7, row1 (i64 (.v 4)) 3), (8, row1 (.str ⟨0, 0⟩) 9), (9, row1 (.bool false) 4), (10, row1 (s (.v 3)) 9), (12, lpo)], next := 13 }
def foundO : List (Nat × AObj) := [(8, row1 (s (.v 2)) 9), (9, row1 (.bool true) 4), (12, lpd)]
def noneO : List (Nat × AObj) := [(8, row1 (.str ⟨0, 0⟩) 9), (9, row1 (.bool false) 4), (12, lpo)]
def found : St := { vars := [], loc := [], marks := [], objs := foundO, next := 13 }
def none_ : St := { vars := [], loc := [], marks := [], objs := noneO, next := 13 }
def x1 : Fact := ⟨40, args, 13, pre, .tuple [], foundO, 13⟩
def x0 : Fact := ⟨40, args, 13, pre, .tuple [], noneO, 13⟩
noncomputable def fn : Func := Tryz.f40
noncomputable def cd : Code := match fn.body with | some c => c | none => .skip
noncomputable def cx : Ctx := cxOf P fn cd 2
noncomputable def L : List Code := flat cd
noncomputable def bd : Code := inLoop (inBlock (L.getD 0 .skip))
noncomputable def lp : List Code := flat bd
theorem func : P.funcs[40]? = some fn := Tryz.func40
theorem body : fn.body = some cd := by kernel_rfl
theorem at0 : L = [.block 0 (.loop bd)] := by kernel_rfl
theorem kA (t : Tm) : evFl P (E0.tab []) 100000 cx none 13 [] (startSt x1) [] (subs [.v 0, .v 1, t, .v 0, .v 1]) [] .normal inv = true := by kernel_rfl
def kB0T : List (Tm × Tm) := [((.op (.sbin .eql) [(.str ⟨1, 10⟩), (.v 3)]), (.bool true)), ((.op (.bin .leq .i64) [(.int 0), (.op .slen [(.v 3)])]), (.bool true)), ((.op (.bin .leq .i64) [(.int 1), (.op .slen [(.v 3)])]), (.bool true)), ((.op (.bin .eql .i64) [(.v 4), (.int 0)]), (.bool true))]
theorem kB0 : evFl P (EC.tab kB0T) 100000 cx none 13 lp inv [] (subs [(.v 0), (.v 1), (.op .ssub [(.v 3), (.int 0), (.int 0)])]) [] .ret found = true := by kernel_rfl
def kB1T : List (Tm × Tm) := [((.op (.sbin .eql) [(.str ⟨1, 10⟩), (.v 3)]), (.bool true)), ((.op (.bin .leq .i64) [(.int 0), (.op .slen [(.v 3)])]), (.bool true)), ((.op (.bin .leq .i64) [(.int 1), (.op .slen [(.v 3)])]), (.bool true)), ((.op (.bin .eql .i64) [(.v 4), (.int 0)]), (.bool false))]
theorem kB1 : evFl P (EC.tab kB1T) 100000 cx none 13 lp inv [] (subs [(.v 0), (.v 1), (.v 2), (.op .ssub [(.v 3), (.int 1), (.op .slen [(.v 3)])]), (.op (.bin .sub .i64) [(.v 4), (.int 1)])]) [] .normal inv = true := by kernel_rfl
def kB2T : List (Tm × Tm) := [((.op (.sbin .eql) [(.str ⟨1, 10⟩), (.v 3)]), (.bool false)), ((.op (.bin .geq .i64) [(.op .idx [(.v 3), (.int 10)]), (.int 0)]), (.bool true)), ((.op (.bin .leq .i64) [(.int 0), (.op .idx [(.v 3), (.int 10)])]), (.bool true)), ((.op (.bin .leq .i64) [(.op .idx [(.v 3), (.int 10)]), (.op .slen [(.v 3)])]), (.bool true)), ((.op (.bin .leq .i64) [(.int 0), (.op (.bin .add .i64) [(.op .idx [(.v 3), (.int 10)]), (.int 1)])]), (.bool true)), ((.op (.bin .leq .i64) [(.op (.bin .add .i64) [(.op .idx [(.v 3), (.int 10)]), (.int 1)]), (.op .slen [(.v 3)])]), (.bool true)), ((.op (.bin .eql .i64) [(.v 4), (.int 0)]), (.bool true))]
theorem kB2 : evFl P (EC.tab kB2T) 100000 cx none 13 lp inv [] (subs [(.v 0), (.v 1), (.op .ssub [(.v 3), (.int 0), (.op .idx [(.v 3), (.int 10)])])]) [] .ret found = true := by kernel_rfl
def kB3T : List (Tm × Tm) := [((.op (.sbin .eql) [(.str ⟨1, 10⟩), (.v 3)]), (.bool false)), ((.op (.bin .geq .i64) [(.op .idx [(.v 3), (.int 10)]), (.int 0)]), (.bool true)), ((.op (.bin .leq .i64) [(.int 0), (.op .idx [(.v 3), (.int 10)])]), (.bool true)), ((.op (.bin .leq .i64) [(.op .idx [(.v 3), (.int 10)]), (.op .slen [(.v 3)])]), (.bool true)), ((.op (.bin .leq .i64) [(.int 0), (.op (.bin .add .i64) [(.op .idx [(.v 3), (.int 10)]), (.int 1)])]), (.bool true)), ((.op (.bin .leq .i64) [(.op (.bin .add .i64) [(.op .idx [(.v 3), (.int 10)]), (.int 1)]), (.op .slen [(.v 3)])]), (.bool true)), ((.op (.bin .eql .i64) [(.v 4), (.int 0)]), (.bool false))]
theorem kB3 : evFl P (EC.tab kB3T) 100000 cx none 13 lp inv [] (subs [(.v 0), (.v 1), (.v 2), (.op .ssub [(.v 3), (.op (.bin .add .i64) [(.op .idx [(.v 3), (.int 10)]), (.int 1)]), (.op .slen [(.v 3)])]), (.op (.bin .sub .i64) [(.v 4), (.int 1)])]) [] .normal inv = true := by kernel_rfl
def kB4T : List (Tm × Tm) := [((.op (.sbin .eql) [(.str ⟨1, 10⟩), (.v 3)]), (.bool false)), ((.op (.bin .geq .i64) [(.op .idx [(.v 3), (.int 10)]), (.int 0)]), (.bool false))]
theorem kB4 : evFl P (EC.tab kB4T) 100000 cx none 13 lp inv [] (subs [(.v 0), (.v 1), (.v 2)]) [] .ret none_ = true := by kernel_rfl

/-- what the iterator does. -/
theorem run (l : List UInt8) (hl : l.length ≤ 1000) (n : Int) (hn : -2 ^ 63 ≤ n ∧ n < 2 ^ 63) (a : D) :
    Tri P G (vals [ds l, .int n, a]) cx none 13 cd (startSt x1) fun V' ex σ' => ex = .ret ∧ ((σ' = none_ ∧ V' = vals [ds l, .int n, a] ∧ ¬ (0 ≤ n ∧ n < (linesOf l).length)) ∨ (σ' = found ∧ ∃ (k : Nat) (h : k < (linesOf l).length), n = k ∧ V' = vals [ds l, .int n, ds (linesOf l)[k]])) := by
  have hg : cx.glob = G := by kernel_rfl
  have le13 : (13 : Nat) ≤ 13 := Nat.le_refl 13
  refine Tri.flat (by kernel_rfl) ?_
  show TriL P G _ cx none 13 L _ _
  refine TriL.go 0 (envAt _) hg stays_none (tb := []) trivial le13 (kA a.tm) ?_
  simp only [D.tm_den, den_int, den_bool, den_str, den_v, den_op, dens_nil, dens_cons, vals_at, List.getD_cons_succ, List.getD_cons_zero, List.getD_nil, List.map_cons, List.map_nil, Int.toNat_natCast, tden_bin, tden_shift, tden_conv, tden_not, tden_and, tden_sbin, tden_slen, tden_len, tden_nth, tden_fld, tden_mk, tden_cat, tden_sub, tden_set, tden_setf, tden_rep, tden_sget, tden_ssub, tden_ite, tden_bytes, tden_text, tden_fits, tden_nadd, tden_nsub, tden_small, intD_add, intD_sub, intD_mul, intD_quo, intD_rem, intD_eql, intD_neq, intD_lss, intD_leq, intD_gtr, intD_geq, D.int.injEq, D.bool.injEq, D.str.injEq, D.list.injEq, decide_eq_true_eq, decide_eq_false_iff_not, beq_iff_eq]
  show TriL P G _ cx none 13 L _ _
  rw [at0]
  refine TriL.cons stays_none (Q1 := fun V' ex σ' => ex = .ret ∧ ((σ' = none_ ∧ V' = vals [ds l, .int n, a] ∧ ¬ (0 ≤ n ∧ n < (linesOf l).length)) ∨ (σ' = found ∧ ∃ (k : Nat) (h : k < (linesOf l).length), n = k ∧ V' = vals [ds l, .int n, ds (linesOf l)[k]]))) (Tri.block ?_) (fun V' σ' h => by cases h.1) (fun V' ex σ' _ h => h)
  have hw0 : IntKind.i64.wrap (n - ((0 : Nat) : Int)) = n := by rw [show n - ((0 : Nat) : Int) = n from by omega, wrap_i64 hn]
  have h0 : vals [ds l, .int n, a, ds l, .int n] = vals [ds l, .int n, a, ds l, .int (IntKind.i64.wrap (n - ((0 : Nat) : Int)))] := by rw [hw0]
  show Tri P G (vals [ds l, .int n, a, ds l, .int n]) cx none 13 (.loop bd) inv _
  rw [h0]
  refine Tri.loop (α := Nat × List UInt8) (fun (k, r) => r.length ≤ 1000 ∧ k + r.length ≤ l.length ∧ (0 ≤ n → (k : Int) ≤ n) ∧ ∃ O, O.length = k ∧ linesOf l = O ++ linesOf r) (fun (_, r) => r.length) (fun (k, r) => vals [ds l, .int n, a, ds r, .int (IntKind.i64.wrap (n - k))]) stays_none ?_ (0, l) ⟨hl, by omega, fun h => h, [], rfl, rfl⟩
  rintro ⟨k, r⟩ ⟨hr, hk, hkn, O, hO, hI⟩
  simp only at hr hk hkn hO hI ⊢
  refine Tri.flat (by kernel_rfl) ?_
  show TriL P G _ cx none 13 lp inv _
  obtain ⟨hi1, hi2⟩ := indexByte_ge 10 r
  have hz := wrap_zero (k := k) hn (by omega)
  have hdn := wrap_down n k
  have w1 : IntKind.i64.wrap (Lib.indexByte r 10 + 1) = Lib.indexByte r 10 + 1 := wrap_i64 (by omega)
  generalize hi : Lib.indexByte r 10 = i at *
  by_cases h1 : i < 0
  · -- no line is left
    have hne : [10] ≠ r := by rintro rfl; simp [Lib.indexByte] at hi; omega
    have hlr := linesOf_none (l := r) (by omega)
    rw [hlr, List.append_nil] at hI
    refine TriL.fin (envC _) hg (tb := kB4T) ⟨?_, ?_, trivial⟩ le13 kB4 (.inr ⟨by simp, rfl, .inl ⟨rfl, ?_, ?_⟩⟩)
    · simp only [D.tm_den, den_int, den_bool, den_str, den_v, den_op, dens_nil, dens_cons, vals_at, List.getD_cons_succ, List.getD_cons_zero, List.getD_nil, List.map_cons, List.map_nil, Int.toNat_natCast, tden_bin, tden_shift, tden_conv, tden_not, tden_and, tden_sbin, tden_slen, tden_len, tden_nth, tden_fld, tden_mk, tden_cat, tden_sub, tden_set, tden_setf, tden_rep, tden_sget, tden_ssub, tden_ite, tden_bytes, tden_text, tden_fits, tden_nadd, tden_nsub, tden_small, intD_add, intD_sub, intD_mul, intD_quo, intD_rem, intD_eql, intD_neq, intD_lss, intD_leq, intD_gtr, intD_geq, D.int.injEq, D.bool.injEq, D.str.injEq, D.list.injEq, decide_eq_true_eq, decide_eq_false_iff_not, beq_iff_eq, ds, nl_eql]; simpa using hne
    · simp only [D.tm_den, den_int, den_bool, den_str, den_v, den_op, dens_nil, dens_cons, vals_at, List.getD_cons_succ, List.getD_cons_zero, List.getD_nil, List.map_cons, List.map_nil, Int.toNat_natCast, tden_bin, tden_shift, tden_conv, tden_not, tden_and, tden_sbin, tden_slen, tden_len, tden_nth, tden_fld, tden_mk, tden_cat, tden_sub, tden_set, tden_setf, tden_rep, tden_sget, tden_ssub, tden_ite, tden_bytes, tden_text, tden_fits, tden_nadd, tden_nsub, tden_small, intD_add, intD_sub, intD_mul, intD_quo, intD_rem, intD_eql, intD_neq, intD_lss, intD_leq, intD_gtr, intD_geq, D.int.injEq, D.bool.injEq, D.str.injEq, D.list.injEq, decide_eq_true_eq, decide_eq_false_iff_not, beq_iff_eq, ds, den_nl, hi]; omega
    · simp only [D.tm_den, den_int, den_bool, den_str, den_v, den_op, dens_nil, dens_cons, vals_at, List.getD_cons_succ, List.getD_cons_zero, List.getD_nil, List.map_cons, List.map_nil, Int.toNat_natCast, tden_bin, tden_shift, tden_conv, tden_not, tden_and, tden_sbin, tden_slen, tden_len, tden_nth, tden_fld, tden_mk, tden_cat, tden_sub, tden_set, tden_setf, tden_rep, tden_sget, tden_ssub, tden_ite, tden_bytes, tden_text, tden_fits, tden_nadd, tden_nsub, tden_small, intD_add, intD_sub, intD_mul, intD_quo, intD_rem, intD_eql, intD_neq, intD_lss, intD_leq, intD_gtr, intD_geq, D.int.injEq, D.bool.injEq, D.str.injEq, D.list.injEq, decide_eq_true_eq, decide_eq_false_iff_not, beq_iff_eq]
    · rw [hI, hO]
      rintro ⟨h0, h2⟩
      have := hkn h0
      omega
  · have hlr := linesOf_some (l := r) (by omega)
    rw [hi] at hlr
    have hlen : (linesOf l).length = k + ((linesOf (r.drop (i.toNat + 1))).length + 1) := by rw [hI, List.length_append, hO, hlr, List.length_cons]
    have hcut : (BS.ofList r).cut 0 i.toNat = BS.ofList (r.take i.toNat) := by
      rw [ofList_cut r 0 i.toNat (Nat.zero_le _) (by omega)]; simp
    have hcut2 : (BS.ofList r).cut (i.toNat + 1) r.length = BS.ofList (r.drop (i.toNat + 1)) := by
      rw [ofList_cut r (i.toNat + 1) r.length (by omega) (by omega)]
      congr 1
      rw [List.take_of_length_le]; rw [List.length_drop]; exact Nat.le_refl _
    have hget : ∀ h : k < (linesOf l).length, (linesOf l)[k] = r.take i.toNat := by
      intro h
      have : (linesOf l)[k]? = some (r.take i.toNat) := by rw [hI, hlr, List.getElem?_append_right (by omega), hO, Nat.sub_self]; rfl
      rw [List.getElem?_eq_getElem h] at this
      exact Option.some.inj this
    have e1 : (i + 1).toNat = i.toNat + 1 := by omega
    have hstep : ∃ O', O'.length = k + 1 ∧ linesOf l = O' ++ linesOf (r.drop (i.toNat + 1)) := ⟨O ++ [r.take i.toNat], by simp [hO], by rw [hI, hlr]; simp⟩
    by_cases h10 : [10] = r
    · have hi0 : i = 0 := by rw [← hi, ← h10]; simp [Lib.indexByte]
      subst hi0
      have hrl : r.length = 1 := by rw [← h10]; rfl
      by_cases hq : IntKind.i64.wrap (n - k) = 0
      · refine TriL.fin (envC _) hg (tb := kB0T) ⟨?_, ?_, ?_, ?_, trivial⟩ le13 kB0 (.inr ⟨by simp, rfl, .inr ⟨rfl, k, by omega, hz.1 hq, ?_⟩⟩)
        · simp only [D.tm_den, den_int, den_bool, den_str, den_v, den_op, dens_nil, dens_cons, vals_at, List.getD_cons_succ, List.getD_cons_zero, List.getD_nil, List.map_cons, List.map_nil, Int.toNat_natCast, tden_bin, tden_shift, tden_conv, tden_not, tden_and, tden_sbin, tden_slen, tden_len, tden_nth, tden_fld, tden_mk, tden_cat, tden_sub, tden_set, tden_setf, tden_rep, tden_sget, tden_ssub, tden_ite, tden_bytes, tden_text, tden_fits, tden_nadd, tden_nsub, tden_small, intD_add, intD_sub, intD_mul, intD_quo, intD_rem, intD_eql, intD_neq, intD_lss, intD_leq, intD_gtr, intD_geq, D.int.injEq, D.bool.injEq, D.str.injEq, D.list.injEq, decide_eq_true_eq, decide_eq_false_iff_not, beq_iff_eq, ds, nl_eql]; simpa using h10
        · simp only [D.tm_den, den_int, den_bool, den_str, den_v, den_op, dens_nil, dens_cons, vals_at, List.getD_cons_succ, List.getD_cons_zero, List.getD_nil, List.map_cons, List.map_nil, Int.toNat_natCast, tden_bin, tden_shift, tden_conv, tden_not, tden_and, tden_sbin, tden_slen, tden_len, tden_nth, tden_fld, tden_mk, tden_cat, tden_sub, tden_set, tden_setf, tden_rep, tden_sget, tden_ssub, tden_ite, tden_bytes, tden_text, tden_fits, tden_nadd, tden_nsub, tden_small, intD_add, intD_sub, intD_mul, intD_quo, intD_rem, intD_eql, intD_neq, intD_lss, intD_leq, intD_gtr, intD_geq, D.int.injEq, D.bool.injEq, D.str.injEq, D.list.injEq, decide_eq_true_eq, decide_eq_false_iff_not, beq_iff_eq, ds, sl_len]; omega
        · simp only [D.tm_den, den_int, den_bool, den_str, den_v, den_op, dens_nil, dens_cons, vals_at, List.getD_cons_succ, List.getD_cons_zero, List.getD_nil, List.map_cons, List.map_nil, Int.toNat_natCast, tden_bin, tden_shift, tden_conv, tden_not, tden_and, tden_sbin, tden_slen, tden_len, tden_nth, tden_fld, tden_mk, tden_cat, tden_sub, tden_set, tden_setf, tden_rep, tden_sget, tden_ssub, tden_ite, tden_bytes, tden_text, tden_fits, tden_nadd, tden_nsub, tden_small, intD_add, intD_sub, intD_mul, intD_quo, intD_rem, intD_eql, intD_neq, intD_lss, intD_leq, intD_gtr, intD_geq, D.int.injEq, D.bool.injEq, D.str.injEq, D.list.injEq, decide_eq_true_eq, decide_eq_false_iff_not, beq_iff_eq, ds, sl_len]; omega
        · simp only [D.tm_den, den_int, den_bool, den_str, den_v, den_op, dens_nil, dens_cons, vals_at, List.getD_cons_succ, List.getD_cons_zero, List.getD_nil, List.map_cons, List.map_nil, Int.toNat_natCast, tden_bin, tden_shift, tden_conv, tden_not, tden_and, tden_sbin, tden_slen, tden_len, tden_nth, tden_fld, tden_mk, tden_cat, tden_sub, tden_set, tden_setf, tden_rep, tden_sget, tden_ssub, tden_ite, tden_bytes, tden_text, tden_fits, tden_nadd, tden_nsub, tden_small, intD_add, intD_sub, intD_mul, intD_quo, intD_rem, intD_eql, intD_neq, intD_lss, intD_leq, intD_gtr, intD_geq, D.int.injEq, D.bool.injEq, D.str.injEq, D.list.injEq, decide_eq_true_eq, decide_eq_false_iff_not, beq_iff_eq]; simpa using hq
        · simp only [D.tm_den, den_int, den_bool, den_str, den_v, den_op, dens_nil, dens_cons, vals_at, List.getD_cons_succ, List.getD_cons_zero, List.getD_nil, List.map_cons, List.map_nil, Int.toNat_natCast, tden_bin, tden_shift, tden_conv, tden_not, tden_and, tden_sbin, tden_slen, tden_len, tden_nth, tden_fld, tden_mk, tden_cat, tden_sub, tden_set, tden_setf, tden_rep, tden_sget, tden_ssub, tden_ite, tden_bytes, tden_text, tden_fits, tden_nadd, tden_nsub, tden_small, intD_add, intD_sub, intD_mul, intD_quo, intD_rem, intD_eql, intD_neq, intD_lss, intD_leq, intD_gtr, intD_geq, D.int.injEq, D.bool.injEq, D.str.injEq, D.list.injEq, decide_eq_true_eq, decide_eq_false_iff_not, beq_iff_eq, ds, hget]; rw [show (0 : Int).toNat = 0 from rfl] at hcut ⊢; rw [hcut]
      · refine TriL.fin (envC _) hg (tb := kB1T) ⟨?_, ?_, ?_, ?_, trivial⟩ le13 kB1 (.inl ⟨rfl, rfl, (k + 1, r.drop 1), ?_, ⟨?_, ?_, ?_, hstep⟩, ?_⟩)
        · simp only [D.tm_den, den_int, den_bool, den_str, den_v, den_op, dens_nil, dens_cons, vals_at, List.getD_cons_succ, List.getD_cons_zero, List.getD_nil, List.map_cons, List.map_nil, Int.toNat_natCast, tden_bin, tden_shift, tden_conv, tden_not, tden_and, tden_sbin, tden_slen, tden_len, tden_nth, tden_fld, tden_mk, tden_cat, tden_sub, tden_set, tden_setf, tden_rep, tden_sget, tden_ssub, tden_ite, tden_bytes, tden_text, tden_fits, tden_nadd, tden_nsub, tden_small, intD_add, intD_sub, intD_mul, intD_quo, intD_rem, intD_eql, intD_neq, intD_lss, intD_leq, intD_gtr, intD_geq, D.int.injEq, D.bool.injEq, D.str.injEq, D.list.injEq, decide_eq_true_eq, decide_eq_false_iff_not, beq_iff_eq, ds, nl_eql]; simpa using h10
        · simp only [D.tm_den, den_int, den_bool, den_str, den_v, den_op, dens_nil, dens_cons, vals_at, List.getD_cons_succ, List.getD_cons_zero, List.getD_nil, List.map_cons, List.map_nil, Int.toNat_natCast, tden_bin, tden_shift, tden_conv, tden_not, tden_and, tden_sbin, tden_slen, tden_len, tden_nth, tden_fld, tden_mk, tden_cat, tden_sub, tden_set, tden_setf, tden_rep, tden_sget, tden_ssub, tden_ite, tden_bytes, tden_text, tden_fits, tden_nadd, tden_nsub, tden_small, intD_add, intD_sub, intD_mul, intD_quo, intD_rem, intD_eql, intD_neq, intD_lss, intD_leq, intD_gtr, intD_geq, D.int.injEq, D.bool.injEq, D.str.injEq, D.list.injEq, decide_eq_true_eq, decide_eq_false_iff_not, beq_iff_eq, ds, sl_len]; omega
        · simp only [D.tm_den, den_int, den_bool, den_str, den_v, den_op, dens_nil, dens_cons, vals_at, List.getD_cons_succ, List.getD_cons_zero, List.getD_nil, List.map_cons, List.map_nil, Int.toNat_natCast, tden_bin, tden_shift, tden_conv, tden_not, tden_and, tden_sbin, tden_slen, tden_len, tden_nth, tden_fld, tden_mk, tden_cat, tden_sub, tden_set, tden_setf, tden_rep, tden_sget, tden_ssub, tden_ite, tden_bytes, tden_text, tden_fits, tden_nadd, tden_nsub, tden_small, intD_add, intD_sub, intD_mul, intD_quo, intD_rem, intD_eql, intD_neq, intD_lss, intD_leq, intD_gtr, intD_geq, D.int.injEq, D.bool.injEq, D.str.injEq, D.list.injEq, decide_eq_true_eq, decide_eq_false_iff_not, beq_iff_eq, ds, sl_len]; omega
        · simp only [D.tm_den, den_int, den_bool, den_str, den_v, den_op, dens_nil, dens_cons, vals_at, List.getD_cons_succ, List.getD_cons_zero, List.getD_nil, List.map_cons, List.map_nil, Int.toNat_natCast, tden_bin, tden_shift, tden_conv, tden_not, tden_and, tden_sbin, tden_slen, tden_len, tden_nth, tden_fld, tden_mk, tden_cat, tden_sub, tden_set, tden_setf, tden_rep, tden_sget, tden_ssub, tden_ite, tden_bytes, tden_text, tden_fits, tden_nadd, tden_nsub, tden_small, intD_add, intD_sub, intD_mul, intD_quo, intD_rem, intD_eql, intD_neq, intD_lss, intD_leq, intD_gtr, intD_geq, D.int.injEq, D.bool.injEq, D.str.injEq, D.list.injEq, decide_eq_true_eq, decide_eq_false_iff_not, beq_iff_eq]; simpa using hq
        · simp only [D.tm_den, den_int, den_bool, den_str, den_v, den_op, dens_nil, dens_cons, vals_at, List.getD_cons_succ, List.getD_cons_zero, List.getD_nil, List.map_cons, List.map_nil, Int.toNat_natCast, tden_bin, tden_shift, tden_conv, tden_not, tden_and, tden_sbin, tden_slen, tden_len, tden_nth, tden_fld, tden_mk, tden_cat, tden_sub, tden_set, tden_setf, tden_rep, tden_sget, tden_ssub, tden_ite, tden_bytes, tden_text, tden_fits, tden_nadd, tden_nsub, tden_small, intD_add, intD_sub, intD_mul, intD_quo, intD_rem, intD_eql, intD_neq, intD_lss, intD_leq, intD_gtr, intD_geq, D.int.injEq, D.bool.injEq, D.str.injEq, D.list.injEq, decide_eq_true_eq, decide_eq_false_iff_not, beq_iff_eq, ds, hdn, sl_len]
          rw [show ((1 : Int)).toNat = 1 from rfl]
          simp only [show (0 : Int).toNat = 0 from rfl, Nat.zero_add] at hcut2
          rw [hcut2]
        · show (r.drop 1).length ≤ 1000; rw [List.length_drop]; omega
        · show k + 1 + (r.drop 1).length ≤ l.length; rw [List.length_drop]; omega
        · intro h0; have := hkn h0; have : n ≠ k := fun h => hq (hz.2 h); show ((k + 1 : Nat) : Int) ≤ n; omega
        · show (r.drop 1).length < r.length; rw [List.length_drop]; omega
    · by_cases hq : IntKind.i64.wrap (n - k) = 0
      · refine TriL.fin (envC _) hg (tb := kB2T) ⟨?_, ?_, ?_, ?_, ?_, ?_, ?_, trivial⟩ le13 kB2 (.inr ⟨by simp, rfl, .inr ⟨rfl, k, by omega, hz.1 hq, ?_⟩⟩)
        · simp only [D.tm_den, den_int, den_bool, den_str, den_v, den_op, dens_nil, dens_cons, vals_at, List.getD_cons_succ, List.getD_cons_zero, List.getD_nil, List.map_cons, List.map_nil, Int.toNat_natCast, tden_bin, tden_shift, tden_conv, tden_not, tden_and, tden_sbin, tden_slen, tden_len, tden_nth, tden_fld, tden_mk, tden_cat, tden_sub, tden_set, tden_setf, tden_rep, tden_sget, tden_ssub, tden_ite, tden_bytes, tden_text, tden_fits, tden_nadd, tden_nsub, tden_small, intD_add, intD_sub, intD_mul, intD_quo, intD_rem, intD_eql, intD_neq, intD_lss, intD_leq, intD_gtr, intD_geq, D.int.injEq, D.bool.injEq, D.str.injEq, D.list.injEq, decide_eq_true_eq, decide_eq_false_iff_not, beq_iff_eq, ds, nl_eql]; simpa using h10
        · simp only [D.tm_den, den_int, den_bool, den_str, den_v, den_op, dens_nil, dens_cons, vals_at, List.getD_cons_succ, List.getD_cons_zero, List.getD_nil, List.map_cons, List.map_nil, Int.toNat_natCast, tden_bin, tden_shift, tden_conv, tden_not, tden_and, tden_sbin, tden_slen, tden_len, tden_nth, tden_fld, tden_mk, tden_cat, tden_sub, tden_set, tden_setf, tden_rep, tden_sget, tden_ssub, tden_ite, tden_bytes, tden_text, tden_fits, tden_nadd, tden_nsub, tden_small, intD_add, intD_sub, intD_mul, intD_quo, intD_rem, intD_eql, intD_neq, intD_lss, intD_leq, intD_gtr, intD_geq, D.int.injEq, D.bool.injEq, D.str.injEq, D.list.injEq, decide_eq_true_eq, decide_eq_false_iff_not, beq_iff_eq, ds, den_nl, hi]; omega
        · simp only [D.tm_den, den_int, den_bool, den_str, den_v, den_op, dens_nil, dens_cons, vals_at, List.getD_cons_succ, List.getD_cons_zero, List.getD_nil, List.map_cons, List.map_nil, Int.toNat_natCast, tden_bin, tden_shift, tden_conv, tden_not, tden_and, tden_sbin, tden_slen, tden_len, tden_nth, tden_fld, tden_mk, tden_cat, tden_sub, tden_set, tden_setf, tden_rep, tden_sget, tden_ssub, tden_ite, tden_bytes, tden_text, tden_fits, tden_nadd, tden_nsub, tden_small, intD_add, intD_sub, intD_mul, intD_quo, intD_rem, intD_eql, intD_neq, intD_lss, intD_leq, intD_gtr, intD_geq, D.int.injEq, D.bool.injEq, D.str.injEq, D.list.injEq, decide_eq_true_eq, decide_eq_false_iff_not, beq_iff_eq, ds, den_nl, hi]; omega
        · simp only [D.tm_den, den_int, den_bool, den_str, den_v, den_op, dens_nil, dens_cons, vals_at, List.getD_cons_succ, List.getD_cons_zero, List.getD_nil, List.map_cons, List.map_nil, Int.toNat_natCast, tden_bin, tden_shift, tden_conv, tden_not, tden_and, tden_sbin, tden_slen, tden_len, tden_nth, tden_fld, tden_mk, tden_cat, tden_sub, tden_set, tden_setf, tden_rep, tden_sget, tden_ssub, tden_ite, tden_bytes, tden_text, tden_fits, tden_nadd, tden_nsub, tden_small, intD_add, intD_sub, intD_mul, intD_quo, intD_rem, intD_eql, intD_neq, intD_lss, intD_leq, intD_gtr, intD_geq, D.int.injEq, D.bool.injEq, D.str.injEq, D.list.injEq, decide_eq_true_eq, decide_eq_false_iff_not, beq_iff_eq, ds, den_nl, hi, sl_len]; omega
        · simp only [D.tm_den, den_int, den_bool, den_str, den_v, den_op, dens_nil, dens_cons, vals_at, List.getD_cons_succ, List.getD_cons_zero, List.getD_nil, List.map_cons, List.map_nil, Int.toNat_natCast, tden_bin, tden_shift, tden_conv, tden_not, tden_and, tden_sbin, tden_slen, tden_len, tden_nth, tden_fld, tden_mk, tden_cat, tden_sub, tden_set, tden_setf, tden_rep, tden_sget, tden_ssub, tden_ite, tden_bytes, tden_text, tden_fits, tden_nadd, tden_nsub, tden_small, intD_add, intD_sub, intD_mul, intD_quo, intD_rem, intD_eql, intD_neq, intD_lss, intD_leq, intD_gtr, intD_geq, D.int.injEq, D.bool.injEq, D.str.injEq, D.list.injEq, decide_eq_true_eq, decide_eq_false_iff_not, beq_iff_eq, ds, den_nl, hi, w1]; omega
        · simp only [D.tm_den, den_int, den_bool, den_str, den_v, den_op, dens_nil, dens_cons, vals_at, List.getD_cons_succ, List.getD_cons_zero, List.getD_nil, List.map_cons, List.map_nil, Int.toNat_natCast, tden_bin, tden_shift, tden_conv, tden_not, tden_and, tden_sbin, tden_slen, tden_len, tden_nth, tden_fld, tden_mk, tden_cat, tden_sub, tden_set, tden_setf, tden_rep, tden_sget, tden_ssub, tden_ite, tden_bytes, tden_text, tden_fits, tden_nadd, tden_nsub, tden_small, intD_add, intD_sub, intD_mul, intD_quo, intD_rem, intD_eql, intD_neq, intD_lss, intD_leq, intD_gtr, intD_geq, D.int.injEq, D.bool.injEq, D.str.injEq, D.list.injEq, decide_eq_true_eq, decide_eq_false_iff_not, beq_iff_eq, ds, den_nl, hi, w1, sl_len]; omega
        · simp only [D.tm_den, den_int, den_bool, den_str, den_v, den_op, dens_nil, dens_cons, vals_at, List.getD_cons_succ, List.getD_cons_zero, List.getD_nil, List.map_cons, List.map_nil, Int.toNat_natCast, tden_bin, tden_shift, tden_conv, tden_not, tden_and, tden_sbin, tden_slen, tden_len, tden_nth, tden_fld, tden_mk, tden_cat, tden_sub, tden_set, tden_setf, tden_rep, tden_sget, tden_ssub, tden_ite, tden_bytes, tden_text, tden_fits, tden_nadd, tden_nsub, tden_small, intD_add, intD_sub, intD_mul, intD_quo, intD_rem, intD_eql, intD_neq, intD_lss, intD_leq, intD_gtr, intD_geq, D.int.injEq, D.bool.injEq, D.str.injEq, D.list.injEq, decide_eq_true_eq, decide_eq_false_iff_not, beq_iff_eq]; simpa using hq
        · simp only [D.tm_den, den_int, den_bool, den_str, den_v, den_op, dens_nil, dens_cons, vals_at, List.getD_cons_succ, List.getD_cons_zero, List.getD_nil, List.map_cons, List.map_nil, Int.toNat_natCast, tden_bin, tden_shift, tden_conv, tden_not, tden_and, tden_sbin, tden_slen, tden_len, tden_nth, tden_fld, tden_mk, tden_cat, tden_sub, tden_set, tden_setf, tden_rep, tden_sget, tden_ssub, tden_ite, tden_bytes, tden_text, tden_fits, tden_nadd, tden_nsub, tden_small, intD_add, intD_sub, intD_mul, intD_quo, intD_rem, intD_eql, intD_neq, intD_lss, intD_leq, intD_gtr, intD_geq, D.int.injEq, D.bool.injEq, D.str.injEq, D.list.injEq, decide_eq_true_eq, decide_eq_false_iff_not, beq_iff_eq, ds, hget, den_nl, hi]; rw [show (0 : Int).toNat = 0 from rfl, hcut]
      · refine TriL.fin (envC _) hg (tb := kB3T) ⟨?_, ?_, ?_, ?_, ?_, ?_, ?_, trivial⟩ le13 kB3 (.inl ⟨rfl, rfl, (k + 1, r.drop (i.toNat + 1)), ?_, ⟨?_, ?_, ?_, hstep⟩, ?_⟩)
        · simp only [D.tm_den, den_int, den_bool, den_str, den_v, den_op, dens_nil, dens_cons, vals_at, List.getD_cons_succ, List.getD_cons_zero, List.getD_nil, List.map_cons, List.map_nil, Int.toNat_natCast, tden_bin, tden_shift, tden_conv, tden_not, tden_and, tden_sbin, tden_slen, tden_len, tden_nth, tden_fld, tden_mk, tden_cat, tden_sub, tden_set, tden_setf, tden_rep, tden_sget, tden_ssub, tden_ite, tden_bytes, tden_text, tden_fits, tden_nadd, tden_nsub, tden_small, intD_add, intD_sub, intD_mul, intD_quo, intD_rem, intD_eql, intD_neq, intD_lss, intD_leq, intD_gtr, intD_geq, D.int.injEq, D.bool.injEq, D.str.injEq, D.list.injEq, decide_eq_true_eq, decide_eq_false_iff_not, beq_iff_eq, ds, nl_eql]; simpa using h10
        · simp only [D.tm_den, den_int, den_bool, den_str, den_v, den_op, dens_nil, dens_cons, vals_at, List.getD_cons_succ, List.getD_cons_zero, List.getD_nil, List.map_cons, List.map_nil, Int.toNat_natCast, tden_bin, tden_shift, tden_conv, tden_not, tden_and, tden_sbin, tden_slen, tden_len, tden_nth, tden_fld, tden_mk, tden_cat, tden_sub, tden_set, tden_setf, tden_rep, tden_sget, tden_ssub, tden_ite, tden_bytes, tden_text, tden_fits, tden_nadd, tden_nsub, tden_small, intD_add, intD_sub, intD_mul, intD_quo, intD_rem, intD_eql, intD_neq, intD_lss, intD_leq, intD_gtr, intD_geq, D.int.injEq, D.bool.injEq, D.str.injEq, D.list.injEq, decide_eq_true_eq, decide_eq_false_iff_not, beq_iff_eq, ds, den_nl, hi]; omega
        · simp only [D.tm_den, den_int, den_bool, den_str, den_v, den_op, dens_nil, dens_cons, vals_at, List.getD_cons_succ, List.getD_cons_zero, List.getD_nil, List.map_cons, List.map_nil, Int.toNat_natCast, tden_bin, tden_shift, tden_conv, tden_not, tden_and, tden_sbin, tden_slen, tden_len, tden_nth, tden_fld, tden_mk, tden_cat, tden_sub, tden_set, tden_setf, tden_rep, tden_sget, tden_ssub, tden_ite, tden_bytes, tden_text, tden_fits, tden_nadd, tden_nsub, tden_small, intD_add, intD_sub, intD_mul, intD_quo, intD_rem, intD_eql, intD_neq, intD_lss, intD_leq, intD_gtr, intD_geq, D.int.injEq, D.bool.injEq, D.str.injEq, D.list.injEq, decide_eq_true_eq, decide_eq_false_iff_not, beq_iff_eq, ds, den_nl, hi]; omega
        · simp only [D.tm_den, den_int, den_bool, den_str, den_v, den_op, dens_nil, dens_cons, vals_at, List.getD_cons_succ, List.getD_cons_zero, List.getD_nil, List.map_cons, List.map_nil, Int.toNat_natCast, tden_bin, tden_shift, tden_conv, tden_not, tden_and, tden_sbin, tden_slen, tden_len, tden_nth, tden_fld, tden_mk, tden_cat, tden_sub, tden_set, tden_setf, tden_rep, tden_sget, tden_ssub, tden_ite, tden_bytes, tden_text, tden_fits, tden_nadd, tden_nsub, tden_small, intD_add, intD_sub, intD_mul, intD_quo, intD_rem, intD_eql, intD_neq, intD_lss, intD_leq, intD_gtr, intD_geq, D.int.injEq, D.bool.injEq, D.str.injEq, D.list.injEq, decide_eq_true_eq, decide_eq_false_iff_not, beq_iff_eq, ds, den_nl, hi, sl_len]; omega
        · simp only [D.tm_den, den_int, den_bool, den_str, den_v, den_op, dens_nil, dens_cons, vals_at, List.getD_cons_succ, List.getD_cons_zero, List.getD_nil, List.map_cons, List.map_nil, Int.toNat_natCast, tden_bin, tden_shift, tden_conv, tden_not, tden_and, tden_sbin, tden_slen, tden_len, tden_nth, tden_fld, tden_mk, tden_cat, tden_sub, tden_set, tden_setf, tden_rep, tden_sget, tden_ssub, tden_ite, tden_bytes, tden_text, tden_fits, tden_nadd, tden_nsub, tden_small, intD_add, intD_sub, intD_mul, intD_quo, intD_rem, intD_eql, intD_neq, intD_lss, intD_leq, intD_gtr, intD_geq, D.int.injEq, D.bool.injEq, D.str.injEq, D.list.injEq, decide_eq_true_eq, decide_eq_false_iff_not, beq_iff_eq, ds, den_nl, hi, w1]; omega
        · simp only [D.tm_den, den_int, den_bool, den_str, den_v, den_op, dens_nil, dens_cons, vals_at, List.getD_cons_succ, List.getD_cons_zero, List.getD_nil, List.map_cons, List.map_nil, Int.toNat_natCast, tden_bin, tden_shift, tden_conv, tden_not, tden_and, tden_sbin, tden_slen, tden_len, tden_nth, tden_fld, tden_mk, tden_cat, tden_sub, tden_set, tden_setf, tden_rep, tden_sget, tden_ssub, tden_ite, tden_bytes, tden_text, tden_fits, tden_nadd, tden_nsub, tden_small, intD_add, intD_sub, intD_mul, intD_quo, intD_rem, intD_eql, intD_neq, intD_lss, intD_leq, intD_gtr, intD_geq, D.int.injEq, D.bool.injEq, D.str.injEq, D.list.injEq, decide_eq_true_eq, decide_eq_false_iff_not, beq_iff_eq, ds, den_nl, hi, w1, sl_len]; omega
        · simp only [D.tm_den, den_int, den_bool, den_str, den_v, den_op, dens_nil, dens_cons, vals_at, List.getD_cons_succ, List.getD_cons_zero, List.getD_nil, List.map_cons, List.map_nil, Int.toNat_natCast, tden_bin, tden_shift, tden_conv, tden_not, tden_and, tden_sbin, tden_slen, tden_len, tden_nth, tden_fld, tden_mk, tden_cat, tden_sub, tden_set, tden_setf, tden_rep, tden_sget, tden_ssub, tden_ite, tden_bytes, tden_text, tden_fits, tden_nadd, tden_nsub, tden_small, intD_add, intD_sub, intD_mul, intD_quo, intD_rem, intD_eql, intD_neq, intD_lss, intD_leq, intD_gtr, intD_geq, D.int.injEq, D.bool.injEq, D.str.injEq, D.list.injEq, decide_eq_true_eq, decide_eq_false_iff_not, beq_iff_eq]; simpa using hq
        · simp only [D.tm_den, den_int, den_bool, den_str, den_v, den_op, dens_nil, dens_cons, vals_at, List.getD_cons_succ, List.getD_cons_zero, List.getD_nil, List.map_cons, List.map_nil, Int.toNat_natCast, tden_bin, tden_shift, tden_conv, tden_not, tden_and, tden_sbin, tden_slen, tden_len, tden_nth, tden_fld, tden_mk, tden_cat, tden_sub, tden_set, tden_setf, tden_rep, tden_sget, tden_ssub, tden_ite, tden_bytes, tden_text, tden_fits, tden_nadd, tden_nsub, tden_small, intD_add, intD_sub, intD_mul, intD_quo, intD_rem, intD_eql, intD_neq, intD_lss, intD_leq, intD_gtr, intD_geq, D.int.injEq, D.bool.injEq, D.str.injEq, D.list.injEq, decide_eq_true_eq, decide_eq_false_iff_not, beq_iff_eq, ds, hdn, den_nl, hi, w1, sl_len, e1, hcut2]
        · show (r.drop (i.toNat + 1)).length ≤ 1000; rw [List.length_drop]; omega
        · show k + 1 + (r.drop (i.toNat + 1)).length ≤ l.length; rw [List.length_drop]; omega
        · intro h0; have := hkn h0; have : n ≠ k := fun h => hq (hz.2 h); show ((k + 1 : Nat) : Int) ≤ n; omega
        · show (r.drop (i.toNat + 1)).length < r.length; rw [List.length_drop]; omega

theorem ok1 (l : List UInt8) (hl : l.length ≤ 1000) (k : Nat) (hk : k < (linesOf l).length) (hk2 : k ≤ 1000) : @Fact.Ok (vals [ds l, .int k, ds (linesOf l)[k]]) P G x1 := by
  refine Fact.ok_tri (fn := fn) (cd := cd) (envAt _) func body (Q := fun V' ex σ' => V' = vals [ds l, .int k, ds (linesOf l)[k]] ∧ ex = .ret ∧ σ' = found) (Tri.mono (run l hl k (by omega) _) ?_) ?hq
  case hq =>
    rintro V' ex σ' ⟨rfl, rfl, rfl⟩
    exact ⟨rfl, .inr rfl, by kernel_rfl⟩
  rintro V' ex σ' ⟨rfl, ⟨-, -, h⟩ | ⟨rfl, k', h, e, rfl⟩⟩
  · exact absurd ⟨by omega, by omega⟩ h
  · have : k = k' := by omega
    subst this
    exact ⟨rfl, rfl, rfl⟩
theorem ok0 (l : List UInt8) (hl : l.length ≤ 1000) (n : Int) (hn : -2 ^ 63 ≤ n ∧ n < 2 ^ 63) (h : ¬ (0 ≤ n ∧ n < (linesOf l).length)) : @Fact.Ok (vals [ds l, .int n, .int 0]) P G x0 := by
  refine Fact.ok_tri (fn := fn) (cd := cd) (envAt _) func body (Q := fun V' ex σ' => V' = vals [ds l, .int n, .int 0] ∧ ex = .ret ∧ σ' = none_) (Tri.mono (run l hl n hn (.int 0)) ?_) ?hq
  case hq =>
    rintro V' ex σ' ⟨rfl, rfl, rfl⟩
    exact ⟨rfl, .inr rfl, by kernel_rfl⟩
  rintro V' ex σ' ⟨rfl, ⟨rfl, rfl, -⟩ | ⟨-, k', h', e, -⟩⟩
  · exact ⟨rfl, rfl, rfl⟩
  · exact absurd ⟨by omega, by omega⟩ h
end el

namespace ln
def σ2 : St := { vars := [(3, .ptr 7 0), (4, .ptr 8 0), (5, .ptr 9 0)], loc := [(8, .fn (.func 40) [] [.ptr 10 0])], marks := [], objs := el.rows (.v 1) (.v 0) (.str ⟨0, 0⟩) false, next := 11 }
def x1 : Fact := ⟨6, [el.s (.v 0), el.i64 (.v 1)], 7, [], .tuple [el.s (.v 2), .bool true], [], 13⟩
def x0 : Fact := ⟨6, [el.s (.v 0), el.i64 (.v 1)], 7, [], .tuple [.str ⟨0, 0⟩, .bool false], [], 13⟩
def ypre : List (Nat × AObj) := el.rows (.v 1) (.v 0) (.str ⟨0, 0⟩) false ++ [(12, .loop ⟨.ready, none, ⟨635, 15, 7⟩, ⟨σ2.vars, σ2.loc⟩, .at_ 6 [1, 0, 1, 2], 11⟩)]
def y1 : Fact := ⟨40, el.args, 13, ypre, .tuple [], [(8, el.row1 (el.s (.v 2)) 9), (9, el.row1 (.bool true) 4), (12, .loop ⟨.done, some .ret, ⟨635, 15, 7⟩, ⟨[], []⟩, .at_ 6 [1, 0, 1, 2], 11⟩)], 13⟩
def y0 : Fact := ⟨40, el.args, 13, ypre, .tuple [], [(8, el.row1 (.str ⟨0, 0⟩) 9), (9, el.row1 (.bool false) 4), (12, .loop ⟨.ready, none, ⟨635, 15, 7⟩, ⟨[], []⟩, .at_ 6 [1, 0, 1, 2], 11⟩)], 13⟩
def nm : List (Nat × Nat) := [(7, 7), (8, 8), (9, 9), (10, 10), (11, 11), (12, 12)]
theorem use1 : usesSo (tableNf []) G (subs [.v 0, .v 1, .v 2]) nm el.x1 y1 = true := by kernel_rfl
theorem use0 : usesSo (tableNf []) G (subs [.v 0, .v 1, .v 2]) nm el.x0 y0 = true := by kernel_rfl
noncomputable def fn : Func := Tryz.f6
noncomputable def cd : Code := match fn.body with | some c => c | none => .skip
noncomputable def cx : Ctx := cxOf P fn cd 2
noncomputable def L : List Code := flat cd
noncomputable def rf : Code := inBlock (L.getD 2 .skip)
theorem func : P.funcs[6]? = some fn := Tryz.func6
theorem body : fn.body = some cd := by kernel_rfl
theorem at2 : L.drop 2 = .block 0 rf :: L.drop 3 := by kernel_rfl
theorem rf_eq : rf = .rangeFunc (.tmp 8) (codeAt P 6 [1, 0, 1, 2]).params (codeAt P 6 [1, 0, 1, 2]).assign (codeAt P 6 [1, 0, 1, 2]).body := by kernel_rfl
def ends (a : AV) (b : Bool) : St := { vars := [(4, .ptr 8 0), (5, .ptr 9 0)], loc := [], marks := [11], objs := [(8, el.row1 a 9), (9, el.row1 (.bool b) 4), (11, .dfr true)], next := 13 }
def E1 : Env := E0.know [y1]
def E2 : Env := E0.know [y0]
theorem kA : evFl P (E0.tab []) 100000 cx none 7 (L.take 2) (startSt x1) [] (subs [.v 0, .v 1, .v 2]) [(7, 7), (8, 8), (9, 9), (10, 10)] .normal σ2 = true := by kernel_rfl
theorem k1 : evRange P (E1.tab []) 100000 cx none 7 (.tmp 8) (.at_ 6 [1, 0, 1, 2]) σ2 [] (subs [.v 0, .v 1, .v 2]) [(8, 8), (9, 9), (11, 11)] .ret (ends (el.s (.v 2)) true) = true := by kernel_rfl
theorem k0 : evRange P (E2.tab []) 100000 cx none 7 (.tmp 8) (.at_ 6 [1, 0, 1, 2]) σ2 [] (subs [.v 0, .v 1, .v 2]) [(8, 8), (9, 9), (11, 11)] .normal (ends (.str ⟨0, 0⟩) false) = true := by kernel_rfl
theorem kC : evFl P (E0.tab []) 100000 cx none 7 (L.drop 3) (ends (.str ⟨0, 0⟩) false) [] (subs [.v 0, .v 1, .v 2]) [(8, 8), (9, 9), (11, 11)] .ret (ends (.str ⟨0, 0⟩) false) = true := by kernel_rfl
theorem ok1 (l : List UInt8) (hl : l.length ≤ 1000) (k : Nat) (hk : k < (linesOf l).length) (hk2 : k ≤ 1000) : @Fact.Ok (vals [ds l, .int k, ds (linesOf l)[k]]) P G x1 := by
  have hg : cx.glob = G := by kernel_rfl
  have hy := el.ok1 l hl k hk hk2
  generalize ds (linesOf l)[k] = a at *
  refine Fact.ok_tri (fn := fn) (cd := cd) (envAt _) func body (Q := fun V' ex σ' => V' = vals [ds l, .int k, a] ∧ ex = .ret ∧ σ' = ends (el.s (.v 2)) true) ?tri ?hq
  case hq =>
    rintro V' ex σ' ⟨rfl, rfl, rfl⟩
    exact ⟨rfl, .inr rfl, by kernel_rfl⟩
  refine Tri.flat (by kernel_rfl) ?_
  show TriL P G _ cx none 7 L _ _
  refine TriL.go 2 (envAt _) hg stays_none (tb := []) trivial (Nat.le_refl 7) kA ?_
  simp only [D.tm_den, den_int, den_bool, den_str, den_v, den_op, dens_nil, dens_cons, vals_at, List.getD_cons_succ, List.getD_cons_zero, List.getD_nil, List.map_cons, List.map_nil, Int.toNat_natCast, tden_bin, tden_shift, tden_conv, tden_not, tden_and, tden_sbin, tden_slen, tden_len, tden_nth, tden_fld, tden_mk, tden_cat, tden_sub, tden_set, tden_setf, tden_rep, tden_sget, tden_ssub, tden_ite, tden_bytes, tden_text, tden_fits, tden_nadd, tden_nsub, tden_small, intD_add, intD_sub, intD_mul, intD_quo, intD_rem, intD_eql, intD_neq, intD_lss, intD_leq, intD_gtr, intD_geq, D.int.injEq, D.bool.injEq, D.str.injEq, D.list.injEq, decide_eq_true_eq, decide_eq_false_iff_not, beq_iff_eq]
  rw [at2]
  have hE : @EnvOk (vals [ds l, .int k, a]) P G E1 := @EnvOk.know (vals _) P G _ (envAt _) [y1] fun z hz => by
    simp only [List.mem_singleton] at hz
    subst hz
    exact Fact.use (tb := []) (ts := [.v 0, .v 1, .v 2]) (l := nm) trivial rfl hy use1
  refine TriL.cons stays_none (Q1 := fun V' ex σ' => V' = vals [ds l, .int k, a] ∧ ex = .ret ∧ σ' = ends (el.s (.v 2)) true) (Tri.block (Tri.range hE hg (tb := []) trivial 6 [1, 0, 1, 2] rf_eq (show (7 : Nat) ≤ 11 by omega) k1 ⟨?_, rfl, rfl⟩)) (fun V' σ' h => by cases h.2.1) (fun V' ex σ' _ h => h)
  simp only [D.tm_den, den_int, den_bool, den_str, den_v, den_op, dens_nil, dens_cons, vals_at, List.getD_cons_succ, List.getD_cons_zero, List.getD_nil, List.map_cons, List.map_nil, Int.toNat_natCast, tden_bin, tden_shift, tden_conv, tden_not, tden_and, tden_sbin, tden_slen, tden_len, tden_nth, tden_fld, tden_mk, tden_cat, tden_sub, tden_set, tden_setf, tden_rep, tden_sget, tden_ssub, tden_ite, tden_bytes, tden_text, tden_fits, tden_nadd, tden_nsub, tden_small, intD_add, intD_sub, intD_mul, intD_quo, intD_rem, intD_eql, intD_neq, intD_lss, intD_leq, intD_gtr, intD_geq, D.int.injEq, D.bool.injEq, D.str.injEq, D.list.injEq, decide_eq_true_eq, decide_eq_false_iff_not, beq_iff_eq]
theorem ok0 (l : List UInt8) (hl : l.length ≤ 1000) (n : Int) (hn : -2 ^ 63 ≤ n ∧ n < 2 ^ 63) (h : ¬ (0 ≤ n ∧ n < (linesOf l).length)) : @Fact.Ok (vals [ds l, .int n, .int 0]) P G x0 := by
  have hg : cx.glob = G := by kernel_rfl
  have hy := el.ok0 l hl n hn h
  refine Fact.ok_tri (fn := fn) (cd := cd) (envAt _) func body (Q := fun V' ex σ' => V' = vals [ds l, .int n, .int 0] ∧ ex = .ret ∧ σ' = ends (.str ⟨0, 0⟩) false) ?tri ?hq
  case hq =>
    rintro V' ex σ' ⟨rfl, rfl, rfl⟩
    exact ⟨rfl, .inr rfl, by kernel_rfl⟩
  refine Tri.flat (by kernel_rfl) ?_
  show TriL P G _ cx none 7 L _ _
  refine TriL.go 2 (envAt _) hg stays_none (tb := []) trivial (Nat.le_refl 7) kA ?_
  simp only [D.tm_den, den_int, den_bool, den_str, den_v, den_op, dens_nil, dens_cons, vals_at, List.getD_cons_succ, List.getD_cons_zero, List.getD_nil, List.map_cons, List.map_nil, Int.toNat_natCast, tden_bin, tden_shift, tden_conv, tden_not, tden_and, tden_sbin, tden_slen, tden_len, tden_nth, tden_fld, tden_mk, tden_cat, tden_sub, tden_set, tden_setf, tden_rep, tden_sget, tden_ssub, tden_ite, tden_bytes, tden_text, tden_fits, tden_nadd, tden_nsub, tden_small, intD_add, intD_sub, intD_mul, intD_quo, intD_rem, intD_eql, intD_neq, intD_lss, intD_leq, intD_gtr, intD_geq, D.int.injEq, D.bool.injEq, D.str.injEq, D.list.injEq, decide_eq_true_eq, decide_eq_false_iff_not, beq_iff_eq]
  rw [at2]
  have hE : @EnvOk (vals [ds l, .int n, .int 0]) P G E2 := @EnvOk.know (vals _) P G _ (envAt _) [y0] fun z hz => by
    simp only [List.mem_singleton] at hz
    subst hz
    exact Fact.use (tb := []) (ts := [.v 0, .v 1, .v 2]) (l := nm) trivial rfl hy use0
  refine TriL.cons stays_none (Q1 := fun V' ex σ' => V' = vals [ds l, .int n, .int 0] ∧ ex = .normal ∧ σ' = ends (.str ⟨0, 0⟩) false) (Tri.block (Tri.range hE hg (tb := []) trivial 6 [1, 0, 1, 2] rf_eq (show (7 : Nat) ≤ 11 by omega) k0 ⟨?_, rfl, rfl⟩)) ?_ (fun V' ex σ' hne h => absurd h.2.1 hne)
  · simp only [D.tm_den, den_int, den_bool, den_str, den_v, den_op, dens_nil, dens_cons, vals_at, List.getD_cons_succ, List.getD_cons_zero, List.getD_nil, List.map_cons, List.map_nil, Int.toNat_natCast, tden_bin, tden_shift, tden_conv, tden_not, tden_and, tden_sbin, tden_slen, tden_len, tden_nth, tden_fld, tden_mk, tden_cat, tden_sub, tden_set, tden_setf, tden_rep, tden_sget, tden_ssub, tden_ite, tden_bytes, tden_text, tden_fits, tden_nadd, tden_nsub, tden_small, intD_add, intD_sub, intD_mul, intD_quo, intD_rem, intD_eql, intD_neq, intD_lss, intD_leq, intD_gtr, intD_geq, D.int.injEq, D.bool.injEq, D.str.injEq, D.list.injEq, decide_eq_true_eq, decide_eq_false_iff_not, beq_iff_eq]
  · rintro V' σ' ⟨rfl, -, rfl⟩
    refine TriL.fin (envAt _) hg (tb := []) trivial (show (7 : Nat) ≤ 13 by omega) kC ⟨?_, rfl, rfl⟩
    simp only [D.tm_den, den_int, den_bool, den_str, den_v, den_op, dens_nil, dens_cons, vals_at, List.getD_cons_succ, List.getD_cons_zero, List.getD_nil, List.map_cons, List.map_nil, Int.toNat_natCast, tden_bin, tden_shift, tden_conv, tden_not, tden_and, tden_sbin, tden_slen, tden_len, tden_nth, tden_fld, tden_mk, tden_cat, tden_sub, tden_set, tden_setf, tden_rep, tden_sget, tden_ssub, tden_ite, tden_bytes, tden_text, tden_fits, tden_nadd, tden_nsub, tden_small, intD_add, intD_sub, intD_mul, intD_quo, intD_rem, intD_eql, intD_neq, intD_lss, intD_leq, intD_gtr, intD_geq, D.int.injEq, D.bool.injEq, D.str.injEq, D.list.injEq, decide_eq_true_eq, decide_eq_false_iff_not, beq_iff_eq]
end ln
end Go.Proofs.YtkkoidhohapjcaaGreatDoor
