/- strings.Cut at a newline, strings.HasPrefix: of texts that are not known. No condition but the texts' lengths. -/
import Derived.Test.YtkkoidhohapjcaaGreatDoorRef
set_option linter.unusedSimpArgs false
set_option linter.unusedVariables false
set_option linter.unusedSectionVars false
set_option maxRecDepth 100000
namespace Go.Proofs.YtkkoidhohapjcaaGreatDoor
open Go.Tc

/-- ahead of the first newline, behind it, whether there is one. -/
def cutB (l : List UInt8) : List UInt8 := if 0 ≤ Lib.indexByte l 10 then l.take (Lib.indexByte l 10).toNat else l
def cutA (l : List UInt8) : List UInt8 := if 0 ≤ Lib.indexByte l 10 then l.drop ((Lib.indexByte l 10).toNat + 1) else []
def cutF (l : List UInt8) : Bool := decide (0 ≤ Lib.indexByte l 10)
theorem linesOf_cut (l : List UInt8) : linesOf l = if cutF l then cutB l :: linesOf (cutA l) else [] := by
  unfold cutF cutB cutA
  by_cases h : 0 ≤ Lib.indexByte l 10
  · simp only [h, decide_true, if_true]; exact linesOf_some h
  · simp only [h, decide_false, Bool.false_eq_true, if_false]; exact linesOf_none (by omega)
theorem cut_len {l : List UInt8} (h : cutF l = true) : (cutB l).length + (cutA l).length + 1 = l.length := by
  unfold cutF at h
  have h := of_decide_eq_true h
  have := indexByte_ge 10 l
  unfold cutB cutA
  simp only [h, if_true, List.length_take, List.length_drop]
  omega

namespace cu
def s (t : Tm) : AV := .sy .str t
def x : Fact := ⟨41, [s (.v 0), .str ⟨1, 10⟩], 7, [], .tuple [s (.v 1), s (.v 2), .sy .bool (.v 3)], [], 7⟩
noncomputable def fn : Func := Tryz.f41
noncomputable def cd : Code := match fn.body with | some c => c | none => .skip
noncomputable def cx : Ctx := cxOf P fn cd 2
noncomputable def L : List Code := flat cd
theorem func : P.funcs[x.f]? = some fn := Tryz.func41
theorem body : fn.body = some cd := by kernel_rfl
def fin : St := { vars := [(4, s (.v 1)), (5, s (.v 2)), (6, .sy .bool (.v 3))], loc := [], marks := [], objs := [], next := 7 }
def kC0T : List (Tm × Tm) := [((.op (.sbin .eql) [(.str ⟨1, 10⟩), (.v 0)]), (.bool true)), ((.op (.bin .leq .i64) [(.int 0), (.op .slen [(.v 0)])]), (.bool true)), ((.op (.bin .leq .i64) [(.int 1), (.op .slen [(.v 0)])]), (.bool true))]
theorem kC0 : evFl P (E0.tab kC0T) 100000 cx none 7 L (startSt x) [] (subs [(.v 0), (.op .ssub [(.v 0), (.int 0), (.int 0)]), (.op .ssub [(.v 0), (.int 1), (.op .slen [(.v 0)])]), (.bool true)]) [] .ret fin = true := by kernel_rfl
def kC1T : List (Tm × Tm) := [((.op (.sbin .eql) [(.str ⟨1, 10⟩), (.v 0)]), (.bool false)), ((.op (.bin .geq .i64) [(.op .idx [(.v 0), (.int 10)]), (.int 0)]), (.bool true)), ((.op (.bin .leq .i64) [(.int 0), (.op .idx [(.v 0), (.int 10)])]), (.bool true)), ((.op (.bin .leq .i64) [(.op .idx [(.v 0), (.int 10)]), (.op .slen [(.v 0)])]), (.bool true)), ((.op (.bin .leq .i64) [(.int 0), (.op (.bin .add .i64) [(.op .idx [(.v 0), (.int 10)]), (.int 1)])]), (.bool true)), ((.op (.bin .leq .i64) [(.op (.bin .add .i64) [(.op .idx [(.v 0), (.int 10)]), (.int 1)]), (.op .slen [(.v 0)])]), (.bool true))]
theorem kC1 : evFl P (E0.tab kC1T) 100000 cx none 7 L (startSt x) [] (subs [(.v 0), (.op .ssub [(.v 0), (.int 0), (.op .idx [(.v 0), (.int 10)])]), (.op .ssub [(.v 0), (.op (.bin .add .i64) [(.op .idx [(.v 0), (.int 10)]), (.int 1)]), (.op .slen [(.v 0)])]), (.bool true)]) [] .ret fin = true := by kernel_rfl
def kC2T : List (Tm × Tm) := [((.op (.sbin .eql) [(.str ⟨1, 10⟩), (.v 0)]), (.bool false)), ((.op (.bin .geq .i64) [(.op .idx [(.v 0), (.int 10)]), (.int 0)]), (.bool false))]
theorem kC2 : evFl P (E0.tab kC2T) 100000 cx none 7 L (startSt x) [] (subs [(.v 0), (.v 0), (.str ⟨0, 0⟩), (.bool false)]) [] .ret fin = true := by kernel_rfl
theorem ok (l : List UInt8) (hl : l.length ≤ 1000) : @Fact.Ok (vals [ds l, ds (cutB l), ds (cutA l), .bool (cutF l)]) P G x := by
  have hg : cx.glob = G := by kernel_rfl
  refine Fact.ok_tri (fn := fn) (cd := cd) (envAt _) func body (Q := fun V' ex σ' => V' = vals [ds l, ds (cutB l), ds (cutA l), .bool (cutF l)] ∧ ex = .ret ∧ σ' = fin) ?tri ?hq
  case hq =>
    rintro V' ex σ' ⟨rfl, rfl, rfl⟩
    exact ⟨rfl, .inr rfl, by kernel_rfl⟩
  refine Tri.flat (by kernel_rfl) ?_
  show TriL P G _ cx none 7 L _ _
  obtain ⟨hi1, hi2⟩ := indexByte_ge 10 l
  unfold cutB cutA cutF
  have w1 : IntKind.i64.wrap (Lib.indexByte l 10 + 1) = Lib.indexByte l 10 + 1 := wrap_i64 (by omega)
  generalize hi : Lib.indexByte l 10 = i at *
  by_cases h1 : i < 0
  · have hne : [10] ≠ l := by rintro rfl; simp [Lib.indexByte] at hi; omega
    simp only [show ¬ 0 ≤ i by omega, if_false, decide_false]
    refine TriL.fin (envAt _) hg (tb := kC2T) ⟨?_, ?_, trivial⟩ (Nat.le_refl 7) kC2 ⟨?_, rfl, rfl⟩
    · simp only [D.tm_den, den_int, den_bool, den_str, den_v, den_op, dens_nil, dens_cons, vals_at, List.getD_cons_succ, List.getD_cons_zero, List.getD_nil, List.map_cons, List.map_nil, Int.toNat_natCast, tden_bin, tden_shift, tden_conv, tden_not, tden_and, tden_sbin, tden_slen, tden_len, tden_nth, tden_fld, tden_mk, tden_cat, tden_sub, tden_set, tden_setf, tden_rep, tden_sget, tden_ssub, tden_ite, tden_bytes, tden_text, tden_fits, tden_nadd, tden_nsub, tden_small, intD_add, intD_sub, intD_mul, intD_quo, intD_rem, intD_eql, intD_neq, intD_lss, intD_leq, intD_gtr, intD_geq, D.int.injEq, D.bool.injEq, D.str.injEq, D.list.injEq, decide_eq_true_eq, decide_eq_false_iff_not, beq_iff_eq, ds, nl_eql]; simpa using hne
    · simp only [D.tm_den, den_int, den_bool, den_str, den_v, den_op, dens_nil, dens_cons, vals_at, List.getD_cons_succ, List.getD_cons_zero, List.getD_nil, List.map_cons, List.map_nil, Int.toNat_natCast, tden_bin, tden_shift, tden_conv, tden_not, tden_and, tden_sbin, tden_slen, tden_len, tden_nth, tden_fld, tden_mk, tden_cat, tden_sub, tden_set, tden_setf, tden_rep, tden_sget, tden_ssub, tden_ite, tden_bytes, tden_text, tden_fits, tden_nadd, tden_nsub, tden_small, intD_add, intD_sub, intD_mul, intD_quo, intD_rem, intD_eql, intD_neq, intD_lss, intD_leq, intD_gtr, intD_geq, D.int.injEq, D.bool.injEq, D.str.injEq, D.list.injEq, decide_eq_true_eq, decide_eq_false_iff_not, beq_iff_eq, ds, den_nl, hi]; omega
    · simp only [D.tm_den, den_int, den_bool, den_str, den_v, den_op, dens_nil, dens_cons, vals_at, List.getD_cons_succ, List.getD_cons_zero, List.getD_nil, List.map_cons, List.map_nil, Int.toNat_natCast, tden_bin, tden_shift, tden_conv, tden_not, tden_and, tden_sbin, tden_slen, tden_len, tden_nth, tden_fld, tden_mk, tden_cat, tden_sub, tden_set, tden_setf, tden_rep, tden_sget, tden_ssub, tden_ite, tden_bytes, tden_text, tden_fits, tden_nadd, tden_nsub, tden_small, intD_add, intD_sub, intD_mul, intD_quo, intD_rem, intD_eql, intD_neq, intD_lss, intD_leq, intD_gtr, intD_geq, D.int.injEq, D.bool.injEq, D.str.injEq, D.list.injEq, decide_eq_true_eq, decide_eq_false_iff_not, beq_iff_eq, ds]; rfl
  · simp only [show 0 ≤ i by omega, if_true, decide_true]
    have hcut : (BS.ofList l).cut 0 i.toNat = BS.ofList (l.take i.toNat) := by
      rw [ofList_cut l 0 i.toNat (Nat.zero_le _) (by omega)]; simp
    have hcut2 : (BS.ofList l).cut (i.toNat + 1) l.length = BS.ofList (l.drop (i.toNat + 1)) := by
      rw [ofList_cut l (i.toNat + 1) l.length (by omega) (by omega)]
      congr 1
      rw [List.take_of_length_le]; rw [List.length_drop]; exact Nat.le_refl _
    have e1 : (i + 1).toNat = i.toNat + 1 := by omega
    by_cases h10 : [10] = l
    · have hi0 : i = 0 := by rw [← hi, ← h10]; simp [Lib.indexByte]
      subst hi0
      have hrl : l.length = 1 := by rw [← h10]; rfl
      refine TriL.fin (envAt _) hg (tb := kC0T) ⟨?_, ?_, ?_, trivial⟩ (Nat.le_refl 7) kC0 ⟨?_, rfl, rfl⟩
      · simp only [D.tm_den, den_int, den_bool, den_str, den_v, den_op, dens_nil, dens_cons, vals_at, List.getD_cons_succ, List.getD_cons_zero, List.getD_nil, List.map_cons, List.map_nil, Int.toNat_natCast, tden_bin, tden_shift, tden_conv, tden_not, tden_and, tden_sbin, tden_slen, tden_len, tden_nth, tden_fld, tden_mk, tden_cat, tden_sub, tden_set, tden_setf, tden_rep, tden_sget, tden_ssub, tden_ite, tden_bytes, tden_text, tden_fits, tden_nadd, tden_nsub, tden_small, intD_add, intD_sub, intD_mul, intD_quo, intD_rem, intD_eql, intD_neq, intD_lss, intD_leq, intD_gtr, intD_geq, D.int.injEq, D.bool.injEq, D.str.injEq, D.list.injEq, decide_eq_true_eq, decide_eq_false_iff_not, beq_iff_eq, ds, nl_eql]; simpa using h10
      · simp only [D.tm_den, den_int, den_bool, den_str, den_v, den_op, dens_nil, dens_cons, vals_at, List.getD_cons_succ, List.getD_cons_zero, List.getD_nil, List.map_cons, List.map_nil, Int.toNat_natCast, tden_bin, tden_shift, tden_conv, tden_not, tden_and, tden_sbin, tden_slen, tden_len, tden_nth, tden_fld, tden_mk, tden_cat, tden_sub, tden_set, tden_setf, tden_rep, tden_sget, tden_ssub, tden_ite, tden_bytes, tden_text, tden_fits, tden_nadd, tden_nsub, tden_small, intD_add, intD_sub, intD_mul, intD_quo, intD_rem, intD_eql, intD_neq, intD_lss, intD_leq, intD_gtr, intD_geq, D.int.injEq, D.bool.injEq, D.str.injEq, D.list.injEq, decide_eq_true_eq, decide_eq_false_iff_not, beq_iff_eq, ds, sl_len]; omega
      · simp only [D.tm_den, den_int, den_bool, den_str, den_v, den_op, dens_nil, dens_cons, vals_at, List.getD_cons_succ, List.getD_cons_zero, List.getD_nil, List.map_cons, List.map_nil, Int.toNat_natCast, tden_bin, tden_shift, tden_conv, tden_not, tden_and, tden_sbin, tden_slen, tden_len, tden_nth, tden_fld, tden_mk, tden_cat, tden_sub, tden_set, tden_setf, tden_rep, tden_sget, tden_ssub, tden_ite, tden_bytes, tden_text, tden_fits, tden_nadd, tden_nsub, tden_small, intD_add, intD_sub, intD_mul, intD_quo, intD_rem, intD_eql, intD_neq, intD_lss, intD_leq, intD_gtr, intD_geq, D.int.injEq, D.bool.injEq, D.str.injEq, D.list.injEq, decide_eq_true_eq, decide_eq_false_iff_not, beq_iff_eq, ds, sl_len]; omega
      · simp only [D.tm_den, den_int, den_bool, den_str, den_v, den_op, dens_nil, dens_cons, vals_at, List.getD_cons_succ, List.getD_cons_zero, List.getD_nil, List.map_cons, List.map_nil, Int.toNat_natCast, tden_bin, tden_shift, tden_conv, tden_not, tden_and, tden_sbin, tden_slen, tden_len, tden_nth, tden_fld, tden_mk, tden_cat, tden_sub, tden_set, tden_setf, tden_rep, tden_sget, tden_ssub, tden_ite, tden_bytes, tden_text, tden_fits, tden_nadd, tden_nsub, tden_small, intD_add, intD_sub, intD_mul, intD_quo, intD_rem, intD_eql, intD_neq, intD_lss, intD_leq, intD_gtr, intD_geq, D.int.injEq, D.bool.injEq, D.str.injEq, D.list.injEq, decide_eq_true_eq, decide_eq_false_iff_not, beq_iff_eq, ds, sl_len]
        simp only [show (0 : Int).toNat = 0 from rfl, show (1 : Int).toNat = 1 from rfl, Nat.zero_add] at hcut hcut2 ⊢
        rw [hcut, hcut2]
    · refine TriL.fin (envAt _) hg (tb := kC1T) ⟨?_, ?_, ?_, ?_, ?_, ?_, trivial⟩ (Nat.le_refl 7) kC1 ⟨?_, rfl, rfl⟩
      · simp only [D.tm_den, den_int, den_bool, den_str, den_v, den_op, dens_nil, dens_cons, vals_at, List.getD_cons_succ, List.getD_cons_zero, List.getD_nil, List.map_cons, List.map_nil, Int.toNat_natCast, tden_bin, tden_shift, tden_conv, tden_not, tden_and, tden_sbin, tden_slen, tden_len, tden_nth, tden_fld, tden_mk, tden_cat, tden_sub, tden_set, tden_setf, tden_rep, tden_sget, tden_ssub, tden_ite, tden_bytes, tden_text, tden_fits, tden_nadd, tden_nsub, tden_small, intD_add, intD_sub, intD_mul, intD_quo, intD_rem, intD_eql, intD_neq, intD_lss, intD_leq, intD_gtr, intD_geq, D.int.injEq, D.bool.injEq, D.str.injEq, D.list.injEq, decide_eq_true_eq, decide_eq_false_iff_not, beq_iff_eq, ds, nl_eql]; simpa using h10
      · simp only [D.tm_den, den_int, den_bool, den_str, den_v, den_op, dens_nil, dens_cons, vals_at, List.getD_cons_succ, List.getD_cons_zero, List.getD_nil, List.map_cons, List.map_nil, Int.toNat_natCast, tden_bin, tden_shift, tden_conv, tden_not, tden_and, tden_sbin, tden_slen, tden_len, tden_nth, tden_fld, tden_mk, tden_cat, tden_sub, tden_set, tden_setf, tden_rep, tden_sget, tden_ssub, tden_ite, tden_bytes, tden_text, tden_fits, tden_nadd, tden_nsub, tden_small, intD_add, intD_sub, intD_mul, intD_quo, intD_rem, intD_eql, intD_neq, intD_lss, intD_leq, intD_gtr, intD_geq, D.int.injEq, D.bool.injEq, D.str.injEq, D.list.injEq, decide_eq_true_eq, decide_eq_false_iff_not, beq_iff_eq, ds, den_nl, hi]; omega
      · simp only [D.tm_den, den_int, den_bool, den_str, den_v, den_op, dens_nil, dens_cons, vals_at, List.getD_cons_succ, List.getD_cons_zero, List.getD_nil, List.map_cons, List.map_nil, Int.toNat_natCast, tden_bin, tden_shift, tden_conv, tden_not, tden_and, tden_sbin, tden_slen, tden_len, tden_nth, tden_fld, tden_mk, tden_cat, tden_sub, tden_set, tden_setf, tden_rep, tden_sget, tden_ssub, tden_ite, tden_bytes, tden_text, tden_fits, tden_nadd, tden_nsub, tden_small, intD_add, intD_sub, intD_mul, intD_quo, intD_rem, intD_eql, intD_neq, intD_lss, intD_leq, intD_gtr, intD_geq, D.int.injEq, D.bool.injEq, D.str.injEq, D.list.injEq, decide_eq_true_eq, decide_eq_false_iff_not, beq_iff_eq, ds, den_nl, hi]; omega
      · simp only [D.tm_den, den_int, den_bool, den_str, den_v, den_op, dens_nil, dens_cons, vals_at, List.getD_cons_succ, List.getD_cons_zero, List.getD_nil, List.map_cons, List.map_nil, Int.toNat_natCast, tden_bin, tden_shift, tden_conv, tden_not, tden_and, tden_sbin, tden_slen, tden_len, tden_nth, tden_fld, tden_mk, tden_cat, tden_sub, tden_set, tden_setf, tden_rep, tden_sget, tden_ssub, tden_ite, tden_bytes, tden_text, tden_fits, tden_nadd, tden_nsub, tden_small, intD_add, intD_sub, intD_mul, intD_quo, intD_rem, intD_eql, intD_neq, intD_lss, intD_leq, intD_gtr, intD_geq, D.int.injEq, D.bool.injEq, D.str.injEq, D.list.injEq, decide_eq_true_eq, decide_eq_false_iff_not, beq_iff_eq, ds, den_nl, hi, sl_len]; omega
      · simp only [D.tm_den, den_int, den_bool, den_str, den_v, den_op, dens_nil, dens_cons, vals_at, List.getD_cons_succ, List.getD_cons_zero, List.getD_nil, List.map_cons, List.map_nil, Int.toNat_natCast, tden_bin, tden_shift, tden_conv, tden_not, tden_and, tden_sbin, tden_slen, tden_len, tden_nth, tden_fld, tden_mk, tden_cat, tden_sub, tden_set, tden_setf, tden_rep, tden_sget, tden_ssub, tden_ite, tden_bytes, tden_text, tden_fits, tden_nadd, tden_nsub, tden_small, intD_add, intD_sub, intD_mul, intD_quo, intD_rem, intD_eql, intD_neq, intD_lss, intD_leq, intD_gtr, intD_geq, D.int.injEq, D.bool.injEq, D.str.injEq, D.list.injEq, decide_eq_true_eq, decide_eq_false_iff_not, beq_iff_eq, ds, den_nl, hi, w1]; omega
      · simp only [D.tm_den, den_int, den_bool, den_str, den_v, den_op, dens_nil, dens_cons, vals_at, List.getD_cons_succ, List.getD_cons_zero, List.getD_nil, List.map_cons, List.map_nil, Int.toNat_natCast, tden_bin, tden_shift, tden_conv, tden_not, tden_and, tden_sbin, tden_slen, tden_len, tden_nth, tden_fld, tden_mk, tden_cat, tden_sub, tden_set, tden_setf, tden_rep, tden_sget, tden_ssub, tden_ite, tden_bytes, tden_text, tden_fits, tden_nadd, tden_nsub, tden_small, intD_add, intD_sub, intD_mul, intD_quo, intD_rem, intD_eql, intD_neq, intD_lss, intD_leq, intD_gtr, intD_geq, D.int.injEq, D.bool.injEq, D.str.injEq, D.list.injEq, decide_eq_true_eq, decide_eq_false_iff_not, beq_iff_eq, ds, den_nl, hi, w1, sl_len]; omega
      · simp only [D.tm_den, den_int, den_bool, den_str, den_v, den_op, dens_nil, dens_cons, vals_at, List.getD_cons_succ, List.getD_cons_zero, List.getD_nil, List.map_cons, List.map_nil, Int.toNat_natCast, tden_bin, tden_shift, tden_conv, tden_not, tden_and, tden_sbin, tden_slen, tden_len, tden_nth, tden_fld, tden_mk, tden_cat, tden_sub, tden_set, tden_setf, tden_rep, tden_sget, tden_ssub, tden_ite, tden_bytes, tden_text, tden_fits, tden_nadd, tden_nsub, tden_small, intD_add, intD_sub, intD_mul, intD_quo, intD_rem, intD_eql, intD_neq, intD_lss, intD_leq, intD_gtr, intD_geq, D.int.injEq, D.bool.injEq, D.str.injEq, D.list.injEq, decide_eq_true_eq, decide_eq_false_iff_not, beq_iff_eq, ds, den_nl, hi, w1, sl_len, e1, hcut2]; rw [show (0 : Int).toNat = 0 from rfl, hcut]
end cu

/-- does a text begin so? -/
def begins (a b : List UInt8) : Bool := decide (b.length ≤ a.length) && decide (a.take b.length = b)
namespace hp
def s (t : Tm) : AV := .sy .str t
def x : Fact := ⟨15, [s (.v 0), s (.v 1)], 7, [], .sy .bool (.v 2), [], 7⟩
noncomputable def fn : Func := Tryz.f15
noncomputable def cd : Code := match fn.body with | some c => c | none => .skip
noncomputable def cx : Ctx := cxOf P fn cd 2
noncomputable def L : List Code := flat cd
theorem func : P.funcs[x.f]? = some fn := Tryz.func15
theorem body : fn.body = some cd := by kernel_rfl
def fin : St := { vars := [(4, .sy .bool (.v 2))], loc := [], marks := [], objs := [], next := 7 }
def kH0T : List (Tm × Tm) := [((.op (.bin .geq .i64) [(.op .slen [(.v 0)]), (.op .slen [(.v 1)])]), (.bool true)), ((.op (.bin .leq .i64) [(.int 0), (.op .slen [(.v 1)])]), (.bool true)), ((.op (.bin .leq .i64) [(.op .slen [(.v 1)]), (.op .slen [(.v 0)])]), (.bool true))]
theorem kH0 : evFl P (E0.tab kH0T) 100000 cx none 7 L (startSt x) [] (subs [(.v 0), (.v 1), (.op (.sbin .eql) [(.op .ssub [(.v 0), (.int 0), (.op .slen [(.v 1)])]), (.v 1)])]) [] .ret fin = true := by kernel_rfl
def kH1T : List (Tm × Tm) := [((.op (.bin .geq .i64) [(.op .slen [(.v 0)]), (.op .slen [(.v 1)])]), (.bool false))]
theorem kH1 : evFl P (E0.tab kH1T) 100000 cx none 7 L (startSt x) [] (subs [(.v 0), (.v 1), (.bool false)]) [] .ret fin = true := by kernel_rfl
theorem ok (a b : List UInt8) : @Fact.Ok (vals [ds a, ds b, .bool (begins a b)]) P G x := by
  have hg : cx.glob = G := by kernel_rfl
  refine Fact.ok_tri (fn := fn) (cd := cd) (envAt _) func body (Q := fun V' ex σ' => V' = vals [ds a, ds b, .bool (begins a b)] ∧ ex = .ret ∧ σ' = fin) ?tri ?hq
  case hq =>
    rintro V' ex σ' ⟨rfl, rfl, rfl⟩
    exact ⟨rfl, .inr rfl, by kernel_rfl⟩
  refine Tri.flat (by kernel_rfl) ?_
  show TriL P G _ cx none 7 L _ _
  unfold begins
  by_cases h : b.length ≤ a.length
  · refine TriL.fin (envAt _) hg (tb := kH0T) ⟨?_, ?_, ?_, trivial⟩ (Nat.le_refl 7) kH0 ⟨?_, rfl, rfl⟩
    · simp only [D.tm_den, den_int, den_bool, den_str, den_v, den_op, dens_nil, dens_cons, vals_at, List.getD_cons_succ, List.getD_cons_zero, List.getD_nil, List.map_cons, List.map_nil, Int.toNat_natCast, tden_bin, tden_shift, tden_conv, tden_not, tden_and, tden_sbin, tden_slen, tden_len, tden_nth, tden_fld, tden_mk, tden_cat, tden_sub, tden_set, tden_setf, tden_rep, tden_sget, tden_ssub, tden_ite, tden_bytes, tden_text, tden_fits, tden_nadd, tden_nsub, tden_small, intD_add, intD_sub, intD_mul, intD_quo, intD_rem, intD_eql, intD_neq, intD_lss, intD_leq, intD_gtr, intD_geq, D.int.injEq, D.bool.injEq, D.str.injEq, D.list.injEq, decide_eq_true_eq, decide_eq_false_iff_not, beq_iff_eq, ds, sl_len]; omega
    · simp only [D.tm_den, den_int, den_bool, den_str, den_v, den_op, dens_nil, dens_cons, vals_at, List.getD_cons_succ, List.getD_cons_zero, List.getD_nil, List.map_cons, List.map_nil, Int.toNat_natCast, tden_bin, tden_shift, tden_conv, tden_not, tden_and, tden_sbin, tden_slen, tden_len, tden_nth, tden_fld, tden_mk, tden_cat, tden_sub, tden_set, tden_setf, tden_rep, tden_sget, tden_ssub, tden_ite, tden_bytes, tden_text, tden_fits, tden_nadd, tden_nsub, tden_small, intD_add, intD_sub, intD_mul, intD_quo, intD_rem, intD_eql, intD_neq, intD_lss, intD_leq, intD_gtr, intD_geq, D.int.injEq, D.bool.injEq, D.str.injEq, D.list.injEq, decide_eq_true_eq, decide_eq_false_iff_not, beq_iff_eq, ds, sl_len]; omega
    · simp only [D.tm_den, den_int, den_bool, den_str, den_v, den_op, dens_nil, dens_cons, vals_at, List.getD_cons_succ, List.getD_cons_zero, List.getD_nil, List.map_cons, List.map_nil, Int.toNat_natCast, tden_bin, tden_shift, tden_conv, tden_not, tden_and, tden_sbin, tden_slen, tden_len, tden_nth, tden_fld, tden_mk, tden_cat, tden_sub, tden_set, tden_setf, tden_rep, tden_sget, tden_ssub, tden_ite, tden_bytes, tden_text, tden_fits, tden_nadd, tden_nsub, tden_small, intD_add, intD_sub, intD_mul, intD_quo, intD_rem, intD_eql, intD_neq, intD_lss, intD_leq, intD_gtr, intD_geq, D.int.injEq, D.bool.injEq, D.str.injEq, D.list.injEq, decide_eq_true_eq, decide_eq_false_iff_not, beq_iff_eq, ds, sl_len]; omega
    · have hc : (BS.ofList a).cut 0 b.length = BS.ofList (a.take b.length) := by
        rw [ofList_cut a 0 b.length (Nat.zero_le _) h]; simp
      simp only [D.tm_den, den_int, den_bool, den_str, den_v, den_op, dens_nil, dens_cons, vals_at, List.getD_cons_succ, List.getD_cons_zero, List.getD_nil, List.map_cons, List.map_nil, Int.toNat_natCast, tden_bin, tden_shift, tden_conv, tden_not, tden_and, tden_sbin, tden_slen, tden_len, tden_nth, tden_fld, tden_mk, tden_cat, tden_sub, tden_set, tden_setf, tden_rep, tden_sget, tden_ssub, tden_ite, tden_bytes, tden_text, tden_fits, tden_nadd, tden_nsub, tden_small, intD_add, intD_sub, intD_mul, intD_quo, intD_rem, intD_eql, intD_neq, intD_lss, intD_leq, intD_gtr, intD_geq, D.int.injEq, D.bool.injEq, D.str.injEq, D.list.injEq, decide_eq_true_eq, decide_eq_false_iff_not, beq_iff_eq, ds, sl_len]
      rw [show (0 : Int).toNat = 0 from rfl, hc]
      simp [strD_eql, sl_eq, h]
  · refine TriL.fin (envAt _) hg (tb := kH1T) ⟨?_, trivial⟩ (Nat.le_refl 7) kH1 ⟨?_, rfl, rfl⟩
    · simp only [D.tm_den, den_int, den_bool, den_str, den_v, den_op, dens_nil, dens_cons, vals_at, List.getD_cons_succ, List.getD_cons_zero, List.getD_nil, List.map_cons, List.map_nil, Int.toNat_natCast, tden_bin, tden_shift, tden_conv, tden_not, tden_and, tden_sbin, tden_slen, tden_len, tden_nth, tden_fld, tden_mk, tden_cat, tden_sub, tden_set, tden_setf, tden_rep, tden_sget, tden_ssub, tden_ite, tden_bytes, tden_text, tden_fits, tden_nadd, tden_nsub, tden_small, intD_add, intD_sub, intD_mul, intD_quo, intD_rem, intD_eql, intD_neq, intD_lss, intD_leq, intD_gtr, intD_geq, D.int.injEq, D.bool.injEq, D.str.injEq, D.list.injEq, decide_eq_true_eq, decide_eq_false_iff_not, beq_iff_eq, ds, sl_len]; omega
    · simp [h]
end hp
end Go.Proofs.YtkkoidhohapjcaaGreatDoor
