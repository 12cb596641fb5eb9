/- The reference's Lines: the lines of a text that end with a newline. No condition but the text's length. -/
import Derived.Test.YtkkoidhohapjcaaGreatDoorEnv
set_option linter.unusedSimpArgs false
set_option linter.unusedVariables false
set_option linter.unusedSectionVars false
set_option maxRecDepth 100000
namespace Go.Proofs.YtkkoidhohapjcaaGreatDoor
open Go.Tc

/-- a text, as a datum. -/
def ds (l : List UInt8) : D := .str (BS.ofList l)
def dss (L : List (List UInt8)) : D := .list (L.map ds)
theorem dss_len (L : List (List UInt8)) : (L.map ds).length = L.length := List.length_map _

namespace rl
-- 0: the text; 1: the answer; 2: at; 3: i; 4: out
def s (t : Tm) : AV := .sy .str t
def i64 (t : Tm) : AV := .sy (.int .i64) t
def x : Fact := ⟨5, [s (.v 0)], 7, [], .sy (.isl [.str]) (.v 1), [], 7⟩
noncomputable def fn : Func := Tryz.f5
noncomputable def cd : Code := match fn.body with | some c => c | none => .skip
noncomputable def cx : Ctx := cxOf P fn cd 1
noncomputable def L : List Code := flat cd
noncomputable def bd : Code := inLoop (inBlock (L.getD 4 .skip))
noncomputable def lp : List Code := flat bd
theorem func : P.funcs[x.f]? = some fn := Tryz.func5
theorem body : fn.body = some cd := by kernel_rfl
theorem at4 : L.drop 4 = .block 0 (.loop bd) :: L.drop 5 := by kernel_rfl
def inv : St := { vars := [(0, s (.v 0)), (3, .lsl 7 1 (.int 0) (.op .len [.v 4]) .opn), (4, i64 (.v 2)), (5, i64 (.v 3))], loc := [], marks := [], objs := [(7, .lrow [.str] (.v 4) 9 (.buf 0 false))], next := 8 }
def fin : St := { vars := [(2, .sy (.isl [.str]) (.v 1))], loc := [], marks := [], objs := [], next := 7 }
def kA0T : List (Tm × Tm) := []
theorem kA0 : evFl P (E0.tab kA0T) 100000 cx none 7 (L.take 4) (startSt x) [] (subs [(.v 0), (.v 1), (.int 0), (.int 0), (.op .mk [])]) [] .normal inv = true := by kernel_rfl
def kB0T : List (Tm × Tm) := [((.op (.bin .lss .i64) [(.v 3), (.op .slen [(.v 0)])]), (.bool true)), ((.op (.bin .leq .i64) [(.int 0), (.v 3)]), (.bool true)), ((.op (.bin .eql .i64) [(.op .sget [(.v 0), (.v 3)]), (.int 10)]), (.bool true)), ((.op (.bin .leq .i64) [(.int 0), (.v 2)]), (.bool true)), ((.op (.bin .leq .i64) [(.v 2), (.v 3)]), (.bool true)), ((.op (.bin .leq .i64) [(.v 3), (.op .slen [(.v 0)])]), (.bool true)), ((.op (.bin .leq .i64) [(.op .len [(.v 4)]), (.op .len [(.v 4)])]), (.bool true)), ((.op .small [(.op .nadd [(.op .len [(.v 4)]), (.int 1)])]), (.bool true)), ((.op .len [(.op .cat [(.v 4), (.op .mk [(.op .ssub [(.v 0), (.v 2), (.v 3)])])])]), (.op .nadd [(.op .len [(.v 4)]), (.int 1)]))]
theorem kB0 : evFl P (E0.tab kB0T) 100000 cx none 7 lp inv [] (subs [(.v 0), (.v 1), (.op (.bin .add .i64) [(.v 3), (.int 1)]), (.op (.bin .add .i64) [(.v 3), (.int 1)]), (.op .cat [(.v 4), (.op .mk [(.op .ssub [(.v 0), (.v 2), (.v 3)])])])]) [(7, 9)] .normal inv = true := by kernel_rfl
def kB1T : List (Tm × Tm) := [((.op (.bin .lss .i64) [(.v 3), (.op .slen [(.v 0)])]), (.bool true)), ((.op (.bin .leq .i64) [(.int 0), (.v 3)]), (.bool true)), ((.op (.bin .eql .i64) [(.op .sget [(.v 0), (.v 3)]), (.int 10)]), (.bool false))]
theorem kB1 : evFl P (E0.tab kB1T) 100000 cx none 7 lp inv [] (subs [(.v 0), (.v 1), (.v 2), (.op (.bin .add .i64) [(.v 3), (.int 1)]), (.v 4)]) [(7, 7)] .normal inv = true := by kernel_rfl
def kB2T : List (Tm × Tm) := [((.op (.bin .lss .i64) [(.v 3), (.op .slen [(.v 0)])]), (.bool false))]
theorem kB2 : evFl P (E0.tab kB2T) 100000 cx none 7 lp inv [] (subs [(.v 0), (.v 1), (.v 2), (.v 3), (.v 4)]) [(7, 7)] (.exit 0) inv = true := by kernel_rfl
def kC0T : List (Tm × Tm) := []
theorem kC0 : evFl P (E0.tab kC0T) 100000 cx none 7 (L.drop 5) inv [.ice 7] (subs [(.v 0), (.v 4)]) [] .ret fin = true := by kernel_rfl

theorem ok (l : List UInt8) (hl : l.length ≤ 1000) : @Fact.Ok (vals [ds l, dss (linesOf l)]) P G x := by
  have hg : cx.glob = G := by kernel_rfl
  have le8 : (7 : Nat) ≤ 8 := by omega
  refine Fact.ok_tri (fn := fn) (cd := cd) (envAt _) func body (Q := fun V' ex σ' => V' = vals [ds l, dss (linesOf l)] ∧ ex = .ret ∧ σ' = fin) ?tri ?hq
  case hq =>
    rintro V' ex σ' ⟨rfl, rfl, rfl⟩
    exact ⟨rfl, .inr rfl, by kernel_rfl⟩
  show Tri P G _ cx none 7 cd (startSt x) _
  refine Tri.flat (by kernel_rfl) ?_
  show TriL P G _ cx none 7 L (startSt x) _
  refine TriL.go 4 (envAt _) hg stays_none (tb := kA0T) trivial (Nat.le_refl 7) kA0 ?_
  simp only [D.tm_den, den_int, den_bool, den_str, den_v, den_op, dens_nil, dens_cons, vals_at, List.getD_cons_succ, List.getD_cons_zero, List.getD_nil, List.map_cons, List.map_nil, Int.toNat_natCast, tden_bin, tden_shift, tden_conv, tden_not, tden_and, tden_sbin, tden_slen, tden_len, tden_nth, tden_fld, tden_mk, tden_cat, tden_sub, tden_set, tden_setf, tden_rep, tden_sget, tden_ssub, tden_ite, tden_bytes, tden_text, tden_fits, tden_nadd, tden_nsub, tden_small, intD_add, intD_sub, intD_mul, intD_quo, intD_rem, intD_eql, intD_neq, intD_lss, intD_leq, intD_gtr, intD_geq, D.int.injEq, D.bool.injEq, D.str.injEq, D.list.injEq, decide_eq_true_eq, decide_eq_false_iff_not, beq_iff_eq]
  rw [at4]
  refine TriL.cons stays_none (Q1 := fun V' ex σ' => ex = .normal ∧ σ' = inv ∧ ∃ a b, V' = vals [ds l, dss (linesOf l), a, b, dss (linesOf l)]) (Tri.block ?_) ?_ (fun V' ex σ' hne h => absurd h.1 hne)
  · refine Tri.loop (α := Nat × Nat × List (List UInt8)) (fun (i, a, O) => i ≤ l.length ∧ a ≤ i ∧ O.length ≤ i ∧ linesOf l = O ++ linesFrom ((l.drop a).take (i - a)) (l.drop i)) (fun (i, _, _) => l.length - i) (fun (i, a, O) => vals [ds l, dss (linesOf l), .int (a : Int), .int (i : Int), dss O]) stays_none ?_ (0, 0, []) ⟨Nat.zero_le _, Nat.le_refl 0, Nat.zero_le _, by simp [linesOf]⟩
    rintro ⟨i, a, O⟩ ⟨hi, ha, hO, hI⟩
    simp only at hi ha hO hI ⊢
    refine Tri.flat (by kernel_rfl) ?_
    show TriL P G _ cx none 7 lp inv _
    by_cases hlt : i < l.length
    · have w1 : IntKind.i64.wrap ((i : Int) + 1) = ((i + 1 : Nat) : Int) := by rw [wrap_i64 (by omega)]; simp
      have hdr : l.drop i = l[i] :: l.drop (i + 1) := List.drop_eq_getElem_cons hlt
      rw [hdr] at hI
      by_cases h10 : l[i] = 10
      · simp only [linesFrom, h10, if_true] at hI
        refine TriL.fin (envAt _) hg (tb := kB0T) ⟨?_, ?_, ?_, ?_, ?_, ?_, ?_, ?_, ?_, trivial⟩ le8 kB0 (.inl ⟨rfl, rfl, (i + 1, i + 1, O ++ [(l.drop a).take (i - a)]), ?_, ⟨hlt, Nat.le_refl _, ?_, ?_⟩, by show l.length - (i + 1) < l.length - i; omega⟩)
        · simp only [D.tm_den, den_int, den_bool, den_str, den_v, den_op, dens_nil, dens_cons, vals_at, List.getD_cons_succ, List.getD_cons_zero, List.getD_nil, List.map_cons, List.map_nil, Int.toNat_natCast, tden_bin, tden_shift, tden_conv, tden_not, tden_and, tden_sbin, tden_slen, tden_len, tden_nth, tden_fld, tden_mk, tden_cat, tden_sub, tden_set, tden_setf, tden_rep, tden_sget, tden_ssub, tden_ite, tden_bytes, tden_text, tden_fits, tden_nadd, tden_nsub, tden_small, intD_add, intD_sub, intD_mul, intD_quo, intD_rem, intD_eql, intD_neq, intD_lss, intD_leq, intD_gtr, intD_geq, D.int.injEq, D.bool.injEq, D.str.injEq, D.list.injEq, decide_eq_true_eq, decide_eq_false_iff_not, beq_iff_eq, ds, sl_len]; omega
        · simp only [D.tm_den, den_int, den_bool, den_str, den_v, den_op, dens_nil, dens_cons, vals_at, List.getD_cons_succ, List.getD_cons_zero, List.getD_nil, List.map_cons, List.map_nil, Int.toNat_natCast, tden_bin, tden_shift, tden_conv, tden_not, tden_and, tden_sbin, tden_slen, tden_len, tden_nth, tden_fld, tden_mk, tden_cat, tden_sub, tden_set, tden_setf, tden_rep, tden_sget, tden_ssub, tden_ite, tden_bytes, tden_text, tden_fits, tden_nadd, tden_nsub, tden_small, intD_add, intD_sub, intD_mul, intD_quo, intD_rem, intD_eql, intD_neq, intD_lss, intD_leq, intD_gtr, intD_geq, D.int.injEq, D.bool.injEq, D.str.injEq, D.list.injEq, decide_eq_true_eq, decide_eq_false_iff_not, beq_iff_eq]; omega
        · simp only [D.tm_den, den_int, den_bool, den_str, den_v, den_op, dens_nil, dens_cons, vals_at, List.getD_cons_succ, List.getD_cons_zero, List.getD_nil, List.map_cons, List.map_nil, Int.toNat_natCast, tden_bin, tden_shift, tden_conv, tden_not, tden_and, tden_sbin, tden_slen, tden_len, tden_nth, tden_fld, tden_mk, tden_cat, tden_sub, tden_set, tden_setf, tden_rep, tden_sget, tden_ssub, tden_ite, tden_bytes, tden_text, tden_fits, tden_nadd, tden_nsub, tden_small, intD_add, intD_sub, intD_mul, intD_quo, intD_rem, intD_eql, intD_neq, intD_lss, intD_leq, intD_gtr, intD_geq, D.int.injEq, D.bool.injEq, D.str.injEq, D.list.injEq, decide_eq_true_eq, decide_eq_false_iff_not, beq_iff_eq, ds, ofList_get l i hlt, h10]; rfl
        · simp only [D.tm_den, den_int, den_bool, den_str, den_v, den_op, dens_nil, dens_cons, vals_at, List.getD_cons_succ, List.getD_cons_zero, List.getD_nil, List.map_cons, List.map_nil, Int.toNat_natCast, tden_bin, tden_shift, tden_conv, tden_not, tden_and, tden_sbin, tden_slen, tden_len, tden_nth, tden_fld, tden_mk, tden_cat, tden_sub, tden_set, tden_setf, tden_rep, tden_sget, tden_ssub, tden_ite, tden_bytes, tden_text, tden_fits, tden_nadd, tden_nsub, tden_small, intD_add, intD_sub, intD_mul, intD_quo, intD_rem, intD_eql, intD_neq, intD_lss, intD_leq, intD_gtr, intD_geq, D.int.injEq, D.bool.injEq, D.str.injEq, D.list.injEq, decide_eq_true_eq, decide_eq_false_iff_not, beq_iff_eq]; omega
        · simp only [D.tm_den, den_int, den_bool, den_str, den_v, den_op, dens_nil, dens_cons, vals_at, List.getD_cons_succ, List.getD_cons_zero, List.getD_nil, List.map_cons, List.map_nil, Int.toNat_natCast, tden_bin, tden_shift, tden_conv, tden_not, tden_and, tden_sbin, tden_slen, tden_len, tden_nth, tden_fld, tden_mk, tden_cat, tden_sub, tden_set, tden_setf, tden_rep, tden_sget, tden_ssub, tden_ite, tden_bytes, tden_text, tden_fits, tden_nadd, tden_nsub, tden_small, intD_add, intD_sub, intD_mul, intD_quo, intD_rem, intD_eql, intD_neq, intD_lss, intD_leq, intD_gtr, intD_geq, D.int.injEq, D.bool.injEq, D.str.injEq, D.list.injEq, decide_eq_true_eq, decide_eq_false_iff_not, beq_iff_eq]; omega
        · simp only [D.tm_den, den_int, den_bool, den_str, den_v, den_op, dens_nil, dens_cons, vals_at, List.getD_cons_succ, List.getD_cons_zero, List.getD_nil, List.map_cons, List.map_nil, Int.toNat_natCast, tden_bin, tden_shift, tden_conv, tden_not, tden_and, tden_sbin, tden_slen, tden_len, tden_nth, tden_fld, tden_mk, tden_cat, tden_sub, tden_set, tden_setf, tden_rep, tden_sget, tden_ssub, tden_ite, tden_bytes, tden_text, tden_fits, tden_nadd, tden_nsub, tden_small, intD_add, intD_sub, intD_mul, intD_quo, intD_rem, intD_eql, intD_neq, intD_lss, intD_leq, intD_gtr, intD_geq, D.int.injEq, D.bool.injEq, D.str.injEq, D.list.injEq, decide_eq_true_eq, decide_eq_false_iff_not, beq_iff_eq, ds, sl_len]; omega
        · simp only [D.tm_den, den_int, den_bool, den_str, den_v, den_op, dens_nil, dens_cons, vals_at, List.getD_cons_succ, List.getD_cons_zero, List.getD_nil, List.map_cons, List.map_nil, Int.toNat_natCast, tden_bin, tden_shift, tden_conv, tden_not, tden_and, tden_sbin, tden_slen, tden_len, tden_nth, tden_fld, tden_mk, tden_cat, tden_sub, tden_set, tden_setf, tden_rep, tden_sget, tden_ssub, tden_ite, tden_bytes, tden_text, tden_fits, tden_nadd, tden_nsub, tden_small, intD_add, intD_sub, intD_mul, intD_quo, intD_rem, intD_eql, intD_neq, intD_lss, intD_leq, intD_gtr, intD_geq, D.int.injEq, D.bool.injEq, D.str.injEq, D.list.injEq, decide_eq_true_eq, decide_eq_false_iff_not, beq_iff_eq, dss]; omega
        · simp only [D.tm_den, den_int, den_bool, den_str, den_v, den_op, dens_nil, dens_cons, vals_at, List.getD_cons_succ, List.getD_cons_zero, List.getD_nil, List.map_cons, List.map_nil, Int.toNat_natCast, tden_bin, tden_shift, tden_conv, tden_not, tden_and, tden_sbin, tden_slen, tden_len, tden_nth, tden_fld, tden_mk, tden_cat, tden_sub, tden_set, tden_setf, tden_rep, tden_sget, tden_ssub, tden_ite, tden_bytes, tden_text, tden_fits, tden_nadd, tden_nsub, tden_small, intD_add, intD_sub, intD_mul, intD_quo, intD_rem, intD_eql, intD_neq, intD_lss, intD_leq, intD_gtr, intD_geq, D.int.injEq, D.bool.injEq, D.str.injEq, D.list.injEq, decide_eq_true_eq, decide_eq_false_iff_not, beq_iff_eq, dss, dss_len]; omega
        · simp only [D.tm_den, den_int, den_bool, den_str, den_v, den_op, dens_nil, dens_cons, vals_at, List.getD_cons_succ, List.getD_cons_zero, List.getD_nil, List.map_cons, List.map_nil, Int.toNat_natCast, tden_bin, tden_shift, tden_conv, tden_not, tden_and, tden_sbin, tden_slen, tden_len, tden_nth, tden_fld, tden_mk, tden_cat, tden_sub, tden_set, tden_setf, tden_rep, tden_sget, tden_ssub, tden_ite, tden_bytes, tden_text, tden_fits, tden_nadd, tden_nsub, tden_small, intD_add, intD_sub, intD_mul, intD_quo, intD_rem, intD_eql, intD_neq, intD_lss, intD_leq, intD_gtr, intD_geq, D.int.injEq, D.bool.injEq, D.str.injEq, D.list.injEq, decide_eq_true_eq, decide_eq_false_iff_not, beq_iff_eq, dss, ds]; simp
        · simp only [D.tm_den, den_int, den_bool, den_str, den_v, den_op, dens_nil, dens_cons, vals_at, List.getD_cons_succ, List.getD_cons_zero, List.getD_nil, List.map_cons, List.map_nil, Int.toNat_natCast, tden_bin, tden_shift, tden_conv, tden_not, tden_and, tden_sbin, tden_slen, tden_len, tden_nth, tden_fld, tden_mk, tden_cat, tden_sub, tden_set, tden_setf, tden_rep, tden_sget, tden_ssub, tden_ite, tden_bytes, tden_text, tden_fits, tden_nadd, tden_nsub, tden_small, intD_add, intD_sub, intD_mul, intD_quo, intD_rem, intD_eql, intD_neq, intD_lss, intD_leq, intD_gtr, intD_geq, D.int.injEq, D.bool.injEq, D.str.injEq, D.list.injEq, decide_eq_true_eq, decide_eq_false_iff_not, beq_iff_eq, ds, dss, w1, ofList_cut l a i ha hi]; simp [ds]
        · simp only [List.length_append, List.length_cons, List.length_nil]; omega
        · simp only [Nat.sub_self, List.take_zero, List.append_assoc, List.cons_append, List.nil_append]; exact hI
      · simp only [linesFrom, h10, if_false] at hI
        refine TriL.fin (envAt _) hg (tb := kB1T) ⟨?_, ?_, ?_, trivial⟩ le8 kB1 (.inl ⟨rfl, rfl, (i + 1, a, O), ?_, ⟨hlt, (by show a ≤ i + 1; omega), (by show O.length ≤ i + 1; omega), ?_⟩, by show l.length - (i + 1) < l.length - i; omega⟩)
        · simp only [D.tm_den, den_int, den_bool, den_str, den_v, den_op, dens_nil, dens_cons, vals_at, List.getD_cons_succ, List.getD_cons_zero, List.getD_nil, List.map_cons, List.map_nil, Int.toNat_natCast, tden_bin, tden_shift, tden_conv, tden_not, tden_and, tden_sbin, tden_slen, tden_len, tden_nth, tden_fld, tden_mk, tden_cat, tden_sub, tden_set, tden_setf, tden_rep, tden_sget, tden_ssub, tden_ite, tden_bytes, tden_text, tden_fits, tden_nadd, tden_nsub, tden_small, intD_add, intD_sub, intD_mul, intD_quo, intD_rem, intD_eql, intD_neq, intD_lss, intD_leq, intD_gtr, intD_geq, D.int.injEq, D.bool.injEq, D.str.injEq, D.list.injEq, decide_eq_true_eq, decide_eq_false_iff_not, beq_iff_eq, ds, sl_len]; omega
        · simp only [D.tm_den, den_int, den_bool, den_str, den_v, den_op, dens_nil, dens_cons, vals_at, List.getD_cons_succ, List.getD_cons_zero, List.getD_nil, List.map_cons, List.map_nil, Int.toNat_natCast, tden_bin, tden_shift, tden_conv, tden_not, tden_and, tden_sbin, tden_slen, tden_len, tden_nth, tden_fld, tden_mk, tden_cat, tden_sub, tden_set, tden_setf, tden_rep, tden_sget, tden_ssub, tden_ite, tden_bytes, tden_text, tden_fits, tden_nadd, tden_nsub, tden_small, intD_add, intD_sub, intD_mul, intD_quo, intD_rem, intD_eql, intD_neq, intD_lss, intD_leq, intD_gtr, intD_geq, D.int.injEq, D.bool.injEq, D.str.injEq, D.list.injEq, decide_eq_true_eq, decide_eq_false_iff_not, beq_iff_eq]; omega
        · simp only [D.tm_den, den_int, den_bool, den_str, den_v, den_op, dens_nil, dens_cons, vals_at, List.getD_cons_succ, List.getD_cons_zero, List.getD_nil, List.map_cons, List.map_nil, Int.toNat_natCast, tden_bin, tden_shift, tden_conv, tden_not, tden_and, tden_sbin, tden_slen, tden_len, tden_nth, tden_fld, tden_mk, tden_cat, tden_sub, tden_set, tden_setf, tden_rep, tden_sget, tden_ssub, tden_ite, tden_bytes, tden_text, tden_fits, tden_nadd, tden_nsub, tden_small, intD_add, intD_sub, intD_mul, intD_quo, intD_rem, intD_eql, intD_neq, intD_lss, intD_leq, intD_gtr, intD_geq, D.int.injEq, D.bool.injEq, D.str.injEq, D.list.injEq, decide_eq_true_eq, decide_eq_false_iff_not, beq_iff_eq, ds, ofList_get l i hlt]
          have : l[i].toNat ≠ 10 := fun e => h10 (UInt8.toNat_inj.1 e)
          simp; omega
        · simp only [D.tm_den, den_int, den_bool, den_str, den_v, den_op, dens_nil, dens_cons, vals_at, List.getD_cons_succ, List.getD_cons_zero, List.getD_nil, List.map_cons, List.map_nil, Int.toNat_natCast, tden_bin, tden_shift, tden_conv, tden_not, tden_and, tden_sbin, tden_slen, tden_len, tden_nth, tden_fld, tden_mk, tden_cat, tden_sub, tden_set, tden_setf, tden_rep, tden_sget, tden_ssub, tden_ite, tden_bytes, tden_text, tden_fits, tden_nadd, tden_nsub, tden_small, intD_add, intD_sub, intD_mul, intD_quo, intD_rem, intD_eql, intD_neq, intD_lss, intD_leq, intD_gtr, intD_geq, D.int.injEq, D.bool.injEq, D.str.injEq, D.list.injEq, decide_eq_true_eq, decide_eq_false_iff_not, beq_iff_eq, w1]
        · rw [hI]
          congr 2
          rw [show i + 1 - a = (i - a) + 1 from by omega, List.take_add_one]
          congr 1
          rw [List.getElem?_drop, show a + (i - a) = i from by omega, List.getElem?_eq_getElem hlt]; rfl
    · have : i = l.length := by omega
      subst this
      rw [List.drop_length] at hI
      simp only [linesFrom, List.append_nil] at hI
      refine TriL.fin (envAt _) hg (tb := kB2T) ⟨?_, trivial⟩ le8 kB2 (.inr ⟨by simp, rfl, rfl, .int (a : Int), .int (l.length : Int), ?_⟩)
      · simp only [D.tm_den, den_int, den_bool, den_str, den_v, den_op, dens_nil, dens_cons, vals_at, List.getD_cons_succ, List.getD_cons_zero, List.getD_nil, List.map_cons, List.map_nil, Int.toNat_natCast, tden_bin, tden_shift, tden_conv, tden_not, tden_and, tden_sbin, tden_slen, tden_len, tden_nth, tden_fld, tden_mk, tden_cat, tden_sub, tden_set, tden_setf, tden_rep, tden_sget, tden_ssub, tden_ite, tden_bytes, tden_text, tden_fits, tden_nadd, tden_nsub, tden_small, intD_add, intD_sub, intD_mul, intD_quo, intD_rem, intD_eql, intD_neq, intD_lss, intD_leq, intD_gtr, intD_geq, D.int.injEq, D.bool.injEq, D.str.injEq, D.list.injEq, decide_eq_true_eq, decide_eq_false_iff_not, beq_iff_eq, ds, sl_len]; omega
      · simp only [D.tm_den, den_int, den_bool, den_str, den_v, den_op, dens_nil, dens_cons, vals_at, List.getD_cons_succ, List.getD_cons_zero, List.getD_nil, List.map_cons, List.map_nil, Int.toNat_natCast, tden_bin, tden_shift, tden_conv, tden_not, tden_and, tden_sbin, tden_slen, tden_len, tden_nth, tden_fld, tden_mk, tden_cat, tden_sub, tden_set, tden_setf, tden_rep, tden_sget, tden_ssub, tden_ite, tden_bytes, tden_text, tden_fits, tden_nadd, tden_nsub, tden_small, intD_add, intD_sub, intD_mul, intD_quo, intD_rem, intD_eql, intD_neq, intD_lss, intD_leq, intD_gtr, intD_geq, D.int.injEq, D.bool.injEq, D.str.injEq, D.list.injEq, decide_eq_true_eq, decide_eq_false_iff_not, beq_iff_eq, hI]
  · rintro V' σ' ⟨-, rfl, a, b, rfl⟩
    exact TriL.fin (envAt _) hg (tb := kC0T) trivial le8 kC0 ⟨rfl, rfl, rfl⟩
end rl
end Go.Proofs.YtkkoidhohapjcaaGreatDoor
