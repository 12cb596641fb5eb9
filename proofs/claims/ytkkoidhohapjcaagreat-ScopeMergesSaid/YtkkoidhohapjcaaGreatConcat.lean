/- slices.Concat of members of scopes: the lists one behind the other. No condition. -/
import Derived.Test.YtkkoidhohapjcaaGreatEnv
set_option linter.unusedSimpArgs false
set_option linter.unusedVariables false
set_option linter.unusedSectionVars false
namespace Go.Proofs.YtkkoidhohapjcaaGreat
open Go.Tc

namespace cc
-- 0: the lists; 1: the answer; 2: a loop's number; 3: the size, the answer's length so far; 4: the answer so far
def lK : CK := .isl [.isl mK]
def x : Fact := ⟨80, [.sy lK (.v 0)], 1, [], .sy (.isl mK) (.v 1), [], 1⟩
noncomputable def fn : Func := Tryz.f80
noncomputable def cd : Code := match fn.body with | some c => c | none => .skip
noncomputable def cx : Ctx := cxOf P fn cd x.args.length
def a (c : Code) : Code := match c with | .seq x _ => x | _ => .skip
def b (c : Code) : Code := match c with | .seq _ x => x | .block _ x => x | .loop x => x | _ => .skip
noncomputable def c0 : Code := a cd
noncomputable def c1 : Code := a (b cd)
noncomputable def c2 : Code := a (a (b (b cd)))
noncomputable def lp1 : Code := b (b (b (a (b (b cd)))))
noncomputable def c3 : Code := a (b (b (b cd)))
noncomputable def c4 : Code := a (a (b (b (b (b cd)))))
noncomputable def lp2 : Code := b (b (b (a (b (b (b (b cd)))))))
noncomputable def c5 : Code := b (b (b (b (b cd))))
theorem cd_eq : cd = .seq c0 (.seq c1 (.seq (.seq c2 (.block 0 (.loop lp1))) (.seq c3 (.seq (.seq c4 (.block 2 (.loop lp2))) c5)))) := by kernel_rfl
theorem func : P.funcs[x.f]? = some fn := Tryz.func80
theorem body : fn.body = some cd := by kernel_rfl

def ls : AV := .sy lK (.v 0)
def n0 : AV := .sy (.int .i64) (.op .len [.v 0])
def i2 : AV := .sy (.int .i64) (.v 2)
def s0 : St := { vars := [(0, ls)], loc := [], marks := [], objs := [], next := 1 }
def s1 : St := { vars := [(0, ls), (3, .int .i64 0)], loc := [], marks := [], objs := [], next := 1 }
def inv1 : St := { vars := [(0, ls), (3, .sy (.int .i64) (.v 3)), (9, ls), (10, n0), (11, i2)], loc := [], marks := [], objs := [], next := 1 }
def mid : St := { vars := [(0, ls), (3, .sy (.int .i64) (.v 3))], loc := [], marks := [], objs := [], next := 1 }
def out : AV := .lsl 1 3 (.int 0) (.v 3) .opn
def row : List (Nat × AObj) := [(1, .lrow mK (.v 4) 79 (.buf 0 false))]
def s2 : St := { vars := [(0, ls), (6, out)], loc := [], marks := [], objs := row, next := 2 }
def inv2 : St := { vars := [(6, out), (25, ls), (26, n0), (27, i2)], loc := [], marks := [], objs := row, next := 2 }
def end_ : St := { vars := [(6, out)], loc := [], marks := [], objs := row, next := 2 }
def fin : St := { vars := [(2, .sy (.isl mK) (.v 1))], loc := [], marks := [], objs := [], next := 1 }
def lss : Tm := .op (.bin .lss .i64) [.v 2, .op .len [.v 0]]
def leq0 : Tm := .op (.bin .leq .i64) [.int 0, .v 2]
def len_ : Tm := .op .len [.op .nth [.v 0, .v 2]]
def sum : Tm := .op (.bin .add .i64) [.v 3, len_]
def next : Tm := .op (.bin .add .i64) [.v 2, .int 1]
def l0 (t : Tm) : Tm × Tm := (.op (.bin .lss .i64) [t, .int 0], .bool false)
def tbA : List (Tm × Tm) := [(lss, .bool false)]
def tb1 : List (Tm × Tm) := [(lss, .bool true), (leq0, .bool true), l0 sum]
def tg (b : Bool) : List (Tm × Tm) := [(.op (.bin .sub .i64) [.v 3, .int 0], .v 3), l0 (.v 3), (.op (.bin .gtr .i64) [.v 3, .int 0], .bool b), (.op .small [.v 3], .bool true), (.op (.bin .leq .i64) [.int 0, .v 3], .bool true)]
def sm : Tm := .op .nadd [.v 3, len_]
def tb2 : List (Tm × Tm) := [(lss, .bool true), (leq0, .bool true), (.op (.bin .leq .i64) [.v 3, .op .len [.v 4]], .bool true), (.op .small [sm], .bool true)]
def te : List (Tm × Tm) := [(.op .len [.v 4], .v 3), (.op .len [.v 1], .v 3), (.v 4, .v 1)]
def zero : Tm := .op .mk [.int 0, .int 0, .op .mk []]
theorem k0_ : evIce P (E0.tab []) 100000 cx none 1 c0 (startSt x) [] (subs [.v 0, .v 1]) [] .normal s0 = true := by kernel_rfl
theorem k1_ : evIce P (E0.tab []) 100000 cx none 1 c1 s0 [] (subs [.v 0, .v 1]) [] .normal s1 = true := by kernel_rfl
theorem k2_ : evIce P (E0.tab []) 100000 cx none 1 c2 s1 [] (subs [.v 0, .v 1, .int 0, .int 0]) [] .normal inv1 = true := by kernel_rfl
theorem kA1 : evIce P (E0.tab tbA) 100000 cx none 1 lp1 inv1 [] (subs [.v 0, .v 1, .int 0, .v 3]) [] (.exit 0) mid = true := by kernel_rfl
theorem kC1 : evIce P (E0.tab tb1) 100000 cx none 1 lp1 inv1 [] (subs [.v 0, .v 1, next, sum]) [] .normal inv1 = true := by kernel_rfl
theorem kG1 : evIce P (E0.tab (tg true)) 100000 cx none 1 c3 mid [] (subs [.v 0, .v 1, .int 0, .int 0, .op .rep [.v 3, zero]]) [(1, 1)] .normal s2 = true := by kernel_rfl
theorem kG0 : evIce P (E0.tab (tg false)) 100000 cx none 1 c3 mid [] (subs [.v 0, .v 1, .int 0, .int 0, .op .mk []]) [] .normal s2 = true := by kernel_rfl
theorem k4_ : evIce P (E0.tab []) 100000 cx none 1 c4 s2 [] (subs [.v 0, .v 1, .int 0, .v 3, .v 4]) [(1, 1)] .normal inv2 = true := by kernel_rfl
theorem kA2 : evIce P (E0.tab tbA) 100000 cx none 1 lp2 inv2 [] (subs [.v 0, .v 1, .int 0, .v 3, .v 4]) [(1, 1)] (.exit 2) end_ = true := by kernel_rfl
theorem kC2 : evIce P (E0.tab tb2) 100000 cx none 1 lp2 inv2 [] (subs [.v 0, .v 1, next, sm, .op .cat [.op .sub [.v 4, .int 0, .v 3], .op .nth [.v 0, .v 2]]]) [(1, 2)] .normal inv2 = true := by kernel_rfl
theorem k5_ : evIce P (E0.tab te) 100000 cx none 1 c5 end_ [.ice 1] (subs [.v 0, .v 1]) [] .ret fin = true := by kernel_rfl

theorem ok (l : List (List D)) (hl : l.length ≤ 2 ^ 30) (hn : l.flatten.length ≤ 2 ^ 30) : @Fact.Ok (vals [.list (l.map .list), .list l.flatten]) P G x := by
  have hg : cx.glob = G := by kernel_rfl
  refine Fact.ok_tri (fn := fn) (cd := cd) (envAt _) func body (Q := fun V' ex σ' => V' = vals [.list (l.map .list), .list l.flatten] ∧ ex = .ret ∧ σ' = fin) ?tri ?hq
  case hq =>
    rintro V' ex σ' ⟨rfl, rfl, rfl⟩
    exact ⟨rfl, .inr rfl, by kernel_rfl⟩
  show Tri P G _ cx none 1 cd (startSt x) _
  rw [cd_eq]
  have le1 : (1 : Nat) ≤ 1 := Nat.le_refl 1
  have le2 : (1 : Nat) ≤ 2 := by omega
  have part : ∀ i, ((l.take i).flatten).length ≤ l.flatten.length := fun i => by
    conv => rhs; rw [← List.take_append_drop i l, List.flatten_append, List.length_append]
    omega
  have nth : ∀ i (h : i < l.length), (l.map D.list).getD i .bad = .list l[i] := fun i h => by simp [List.getD_eq_getElem?_getD, h]
  have more : ∀ i (h : i < l.length), (l.take (i + 1)).flatten = (l.take i).flatten ++ l[i] := fun i h => by
    rw [List.take_succ_eq_append_getElem h, List.flatten_append]; simp
  refine Tri.goSeq (envAt _) hg stays_none (tb := []) trivial le1 k0_ ?_
  refine Tri.goSeq (envAt _) hg stays_none (tb := []) trivial le1 k1_ ?_
  refine Tri.seq stays_none (Q1 := fun V' ex σ' => ex = .normal ∧ V' = vals [.list (l.map .list), .list l.flatten, .int 0, .int (l.flatten.length : Int)] ∧ σ' = mid) ?_ ?_ (fun V' ex σ' hne h => absurd h.1 hne)
  · refine Tri.goSeq (envAt _) hg stays_none (tb := []) trivial le1 k2_ (Tri.block ?_)
    refine Tri.loop (α := Nat) (fun i => i ≤ l.length) (fun i => l.length - i) (fun i => vals [.list (l.map .list), .list l.flatten, .int (i : Int), .int ((l.take i).flatten.length : Int)]) stays_none ?_ 0 (Nat.zero_le _)
    intro i hi
    by_cases hlt : i < l.length
    · have hp := part (i + 1)
      rw [more i hlt, List.length_append] at hp
      have w1 : IntKind.i64.wrap ((i : Int) + 1) = ((i + 1 : Nat) : Int) := by rw [wrap_i64 (by omega)]; simp
      have w2 : IntKind.i64.wrap (((l.take i).flatten.length : Int) + (l[i].length : Int)) = (((l.take i).flatten.length + l[i].length : Nat) : Int) := by rw [wrap_i64 (by omega)]; simp
      refine Tri.go (envAt _) hg (tb := tb1) ⟨?_, ?_, ?_, trivial⟩ le1 kC1 (.inl ⟨rfl, rfl, i + 1, ?_, hlt, by omega⟩)
      · simp [lss, hlt]
      · simp [leq0]
      · simp only [D.tm_den, den_int, den_bool, den_str, den_v, den_op, dens_nil, dens_cons, vals_at, List.getD_cons_succ, List.getD_cons_zero, List.getD_nil, List.map_cons, List.map_nil, Int.toNat_natCast, tden_bin, tden_shift, tden_conv, tden_not, tden_and, tden_sbin, tden_slen, tden_len, tden_nth, tden_fld, tden_mk, tden_cat, tden_sub, tden_set, tden_setf, tden_rep, tden_sget, tden_ssub, tden_ite, tden_bytes, tden_text, tden_fits, tden_nadd, tden_nsub, tden_small, intD_add, intD_sub, intD_mul, intD_quo, intD_rem, intD_eql, intD_neq, intD_lss, intD_leq, intD_gtr, intD_geq, D.int.injEq, D.bool.injEq, D.str.injEq, D.list.injEq, decide_eq_true_eq, decide_eq_false_iff_not, beq_iff_eq, l0, sum, len_, nth i hlt, w2]; omega
      · simp only [D.tm_den, den_int, den_bool, den_str, den_v, den_op, dens_nil, dens_cons, vals_at, List.getD_cons_succ, List.getD_cons_zero, List.getD_nil, List.map_cons, List.map_nil, Int.toNat_natCast, tden_bin, tden_shift, tden_conv, tden_not, tden_and, tden_sbin, tden_slen, tden_len, tden_nth, tden_fld, tden_mk, tden_cat, tden_sub, tden_set, tden_setf, tden_rep, tden_sget, tden_ssub, tden_ite, tden_bytes, tden_text, tden_fits, tden_nadd, tden_nsub, tden_small, intD_add, intD_sub, intD_mul, intD_quo, intD_rem, intD_eql, intD_neq, intD_lss, intD_leq, intD_gtr, intD_geq, D.int.injEq, D.bool.injEq, D.str.injEq, D.list.injEq, decide_eq_true_eq, decide_eq_false_iff_not, beq_iff_eq, next, sum, len_, nth i hlt, w1, w2, more i hlt, List.length_append]
    · have : i = l.length := by omega
      subst this
      refine Tri.go (envAt _) hg (tb := tbA) ⟨by simp [lss], trivial⟩ le1 kA1 (.inr ⟨by simp, rfl, by simp, rfl⟩)
  rintro V' σ' ⟨-, rfl, rfl⟩
  have fin_ : ∀ C : List D, C = l.flatten → Tri P G (vals [.list (l.map .list), .list l.flatten, .int 0, .int (C.length : Int), .list C]) cx none 1 c5 end_ fun V' ex σ' => V' = vals [.list (l.map .list), .list l.flatten] ∧ ex = .ret ∧ σ' = fin := by
    rintro C rfl
    exact Tri.go (envAt _) hg (tb := te) ⟨by simp, by simp, by simp, trivial⟩ le2 k5_ ⟨rfl, rfl, rfl⟩
  have loop2 : ∀ (n0 : Nat) (C0 : List D), n0 = 0 → (l = [] → C0 = []) → Tri P G (vals [.list (l.map .list), .list l.flatten, .int 0, .int (n0 : Int), .list C0]) cx none 1 (.seq (.seq c4 (.block 2 (.loop lp2))) c5) s2 fun V' ex σ' => V' = vals [.list (l.map .list), .list l.flatten] ∧ ex = .ret ∧ σ' = fin := by
    rintro n0 C0 rfl hC0
    refine Tri.seq stays_none (Q1 := fun V' ex σ' => ex = .normal ∧ (V' = vals [.list (l.map .list), .list l.flatten, .int 0, .int (l.flatten.length : Int), .list l.flatten]) ∧ σ' = end_) ?_ ?_ (fun V' ex σ' hne h => absurd h.1 hne)
    · refine Tri.goSeq (envAt _) hg stays_none (tb := []) trivial le2 k4_ (Tri.block ?_)
      refine Tri.loop (α := Nat × Nat × List D) (fun (i, n, C) => i ≤ l.length ∧ n ≤ C.length ∧ C.take n = (l.take i).flatten ∧ (i = 0 ∨ n = C.length) ∧ (l = [] → C = [])) (fun (i, _, _) => l.length - i) (fun (i, n, C) => vals [.list (l.map .list), .list l.flatten, .int (i : Int), .int (n : Int), .list C]) stays_none ?_ (0, 0, C0) ⟨Nat.zero_le _, Nat.zero_le _, by simp, .inl rfl, hC0⟩
      rintro ⟨i, n, C⟩ ⟨hi, hn1, hC, h0, h1⟩
      have hnl : n = (l.take i).flatten.length := by rw [← hC, List.length_take]; omega
      by_cases hlt : i < l.length
      · have hp := part (i + 1)
        rw [more i hlt, List.length_append] at hp
        have w1 : IntKind.i64.wrap ((i : Int) + 1) = ((i + 1 : Nat) : Int) := by rw [wrap_i64 (by omega)]; simp
        refine Tri.go (envAt _) hg (tb := tb2) ⟨?_, ?_, ?_, ?_, trivial⟩ le2 kC2 (.inl ⟨rfl, rfl, (i + 1, n + l[i].length, (l.take i).flatten ++ l[i]), ?_, ⟨hlt, ?_, ?_, ?_, ?_⟩, by show l.length - (i + 1) < l.length - i; omega⟩)
        · simp [lss, hlt]
        · simp [leq0]
        · simp [hn1]
        · simp only [D.tm_den, den_int, den_bool, den_str, den_v, den_op, dens_nil, dens_cons, vals_at, List.getD_cons_succ, List.getD_cons_zero, List.getD_nil, List.map_cons, List.map_nil, Int.toNat_natCast, tden_bin, tden_shift, tden_conv, tden_not, tden_and, tden_sbin, tden_slen, tden_len, tden_nth, tden_fld, tden_mk, tden_cat, tden_sub, tden_set, tden_setf, tden_rep, tden_sget, tden_ssub, tden_ite, tden_bytes, tden_text, tden_fits, tden_nadd, tden_nsub, tden_small, intD_add, intD_sub, intD_mul, intD_quo, intD_rem, intD_eql, intD_neq, intD_lss, intD_leq, intD_gtr, intD_geq, D.int.injEq, D.bool.injEq, D.str.injEq, D.list.injEq, decide_eq_true_eq, decide_eq_false_iff_not, beq_iff_eq, sm, len_, nth i hlt]; omega
        · simp only [D.tm_den, den_int, den_bool, den_str, den_v, den_op, dens_nil, dens_cons, vals_at, List.getD_cons_succ, List.getD_cons_zero, List.getD_nil, List.map_cons, List.map_nil, Int.toNat_natCast, tden_bin, tden_shift, tden_conv, tden_not, tden_and, tden_sbin, tden_slen, tden_len, tden_nth, tden_fld, tden_mk, tden_cat, tden_sub, tden_set, tden_setf, tden_rep, tden_sget, tden_ssub, tden_ite, tden_bytes, tden_text, tden_fits, tden_nadd, tden_nsub, tden_small, intD_add, intD_sub, intD_mul, intD_quo, intD_rem, intD_eql, intD_neq, intD_lss, intD_leq, intD_gtr, intD_geq, D.int.injEq, D.bool.injEq, D.str.injEq, D.list.injEq, decide_eq_true_eq, decide_eq_false_iff_not, beq_iff_eq, next, sm, len_, nth i hlt, w1, hC]; simp
        · rw [List.length_append, hnl]; omega
        · rw [more i hlt, List.take_of_length_le]; rw [List.length_append, hnl]; omega
        · right; rw [List.length_append, hnl]
        · intro e; subst e; simp at hlt
      · have : i = l.length := by omega
        subst this
        have hC' : C = l.flatten := by
          rcases h0 with h0 | h0
          · have e := List.length_eq_zero_iff.1 h0
            rw [h1 e, e]; rfl
          · rw [h0, List.take_length, List.take_length] at hC; exact hC
        subst hC'
        rw [List.take_length] at hnl
        subst hnl
        exact Tri.go (envAt _) hg (tb := tbA) ⟨by simp [lss], trivial⟩ le2 kA2 (.inr ⟨by simp, rfl, rfl, rfl⟩)
    · rintro V' σ' ⟨-, rfl, rfl⟩
      exact fin_ _ rfl
  by_cases h0 : l.flatten.length = 0
  · refine Tri.goSeq (envAt _) hg stays_none (tb := tg false) ⟨?_, ?_, ?_, ?_, ?_, trivial⟩ le1 kG0 (loop2 0 [] rfl fun _ => rfl)
    · simp only [D.tm_den, den_int, den_bool, den_str, den_v, den_op, dens_nil, dens_cons, vals_at, List.getD_cons_succ, List.getD_cons_zero, List.getD_nil, List.map_cons, List.map_nil, Int.toNat_natCast, tden_bin, tden_shift, tden_conv, tden_not, tden_and, tden_sbin, tden_slen, tden_len, tden_nth, tden_fld, tden_mk, tden_cat, tden_sub, tden_set, tden_setf, tden_rep, tden_sget, tden_ssub, tden_ite, tden_bytes, tden_text, tden_fits, tden_nadd, tden_nsub, tden_small, intD_add, intD_sub, intD_mul, intD_quo, intD_rem, intD_eql, intD_neq, intD_lss, intD_leq, intD_gtr, intD_geq, D.int.injEq, D.bool.injEq, D.str.injEq, D.list.injEq, decide_eq_true_eq, decide_eq_false_iff_not, beq_iff_eq, Int.sub_zero]; rw [wrap_i64 (by omega)]
    · simp only [D.tm_den, den_int, den_bool, den_str, den_v, den_op, dens_nil, dens_cons, vals_at, List.getD_cons_succ, List.getD_cons_zero, List.getD_nil, List.map_cons, List.map_nil, Int.toNat_natCast, tden_bin, tden_shift, tden_conv, tden_not, tden_and, tden_sbin, tden_slen, tden_len, tden_nth, tden_fld, tden_mk, tden_cat, tden_sub, tden_set, tden_setf, tden_rep, tden_sget, tden_ssub, tden_ite, tden_bytes, tden_text, tden_fits, tden_nadd, tden_nsub, tden_small, intD_add, intD_sub, intD_mul, intD_quo, intD_rem, intD_eql, intD_neq, intD_lss, intD_leq, intD_gtr, intD_geq, D.int.injEq, D.bool.injEq, D.str.injEq, D.list.injEq, decide_eq_true_eq, decide_eq_false_iff_not, beq_iff_eq, l0]; omega
    · simp only [D.tm_den, den_int, den_bool, den_str, den_v, den_op, dens_nil, dens_cons, vals_at, List.getD_cons_succ, List.getD_cons_zero, List.getD_nil, List.map_cons, List.map_nil, Int.toNat_natCast, tden_bin, tden_shift, tden_conv, tden_not, tden_and, tden_sbin, tden_slen, tden_len, tden_nth, tden_fld, tden_mk, tden_cat, tden_sub, tden_set, tden_setf, tden_rep, tden_sget, tden_ssub, tden_ite, tden_bytes, tden_text, tden_fits, tden_nadd, tden_nsub, tden_small, intD_add, intD_sub, intD_mul, intD_quo, intD_rem, intD_eql, intD_neq, intD_lss, intD_leq, intD_gtr, intD_geq, D.int.injEq, D.bool.injEq, D.str.injEq, D.list.injEq, decide_eq_true_eq, decide_eq_false_iff_not, beq_iff_eq]; omega
    · simp only [D.tm_den, den_int, den_bool, den_str, den_v, den_op, dens_nil, dens_cons, vals_at, List.getD_cons_succ, List.getD_cons_zero, List.getD_nil, List.map_cons, List.map_nil, Int.toNat_natCast, tden_bin, tden_shift, tden_conv, tden_not, tden_and, tden_sbin, tden_slen, tden_len, tden_nth, tden_fld, tden_mk, tden_cat, tden_sub, tden_set, tden_setf, tden_rep, tden_sget, tden_ssub, tden_ite, tden_bytes, tden_text, tden_fits, tden_nadd, tden_nsub, tden_small, intD_add, intD_sub, intD_mul, intD_quo, intD_rem, intD_eql, intD_neq, intD_lss, intD_leq, intD_gtr, intD_geq, D.int.injEq, D.bool.injEq, D.str.injEq, D.list.injEq, decide_eq_true_eq, decide_eq_false_iff_not, beq_iff_eq]; omega
    · simp only [D.tm_den, den_int, den_bool, den_str, den_v, den_op, dens_nil, dens_cons, vals_at, List.getD_cons_succ, List.getD_cons_zero, List.getD_nil, List.map_cons, List.map_nil, Int.toNat_natCast, tden_bin, tden_shift, tden_conv, tden_not, tden_and, tden_sbin, tden_slen, tden_len, tden_nth, tden_fld, tden_mk, tden_cat, tden_sub, tden_set, tden_setf, tden_rep, tden_sget, tden_ssub, tden_ite, tden_bytes, tden_text, tden_fits, tden_nadd, tden_nsub, tden_small, intD_add, intD_sub, intD_mul, intD_quo, intD_rem, intD_eql, intD_neq, intD_lss, intD_leq, intD_gtr, intD_geq, D.int.injEq, D.bool.injEq, D.str.injEq, D.list.injEq, decide_eq_true_eq, decide_eq_false_iff_not, beq_iff_eq]; omega
  · refine Tri.goSeq (envAt _) hg stays_none (tb := tg true) ⟨?_, ?_, ?_, ?_, ?_, trivial⟩ le1 kG1 ?_
    · simp only [D.tm_den, den_int, den_bool, den_str, den_v, den_op, dens_nil, dens_cons, vals_at, List.getD_cons_succ, List.getD_cons_zero, List.getD_nil, List.map_cons, List.map_nil, Int.toNat_natCast, tden_bin, tden_shift, tden_conv, tden_not, tden_and, tden_sbin, tden_slen, tden_len, tden_nth, tden_fld, tden_mk, tden_cat, tden_sub, tden_set, tden_setf, tden_rep, tden_sget, tden_ssub, tden_ite, tden_bytes, tden_text, tden_fits, tden_nadd, tden_nsub, tden_small, intD_add, intD_sub, intD_mul, intD_quo, intD_rem, intD_eql, intD_neq, intD_lss, intD_leq, intD_gtr, intD_geq, D.int.injEq, D.bool.injEq, D.str.injEq, D.list.injEq, decide_eq_true_eq, decide_eq_false_iff_not, beq_iff_eq, Int.sub_zero]; rw [wrap_i64 (by omega)]
    · simp only [D.tm_den, den_int, den_bool, den_str, den_v, den_op, dens_nil, dens_cons, vals_at, List.getD_cons_succ, List.getD_cons_zero, List.getD_nil, List.map_cons, List.map_nil, Int.toNat_natCast, tden_bin, tden_shift, tden_conv, tden_not, tden_and, tden_sbin, tden_slen, tden_len, tden_nth, tden_fld, tden_mk, tden_cat, tden_sub, tden_set, tden_setf, tden_rep, tden_sget, tden_ssub, tden_ite, tden_bytes, tden_text, tden_fits, tden_nadd, tden_nsub, tden_small, intD_add, intD_sub, intD_mul, intD_quo, intD_rem, intD_eql, intD_neq, intD_lss, intD_leq, intD_gtr, intD_geq, D.int.injEq, D.bool.injEq, D.str.injEq, D.list.injEq, decide_eq_true_eq, decide_eq_false_iff_not, beq_iff_eq, l0]; omega
    · simp only [D.tm_den, den_int, den_bool, den_str, den_v, den_op, dens_nil, dens_cons, vals_at, List.getD_cons_succ, List.getD_cons_zero, List.getD_nil, List.map_cons, List.map_nil, Int.toNat_natCast, tden_bin, tden_shift, tden_conv, tden_not, tden_and, tden_sbin, tden_slen, tden_len, tden_nth, tden_fld, tden_mk, tden_cat, tden_sub, tden_set, tden_setf, tden_rep, tden_sget, tden_ssub, tden_ite, tden_bytes, tden_text, tden_fits, tden_nadd, tden_nsub, tden_small, intD_add, intD_sub, intD_mul, intD_quo, intD_rem, intD_eql, intD_neq, intD_lss, intD_leq, intD_gtr, intD_geq, D.int.injEq, D.bool.injEq, D.str.injEq, D.list.injEq, decide_eq_true_eq, decide_eq_false_iff_not, beq_iff_eq]; omega
    · simp only [D.tm_den, den_int, den_bool, den_str, den_v, den_op, dens_nil, dens_cons, vals_at, List.getD_cons_succ, List.getD_cons_zero, List.getD_nil, List.map_cons, List.map_nil, Int.toNat_natCast, tden_bin, tden_shift, tden_conv, tden_not, tden_and, tden_sbin, tden_slen, tden_len, tden_nth, tden_fld, tden_mk, tden_cat, tden_sub, tden_set, tden_setf, tden_rep, tden_sget, tden_ssub, tden_ite, tden_bytes, tden_text, tden_fits, tden_nadd, tden_nsub, tden_small, intD_add, intD_sub, intD_mul, intD_quo, intD_rem, intD_eql, intD_neq, intD_lss, intD_leq, intD_gtr, intD_geq, D.int.injEq, D.bool.injEq, D.str.injEq, D.list.injEq, decide_eq_true_eq, decide_eq_false_iff_not, beq_iff_eq]; omega
    · simp only [D.tm_den, den_int, den_bool, den_str, den_v, den_op, dens_nil, dens_cons, vals_at, List.getD_cons_succ, List.getD_cons_zero, List.getD_nil, List.map_cons, List.map_nil, Int.toNat_natCast, tden_bin, tden_shift, tden_conv, tden_not, tden_and, tden_sbin, tden_slen, tden_len, tden_nth, tden_fld, tden_mk, tden_cat, tden_sub, tden_set, tden_setf, tden_rep, tden_sget, tden_ssub, tden_ite, tden_bytes, tden_text, tden_fits, tden_nadd, tden_nsub, tden_small, intD_add, intD_sub, intD_mul, intD_quo, intD_rem, intD_eql, intD_neq, intD_lss, intD_leq, intD_gtr, intD_geq, D.int.injEq, D.bool.injEq, D.str.injEq, D.list.injEq, decide_eq_true_eq, decide_eq_false_iff_not, beq_iff_eq]; omega
    · refine loop2 0 (List.replicate l.flatten.length (.list [.int 0, .int 0, .list []])) rfl fun e => ?_
      subst e; exact absurd rfl h0
end cc
end Go.Proofs.YtkkoidhohapjcaaGreat
