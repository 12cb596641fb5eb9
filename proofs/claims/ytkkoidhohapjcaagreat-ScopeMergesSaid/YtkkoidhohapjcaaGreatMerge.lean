/- scope.Merge: each member once, where its number comes first. No condition. -/
import Derived.Test.YtkkoidhohapjcaaGreatIndex
import Derived.Test.YtkkoidhohapjcaaGreatConcat
set_option linter.unusedSimpArgs false
set_option linter.unusedVariables false
set_option linter.unusedSectionVars false
namespace Go.Proofs.YtkkoidhohapjcaaGreat
open Go.Tc

namespace ct
-- 0: the members; 1 2 3: the one that is sought; 4: the answer; 5: where it is
def x : Fact := ⟨81, ix.x.args, 3, ix.x.pre, .sy .bool (.v 4), ix.x.pre, 3⟩
def y : Fact := ⟨174, ix.x.args, 3, ix.x.pre, .sy (.int .i64) (.v 5), ix.x.pre, 3⟩
def tb : List (Tm × Tm) := [(.op (.bin .geq .i64) [.v 5, .int 0], .v 4)]
theorem use_ : usesSo (tableNf []) G (subs [.v 0, .v 1, .v 2, .v 3, .v 5]) [(1, 1), (2, 2)] ix.x y = true := by kernel_rfl
theorem run_ : answers ((ev P ((E0.tab tb).know [y]) 100000).call x.f x.args x.ahead) x = true := by kernel_rfl
theorem drop_ (n : Int) : usesSo (tableNf []) G (subs [.v 0, .v 1, .v 2, .v 3, .v 4, .int n]) [(1, 1), (2, 2)] x x = true := by kernel_rfl
theorem ok (L : List D) (x1 : Int) (d2 d3 : D) (hL : idsOk L) (hn : L.length ≤ 2 ^ 30) : @Fact.Ok (vals [.list L, .int x1, d2, d3, .bool (decide (0 ≤ indexOf x1 L))]) P G x := by
  refine Fact.use (tb := []) (ts := [.v 0, .v 1, .v 2, .v 3, .v 4, .int (indexOf x1 L)]) (l := [(1, 1), (2, 2)]) trivial rfl ?_ (drop_ _)
  show @Fact.Ok (vals [.list L, .int x1, d2, d3, .bool (decide (0 ≤ indexOf x1 L)), .int (indexOf x1 L)]) P G x
  refine @Fact.ok_of (vals _) P G _ (@EnvOk.know (vals _) P G _ (EnvOk.tab (envAt _) (l := tb) ⟨?_, trivial⟩) [y] ?_) 100000 x run_
  · simp only [D.tm_den, den_int, den_bool, den_str, den_v, den_op, dens_nil, dens_cons, vals_at, List.getD_cons_succ, List.getD_cons_zero, List.getD_nil, List.map_cons, List.map_nil, Int.toNat_natCast, tden_bin, tden_shift, tden_conv, tden_not, tden_and, tden_sbin, tden_slen, tden_len, tden_nth, tden_fld, tden_mk, tden_cat, tden_sub, tden_set, tden_setf, tden_rep, tden_sget, tden_ssub, tden_ite, tden_bytes, tden_text, tden_fits, tden_nadd, tden_nsub, tden_small, intD_add, intD_sub, intD_mul, intD_quo, intD_rem, intD_eql, intD_neq, intD_lss, intD_leq, intD_gtr, intD_geq, D.int.injEq, D.bool.injEq, D.str.injEq, D.list.injEq, decide_eq_true_eq, decide_eq_false_iff_not, beq_iff_eq]
  · intro z hz
    simp only [List.mem_singleton] at hz
    subst hz
    exact Fact.use (tb := []) (ts := [.v 0, .v 1, .v 2, .v 3, .v 5]) (l := [(1, 1), (2, 2)]) trivial rfl (ix.ok L x1 d2 d3 hL hn) use_
end ct

/-- members, each once. -/
def mergeTo : List D → List D → List D
  | out, [] => out
  | out, d :: r => mergeTo (match idOf d with
    | .int n => if indexOf n out < 0 then out ++ [d] else out
    | _ => out) r

namespace mg
-- 0: the lists; 1: the answer; 2: all members; 3: the loop's number; 4: the answer so far; 5: is the number there?
def x : Fact := ⟨27, [.sy cc.lK (.v 0)], 1, [], .sy (.isl mK) (.v 1), [], 1⟩
noncomputable def fn : Func := Tryz.f27
noncomputable def cd : Code := match fn.body with | some c => c | none => .skip
noncomputable def cx : Ctx := cxOf P fn cd x.args.length
def a (c : Code) : Code := match c with | .seq x _ => x | _ => .skip
def b (c : Code) : Code := match c with | .seq _ x => x | .block _ x => x | .loop x => x | _ => .skip
noncomputable def c0 : Code := a cd
noncomputable def c1 : Code := a (b cd)
noncomputable def c2 : Code := a (a (b (b cd)))
noncomputable def lp : Code := b (b (b (a (b (b cd)))))
noncomputable def c3 : Code := b (b (b cd))
theorem cd_eq : cd = .seq c0 (.seq c1 (.seq (.seq c2 (.block 0 (.loop lp))) c3)) := by kernel_rfl
theorem func : P.funcs[x.f]? = some fn := Tryz.func27
theorem body : fn.body = some cd := by kernel_rfl
def out : AV := .lsl 1 3 (.int 0) (.op .len [.v 4]) .opn
def row : List (Nat × AObj) := [(1, .lrow mK (.v 4) 79 (.buf 0 false))]
def s0 : St := { vars := [(0, .sy cc.lK (.v 0))], loc := [], marks := [], objs := [], next := 1 }
def s1 : St := { vars := [(0, .sy cc.lK (.v 0)), (3, .nilSlice)], loc := [], marks := [], objs := [], next := 1 }
def inv : St := { vars := [(3, out), (7, .sy (.isl mK) (.v 2)), (8, .sy (.int .i64) (.op .len [.v 2])), (9, .sy (.int .i64) (.v 3))], loc := [], marks := [], objs := row, next := 2 }
def end_ : St := { vars := [(3, out)], loc := [], marks := [], objs := row, next := 2 }
def fin : St := { vars := [(2, .sy (.isl mK) (.v 1))], loc := [], marks := [], objs := [], next := 1 }
def lss : Tm := .op (.bin .lss .i64) [.v 3, .op .len [.v 2]]
def leq0 : Tm := .op (.bin .leq .i64) [.int 0, .v 3]
def fld (j : Nat) : Tm := .op (.fld j) [.op .nth [.v 2, .v 3]]
def next : Tm := .op (.bin .add .i64) [.v 3, .int 1]
def yc : Fact := ⟨80, [.sy cc.lK (.v 0)], 1, [], .sy (.isl mK) (.v 2), [], 1⟩
def pre : List (Nat × AObj) := [(2, .row [.sy (.int .i64) (fld 0), .sy (.int .u64) (fld 1), .sy (.ref []) (fld 2)] 79 .solid), (1, .lrow mK (.v 4) 79 (.buf 0 false))]
def yt : Fact := ⟨81, [out, .fn (.func 82) [] [.ptr 2 0]], 3, pre, .sy .bool (.v 5), pre, 3⟩
def tbA : List (Tm × Tm) := [(lss, .bool false)]
def tb0 : List (Tm × Tm) := [(lss, .bool true), (leq0, .bool true), (.op .not [.v 5], .bool false)]
def lenv : Tm := .op .len [.v 4]
def tb1 : List (Tm × Tm) := [(lss, .bool true), (leq0, .bool true), (.op .not [.v 5], .bool true), (.op (.bin .leq .i64) [lenv, lenv], .bool true), (.op .small [.op .nadd [lenv, .int 1]], .bool true), (.op .len [.op .cat [.v 4, .op .mk [.op .mk [fld 0, fld 1, fld 2]]]], .op .nadd [lenv, .int 1])]
def te : List (Tm × Tm) := [(.v 4, .v 1)]
def E1 : Env := E0.know [yc]
def E2 : Env := E0.know [yt]
theorem usec : usesSo (tableNf []) G (subs [.v 0, .v 2]) [] cc.x yc = true := by kernel_rfl
theorem uset : usesSo (tableNf []) G (subs [.v 4, fld 0, fld 1, fld 2, .v 5]) [(1, 2), (2, 1)] ct.x yt = true := by kernel_rfl
theorem k0_ (t : Tm) : evIce P (E0.tab []) 100000 cx none 1 c0 (startSt x) [] (subs [.v 0, .v 1, t]) [] .normal s0 = true := by kernel_rfl
theorem k1_ : evIce P (E0.tab []) 100000 cx none 1 c1 s0 [] (subs [.v 0, .v 1, .v 2]) [] .normal s1 = true := by kernel_rfl
theorem k2_ (c : Bool) : evIce P (E1.tab []) 100000 cx none 1 c2 s1 [] (subs [.v 0, .v 1, .v 2, .int 0, .op .mk [], .bool c]) [] .normal inv = true := by kernel_rfl
theorem kA_ : evIce P (E0.tab tbA) 100000 cx none 1 lp inv [] (subs [.v 0, .v 1, .v 2, .v 3, .v 4]) [(1, 1)] (.exit 0) end_ = true := by kernel_rfl
theorem kC0 (c : Bool) : evIce P (E2.tab tb0) 100000 cx none 1 lp inv [] (subs [.v 0, .v 1, .v 2, next, .v 4, .bool c]) [(1, 1)] .normal inv = true := by kernel_rfl
theorem kC1 (c : Bool) : evIce P (E2.tab tb1) 100000 cx none 1 lp inv [] (subs [.v 0, .v 1, .v 2, next, .op .cat [.v 4, .op .mk [.op .mk [fld 0, fld 1, fld 2]]], .bool c]) [(1, 4)] .normal inv = true := by kernel_rfl
theorem k3_ : evIce P (E0.tab te) 100000 cx none 1 c3 end_ [.ice 1] (subs [.v 0, .v 1]) [] .ret fin = true := by kernel_rfl

theorem ok (l : List (List D)) (hl : l.length ≤ 2 ^ 30) (hn : l.flatten.length ≤ 2 ^ 30) (hm : ∀ d ∈ l.flatten, ∃ (n : Int) (a b : D), d = .list [.int n, a, b] ∧ -2 ^ 63 ≤ n ∧ n < 2 ^ 63) : @Fact.Ok (vals [.list (l.map .list), .list (mergeTo [] l.flatten)]) P G x := by
  have hg : cx.glob = G := by kernel_rfl
  refine Fact.ok_tri (fn := fn) (cd := cd) (envAt _) func body (Q := fun V' ex σ' => V' = vals [.list (l.map .list), .list (mergeTo [] l.flatten)] ∧ ex = .ret ∧ σ' = fin) ?tri ?hq
  case hq =>
    rintro V' ex σ' ⟨rfl, rfl, rfl⟩
    exact ⟨rfl, .inr rfl, by kernel_rfl⟩
  show Tri P G _ cx none 1 cd (startSt x) _
  rw [cd_eq]
  have le1 : (1 : Nat) ≤ 1 := Nat.le_refl 1
  have le2 : (1 : Nat) ≤ 2 := by omega
  have hcc := cc.ok l hl hn
  generalize l.map D.list = LL at *
  generalize l.flatten = F at *
  generalize hM : mergeTo [] F = M
  let g (i : Nat) (O : List D) : Bool := match idOf (F.getD i .bad) with
    | .int n => decide (0 ≤ indexOf n O)
    | _ => false
  refine Tri.goSeq (envAt _) hg stays_none (tb := []) trivial le1 (k0_ (D.list F).tm) ?_
  refine Tri.goSeq (envAt _) hg stays_none (tb := []) trivial le1 k1_ ?_
  simp only [D.tm_den, den_int, den_bool, den_str, den_v, den_op, dens_nil, dens_cons, vals_at, List.getD_cons_succ, List.getD_cons_zero, List.getD_nil, List.map_cons, List.map_nil, Int.toNat_natCast, tden_bin, tden_shift, tden_conv, tden_not, tden_and, tden_sbin, tden_slen, tden_len, tden_nth, tden_fld, tden_mk, tden_cat, tden_sub, tden_set, tden_setf, tden_rep, tden_sget, tden_ssub, tden_ite, tden_bytes, tden_text, tden_fits, tden_nadd, tden_nsub, tden_small, intD_add, intD_sub, intD_mul, intD_quo, intD_rem, intD_eql, intD_neq, intD_lss, intD_leq, intD_gtr, intD_geq, D.int.injEq, D.bool.injEq, D.str.injEq, D.list.injEq, decide_eq_true_eq, decide_eq_false_iff_not, beq_iff_eq]
  have nth : ∀ i (h : i < F.length), F.getD i .bad = F[i] := fun i h => by simp [List.getD_eq_getElem?_getD, h]
  refine Tri.seq stays_none (Q1 := fun V' ex σ' => ex = .normal ∧ V' = vals [.list LL, .list M, .list F, .int (F.length : Int), .list M] ∧ σ' = end_) ?_ ?_ (fun V' ex σ' hne h => absurd h.1 hne)
  · have hE1 : @EnvOk (vals [.list LL, .list M, .list F]) P G E1 := @EnvOk.know (vals _) P G _ (envAt _) [yc] fun z hz => by
      simp only [List.mem_singleton] at hz
      subst hz
      exact Fact.use (tb := []) (ts := [.v 0, .v 2]) (l := []) trivial rfl hcc usec
    refine Tri.goSeq hE1 hg stays_none (tb := []) trivial le1 (k2_ (g 0 [])) (Tri.block ?_)
    refine Tri.loop (α := Nat × List D) (fun (i, O) => i ≤ F.length ∧ mergeTo O (F.drop i) = M ∧ (∀ d ∈ O, d ∈ F) ∧ O.length ≤ i) (fun (i, _) => F.length - i) (fun (i, O) => vals [.list LL, .list M, .list F, .int (i : Int), .list O, .bool (g i O)]) stays_none ?_ (0, []) ⟨Nat.zero_le _, hM, by simp, Nat.le_refl 0⟩
    rintro ⟨i, O⟩ ⟨hi, hI, hO, hOl⟩
    simp only at hi hI hO hOl ⊢
    by_cases hlt : i < F.length
    · have w1 : IntKind.i64.wrap ((i : Int) + 1) = ((i + 1 : Nat) : Int) := by rw [wrap_i64 (by omega)]; simp
      have hmem : F[i] ∈ F := List.getElem_mem hlt
      obtain ⟨n, p, q, hd, -⟩ := hm _ hmem
      have hgi : g i O = decide (0 ≤ indexOf n O) := by
        show (match idOf (F.getD i .bad) with | .int n => decide (0 ≤ indexOf n O) | _ => false) = _
        rw [nth i hlt, hd]; rfl
      have hO' : idsOk O := fun d hd => by
        obtain ⟨m, p, q, rfl, h⟩ := hm d (hO d hd)
        exact ⟨m, rfl, h⟩
      have hf : ∀ j, @Tm.den (vals [.list LL, .list M, .list F, .int (i : Int), .list O, .bool (g i O)]) (fld j) = [D.int n, p, q].getD j .bad := fun j => by
        simp only [D.tm_den, den_int, den_bool, den_str, den_v, den_op, dens_nil, dens_cons, vals_at, List.getD_cons_succ, List.getD_cons_zero, List.getD_nil, List.map_cons, List.map_nil, Int.toNat_natCast, tden_bin, tden_shift, tden_conv, tden_not, tden_and, tden_sbin, tden_slen, tden_len, tden_nth, tden_fld, tden_mk, tden_cat, tden_sub, tden_set, tden_setf, tden_rep, tden_sget, tden_ssub, tden_ite, tden_bytes, tden_text, tden_fits, tden_nadd, tden_nsub, tden_small, intD_add, intD_sub, intD_mul, intD_quo, intD_rem, intD_eql, intD_neq, intD_lss, intD_leq, intD_gtr, intD_geq, D.int.injEq, D.bool.injEq, D.str.injEq, D.list.injEq, decide_eq_true_eq, decide_eq_false_iff_not, beq_iff_eq, fld, nth i hlt, hd]
      have hE2 : @EnvOk (vals [.list LL, .list M, .list F, .int (i : Int), .list O, .bool (g i O)]) P G E2 := @EnvOk.know (vals _) P G _ (envAt _) [yt] fun z hz => by
        simp only [List.mem_singleton] at hz
        subst hz
        refine Fact.use (tb := []) (ts := [.v 4, fld 0, fld 1, fld 2, .v 5]) (l := [(1, 2), (2, 1)]) trivial (ds := [.list O, .int n, p, q, .bool (g i O)]) (by simp only [D.tm_den, den_int, den_bool, den_str, den_v, den_op, dens_nil, dens_cons, vals_at, List.getD_cons_succ, List.getD_cons_zero, List.getD_nil, List.map_cons, List.map_nil, Int.toNat_natCast, tden_bin, tden_shift, tden_conv, tden_not, tden_and, tden_sbin, tden_slen, tden_len, tden_nth, tden_fld, tden_mk, tden_cat, tden_sub, tden_set, tden_setf, tden_rep, tden_sget, tden_ssub, tden_ite, tden_bytes, tden_text, tden_fits, tden_nadd, tden_nsub, tden_small, intD_add, intD_sub, intD_mul, intD_quo, intD_rem, intD_eql, intD_neq, intD_lss, intD_leq, intD_gtr, intD_geq, D.int.injEq, D.bool.injEq, D.str.injEq, D.list.injEq, decide_eq_true_eq, decide_eq_false_iff_not, beq_iff_eq, hf]) ?_ uset
        have := ct.ok O n p q hO' (by omega)
        rw [← hgi] at this
        exact this
      rw [List.drop_eq_getElem_cons hlt] at hI
      simp only [mergeTo, hd, show idOf (.list [.int n, p, q]) = .int n from rfl] at hI
      by_cases hc : 0 ≤ indexOf n O
      · rw [if_neg (by omega)] at hI
        refine Tri.go hE2 hg (tb := tb0) ⟨?_, ?_, ?_, trivial⟩ le2 (kC0 (g (i + 1) O)) (.inl ⟨rfl, rfl, (i + 1, O), ?_, ⟨hlt, hI, hO, by show O.length ≤ i + 1; omega⟩, by show F.length - (i + 1) < F.length - i; omega⟩)
        · simp only [D.tm_den, den_int, den_bool, den_str, den_v, den_op, dens_nil, dens_cons, vals_at, List.getD_cons_succ, List.getD_cons_zero, List.getD_nil, List.map_cons, List.map_nil, Int.toNat_natCast, tden_bin, tden_shift, tden_conv, tden_not, tden_and, tden_sbin, tden_slen, tden_len, tden_nth, tden_fld, tden_mk, tden_cat, tden_sub, tden_set, tden_setf, tden_rep, tden_sget, tden_ssub, tden_ite, tden_bytes, tden_text, tden_fits, tden_nadd, tden_nsub, tden_small, intD_add, intD_sub, intD_mul, intD_quo, intD_rem, intD_eql, intD_neq, intD_lss, intD_leq, intD_gtr, intD_geq, D.int.injEq, D.bool.injEq, D.str.injEq, D.list.injEq, decide_eq_true_eq, decide_eq_false_iff_not, beq_iff_eq, lss]; omega
        · simp only [D.tm_den, den_int, den_bool, den_str, den_v, den_op, dens_nil, dens_cons, vals_at, List.getD_cons_succ, List.getD_cons_zero, List.getD_nil, List.map_cons, List.map_nil, Int.toNat_natCast, tden_bin, tden_shift, tden_conv, tden_not, tden_and, tden_sbin, tden_slen, tden_len, tden_nth, tden_fld, tden_mk, tden_cat, tden_sub, tden_set, tden_setf, tden_rep, tden_sget, tden_ssub, tden_ite, tden_bytes, tden_text, tden_fits, tden_nadd, tden_nsub, tden_small, intD_add, intD_sub, intD_mul, intD_quo, intD_rem, intD_eql, intD_neq, intD_lss, intD_leq, intD_gtr, intD_geq, D.int.injEq, D.bool.injEq, D.str.injEq, D.list.injEq, decide_eq_true_eq, decide_eq_false_iff_not, beq_iff_eq, leq0]; omega
        · simp only [D.tm_den, den_int, den_bool, den_str, den_v, den_op, dens_nil, dens_cons, vals_at, List.getD_cons_succ, List.getD_cons_zero, List.getD_nil, List.map_cons, List.map_nil, Int.toNat_natCast, tden_bin, tden_shift, tden_conv, tden_not, tden_and, tden_sbin, tden_slen, tden_len, tden_nth, tden_fld, tden_mk, tden_cat, tden_sub, tden_set, tden_setf, tden_rep, tden_sget, tden_ssub, tden_ite, tden_bytes, tden_text, tden_fits, tden_nadd, tden_nsub, tden_small, intD_add, intD_sub, intD_mul, intD_quo, intD_rem, intD_eql, intD_neq, intD_lss, intD_leq, intD_gtr, intD_geq, D.int.injEq, D.bool.injEq, D.str.injEq, D.list.injEq, decide_eq_true_eq, decide_eq_false_iff_not, beq_iff_eq, hgi]; simp [hc]
        · simp only [D.tm_den, den_int, den_bool, den_str, den_v, den_op, dens_nil, dens_cons, vals_at, List.getD_cons_succ, List.getD_cons_zero, List.getD_nil, List.map_cons, List.map_nil, Int.toNat_natCast, tden_bin, tden_shift, tden_conv, tden_not, tden_and, tden_sbin, tden_slen, tden_len, tden_nth, tden_fld, tden_mk, tden_cat, tden_sub, tden_set, tden_setf, tden_rep, tden_sget, tden_ssub, tden_ite, tden_bytes, tden_text, tden_fits, tden_nadd, tden_nsub, tden_small, intD_add, intD_sub, intD_mul, intD_quo, intD_rem, intD_eql, intD_neq, intD_lss, intD_leq, intD_gtr, intD_geq, D.int.injEq, D.bool.injEq, D.str.injEq, D.list.injEq, decide_eq_true_eq, decide_eq_false_iff_not, beq_iff_eq, next, w1]
      · rw [if_pos (by omega)] at hI
        refine Tri.go hE2 hg (tb := tb1) ⟨?_, ?_, ?_, ?_, ?_, ?_, trivial⟩ le2 (kC1 (g (i + 1) (O ++ [F[i]]))) (.inl ⟨rfl, rfl, (i + 1, O ++ [F[i]]), ?_, ⟨hlt, by rw [hd]; exact hI, ?_, ?_⟩, by show F.length - (i + 1) < F.length - i; omega⟩)
        · simp only [D.tm_den, den_int, den_bool, den_str, den_v, den_op, dens_nil, dens_cons, vals_at, List.getD_cons_succ, List.getD_cons_zero, List.getD_nil, List.map_cons, List.map_nil, Int.toNat_natCast, tden_bin, tden_shift, tden_conv, tden_not, tden_and, tden_sbin, tden_slen, tden_len, tden_nth, tden_fld, tden_mk, tden_cat, tden_sub, tden_set, tden_setf, tden_rep, tden_sget, tden_ssub, tden_ite, tden_bytes, tden_text, tden_fits, tden_nadd, tden_nsub, tden_small, intD_add, intD_sub, intD_mul, intD_quo, intD_rem, intD_eql, intD_neq, intD_lss, intD_leq, intD_gtr, intD_geq, D.int.injEq, D.bool.injEq, D.str.injEq, D.list.injEq, decide_eq_true_eq, decide_eq_false_iff_not, beq_iff_eq, lss]; omega
        · simp only [D.tm_den, den_int, den_bool, den_str, den_v, den_op, dens_nil, dens_cons, vals_at, List.getD_cons_succ, List.getD_cons_zero, List.getD_nil, List.map_cons, List.map_nil, Int.toNat_natCast, tden_bin, tden_shift, tden_conv, tden_not, tden_and, tden_sbin, tden_slen, tden_len, tden_nth, tden_fld, tden_mk, tden_cat, tden_sub, tden_set, tden_setf, tden_rep, tden_sget, tden_ssub, tden_ite, tden_bytes, tden_text, tden_fits, tden_nadd, tden_nsub, tden_small, intD_add, intD_sub, intD_mul, intD_quo, intD_rem, intD_eql, intD_neq, intD_lss, intD_leq, intD_gtr, intD_geq, D.int.injEq, D.bool.injEq, D.str.injEq, D.list.injEq, decide_eq_true_eq, decide_eq_false_iff_not, beq_iff_eq, leq0]; omega
        · simp only [D.tm_den, den_int, den_bool, den_str, den_v, den_op, dens_nil, dens_cons, vals_at, List.getD_cons_succ, List.getD_cons_zero, List.getD_nil, List.map_cons, List.map_nil, Int.toNat_natCast, tden_bin, tden_shift, tden_conv, tden_not, tden_and, tden_sbin, tden_slen, tden_len, tden_nth, tden_fld, tden_mk, tden_cat, tden_sub, tden_set, tden_setf, tden_rep, tden_sget, tden_ssub, tden_ite, tden_bytes, tden_text, tden_fits, tden_nadd, tden_nsub, tden_small, intD_add, intD_sub, intD_mul, intD_quo, intD_rem, intD_eql, intD_neq, intD_lss, intD_leq, intD_gtr, intD_geq, D.int.injEq, D.bool.injEq, D.str.injEq, D.list.injEq, decide_eq_true_eq, decide_eq_false_iff_not, beq_iff_eq, hgi]; simp [hc]
        · simp only [D.tm_den, den_int, den_bool, den_str, den_v, den_op, dens_nil, dens_cons, vals_at, List.getD_cons_succ, List.getD_cons_zero, List.getD_nil, List.map_cons, List.map_nil, Int.toNat_natCast, tden_bin, tden_shift, tden_conv, tden_not, tden_and, tden_sbin, tden_slen, tden_len, tden_nth, tden_fld, tden_mk, tden_cat, tden_sub, tden_set, tden_setf, tden_rep, tden_sget, tden_ssub, tden_ite, tden_bytes, tden_text, tden_fits, tden_nadd, tden_nsub, tden_small, intD_add, intD_sub, intD_mul, intD_quo, intD_rem, intD_eql, intD_neq, intD_lss, intD_leq, intD_gtr, intD_geq, D.int.injEq, D.bool.injEq, D.str.injEq, D.list.injEq, decide_eq_true_eq, decide_eq_false_iff_not, beq_iff_eq, lenv]; omega
        · simp only [D.tm_den, den_int, den_bool, den_str, den_v, den_op, dens_nil, dens_cons, vals_at, List.getD_cons_succ, List.getD_cons_zero, List.getD_nil, List.map_cons, List.map_nil, Int.toNat_natCast, tden_bin, tden_shift, tden_conv, tden_not, tden_and, tden_sbin, tden_slen, tden_len, tden_nth, tden_fld, tden_mk, tden_cat, tden_sub, tden_set, tden_setf, tden_rep, tden_sget, tden_ssub, tden_ite, tden_bytes, tden_text, tden_fits, tden_nadd, tden_nsub, tden_small, intD_add, intD_sub, intD_mul, intD_quo, intD_rem, intD_eql, intD_neq, intD_lss, intD_leq, intD_gtr, intD_geq, D.int.injEq, D.bool.injEq, D.str.injEq, D.list.injEq, decide_eq_true_eq, decide_eq_false_iff_not, beq_iff_eq, lenv]; omega
        · simp only [D.tm_den, den_int, den_bool, den_str, den_v, den_op, dens_nil, dens_cons, vals_at, List.getD_cons_succ, List.getD_cons_zero, List.getD_nil, List.map_cons, List.map_nil, Int.toNat_natCast, tden_bin, tden_shift, tden_conv, tden_not, tden_and, tden_sbin, tden_slen, tden_len, tden_nth, tden_fld, tden_mk, tden_cat, tden_sub, tden_set, tden_setf, tden_rep, tden_sget, tden_ssub, tden_ite, tden_bytes, tden_text, tden_fits, tden_nadd, tden_nsub, tden_small, intD_add, intD_sub, intD_mul, intD_quo, intD_rem, intD_eql, intD_neq, intD_lss, intD_leq, intD_gtr, intD_geq, D.int.injEq, D.bool.injEq, D.str.injEq, D.list.injEq, decide_eq_true_eq, decide_eq_false_iff_not, beq_iff_eq, lenv, hf]; simp
        · simp only [D.tm_den, den_int, den_bool, den_str, den_v, den_op, dens_nil, dens_cons, vals_at, List.getD_cons_succ, List.getD_cons_zero, List.getD_nil, List.map_cons, List.map_nil, Int.toNat_natCast, tden_bin, tden_shift, tden_conv, tden_not, tden_and, tden_sbin, tden_slen, tden_len, tden_nth, tden_fld, tden_mk, tden_cat, tden_sub, tden_set, tden_setf, tden_rep, tden_sget, tden_ssub, tden_ite, tden_bytes, tden_text, tden_fits, tden_nadd, tden_nsub, tden_small, intD_add, intD_sub, intD_mul, intD_quo, intD_rem, intD_eql, intD_neq, intD_lss, intD_leq, intD_gtr, intD_geq, D.int.injEq, D.bool.injEq, D.str.injEq, D.list.injEq, decide_eq_true_eq, decide_eq_false_iff_not, beq_iff_eq, next, w1, hf, hd]
        · intro d h
          rcases List.mem_append.1 h with h | h
          · exact hO d h
          · rw [List.mem_singleton] at h; rw [h]; exact hmem
        · simp; omega
    · have : i = F.length := by omega
      subst this
      rw [List.drop_length] at hI
      simp only [mergeTo] at hI
      subst hI
      exact Tri.go (envAt _) hg (tb := tbA) ⟨by simp only [D.tm_den, den_int, den_bool, den_str, den_v, den_op, dens_nil, dens_cons, vals_at, List.getD_cons_succ, List.getD_cons_zero, List.getD_nil, List.map_cons, List.map_nil, Int.toNat_natCast, tden_bin, tden_shift, tden_conv, tden_not, tden_and, tden_sbin, tden_slen, tden_len, tden_nth, tden_fld, tden_mk, tden_cat, tden_sub, tden_set, tden_setf, tden_rep, tden_sget, tden_ssub, tden_ite, tden_bytes, tden_text, tden_fits, tden_nadd, tden_nsub, tden_small, intD_add, intD_sub, intD_mul, intD_quo, intD_rem, intD_eql, intD_neq, intD_lss, intD_leq, intD_gtr, intD_geq, D.int.injEq, D.bool.injEq, D.str.injEq, D.list.injEq, decide_eq_true_eq, decide_eq_false_iff_not, beq_iff_eq, lss]; omega, trivial⟩ le2 kA_ (.inr ⟨by simp, rfl, rfl, rfl⟩)
  · rintro V' σ' ⟨-, rfl, rfl⟩
    exact Tri.go (envAt _) hg (tb := te) ⟨rfl, trivial⟩ le2 k3_ ⟨rfl, rfl, rfl⟩
end mg
end Go.Proofs.YtkkoidhohapjcaaGreat
