/- show.Lines: the lines of a text that begin with a word, told one by one. No condition but the texts' lengths. -/
import Derived.Test.YtkkoidhohapjcaaGreatDoorText
set_option linter.unusedSimpArgs false
set_option linter.unusedVariables false
set_option linter.unusedSectionVars false
set_option maxRecDepth 100000
namespace Go.Proofs.YtkkoidhohapjcaaGreatDoor
open Go.Tc

/-- is a line one of a word's? -/
def mt (w x : List UInt8) : Bool := decide (x = w) || begins x (w ++ [32])
/-- how many are told. -/
def kfin (m : Nat) (n : Int) : Int := if 1 ≤ n then min (m : Int) n else m

namespace sc
-- 0: the line; 1: how many were told; 2: what is wanted; 3: where it stops; 4: does it go on? 5: one more
def s (t : Tm) : AV := .sy .str t
def i64 (t : Tm) : AV := .sy (.int .i64) t
def bl (t : Tm) : AV := .sy .bool t
def row1 (t : AV) (ty : Nat) : AObj := .row [t] ty .solid
def cap : List AV := [.ptr 7 0, .ptr 8 0, .ptr 9 0, .ptr 10 0]
def four (k : AV) : List (Nat × AObj) := [(7, row1 (.bool true) 4), (8, row1 k 3), (9, row1 (.sy (.isl [.str]) (.v 2)) 23), (10, row1 (i64 (.v 3)) 3)]
def x : Fact := ⟨8, s (.v 0) :: cap, 11, four (i64 (.v 1)), bl (.v 4), four (i64 (.v 5)), 11⟩
noncomputable def fn : Func := Tryz.f8
noncomputable def cd : Code := match fn.body with | some c => c | none => .skip
noncomputable def cx : Ctx := cxOf P fn cd 5
noncomputable def L : List Code := flat cd
theorem func : P.funcs[x.f]? = some fn := Tryz.func8
theorem body : fn.body = some cd := by kernel_rfl
def fin : St := { vars := [(6, bl (.v 4))], loc := [], marks := [], objs := four (i64 (.v 5)), next := 11 }
def kS0T : List (Tm × Tm) := [((.op (.bin .lss .i64) [(.v 1), (.op .len [(.v 2)])]), (.bool true)), ((.op (.sbin .eql) [(.op .nth [(.v 2), (.v 1)]), (.v 0)]), (.bool true)), ((.op (.bin .leq .i64) [(.int 0), (.v 1)]), (.bool true))]
theorem kS0 : evFl P (E0.tab kS0T) 100000 cx none 11 L (startSt x) [] (subs [(.v 0), (.v 1), (.v 2), (.v 3), (.op (.bin .neq .i64) [(.op (.bin .add .i64) [(.v 1), (.int 1)]), (.v 3)]), (.op (.bin .add .i64) [(.v 1), (.int 1)])]) [] .ret fin = true := by kernel_rfl
theorem ok (W : List (List UInt8)) (k : Nat) (hk : k < W.length) (hk2 : k ≤ 1000) (n : Int) : @Fact.Ok (vals [ds W[k], .int k, dss W, .int n, .bool (decide (((k + 1 : Nat) : Int) ≠ n)), .int (k + 1 : Nat)]) P G x := by
  have hg : cx.glob = G := by kernel_rfl
  refine Fact.ok_tri (fn := fn) (cd := cd) (envAt _) func body (Q := fun V' ex σ' => V' = vals [ds W[k], .int k, dss W, .int n, .bool (decide (((k + 1 : Nat) : Int) ≠ n)), .int (k + 1 : Nat)] ∧ ex = .ret ∧ σ' = fin) ?tri ?hq
  case hq =>
    rintro V' ex σ' ⟨rfl, rfl, rfl⟩
    exact ⟨rfl, .inr rfl, by kernel_rfl⟩
  refine Tri.flat (by kernel_rfl) ?_
  show TriL P G _ cx none 11 L _ _
  have w1 : IntKind.i64.wrap ((k : Int) + 1) = ((k + 1 : Nat) : Int) := by rw [wrap_i64 (by omega)]; simp
  have hq : (W.map ds).getD k .bad = ds W[k] := by simp [List.getD_eq_getElem?_getD, hk]
  refine TriL.fin (envAt _) hg (tb := kS0T) ⟨?_, ?_, ?_, trivial⟩ (Nat.le_refl 11) kS0 ⟨?_, rfl, rfl⟩
  · simp only [D.tm_den, den_int, den_bool, den_str, den_v, den_op, dens_nil, dens_cons, vals_at, List.getD_cons_succ, List.getD_cons_zero, List.getD_nil, List.map_cons, List.map_nil, Int.toNat_natCast, tden_bin, tden_shift, tden_conv, tden_not, tden_and, tden_sbin, tden_slen, tden_len, tden_nth, tden_fld, tden_mk, tden_cat, tden_sub, tden_set, tden_setf, tden_rep, tden_sget, tden_ssub, tden_ite, tden_bytes, tden_text, tden_fits, tden_nadd, tden_nsub, tden_small, intD_add, intD_sub, intD_mul, intD_quo, intD_rem, intD_eql, intD_neq, intD_lss, intD_leq, intD_gtr, intD_geq, D.int.injEq, D.bool.injEq, D.str.injEq, D.list.injEq, decide_eq_true_eq, decide_eq_false_iff_not, beq_iff_eq, dss, dss_len]; omega
  · simp only [D.tm_den, den_int, den_bool, den_str, den_v, den_op, dens_nil, dens_cons, vals_at, List.getD_cons_succ, List.getD_cons_zero, List.getD_nil, List.map_cons, List.map_nil, Int.toNat_natCast, tden_bin, tden_shift, tden_conv, tden_not, tden_and, tden_sbin, tden_slen, tden_len, tden_nth, tden_fld, tden_mk, tden_cat, tden_sub, tden_set, tden_setf, tden_rep, tden_sget, tden_ssub, tden_ite, tden_bytes, tden_text, tden_fits, tden_nadd, tden_nsub, tden_small, intD_add, intD_sub, intD_mul, intD_quo, intD_rem, intD_eql, intD_neq, intD_lss, intD_leq, intD_gtr, intD_geq, D.int.injEq, D.bool.injEq, D.str.injEq, D.list.injEq, decide_eq_true_eq, decide_eq_false_iff_not, beq_iff_eq, dss, hq]
    simp [ds, strD_eql, sl_eq]
  · simp only [D.tm_den, den_int, den_bool, den_str, den_v, den_op, dens_nil, dens_cons, vals_at, List.getD_cons_succ, List.getD_cons_zero, List.getD_nil, List.map_cons, List.map_nil, Int.toNat_natCast, tden_bin, tden_shift, tden_conv, tden_not, tden_and, tden_sbin, tden_slen, tden_len, tden_nth, tden_fld, tden_mk, tden_cat, tden_sub, tden_set, tden_setf, tden_rep, tden_sget, tden_ssub, tden_ite, tden_bytes, tden_text, tden_fits, tden_nadd, tden_nsub, tden_small, intD_add, intD_sub, intD_mul, intD_quo, intD_rem, intD_eql, intD_neq, intD_lss, intD_leq, intD_gtr, intD_geq, D.int.injEq, D.bool.injEq, D.str.injEq, D.list.injEq, decide_eq_true_eq, decide_eq_false_iff_not, beq_iff_eq]; omega
  · simp only [D.tm_den, den_int, den_bool, den_str, den_v, den_op, dens_nil, dens_cons, vals_at, List.getD_cons_succ, List.getD_cons_zero, List.getD_nil, List.map_cons, List.map_nil, Int.toNat_natCast, tden_bin, tden_shift, tden_conv, tden_not, tden_and, tden_sbin, tden_slen, tden_len, tden_nth, tden_fld, tden_mk, tden_cat, tden_sub, tden_set, tden_setf, tden_rep, tden_sget, tden_ssub, tden_ite, tden_bytes, tden_text, tden_fits, tden_nadd, tden_nsub, tden_small, intD_add, intD_sub, intD_mul, intD_quo, intD_rem, intD_eql, intD_neq, intD_lss, intD_leq, intD_gtr, intD_geq, D.int.injEq, D.bool.injEq, D.str.injEq, D.list.injEq, decide_eq_true_eq, decide_eq_false_iff_not, beq_iff_eq, w1]
    rw [show (((k + 1 : Nat) : Int) != n) = decide (((k + 1 : Nat) : Int) ≠ n) from by simp [bne, decide_not]; rfl]
end sc

namespace lz
-- the iterator within Lines. 0: the text; 1: the word; 2: what is wanted; 3: where it stops; 4: how many are told; 5: what is left; 6: how many by then; 7 8 9: the line, what is behind it, is there one? 10: does it begin with the word and a blank? 11: does it go on? 12: one more
open sc
def yf : AV := .fn (.func 8) [] cap
def base (r : Tm) (k : AV) : List (Nat × AObj) := four k ++ [(12, row1 (s (.v 1)) 9), (13, row1 yf 29), (14, row1 (s r) 9)]
def lpo : AObj := .loop ⟨.ready, none, ⟨159, 22, 7⟩, ⟨[(2, .ptr 12 0), (3, .ptr 13 0)], []⟩, .at_ 14 [1, 1, 2], 15⟩
def lpd : AObj := .loop ⟨.done, some .ret, ⟨159, 22, 7⟩, ⟨[(2, .ptr 12 0), (3, .ptr 13 0)], []⟩, .at_ 14 [1, 1, 2], 15⟩
def args : List AV := [.fn (.yield 16) [] [], .ptr 14 0]
def pre : List (Nat × AObj) := base (.v 0) (.int .i64 0) ++ [(16, lpo)]
def inv : St := { vars := [(0, .fn (.yield 16) [] []), (1, .ptr 14 0)], loc := [], marks := [], objs := base (.v 5) (i64 (.v 6)) ++ [(16, lpo)], next := 17 }
def endO (o : AObj) : List (Nat × AObj) := four (i64 (.v 4)) ++ [(16, o)]
def none_ : St := { vars := [], loc := [], marks := [], objs := endO lpo, next := 17 }
def found : St := { vars := [], loc := [], marks := [], objs := endO lpd, next := 17 }
def x1 : Fact := ⟨40, args, 17, pre, .tuple [], endO lpd, 17⟩
def x0 : Fact := ⟨40, args, 17, pre, .tuple [], endO lpo, 17⟩
def yc : Fact := ⟨41, [s (.v 5), .str ⟨1, 10⟩], 17, [], .tuple [s (.v 7), s (.v 8), bl (.v 9)], [], 17⟩
def wb : Tm := .op (.sbin .add) [.v 1, .str ⟨1, 32⟩]
def yh : Fact := ⟨15, [s (.v 7), s wb], 17, [], bl (.v 10), [], 17⟩
def ys : Fact := ⟨8, s (.v 7) :: cap, 17, four (i64 (.v 6)), bl (.v 11), four (i64 (.v 12)), 17⟩
theorem usec : usesSo (tableNf []) G (subs [.v 5, .v 7, .v 8, .v 9]) [] cu.x yc = true := by kernel_rfl
theorem useh : usesSo (tableNf []) G (subs [.v 7, wb, .v 10]) [] hp.x yh = true := by kernel_rfl
theorem uses_ : usesSo (tableNf []) G (subs [.v 7, .v 6, .v 2, .v 3, .v 11, .v 12]) [(7, 7), (8, 8), (9, 9), (10, 10)] sc.x ys = true := by kernel_rfl
noncomputable def EK1 : Env := EC.know [yc, yh]
noncomputable def EK2 : Env := EC.know [yc, yh, ys]
noncomputable def fn : Func := Tryz.f40
noncomputable def cd : Code := match fn.body with | some c => c | none => .skip
noncomputable def cx : Ctx := cxOf P fn cd 2
noncomputable def L : List Code := flat cd
noncomputable def bd : Code := inLoop (inBlock (L.getD 0 .skip))
noncomputable def lp : List Code := flat bd
theorem func : P.funcs[40]? = some fn := Tryz.func40
theorem body : fn.body = some cd := by kernel_rfl
theorem at0 : L = [.block 0 (.loop bd)] := by kernel_rfl
theorem kA (a b c d e f : Tm) : evFl P (E0.tab []) 100000 cx none 17 [] (startSt x1) [] (subs [.v 0, .v 1, .v 2, .v 3, .v 4, .v 0, .int 0, a, b, c, d, e, f]) [] .normal inv = true := by kernel_rfl
def kB0T : List (Tm × Tm) := [((.op .not [(.v 9)]), (.bool true))]
theorem kB0 : evFl P (EK1.tab kB0T) 100000 cx none 17 lp inv [] (subs [(.v 0), (.v 1), (.v 2), (.v 3), (.v 6)]) [] .ret none_ = true := by kernel_rfl
def kB1T : List (Tm × Tm) := [((.op .not [(.v 9)]), (.bool false)), ((.op (.sbin .neq) [(.v 7), (.v 1)]), (.bool true)), ((.op .fits [(.v 1), (.str ⟨1, 32⟩)]), (.bool true)), ((.op .not [(.v 10)]), (.bool true))]
theorem kB1 (a b c d e f : Tm) : evFl P (EK1.tab kB1T) 100000 cx none 17 lp inv [] (subs [(.v 0), (.v 1), (.v 2), (.v 3), (.v 4), (.v 8), (.v 6), a, b, c, d, e, f]) [] .normal inv = true := by kernel_rfl
def kB2T : List (Tm × Tm) := [((.op .not [(.v 9)]), (.bool false)), ((.op (.sbin .neq) [(.v 7), (.v 1)]), (.bool true)), ((.op .fits [(.v 1), (.str ⟨1, 32⟩)]), (.bool true)), ((.op .not [(.v 10)]), (.bool false)), ((.op .not [(.v 11)]), (.bool true))]
theorem kB2 : evFl P (EK2.tab kB2T) 100000 cx none 17 lp inv [] (subs [(.v 0), (.v 1), (.v 2), (.v 3), (.v 12)]) [] .ret found = true := by kernel_rfl
def kB3T : List (Tm × Tm) := [((.op .not [(.v 9)]), (.bool false)), ((.op (.sbin .neq) [(.v 7), (.v 1)]), (.bool true)), ((.op .fits [(.v 1), (.str ⟨1, 32⟩)]), (.bool true)), ((.op .not [(.v 10)]), (.bool false)), ((.op .not [(.v 11)]), (.bool false))]
theorem kB3 (a b c d e f : Tm) : evFl P (EK2.tab kB3T) 100000 cx none 17 lp inv [] (subs [(.v 0), (.v 1), (.v 2), (.v 3), (.v 4), (.v 8), (.v 12), a, b, c, d, e, f]) [] .normal inv = true := by kernel_rfl
def kB4T : List (Tm × Tm) := [((.op .not [(.v 9)]), (.bool false)), ((.op (.sbin .neq) [(.v 7), (.v 1)]), (.bool false)), ((.op .not [(.v 11)]), (.bool true))]
theorem kB4 : evFl P (EK2.tab kB4T) 100000 cx none 17 lp inv [] (subs [(.v 0), (.v 1), (.v 2), (.v 3), (.v 12)]) [] .ret found = true := by kernel_rfl
def kB5T : List (Tm × Tm) := [((.op .not [(.v 9)]), (.bool false)), ((.op (.sbin .neq) [(.v 7), (.v 1)]), (.bool false)), ((.op .not [(.v 11)]), (.bool false))]
theorem kB5 (a b c d e f : Tm) : evFl P (EK2.tab kB5T) 100000 cx none 17 lp inv [] (subs [(.v 0), (.v 1), (.v 2), (.v 3), (.v 4), (.v 8), (.v 12), a, b, c, d, e, f]) [] .normal inv = true := by kernel_rfl

/-- the data within a round. -/
noncomputable abbrev V (l w : List UInt8) (W : List (List UInt8)) (n : Int) (k : Nat) (r : List UInt8) : Val :=
  vals [ds l, ds w, dss W, .int n, .int (kfin W.length n), ds r, .int k, ds (cutB r), ds (cutA r), .bool (cutF r), .bool (begins (cutB r) (w ++ [32])), .bool (decide (((k + 1 : Nat) : Int) ≠ n)), .int (k + 1 : Nat)]
theorem wb_ds (w : List UInt8) : strD .add (BS.ofList w) ⟨1, 32⟩ = ds (w ++ [32]) := by
  show D.str ((BS.ofList w).app (BS.ofList [32])) = _
  rw [ofList_app]; rfl
theorem hE1 (l w : List UInt8) (W : List (List UInt8)) (n : Int) (k : Nat) (r : List UInt8) (hr : r.length ≤ 1000) : ∀ z ∈ [yc, yh], @Fact.Ok (V l w W n k r) P G z := by
  intro z hz
  simp only [List.mem_cons, List.mem_nil_iff, or_false] at hz
  rcases hz with rfl | rfl
  · exact Fact.use (tb := []) (ts := [.v 5, .v 7, .v 8, .v 9]) (l := []) trivial rfl (cu.ok r hr) usec
  · refine Fact.use (tb := []) (ts := [.v 7, wb, .v 10]) (ds' := [ds (cutB r), ds (w ++ [32]), .bool (begins (cutB r) (w ++ [32]))]) (l := []) trivial ?_ (hp.ok (cutB r) (w ++ [32])) useh
    simp only [D.tm_den, den_int, den_bool, den_str, den_v, den_op, dens_nil, dens_cons, vals_at, List.getD_cons_succ, List.getD_cons_zero, List.getD_nil, List.map_cons, List.map_nil, Int.toNat_natCast, tden_bin, tden_shift, tden_conv, tden_not, tden_and, tden_sbin, tden_slen, tden_len, tden_nth, tden_fld, tden_mk, tden_cat, tden_sub, tden_set, tden_setf, tden_rep, tden_sget, tden_ssub, tden_ite, tden_bytes, tden_text, tden_fits, tden_nadd, tden_nsub, tden_small, intD_add, intD_sub, intD_mul, intD_quo, intD_rem, intD_eql, intD_neq, intD_lss, intD_leq, intD_gtr, intD_geq, D.int.injEq, D.bool.injEq, D.str.injEq, D.list.injEq, decide_eq_true_eq, decide_eq_false_iff_not, beq_iff_eq, wb, ds, wb_ds]
theorem hE2 (l w : List UInt8) (W : List (List UInt8)) (n : Int) (k : Nat) (r : List UInt8) (hr : r.length ≤ 1000) (hk : k < W.length) (hk2 : k ≤ 1000) (hx : cutB r = W[k]) : ∀ z ∈ [yc, yh, ys], @Fact.Ok (V l w W n k r) P G z := by
  intro z hz
  simp only [List.mem_cons, List.mem_nil_iff, or_false] at hz
  rcases hz with rfl | rfl | rfl
  · exact hE1 l w W n k r hr _ (by simp)
  · exact hE1 l w W n k r hr _ (by simp)
  · refine Fact.use (tb := []) (ts := [.v 7, .v 6, .v 2, .v 3, .v 11, .v 12]) (ds' := [ds W[k], .int k, dss W, .int n, .bool (decide (((k + 1 : Nat) : Int) ≠ n)), .int (k + 1 : Nat)]) (l := [(7, 7), (8, 8), (9, 9), (10, 10)]) trivial ?_ (sc.ok W k hk hk2 n) uses_
    rw [← hx]; rfl

/-- what the iterator does. -/
theorem run (l w : List UInt8) (hl : l.length ≤ 1000) (hwl : w.length ≤ 1000) (n : Int) :
    Tri P G (vals [ds l, ds w, dss ((linesOf l).filter (mt w)), .int n, .int (kfin ((linesOf l).filter (mt w)).length n)]) cx none 17 cd (startSt x1) fun V' ex σ' => ex = .ret ∧ V' = vals [ds l, ds w, dss ((linesOf l).filter (mt w)), .int n, .int (kfin ((linesOf l).filter (mt w)).length n)] ∧ ((σ' = none_ ∧ ¬ (1 ≤ n ∧ n ≤ ((linesOf l).filter (mt w)).length)) ∨ (σ' = found ∧ 1 ≤ n ∧ n ≤ ((linesOf l).filter (mt w)).length)) := by
  have hg : cx.glob = G := by kernel_rfl
  have le17 : (17 : Nat) ≤ 17 := Nat.le_refl 17
  generalize hW : (linesOf l).filter (mt w) = W
  refine Tri.flat (by kernel_rfl) ?_
  show TriL P G _ cx none 17 L _ _
  refine TriL.go 0 (envAt _) hg stays_none (tb := []) trivial le17 (kA (ds (cutB l)).tm (ds (cutA l)).tm (.bool (cutF l)) (.bool (begins (cutB l) (w ++ [32]))) (.bool (decide (((0 + 1 : Nat) : Int) ≠ n))) (.int (0 + 1 : Nat))) ?_
  simp only [D.tm_den, den_int, den_bool, den_str, den_v, den_op, dens_nil, dens_cons, vals_at, List.getD_cons_succ, List.getD_cons_zero, List.getD_nil, List.map_cons, List.map_nil, Int.toNat_natCast, tden_bin, tden_shift, tden_conv, tden_not, tden_and, tden_sbin, tden_slen, tden_len, tden_nth, tden_fld, tden_mk, tden_cat, tden_sub, tden_set, tden_setf, tden_rep, tden_sget, tden_ssub, tden_ite, tden_bytes, tden_text, tden_fits, tden_nadd, tden_nsub, tden_small, intD_add, intD_sub, intD_mul, intD_quo, intD_rem, intD_eql, intD_neq, intD_lss, intD_leq, intD_gtr, intD_geq, D.int.injEq, D.bool.injEq, D.str.injEq, D.list.injEq, decide_eq_true_eq, decide_eq_false_iff_not, beq_iff_eq]
  show TriL P G _ cx none 17 L _ _
  rw [at0]
  refine TriL.cons stays_none (Q1 := fun V' ex σ' => ex = .ret ∧ V' = vals [ds l, ds w, dss W, .int n, .int (kfin W.length n)] ∧ ((σ' = none_ ∧ ¬ (1 ≤ n ∧ n ≤ W.length)) ∨ (σ' = found ∧ 1 ≤ n ∧ n ≤ W.length))) (Tri.block ?_) (fun V' σ' h => by cases h.1) (fun V' ex σ' _ h => h)
  refine Tri.loop (α := Nat × List UInt8) (fun (k, r) => r.length ≤ 1000 ∧ k + r.length ≤ l.length ∧ (1 ≤ n → (k : Int) < n) ∧ ∃ O, O.length = k ∧ W = O ++ (linesOf r).filter (mt w)) (fun (_, r) => r.length) (fun (k, r) => V l w W n k r) stays_none ?_ (0, l) ⟨hl, by omega, fun h => by show ((0 : Nat) : Int) < n; omega, [], rfl, hW.symm⟩
  rintro ⟨k, r⟩ ⟨hr, hk, hkn, O, hO, hI⟩
  simp only at hr hk hkn hO hI ⊢
  refine Tri.flat (by kernel_rfl) ?_
  show TriL P G _ cx none 17 lp inv _
  have hcl := linesOf_cut r
  have w1 : IntKind.i64.wrap ((k : Int) + 1) = ((k + 1 : Nat) : Int) := by rw [wrap_i64 (by omega)]; simp
  have E1 : @EnvOk (V l w W n k r) P G EK1 := @EnvOk.know (vals _) P G _ (envC _) [yc, yh] (hE1 l w W n k r hr)
  have hfits : @Tm.den (V l w W n k r) (.op .fits [.v 1, .str ⟨1, 32⟩]) = .bool true := by simp only [D.tm_den, den_int, den_bool, den_str, den_v, den_op, dens_nil, dens_cons, vals_at, List.getD_cons_succ, List.getD_cons_zero, List.getD_nil, List.map_cons, List.map_nil, Int.toNat_natCast, tden_bin, tden_shift, tden_conv, tden_not, tden_and, tden_sbin, tden_slen, tden_len, tden_nth, tden_fld, tden_mk, tden_cat, tden_sub, tden_set, tden_setf, tden_rep, tden_sget, tden_ssub, tden_ite, tden_bytes, tden_text, tden_fits, tden_nadd, tden_nsub, tden_small, intD_add, intD_sub, intD_mul, intD_quo, intD_rem, intD_eql, intD_neq, intD_lss, intD_leq, intD_gtr, intD_geq, D.int.injEq, D.bool.injEq, D.str.injEq, D.list.injEq, decide_eq_true_eq, decide_eq_false_iff_not, beq_iff_eq, ds, sl_len]; simp; omega
  cases hf : cutF r with
  | false =>
    rw [hf] at hcl
    simp only [Bool.false_eq_true, if_false] at hcl
    rw [hcl, List.filter_nil, List.append_nil] at hI
    refine TriL.fin (C := codeAt P) E1 hg (tb := kB0T) ⟨?_, trivial⟩ le17 kB0 (.inr ⟨by simp, rfl, ?_, .inl ⟨rfl, fun h => ?_⟩⟩)
    · simp only [D.tm_den, den_int, den_bool, den_str, den_v, den_op, dens_nil, dens_cons, vals_at, List.getD_cons_succ, List.getD_cons_zero, List.getD_nil, List.map_cons, List.map_nil, Int.toNat_natCast, tden_bin, tden_shift, tden_conv, tden_not, tden_and, tden_sbin, tden_slen, tden_len, tden_nth, tden_fld, tden_mk, tden_cat, tden_sub, tden_set, tden_setf, tden_rep, tden_sget, tden_ssub, tden_ite, tden_bytes, tden_text, tden_fits, tden_nadd, tden_nsub, tden_small, intD_add, intD_sub, intD_mul, intD_quo, intD_rem, intD_eql, intD_neq, intD_lss, intD_leq, intD_gtr, intD_geq, D.int.injEq, D.bool.injEq, D.str.injEq, D.list.injEq, decide_eq_true_eq, decide_eq_false_iff_not, beq_iff_eq, hf]; rfl
    · have : kfin W.length n = (k : Int) := by
        rw [hI, hO]; unfold kfin
        split
        · rename_i h; have := hkn h; omega
        · rfl
      rw [this]; simp only [D.tm_den, den_int, den_bool, den_str, den_v, den_op, dens_nil, dens_cons, vals_at, List.getD_cons_succ, List.getD_cons_zero, List.getD_nil, List.map_cons, List.map_nil, Int.toNat_natCast, tden_bin, tden_shift, tden_conv, tden_not, tden_and, tden_sbin, tden_slen, tden_len, tden_nth, tden_fld, tden_mk, tden_cat, tden_sub, tden_set, tden_setf, tden_rep, tden_sget, tden_ssub, tden_ite, tden_bytes, tden_text, tden_fits, tden_nadd, tden_nsub, tden_small, intD_add, intD_sub, intD_mul, intD_quo, intD_rem, intD_eql, intD_neq, intD_lss, intD_leq, intD_gtr, intD_geq, D.int.injEq, D.bool.injEq, D.str.injEq, D.list.injEq, decide_eq_true_eq, decide_eq_false_iff_not, beq_iff_eq]
    · have := hkn h.1; rw [hI, hO] at h; omega
  | true =>
    have hcl2 := cut_len hf
    rw [hf] at hcl
    simp only [if_true] at hcl
    have hneq : @Tm.den (V l w W n k r) (.op (.sbin .neq) [.v 7, .v 1]) = .bool (!decide (cutB r = w)) := by simp only [D.tm_den, den_int, den_bool, den_str, den_v, den_op, dens_nil, dens_cons, vals_at, List.getD_cons_succ, List.getD_cons_zero, List.getD_nil, List.map_cons, List.map_nil, Int.toNat_natCast, tden_bin, tden_shift, tden_conv, tden_not, tden_and, tden_sbin, tden_slen, tden_len, tden_nth, tden_fld, tden_mk, tden_cat, tden_sub, tden_set, tden_setf, tden_rep, tden_sget, tden_ssub, tden_ite, tden_bytes, tden_text, tden_fits, tden_nadd, tden_nsub, tden_small, intD_add, intD_sub, intD_mul, intD_quo, intD_rem, intD_eql, intD_neq, intD_lss, intD_leq, intD_gtr, intD_geq, D.int.injEq, D.bool.injEq, D.str.injEq, D.list.injEq, decide_eq_true_eq, decide_eq_false_iff_not, beq_iff_eq, ds, strD_neq, sl_eq]
    have hnf : @Tm.den (V l w W n k r) (.op .not [.v 9]) = .bool false := by simp only [D.tm_den, den_int, den_bool, den_str, den_v, den_op, dens_nil, dens_cons, vals_at, List.getD_cons_succ, List.getD_cons_zero, List.getD_nil, List.map_cons, List.map_nil, Int.toNat_natCast, tden_bin, tden_shift, tden_conv, tden_not, tden_and, tden_sbin, tden_slen, tden_len, tden_nth, tden_fld, tden_mk, tden_cat, tden_sub, tden_set, tden_setf, tden_rep, tden_sget, tden_ssub, tden_ite, tden_bytes, tden_text, tden_fits, tden_nadd, tden_nsub, tden_small, intD_add, intD_sub, intD_mul, intD_quo, intD_rem, intD_eql, intD_neq, intD_lss, intD_leq, intD_gtr, intD_geq, D.int.injEq, D.bool.injEq, D.str.injEq, D.list.injEq, decide_eq_true_eq, decide_eq_false_iff_not, beq_iff_eq, hf]; rfl
    have hrest : (cutA r).length ≤ 1000 ∧ k + 1 + (cutA r).length ≤ l.length ∧ (cutA r).length < r.length := by omega
    by_cases hm : mt w (cutB r) = true
    · -- it is told
      rw [hcl, List.filter_cons_of_pos hm] at hI
      have hkW : k < W.length := by rw [hI, List.length_append, hO, List.length_cons]; omega
      have hx : cutB r = W[k] := by
        have : W[k]? = some (cutB r) := by rw [hI, List.getElem?_append_right (by omega), hO, Nat.sub_self]; rfl
        rw [List.getElem?_eq_getElem hkW] at this
        exact (Option.some.inj this).symm
      have E2 : @EnvOk (V l w W n k r) P G EK2 := @EnvOk.know (vals _) P G _ (envC _) [yc, yh, ys] (hE2 l w W n k r hr hkW (by omega) hx)
      have hstep : ∃ O', O'.length = k + 1 ∧ W = O' ++ (linesOf (cutA r)).filter (mt w) := ⟨O ++ [cutB r], by simp [hO], by rw [hI]; simp⟩
      have stop : ¬ (((k + 1 : Nat) : Int) ≠ n) → valsC (codeAt P) [ds l, ds w, dss W, .int n, .int ((k + 1 : Nat) : Int)] = vals [ds l, ds w, dss W, .int n, .int (kfin W.length n)] := by
        intro h
        have h := Classical.not_not.1 h
        have : kfin W.length n = ((k + 1 : Nat) : Int) := by unfold kfin; rw [if_pos (by omega)]; omega
        rw [this]
      by_cases hxw : cutB r = w
      · by_cases hc : ((k + 1 : Nat) : Int) ≠ n
        · refine TriL.fin (C := codeAt P) E2 hg (tb := kB5T) ⟨hnf, ?_, ?_, trivial⟩ le17 (kB5 (ds (cutB (cutA r))).tm (ds (cutA (cutA r))).tm (.bool (cutF (cutA r))) (.bool (begins (cutB (cutA r)) (w ++ [32]))) (.bool (decide (((k + 1 + 1 : Nat) : Int) ≠ n))) (.int (k + 1 + 1 : Nat))) (.inl ⟨rfl, rfl, (k + 1, cutA r), ?_, ⟨hrest.1, by show k + 1 + (cutA r).length ≤ l.length; omega, fun h => ?_, hstep⟩, hrest.2.2⟩)
          · rw [hneq]; simp [hxw]
          · simp only [D.tm_den, den_int, den_bool, den_str, den_v, den_op, dens_nil, dens_cons, vals_at, List.getD_cons_succ, List.getD_cons_zero, List.getD_nil, List.map_cons, List.map_nil, Int.toNat_natCast, tden_bin, tden_shift, tden_conv, tden_not, tden_and, tden_sbin, tden_slen, tden_len, tden_nth, tden_fld, tden_mk, tden_cat, tden_sub, tden_set, tden_setf, tden_rep, tden_sget, tden_ssub, tden_ite, tden_bytes, tden_text, tden_fits, tden_nadd, tden_nsub, tden_small, intD_add, intD_sub, intD_mul, intD_quo, intD_rem, intD_eql, intD_neq, intD_lss, intD_leq, intD_gtr, intD_geq, D.int.injEq, D.bool.injEq, D.str.injEq, D.list.injEq, decide_eq_true_eq, decide_eq_false_iff_not, beq_iff_eq]; simpa using hc
          · simp only [D.tm_den, den_int, den_bool, den_str, den_v, den_op, dens_nil, dens_cons, vals_at, List.getD_cons_succ, List.getD_cons_zero, List.getD_nil, List.map_cons, List.map_nil, Int.toNat_natCast, tden_bin, tden_shift, tden_conv, tden_not, tden_and, tden_sbin, tden_slen, tden_len, tden_nth, tden_fld, tden_mk, tden_cat, tden_sub, tden_set, tden_setf, tden_rep, tden_sget, tden_ssub, tden_ite, tden_bytes, tden_text, tden_fits, tden_nadd, tden_nsub, tden_small, intD_add, intD_sub, intD_mul, intD_quo, intD_rem, intD_eql, intD_neq, intD_lss, intD_leq, intD_gtr, intD_geq, D.int.injEq, D.bool.injEq, D.str.injEq, D.list.injEq, decide_eq_true_eq, decide_eq_false_iff_not, beq_iff_eq]
          · have := hkn h; show ((k + 1 : Nat) : Int) < n; omega
        · refine TriL.fin (C := codeAt P) E2 hg (tb := kB4T) ⟨hnf, ?_, ?_, trivial⟩ le17 kB4 (.inr ⟨by simp, rfl, ?_, .inr ⟨rfl, by have := Classical.not_not.1 hc; omega, by have := Classical.not_not.1 hc; omega⟩⟩)
          · rw [hneq]; simp [hxw]
          · simp only [D.tm_den, den_int, den_bool, den_str, den_v, den_op, dens_nil, dens_cons, vals_at, List.getD_cons_succ, List.getD_cons_zero, List.getD_nil, List.map_cons, List.map_nil, Int.toNat_natCast, tden_bin, tden_shift, tden_conv, tden_not, tden_and, tden_sbin, tden_slen, tden_len, tden_nth, tden_fld, tden_mk, tden_cat, tden_sub, tden_set, tden_setf, tden_rep, tden_sget, tden_ssub, tden_ite, tden_bytes, tden_text, tden_fits, tden_nadd, tden_nsub, tden_small, intD_add, intD_sub, intD_mul, intD_quo, intD_rem, intD_eql, intD_neq, intD_lss, intD_leq, intD_gtr, intD_geq, D.int.injEq, D.bool.injEq, D.str.injEq, D.list.injEq, decide_eq_true_eq, decide_eq_false_iff_not, beq_iff_eq]; simpa using hc
          · rw [← stop hc]; simp only [D.tm_den, den_int, den_bool, den_str, den_v, den_op, dens_nil, dens_cons, vals_at, List.getD_cons_succ, List.getD_cons_zero, List.getD_nil, List.map_cons, List.map_nil, Int.toNat_natCast, tden_bin, tden_shift, tden_conv, tden_not, tden_and, tden_sbin, tden_slen, tden_len, tden_nth, tden_fld, tden_mk, tden_cat, tden_sub, tden_set, tden_setf, tden_rep, tden_sget, tden_ssub, tden_ite, tden_bytes, tden_text, tden_fits, tden_nadd, tden_nsub, tden_small, intD_add, intD_sub, intD_mul, intD_quo, intD_rem, intD_eql, intD_neq, intD_lss, intD_leq, intD_gtr, intD_geq, D.int.injEq, D.bool.injEq, D.str.injEq, D.list.injEq, decide_eq_true_eq, decide_eq_false_iff_not, beq_iff_eq]
      · have hb : begins (cutB r) (w ++ [32]) = true := by
          unfold mt at hm
          simpa [hxw] using hm
        by_cases hc : ((k + 1 : Nat) : Int) ≠ n
        · refine TriL.fin (C := codeAt P) E2 hg (tb := kB3T) ⟨hnf, ?_, hfits, ?_, ?_, trivial⟩ le17 (kB3 (ds (cutB (cutA r))).tm (ds (cutA (cutA r))).tm (.bool (cutF (cutA r))) (.bool (begins (cutB (cutA r)) (w ++ [32]))) (.bool (decide (((k + 1 + 1 : Nat) : Int) ≠ n))) (.int (k + 1 + 1 : Nat))) (.inl ⟨rfl, rfl, (k + 1, cutA r), ?_, ⟨hrest.1, by show k + 1 + (cutA r).length ≤ l.length; omega, fun h => ?_, hstep⟩, hrest.2.2⟩)
          · rw [hneq]; simp [hxw]
          · simp only [D.tm_den, den_int, den_bool, den_str, den_v, den_op, dens_nil, dens_cons, vals_at, List.getD_cons_succ, List.getD_cons_zero, List.getD_nil, List.map_cons, List.map_nil, Int.toNat_natCast, tden_bin, tden_shift, tden_conv, tden_not, tden_and, tden_sbin, tden_slen, tden_len, tden_nth, tden_fld, tden_mk, tden_cat, tden_sub, tden_set, tden_setf, tden_rep, tden_sget, tden_ssub, tden_ite, tden_bytes, tden_text, tden_fits, tden_nadd, tden_nsub, tden_small, intD_add, intD_sub, intD_mul, intD_quo, intD_rem, intD_eql, intD_neq, intD_lss, intD_leq, intD_gtr, intD_geq, D.int.injEq, D.bool.injEq, D.str.injEq, D.list.injEq, decide_eq_true_eq, decide_eq_false_iff_not, beq_iff_eq, hb]; rfl
          · simp only [D.tm_den, den_int, den_bool, den_str, den_v, den_op, dens_nil, dens_cons, vals_at, List.getD_cons_succ, List.getD_cons_zero, List.getD_nil, List.map_cons, List.map_nil, Int.toNat_natCast, tden_bin, tden_shift, tden_conv, tden_not, tden_and, tden_sbin, tden_slen, tden_len, tden_nth, tden_fld, tden_mk, tden_cat, tden_sub, tden_set, tden_setf, tden_rep, tden_sget, tden_ssub, tden_ite, tden_bytes, tden_text, tden_fits, tden_nadd, tden_nsub, tden_small, intD_add, intD_sub, intD_mul, intD_quo, intD_rem, intD_eql, intD_neq, intD_lss, intD_leq, intD_gtr, intD_geq, D.int.injEq, D.bool.injEq, D.str.injEq, D.list.injEq, decide_eq_true_eq, decide_eq_false_iff_not, beq_iff_eq]; simpa using hc
          · simp only [D.tm_den, den_int, den_bool, den_str, den_v, den_op, dens_nil, dens_cons, vals_at, List.getD_cons_succ, List.getD_cons_zero, List.getD_nil, List.map_cons, List.map_nil, Int.toNat_natCast, tden_bin, tden_shift, tden_conv, tden_not, tden_and, tden_sbin, tden_slen, tden_len, tden_nth, tden_fld, tden_mk, tden_cat, tden_sub, tden_set, tden_setf, tden_rep, tden_sget, tden_ssub, tden_ite, tden_bytes, tden_text, tden_fits, tden_nadd, tden_nsub, tden_small, intD_add, intD_sub, intD_mul, intD_quo, intD_rem, intD_eql, intD_neq, intD_lss, intD_leq, intD_gtr, intD_geq, D.int.injEq, D.bool.injEq, D.str.injEq, D.list.injEq, decide_eq_true_eq, decide_eq_false_iff_not, beq_iff_eq]
          · have := hkn h; show ((k + 1 : Nat) : Int) < n; omega
        · refine TriL.fin (C := codeAt P) E2 hg (tb := kB2T) ⟨hnf, ?_, hfits, ?_, ?_, trivial⟩ le17 kB2 (.inr ⟨by simp, rfl, ?_, .inr ⟨rfl, by have := Classical.not_not.1 hc; omega, by have := Classical.not_not.1 hc; omega⟩⟩)
          · rw [hneq]; simp [hxw]
          · simp only [D.tm_den, den_int, den_bool, den_str, den_v, den_op, dens_nil, dens_cons, vals_at, List.getD_cons_succ, List.getD_cons_zero, List.getD_nil, List.map_cons, List.map_nil, Int.toNat_natCast, tden_bin, tden_shift, tden_conv, tden_not, tden_and, tden_sbin, tden_slen, tden_len, tden_nth, tden_fld, tden_mk, tden_cat, tden_sub, tden_set, tden_setf, tden_rep, tden_sget, tden_ssub, tden_ite, tden_bytes, tden_text, tden_fits, tden_nadd, tden_nsub, tden_small, intD_add, intD_sub, intD_mul, intD_quo, intD_rem, intD_eql, intD_neq, intD_lss, intD_leq, intD_gtr, intD_geq, D.int.injEq, D.bool.injEq, D.str.injEq, D.list.injEq, decide_eq_true_eq, decide_eq_false_iff_not, beq_iff_eq, hb]; rfl
          · simp only [D.tm_den, den_int, den_bool, den_str, den_v, den_op, dens_nil, dens_cons, vals_at, List.getD_cons_succ, List.getD_cons_zero, List.getD_nil, List.map_cons, List.map_nil, Int.toNat_natCast, tden_bin, tden_shift, tden_conv, tden_not, tden_and, tden_sbin, tden_slen, tden_len, tden_nth, tden_fld, tden_mk, tden_cat, tden_sub, tden_set, tden_setf, tden_rep, tden_sget, tden_ssub, tden_ite, tden_bytes, tden_text, tden_fits, tden_nadd, tden_nsub, tden_small, intD_add, intD_sub, intD_mul, intD_quo, intD_rem, intD_eql, intD_neq, intD_lss, intD_leq, intD_gtr, intD_geq, D.int.injEq, D.bool.injEq, D.str.injEq, D.list.injEq, decide_eq_true_eq, decide_eq_false_iff_not, beq_iff_eq]; simpa using hc
          · rw [← stop hc]; simp only [D.tm_den, den_int, den_bool, den_str, den_v, den_op, dens_nil, dens_cons, vals_at, List.getD_cons_succ, List.getD_cons_zero, List.getD_nil, List.map_cons, List.map_nil, Int.toNat_natCast, tden_bin, tden_shift, tden_conv, tden_not, tden_and, tden_sbin, tden_slen, tden_len, tden_nth, tden_fld, tden_mk, tden_cat, tden_sub, tden_set, tden_setf, tden_rep, tden_sget, tden_ssub, tden_ite, tden_bytes, tden_text, tden_fits, tden_nadd, tden_nsub, tden_small, intD_add, intD_sub, intD_mul, intD_quo, intD_rem, intD_eql, intD_neq, intD_lss, intD_leq, intD_gtr, intD_geq, D.int.injEq, D.bool.injEq, D.str.injEq, D.list.injEq, decide_eq_true_eq, decide_eq_false_iff_not, beq_iff_eq]
    · have hm' : mt w (cutB r) = false := by simpa using hm
      rw [hcl, List.filter_cons_of_neg hm] at hI
      have hxw : ¬ cutB r = w := fun e => by rw [mt, e] at hm'; simp at hm'
      have hb : begins (cutB r) (w ++ [32]) = false := by
        unfold mt at hm'
        simpa [hxw] using hm'
      refine TriL.fin (C := codeAt P) E1 hg (tb := kB1T) ⟨hnf, ?_, hfits, ?_, trivial⟩ le17 (kB1 (ds (cutB (cutA r))).tm (ds (cutA (cutA r))).tm (.bool (cutF (cutA r))) (.bool (begins (cutB (cutA r)) (w ++ [32]))) (.bool (decide (((k + 1 : Nat) : Int) ≠ n))) (.int (k + 1 : Nat))) (.inl ⟨rfl, rfl, (k, cutA r), ?_, ⟨hrest.1, by show k + (cutA r).length ≤ l.length; omega, hkn, O, hO, hI⟩, hrest.2.2⟩)
      · rw [hneq]; simp [hxw]
      · simp only [D.tm_den, den_int, den_bool, den_str, den_v, den_op, dens_nil, dens_cons, vals_at, List.getD_cons_succ, List.getD_cons_zero, List.getD_nil, List.map_cons, List.map_nil, Int.toNat_natCast, tden_bin, tden_shift, tden_conv, tden_not, tden_and, tden_sbin, tden_slen, tden_len, tden_nth, tden_fld, tden_mk, tden_cat, tden_sub, tden_set, tden_setf, tden_rep, tden_sget, tden_ssub, tden_ite, tden_bytes, tden_text, tden_fits, tden_nadd, tden_nsub, tden_small, intD_add, intD_sub, intD_mul, intD_quo, intD_rem, intD_eql, intD_neq, intD_lss, intD_leq, intD_gtr, intD_geq, D.int.injEq, D.bool.injEq, D.str.injEq, D.list.injEq, decide_eq_true_eq, decide_eq_false_iff_not, beq_iff_eq, hb]; rfl
      · simp only [D.tm_den, den_int, den_bool, den_str, den_v, den_op, dens_nil, dens_cons, vals_at, List.getD_cons_succ, List.getD_cons_zero, List.getD_nil, List.map_cons, List.map_nil, Int.toNat_natCast, tden_bin, tden_shift, tden_conv, tden_not, tden_and, tden_sbin, tden_slen, tden_len, tden_nth, tden_fld, tden_mk, tden_cat, tden_sub, tden_set, tden_setf, tden_rep, tden_sget, tden_ssub, tden_ite, tden_bytes, tden_text, tden_fits, tden_nadd, tden_nsub, tden_small, intD_add, intD_sub, intD_mul, intD_quo, intD_rem, intD_eql, intD_neq, intD_lss, intD_leq, intD_gtr, intD_geq, D.int.injEq, D.bool.injEq, D.str.injEq, D.list.injEq, decide_eq_true_eq, decide_eq_false_iff_not, beq_iff_eq]
theorem ok1 (l w : List UInt8) (hl : l.length ≤ 1000) (hwl : w.length ≤ 1000) (n : Int) (h : 1 ≤ n ∧ n ≤ ((linesOf l).filter (mt w)).length) : @Fact.Ok (vals [ds l, ds w, dss ((linesOf l).filter (mt w)), .int n, .int (kfin ((linesOf l).filter (mt w)).length n)]) P G x1 := by
  refine Fact.ok_tri (fn := fn) (cd := cd) (envAt _) func body (Tri.mono (Q' := fun V' ex σ' => V' = vals [ds l, ds w, dss ((linesOf l).filter (mt w)), .int n, .int (kfin ((linesOf l).filter (mt w)).length n)] ∧ ex = .ret ∧ σ' = found) (run l w hl hwl n) ?_) ?hq
  case hq =>
    rintro V' ex σ' ⟨rfl, rfl, rfl⟩
    exact ⟨rfl, .inr rfl, by kernel_rfl⟩
  rintro V' ex σ' ⟨rfl, rfl, ⟨-, h'⟩ | ⟨rfl, -⟩⟩
  · exact absurd h h'
  · exact ⟨rfl, rfl, rfl⟩
theorem ok0 (l w : List UInt8) (hl : l.length ≤ 1000) (hwl : w.length ≤ 1000) (n : Int) (h : ¬ (1 ≤ n ∧ n ≤ ((linesOf l).filter (mt w)).length)) : @Fact.Ok (vals [ds l, ds w, dss ((linesOf l).filter (mt w)), .int n, .int (kfin ((linesOf l).filter (mt w)).length n)]) P G x0 := by
  refine Fact.ok_tri (fn := fn) (cd := cd) (envAt _) func body (Tri.mono (Q' := fun V' ex σ' => V' = vals [ds l, ds w, dss ((linesOf l).filter (mt w)), .int n, .int (kfin ((linesOf l).filter (mt w)).length n)] ∧ ex = .ret ∧ σ' = none_) (run l w hl hwl n) ?_) ?hq
  case hq =>
    rintro V' ex σ' ⟨rfl, rfl, rfl⟩
    exact ⟨rfl, .inr rfl, by kernel_rfl⟩
  rintro V' ex σ' ⟨rfl, rfl, ⟨rfl, -⟩ | ⟨-, h'⟩⟩
  · exact ⟨rfl, rfl, rfl⟩
  · exact absurd h' h
end lz

namespace lns
open sc lz
def σ2 : St := { vars := [(2, .ptr 12 0), (3, .ptr 13 0)], loc := [(6, .fn (.func 40) [] [.ptr 14 0])], marks := [], objs := base (.v 0) (.int .i64 0), next := 15 }
def x : Fact := ⟨14, [yf, .ptr 11 0, .ptr 12 0], 13, four (.int .i64 0) ++ [(11, row1 (s (.v 0)) 9), (12, row1 (s (.v 1)) 9)], .tuple [], four (i64 (.v 4)), 17⟩
def ypre : List (Nat × AObj) := base (.v 0) (.int .i64 0) ++ [(16, .loop ⟨.ready, none, ⟨159, 22, 7⟩, ⟨σ2.vars, σ2.loc⟩, .at_ 14 [1, 1, 2], 15⟩)]
def y1 : Fact := ⟨40, lz.args, 17, ypre, .tuple [], endO (.loop ⟨.done, some .ret, ⟨159, 22, 7⟩, ⟨[], []⟩, .at_ 14 [1, 1, 2], 15⟩), 17⟩
def y0 : Fact := ⟨40, lz.args, 17, ypre, .tuple [], endO (.loop ⟨.ready, none, ⟨159, 22, 7⟩, ⟨[], []⟩, .at_ 14 [1, 1, 2], 15⟩), 17⟩
def nm : List (Nat × Nat) := [(7, 7), (8, 8), (9, 9), (10, 10), (12, 12), (13, 13), (14, 14), (15, 15), (16, 16)]
def five : List Tm := [.v 0, .v 1, .v 2, .v 3, .v 4]
theorem use1 : usesSo (tableNf []) G (subs five) nm lz.x1 y1 = true := by kernel_rfl
theorem use0 : usesSo (tableNf []) G (subs five) nm lz.x0 y0 = true := by kernel_rfl
noncomputable def fn : Func := Tryz.f14
noncomputable def cd : Code := match fn.body with | some c => c | none => .skip
noncomputable def cx : Ctx := cxOf P fn cd 3
noncomputable def L : List Code := flat cd
noncomputable def rf : Code := inBlock (L.getD 2 .skip)
theorem func : P.funcs[14]? = some fn := Tryz.func14
theorem body : fn.body = some cd := by kernel_rfl
theorem at2 : L.drop 2 = [.block 0 rf] := by kernel_rfl
theorem rf_eq : rf = .rangeFunc (.tmp 6) (codeAt P 14 [1, 1, 2]).params (codeAt P 14 [1, 1, 2]).assign (codeAt P 14 [1, 1, 2]).body := by kernel_rfl
def fin : St := { vars := [], loc := [], marks := [15], objs := four (i64 (.v 4)) ++ [(15, .dfr true)], next := 17 }
def E1 : Env := E0.know [y1]
def E2 : Env := E0.know [y0]
theorem kA : evFl P (E0.tab []) 100000 cx none 13 (L.take 2) (startSt x) [] (subs five) [(13, 13), (14, 14)] .normal σ2 = true := by kernel_rfl
theorem k1 : evRange P (E1.tab []) 100000 cx none 13 (.tmp 6) (.at_ 14 [1, 1, 2]) σ2 [] (subs five) [(15, 15)] .ret fin = true := by kernel_rfl
theorem k0 : evRange P (E2.tab []) 100000 cx none 13 (.tmp 6) (.at_ 14 [1, 1, 2]) σ2 [] (subs five) [(15, 15)] .normal fin = true := by kernel_rfl
theorem ok (l w : List UInt8) (hl : l.length ≤ 1000) (hwl : w.length ≤ 1000) (n : Int) : @Fact.Ok (vals [ds l, ds w, dss ((linesOf l).filter (mt w)), .int n, .int (kfin ((linesOf l).filter (mt w)).length n)]) P G x := by
  have hg : cx.glob = G := by kernel_rfl
  have h1 := lz.ok1 l w hl hwl n
  have h0 := lz.ok0 l w hl hwl n
  generalize (linesOf l).filter (mt w) = W at *
  refine Fact.ok_tri (fn := fn) (cd := cd) (envAt _) func body (Q := fun V' ex σ' => V' = vals [ds l, ds w, dss W, .int n, .int (kfin W.length n)] ∧ (ex = .normal ∨ ex = .ret) ∧ σ' = fin) ?tri ?hq
  case hq =>
    rintro V' ex σ' ⟨rfl, h, rfl⟩
    exact ⟨rfl, h, by kernel_rfl⟩
  refine Tri.flat (by kernel_rfl) ?_
  show TriL P G _ cx none 13 L _ _
  refine TriL.go 2 (envAt _) hg stays_none (tb := []) trivial (Nat.le_refl 13) kA ?_
  simp only [five]
  simp only [D.tm_den, den_int, den_bool, den_str, den_v, den_op, dens_nil, dens_cons, vals_at, List.getD_cons_succ, List.getD_cons_zero, List.getD_nil, List.map_cons, List.map_nil, Int.toNat_natCast, tden_bin, tden_shift, tden_conv, tden_not, tden_and, tden_sbin, tden_slen, tden_len, tden_nth, tden_fld, tden_mk, tden_cat, tden_sub, tden_set, tden_setf, tden_rep, tden_sget, tden_ssub, tden_ite, tden_bytes, tden_text, tden_fits, tden_nadd, tden_nsub, tden_small, intD_add, intD_sub, intD_mul, intD_quo, intD_rem, intD_eql, intD_neq, intD_lss, intD_leq, intD_gtr, intD_geq, D.int.injEq, D.bool.injEq, D.str.injEq, D.list.injEq, decide_eq_true_eq, decide_eq_false_iff_not, beq_iff_eq]
  rw [at2]
  have le : (13 : Nat) ≤ 15 := by omega
  by_cases h : 1 ≤ n ∧ n ≤ W.length
  · have hE : @EnvOk (vals [ds l, ds w, dss W, .int n, .int (kfin W.length n)]) P G E1 := @EnvOk.know (vals _) P G _ (envAt _) [y1] fun z hz => by
      simp only [List.mem_singleton] at hz
      subst hz
      exact Fact.use (tb := []) (ts := five) (l := nm) trivial rfl (h1 h) use1
    refine TriL.cons stays_none (Q1 := fun V' ex σ' => V' = vals [ds l, ds w, dss W, .int n, .int (kfin W.length n)] ∧ ex = .ret ∧ σ' = fin) (Tri.block (Tri.range hE hg (tb := []) trivial 14 [1, 1, 2] rf_eq le k1 ⟨?_, rfl, rfl⟩)) (fun V' σ' h => by cases h.2.1) (fun V' ex σ' _ h => ⟨h.1, .inr h.2.1, h.2.2⟩)
    simp only [five]
    simp only [D.tm_den, den_int, den_bool, den_str, den_v, den_op, dens_nil, dens_cons, vals_at, List.getD_cons_succ, List.getD_cons_zero, List.getD_nil, List.map_cons, List.map_nil, Int.toNat_natCast, tden_bin, tden_shift, tden_conv, tden_not, tden_and, tden_sbin, tden_slen, tden_len, tden_nth, tden_fld, tden_mk, tden_cat, tden_sub, tden_set, tden_setf, tden_rep, tden_sget, tden_ssub, tden_ite, tden_bytes, tden_text, tden_fits, tden_nadd, tden_nsub, tden_small, intD_add, intD_sub, intD_mul, intD_quo, intD_rem, intD_eql, intD_neq, intD_lss, intD_leq, intD_gtr, intD_geq, D.int.injEq, D.bool.injEq, D.str.injEq, D.list.injEq, decide_eq_true_eq, decide_eq_false_iff_not, beq_iff_eq]
  · have hE : @EnvOk (vals [ds l, ds w, dss W, .int n, .int (kfin W.length n)]) P G E2 := @EnvOk.know (vals _) P G _ (envAt _) [y0] fun z hz => by
      simp only [List.mem_singleton] at hz
      subst hz
      exact Fact.use (tb := []) (ts := five) (l := nm) trivial rfl (h0 h) use0
    refine TriL.cons stays_none (Q1 := fun V' ex σ' => V' = vals [ds l, ds w, dss W, .int n, .int (kfin W.length n)] ∧ ex = .normal ∧ σ' = fin) (Tri.block (Tri.range hE hg (tb := []) trivial 14 [1, 1, 2] rf_eq le k0 ⟨?_, rfl, rfl⟩)) ?_ (fun V' ex σ' hne h => absurd h.2.1 hne)
    · simp only [five]
      simp only [D.tm_den, den_int, den_bool, den_str, den_v, den_op, dens_nil, dens_cons, vals_at, List.getD_cons_succ, List.getD_cons_zero, List.getD_nil, List.map_cons, List.map_nil, Int.toNat_natCast, tden_bin, tden_shift, tden_conv, tden_not, tden_and, tden_sbin, tden_slen, tden_len, tden_nth, tden_fld, tden_mk, tden_cat, tden_sub, tden_set, tden_setf, tden_rep, tden_sget, tden_ssub, tden_ite, tden_bytes, tden_text, tden_fits, tden_nadd, tden_nsub, tden_small, intD_add, intD_sub, intD_mul, intD_quo, intD_rem, intD_eql, intD_neq, intD_lss, intD_leq, intD_gtr, intD_geq, D.int.injEq, D.bool.injEq, D.str.injEq, D.list.injEq, decide_eq_true_eq, decide_eq_false_iff_not, beq_iff_eq]
    · rintro V' σ' ⟨rfl, -, rfl⟩
      exact TriL.nil ⟨rfl, .inl rfl, rfl⟩
end lns
end Go.Proofs.YtkkoidhohapjcaaGreatDoor
