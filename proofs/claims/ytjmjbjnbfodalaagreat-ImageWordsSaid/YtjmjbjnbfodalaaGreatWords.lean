/- image.Words over a page of words that are not known: those that are there, or the fault. No condition but the bounds of the law's own numbers. -/
import Derived.Test.YtjmjbjnbfodalaaGreatWordsK
set_option linter.unusedSimpArgs false
set_option linter.unusedVariables false
set_option linter.unusedSectionVars false
set_option maxRecDepth 100000
namespace Go.Proofs.YtjmjbjnbfodalaaGreat
open Go.Tc
namespace iw
namespace st
def End (Ws : List Nat) (a hi : Nat) (V' : Val) (ex : AExit) (σ' : St) : Prop :=
  (ex = .normal ∧ (cnt a hi = 0 ∨ a + cnt a hi ≤ 32) ∧ σ' = endS ∧ V' = vals [di Ws, .int hi, .int 0, di ((Ws.drop a).take (cnt a hi))]) ∨
  (ex = .ret ∧ 0 < cnt a hi ∧ 32 < a + cnt a hi ∧ σ' = endB ∧ V' = vals [di Ws, .int hi, .int 0, .list []])

theorem run (Ws : List Nat) (hW : Ws.length = 32) (hb : ∀ n ∈ Ws, n < 2 ^ 64) (a : Nat) (ha : a < 128) (hi : Nat) (hhi : hi < 70000) (d2 d3 : D) :
    Tri P G (vals [di Ws, .int hi, d2, d3]) cx none 12 cd (startSt (xs a)) (End Ws a hi) := by
  have hg : cx.glob = G := by kernel_rfl
  have le12 : (12 : Nat) ≤ 12 := Nat.le_refl 12
  refine Tri.flat (by kernel_rfl) ?_
  show TriL P G _ cx none 12 L _ _
  have main : TriL P G (vals [di Ws, .int hi, .int (cnt a hi : Nat), .list []]) cx none 12 (L.drop 1) (invS a) (End Ws a hi) := by
    rw [at1]
    have hcn : cnt a hi ≤ 600 := by unfold cnt; split <;> omega
    generalize hc : cnt a hi = n0 at hcn
    refine TriL.cons stays_none (Q1 := End Ws a hi) (Tri.block ?_) (fun V' σ' h => TriL.nil h) (fun V' ex σ' _ h => h)
    have h := Tri.loops (P := P) (G := G) (c := cx) (around := none) (k0 := 12) (b := bd) (Q := fun V' ex σ' => End Ws a hi V' (outOf 0 ex) σ') (α := Nat × Nat) (fun (k, n) => k < 128 ∧ a ≤ k ∧ (k = a ∨ k ≤ 32) ∧ k + n = a + n0) (fun (_, n) => n) (fun (k, n) => vals [di Ws, .int hi, .int (n : Nat), di ((Ws.drop a).take (k - a))]) (fun (k, _) => invS k) stays_none (by
      rintro ⟨k, n⟩ ⟨hk, hak, hk32, hkn⟩
      simp only at hk hak hk32 hkn ⊢
      refine Tri.flat (by kernel_rfl) ?_
      show TriL P G _ cx none 12 lp (invS k) _
      have htl : ((Ws.drop a).take (k - a)).length ≤ 32 := by rw [List.length_take, List.length_drop]; omega
      have g0 : @Tm.den (vals [di Ws, .int hi, .int (n : Nat), di ((Ws.drop a).take (k - a))]) (.op (.bin .gtr .i64) [.v 2, .int 0]) = .bool (decide (0 < n)) := by
        simp only [D.tm_den, den_int, den_bool, den_str, den_v, den_op, dens_nil, dens_cons, vals_at, List.getD_cons_succ, List.getD_cons_zero, List.getD_nil, List.map_cons, List.map_nil, Int.toNat_natCast, tden_bin, tden_shift, tden_conv, tden_not, tden_and, tden_sbin, tden_slen, tden_len, tden_nth, tden_fld, tden_mk, tden_cat, tden_sub, tden_set, tden_setf, tden_rep, tden_sget, tden_ssub, tden_ite, tden_bytes, tden_text, tden_fits, tden_nadd, tden_nsub, tden_small, intD_add, intD_sub, intD_mul, intD_quo, intD_rem, intD_eql, intD_neq, intD_lss, intD_leq, intD_gtr, intD_geq, D.int.injEq, D.bool.injEq, D.str.injEq, D.list.injEq, decide_eq_true_eq, decide_eq_false_iff_not, beq_iff_eq, gt_iff_lt]; rw [Bool.eq_iff_iff]; simp
      by_cases hn : 0 < n
      · by_cases hlt : k < 32
        · have hkW : k < Ws.length := by omega
          have hw : @Tm.den (vals [di Ws, .int hi, .int (n : Nat), di ((Ws.drop a).take (k - a))]) (wT k) = .int (Ws[k] : Int) := by
            unfold wT; simp only [D.tm_den, den_int, den_bool, den_str, den_v, den_op, dens_nil, dens_cons, vals_at, List.getD_cons_succ, List.getD_cons_zero, List.getD_nil, List.map_cons, List.map_nil, Int.toNat_natCast, tden_bin, tden_shift, tden_conv, tden_not, tden_and, tden_sbin, tden_slen, tden_len, tden_nth, tden_fld, tden_mk, tden_cat, tden_sub, tden_set, tden_setf, tden_rep, tden_sget, tden_ssub, tden_ite, tden_bytes, tden_text, tden_fits, tden_nadd, tden_nsub, tden_small, intD_add, intD_sub, intD_mul, intD_quo, intD_rem, intD_eql, intD_neq, intD_lss, intD_leq, intD_gtr, intD_geq, D.int.injEq, D.bool.injEq, D.str.injEq, D.list.injEq, decide_eq_true_eq, decide_eq_false_iff_not, beq_iff_eq, di, di_nth _ _ hkW]
          have hgt := @get8_den (vals [di Ws, .int hi, .int (n : Nat), di ((Ws.drop a).take (k - a))]) _ _ hw (hb _ (List.getElem_mem hkW))
          rw [hw] at hgt
          have hcat : @Tm.den (vals [di Ws, .int hi, .int (n : Nat), di ((Ws.drop a).take (k - a))]) (catO k) = di ((Ws.drop a).take (k + 1 - a)) := by
            unfold catO
            simp only [D.tm_den, den_int, den_bool, den_str, den_v, den_op, dens_nil, dens_cons, vals_at, List.getD_cons_succ, List.getD_cons_zero, List.getD_nil, List.map_cons, List.map_nil, Int.toNat_natCast, tden_bin, tden_shift, tden_conv, tden_not, tden_and, tden_sbin, tden_slen, tden_len, tden_nth, tden_fld, tden_mk, tden_cat, tden_sub, tden_set, tden_setf, tden_rep, tden_sget, tden_ssub, tden_ite, tden_bytes, tden_text, tden_fits, tden_nadd, tden_nsub, tden_small, intD_add, intD_sub, intD_mul, intD_quo, intD_rem, intD_eql, intD_neq, intD_lss, intD_leq, intD_gtr, intD_geq, D.int.injEq, D.bool.injEq, D.str.injEq, D.list.injEq, decide_eq_true_eq, decide_eq_false_iff_not, beq_iff_eq, hgt, di]
            have e : (Ws.drop a).take (k + 1 - a) = (Ws.drop a).take (k - a) ++ [Ws[k]] := by
              rw [show k + 1 - a = (k - a) + 1 by omega, List.take_add_one, List.getElem?_drop, show a + (k - a) = k by omega, List.getElem?_eq_getElem hkW]; rfl
            rw [e, List.map_append]; rfl
          refine TriL.fin (envC _) hg (tb := TS k) ⟨?_, ?_, ?_, ?_, trivial⟩ (by show 12 ≤ 13; omega) (kS k hlt) (.inl ⟨rfl, (k + 1, n - 1), rfl, ?_, ⟨by omega, by omega, .inr (by omega), by omega⟩, by show n - 1 < n; omega⟩)
          · rw [g0]; simp [hn]
          · simp only [D.tm_den, den_int, den_bool, den_str, den_v, den_op, dens_nil, dens_cons, vals_at, List.getD_cons_succ, List.getD_cons_zero, List.getD_nil, List.map_cons, List.map_nil, Int.toNat_natCast, tden_bin, tden_shift, tden_conv, tden_not, tden_and, tden_sbin, tden_slen, tden_len, tden_nth, tden_fld, tden_mk, tden_cat, tden_sub, tden_set, tden_setf, tden_rep, tden_sget, tden_ssub, tden_ite, tden_bytes, tden_text, tden_fits, tden_nadd, tden_nsub, tden_small, intD_add, intD_sub, intD_mul, intD_quo, intD_rem, intD_eql, intD_neq, intD_lss, intD_leq, intD_gtr, intD_geq, D.int.injEq, D.bool.injEq, D.str.injEq, D.list.injEq, decide_eq_true_eq, decide_eq_false_iff_not, beq_iff_eq, di, di_len]; omega
          · simp only [D.tm_den, den_int, den_bool, den_str, den_v, den_op, dens_nil, dens_cons, vals_at, List.getD_cons_succ, List.getD_cons_zero, List.getD_nil, List.map_cons, List.map_nil, Int.toNat_natCast, tden_bin, tden_shift, tden_conv, tden_not, tden_and, tden_sbin, tden_slen, tden_len, tden_nth, tden_fld, tden_mk, tden_cat, tden_sub, tden_set, tden_setf, tden_rep, tden_sget, tden_ssub, tden_ite, tden_bytes, tden_text, tden_fits, tden_nadd, tden_nsub, tden_small, intD_add, intD_sub, intD_mul, intD_quo, intD_rem, intD_eql, intD_neq, intD_lss, intD_leq, intD_gtr, intD_geq, D.int.injEq, D.bool.injEq, D.str.injEq, D.list.injEq, decide_eq_true_eq, decide_eq_false_iff_not, beq_iff_eq, di, di_len]; simp only [List.length_take, List.length_drop]; omega
          · simp only [D.tm_den, den_int, den_bool, den_str, den_v, den_op, dens_nil, dens_cons, vals_at, List.getD_cons_succ, List.getD_cons_zero, List.getD_nil, List.map_cons, List.map_nil, Int.toNat_natCast, tden_bin, tden_shift, tden_conv, tden_not, tden_and, tden_sbin, tden_slen, tden_len, tden_nth, tden_fld, tden_mk, tden_cat, tden_sub, tden_set, tden_setf, tden_rep, tden_sget, tden_ssub, tden_ite, tden_bytes, tden_text, tden_fits, tden_nadd, tden_nsub, tden_small, intD_add, intD_sub, intD_mul, intD_quo, intD_rem, intD_eql, intD_neq, intD_lss, intD_leq, intD_gtr, intD_geq, D.int.injEq, D.bool.injEq, D.str.injEq, D.list.injEq, decide_eq_true_eq, decide_eq_false_iff_not, beq_iff_eq, hcat, di, di_len]
            simp only [List.length_take, List.length_drop]
            omega
          · rw [List.map_cons, List.map_cons, List.map_cons, List.map_cons, List.map_nil, hcat]
            simp only [D.tm_den, den_int, den_bool, den_str, den_v, den_op, dens_nil, dens_cons, vals_at, List.getD_cons_succ, List.getD_cons_zero, List.getD_nil, List.map_cons, List.map_nil, Int.toNat_natCast, tden_bin, tden_shift, tden_conv, tden_not, tden_and, tden_sbin, tden_slen, tden_len, tden_nth, tden_fld, tden_mk, tden_cat, tden_sub, tden_set, tden_setf, tden_rep, tden_sget, tden_ssub, tden_ite, tden_bytes, tden_text, tden_fits, tden_nadd, tden_nsub, tden_small, intD_add, intD_sub, intD_mul, intD_quo, intD_rem, intD_eql, intD_neq, intD_lss, intD_leq, intD_gtr, intD_geq, D.int.injEq, D.bool.injEq, D.str.injEq, D.list.injEq, decide_eq_true_eq, decide_eq_false_iff_not, beq_iff_eq]
            rw [wrap_u64 (by omega)]
            rw [show ((n : Int) - 1) = ((n - 1 : Nat) : Int) by omega]
        · have hf := kF k hk
          unfold chkF at hf
          rw [show k.blt 32 = false from by rw [← Bool.not_eq_true, Nat.blt_eq]; omega, Bool.false_or] at hf
          refine TriL.fin (envC _) hg (tb := TF true) ⟨?_, trivial⟩ (by show 12 ≤ 13; omega) hf (.inr ⟨by simp, .inr ⟨rfl, by omega, by omega, rfl, ?_⟩⟩)
          · rw [g0]; simp [hn]
          · simp only [D.tm_den, den_int, den_bool, den_str, den_v, den_op, dens_nil, dens_cons, vals_at, List.getD_cons_succ, List.getD_cons_zero, List.getD_nil, List.map_cons, List.map_nil, Int.toNat_natCast, tden_bin, tden_shift, tden_conv, tden_not, tden_and, tden_sbin, tden_slen, tden_len, tden_nth, tden_fld, tden_mk, tden_cat, tden_sub, tden_set, tden_setf, tden_rep, tden_sget, tden_ssub, tden_ite, tden_bytes, tden_text, tden_fits, tden_nadd, tden_nsub, tden_small, intD_add, intD_sub, intD_mul, intD_quo, intD_rem, intD_eql, intD_neq, intD_lss, intD_leq, intD_gtr, intD_geq, D.int.injEq, D.bool.injEq, D.str.injEq, D.list.injEq, decide_eq_true_eq, decide_eq_false_iff_not, beq_iff_eq]
      · obtain rfl : n = 0 := by omega
        refine TriL.fin (envC _) hg (tb := TF false) ⟨?_, trivial⟩ (by show 12 ≤ 13; omega) (kE k hk) (.inr ⟨by simp, .inl ⟨rfl, by omega, rfl, ?_⟩⟩)
        · rw [g0]; simp
        · simp only [D.tm_den, den_int, den_bool, den_str, den_v, den_op, dens_nil, dens_cons, vals_at, List.getD_cons_succ, List.getD_cons_zero, List.getD_nil, List.map_cons, List.map_nil, Int.toNat_natCast, tden_bin, tden_shift, tden_conv, tden_not, tden_and, tden_sbin, tden_slen, tden_len, tden_nth, tden_fld, tden_mk, tden_cat, tden_sub, tden_set, tden_setf, tden_rep, tden_sget, tden_ssub, tden_ite, tden_bytes, tden_text, tden_fits, tden_nadd, tden_nsub, tden_small, intD_add, intD_sub, intD_mul, intD_quo, intD_rem, intD_eql, intD_neq, intD_lss, intD_leq, intD_gtr, intD_geq, D.int.injEq, D.bool.injEq, D.str.injEq, D.list.injEq, decide_eq_true_eq, decide_eq_false_iff_not, beq_iff_eq]
          rw [hc, show n0 = k - a by omega]; rfl) (a, n0) ⟨ha, Nat.le_refl _, .inl rfl, rfl⟩
    simp only [Nat.sub_self, List.take_zero] at h
    exact h
  by_cases hle : hi ≤ 65536 + 8 * a
  · refine TriL.go 1 (envAt _) hg stays_none (tb := TA true a) ⟨?_, trivial⟩ le12 (kA1 a ha) ?_
    · unfold atT; simp only [D.tm_den, den_int, den_bool, den_str, den_v, den_op, dens_nil, dens_cons, vals_at, List.getD_cons_succ, List.getD_cons_zero, List.getD_nil, List.map_cons, List.map_nil, Int.toNat_natCast, tden_bin, tden_shift, tden_conv, tden_not, tden_and, tden_sbin, tden_slen, tden_len, tden_nth, tden_fld, tden_mk, tden_cat, tden_sub, tden_set, tden_setf, tden_rep, tden_sget, tden_ssub, tden_ite, tden_bytes, tden_text, tden_fits, tden_nadd, tden_nsub, tden_small, intD_add, intD_sub, intD_mul, intD_quo, intD_rem, intD_eql, intD_neq, intD_lss, intD_leq, intD_gtr, intD_geq, D.int.injEq, D.bool.injEq, D.str.injEq, D.list.injEq, decide_eq_true_eq, decide_eq_false_iff_not, beq_iff_eq]; omega
    · rw [show cnt a hi = 0 from if_pos hle] at main
      simp only [D.tm_den, den_int, den_bool, den_str, den_v, den_op, dens_nil, dens_cons, vals_at, List.getD_cons_succ, List.getD_cons_zero, List.getD_nil, List.map_cons, List.map_nil, Int.toNat_natCast, tden_bin, tden_shift, tden_conv, tden_not, tden_and, tden_sbin, tden_slen, tden_len, tden_nth, tden_fld, tden_mk, tden_cat, tden_sub, tden_set, tden_setf, tden_rep, tden_sget, tden_ssub, tden_ite, tden_bytes, tden_text, tden_fits, tden_nadd, tden_nsub, tden_small, intD_add, intD_sub, intD_mul, intD_quo, intD_rem, intD_eql, intD_neq, intD_lss, intD_leq, intD_gtr, intD_geq, D.int.injEq, D.bool.injEq, D.str.injEq, D.list.injEq, decide_eq_true_eq, decide_eq_false_iff_not, beq_iff_eq]
      exact main
  · refine TriL.go 1 (envAt _) hg stays_none (tb := TA false a) ⟨?_, trivial⟩ le12 (kA2 a ha) ?_
    · unfold atT; simp only [D.tm_den, den_int, den_bool, den_str, den_v, den_op, dens_nil, dens_cons, vals_at, List.getD_cons_succ, List.getD_cons_zero, List.getD_nil, List.map_cons, List.map_nil, Int.toNat_natCast, tden_bin, tden_shift, tden_conv, tden_not, tden_and, tden_sbin, tden_slen, tden_len, tden_nth, tden_fld, tden_mk, tden_cat, tden_sub, tden_set, tden_setf, tden_rep, tden_sget, tden_ssub, tden_ite, tden_bytes, tden_text, tden_fits, tden_nadd, tden_nsub, tden_small, intD_add, intD_sub, intD_mul, intD_quo, intD_rem, intD_eql, intD_neq, intD_lss, intD_leq, intD_gtr, intD_geq, D.int.injEq, D.bool.injEq, D.str.injEq, D.list.injEq, decide_eq_true_eq, decide_eq_false_iff_not, beq_iff_eq]; omega
    · rw [show cnt a hi = (hi - (65536 + 8 * a)) / 8 from if_neg hle] at main
      unfold n0T atT
      simp only [D.tm_den, den_int, den_bool, den_str, den_v, den_op, dens_nil, dens_cons, vals_at, List.getD_cons_succ, List.getD_cons_zero, List.getD_nil, List.map_cons, List.map_nil, Int.toNat_natCast, tden_bin, tden_shift, tden_conv, tden_not, tden_and, tden_sbin, tden_slen, tden_len, tden_nth, tden_fld, tden_mk, tden_cat, tden_sub, tden_set, tden_setf, tden_rep, tden_sget, tden_ssub, tden_ite, tden_bytes, tden_text, tden_fits, tden_nadd, tden_nsub, tden_small, intD_add, intD_sub, intD_mul, intD_quo, intD_rem, intD_eql, intD_neq, intD_lss, intD_leq, intD_gtr, intD_geq, D.int.injEq, D.bool.injEq, D.str.injEq, D.list.injEq, decide_eq_true_eq, decide_eq_false_iff_not, beq_iff_eq]
      rw [show ((hi : Int) - ((65536 + 8 * a : Nat) : Int)) = ((hi - (65536 + 8 * a) : Nat) : Int) by omega]
      rw [wrap_u64 (n := ((hi - (65536 + 8 * a) : Nat) : Int)) (by omega)]
      rw [show Int.tdiv ((hi - (65536 + 8 * a) : Nat) : Int) 8 = (((hi - (65536 + 8 * a)) / 8 : Nat) : Int) from by rw [Int.tdiv_eq_ediv_of_nonneg (by omega)]; omega, wrap_u64 (by omega)]
      exact main

theorem ok (Ws : List Nat) (hW : Ws.length = 32) (hb : ∀ n ∈ Ws, n < 2 ^ 64) (a : Nat) (ha : a < 128) (hi : Nat) (hhi : hi < 70000) (h : cnt a hi = 0 ∨ a + cnt a hi ≤ 32) : @Fact.Ok (vals [di Ws, .int hi, .int 0, di ((Ws.drop a).take (cnt a hi))]) P G (xs a) := by
  refine Fact.ok_tri (fn := fn) (cd := cd) (envAt _) func body (Tri.mono (Q' := fun V' ex σ' => V' = vals [di Ws, .int hi, .int 0, di ((Ws.drop a).take (cnt a hi))] ∧ ex = .normal ∧ σ' = endS) (run Ws hW hb a ha hi hhi _ _) ?_) ?hq
  case hq =>
    rintro V' ex σ' ⟨rfl, rfl, rfl⟩
    exact ⟨rfl, .inl rfl, by kernel_rfl⟩
  rintro V' ex σ' (⟨h1, h2, h3, h4⟩ | ⟨h1, h2, h3, -⟩)
  · exact ⟨h4, h1, h3⟩
  · omega
theorem bad (Ws : List Nat) (hW : Ws.length = 32) (hb : ∀ n ∈ Ws, n < 2 ^ 64) (a : Nat) (ha : a < 128) (hi : Nat) (hhi : hi < 70000) (h1 : 0 < cnt a hi) (h2 : 32 < a + cnt a hi) : @Fact.Ok (vals [di Ws, .int hi, .int 0, .list []]) P G (xb a) := by
  refine Fact.ok_tri (fn := fn) (cd := cd) (envAt _) func body (Tri.mono (Q' := fun V' ex σ' => V' = vals [di Ws, .int hi, .int 0, .list []] ∧ ex = .ret ∧ σ' = endB) (run Ws hW hb a ha hi hhi _ _) ?_) ?hq
  case hq =>
    rintro V' ex σ' ⟨rfl, rfl, rfl⟩
    exact ⟨rfl, .inr rfl, by kernel_rfl⟩
  rintro V' ex σ' (⟨_, h3, -, -⟩ | ⟨h3, -, -, h4, h5⟩)
  · omega
  · exact ⟨h5, h3, h4⟩
end st
end iw
end Go.Proofs.YtjmjbjnbfodalaaGreat
