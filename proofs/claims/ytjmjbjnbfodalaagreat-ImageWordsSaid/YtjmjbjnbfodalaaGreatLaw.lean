/- the law ImageWords: whatever the words and the bounds: true. No condition but that the numbers are words. -/
import Derived.Test.YtjmjbjnbfodalaaGreatWords
import Derived.Test.YtjmjbjnbfodalaaGreatLawK
set_option linter.unusedSimpArgs false
set_option linter.unusedVariables false
set_option linter.unusedSectionVars false
set_option maxRecDepth 100000
namespace Go.Proofs.YtjmjbjnbfodalaaGreat
open Go.Tc
namespace iw
namespace wd
theorem ok (Ws : List Nat) (hW : Ws.length = 32) (hb : ∀ n ∈ Ws, n < 2 ^ 64) (a : Nat) (ha : a < 128) (hi : Nat) (hhi : hi < 70000) (h : cnt a hi = 0 ∨ a + cnt a hi ≤ 32) : @Fact.Ok (vals [di Ws, .int hi, .int 0, di ((Ws.drop a).take (cnt a hi))]) P G (x a) := by
  have hg : cx.glob = G := by kernel_rfl
  have hs := st.ok Ws hW hb a ha hi hhi h
  generalize di ((Ws.drop a).take (cnt a hi)) = d at *
  refine Fact.ok_tri (fn := fn) (cd := cd) (envAt _) func body (Q := fun V' ex σ' => V' = vals [di Ws, .int hi, .int 0, d] ∧ ex = .ret ∧ σ' = fin) ?tri ?hq
  case hq =>
    rintro V' ex σ' ⟨rfl, rfl, rfl⟩
    exact ⟨rfl, .inr rfl, endOk a⟩
  refine Tri.flat (by kernel_rfl) ?_
  show TriL P G _ cx none 5 L _ _
  have hka := kA a ha
  unfold chkA at hka
  rw [Bool.and_eq_true] at hka
  refine TriL.go 3 (envAt _) hg stays_none (tb := []) trivial (Nat.le_refl 5) hka.1 ?_
  simp only [four]
  simp only [D.tm_den, den_int, den_bool, den_str, den_v, den_op, dens_nil, dens_cons, vals_at, List.getD_cons_succ, List.getD_cons_zero, List.getD_nil, List.map_cons, List.map_nil, Int.toNat_natCast, tden_bin, tden_shift, tden_conv, tden_not, tden_and, tden_sbin, tden_slen, tden_len, tden_nth, tden_fld, tden_mk, tden_cat, tden_sub, tden_set, tden_setf, tden_rep, tden_sget, tden_ssub, tden_ite, tden_bytes, tden_text, tden_fits, tden_nadd, tden_nsub, tden_small, intD_add, intD_sub, intD_mul, intD_quo, intD_rem, intD_eql, intD_neq, intD_lss, intD_leq, intD_gtr, intD_geq, D.int.injEq, D.bool.injEq, D.str.injEq, D.list.injEq, decide_eq_true_eq, decide_eq_false_iff_not, beq_iff_eq]
  rw [at3]
  have hku := kU a ha
  unfold chkU at hku
  rw [Bool.and_eq_true] at hku
  have hkr := kR a ha
  unfold chkR at hkr
  rw [Bool.and_eq_true] at hkr
  have hE : @EnvOk (vals [di Ws, .int hi, .int 0, d]) P G (E0.know [y a]) := @EnvOk.know (vals _) P G _ (envAt _) [y a] fun z hz => by
    simp only [List.mem_singleton] at hz
    subst hz
    exact Fact.use (tb := []) (ts := four) (l := nm) trivial rfl hs hku.1
  refine TriL.cons stays_none (Q1 := fun V' ex σ' => V' = vals [di Ws, .int hi, .int 0, d] ∧ ex = .normal ∧ σ' = mid) (Tri.block (Tri.range hE hg (tb := []) trivial 13 [1, 1, 0, 1, 2] rf_eq (by show 5 ≤ 10; omega) hkr.1 ⟨?_, rfl, rfl⟩)) ?_ (fun V' ex σ' hne h => absurd h.2.1 hne)
  · simp only [four]
    simp only [D.tm_den, den_int, den_bool, den_str, den_v, den_op, dens_nil, dens_cons, vals_at, List.getD_cons_succ, List.getD_cons_zero, List.getD_nil, List.map_cons, List.map_nil, Int.toNat_natCast, tden_bin, tden_shift, tden_conv, tden_not, tden_and, tden_sbin, tden_slen, tden_len, tden_nth, tden_fld, tden_mk, tden_cat, tden_sub, tden_set, tden_setf, tden_rep, tden_sget, tden_ssub, tden_ite, tden_bytes, tden_text, tden_fits, tden_nadd, tden_nsub, tden_small, intD_add, intD_sub, intD_mul, intD_quo, intD_rem, intD_eql, intD_neq, intD_lss, intD_leq, intD_gtr, intD_geq, D.int.injEq, D.bool.injEq, D.str.injEq, D.list.injEq, decide_eq_true_eq, decide_eq_false_iff_not, beq_iff_eq]
  · rintro V' σ' ⟨rfl, -, rfl⟩
    refine TriL.fin (envAt _) hg (tb := []) trivial (by show 5 ≤ 11; omega) kF ⟨?_, rfl, rfl⟩
    simp only [four]
    simp only [D.tm_den, den_int, den_bool, den_str, den_v, den_op, dens_nil, dens_cons, vals_at, List.getD_cons_succ, List.getD_cons_zero, List.getD_nil, List.map_cons, List.map_nil, Int.toNat_natCast, tden_bin, tden_shift, tden_conv, tden_not, tden_and, tden_sbin, tden_slen, tden_len, tden_nth, tden_fld, tden_mk, tden_cat, tden_sub, tden_set, tden_setf, tden_rep, tden_sget, tden_ssub, tden_ite, tden_bytes, tden_text, tden_fits, tden_nadd, tden_nsub, tden_small, intD_add, intD_sub, intD_mul, intD_quo, intD_rem, intD_eql, intD_neq, intD_lss, intD_leq, intD_gtr, intD_geq, D.int.injEq, D.bool.injEq, D.str.injEq, D.list.injEq, decide_eq_true_eq, decide_eq_false_iff_not, beq_iff_eq]
theorem bad (Ws : List Nat) (hW : Ws.length = 32) (hb : ∀ n ∈ Ws, n < 2 ^ 64) (a : Nat) (ha : a < 128) (hi : Nat) (hhi : hi < 70000) (h1 : 0 < cnt a hi) (h2 : 32 < a + cnt a hi) : @Fact.Ok (vals [di Ws, .int hi, .int 0, .list []]) P G (xb a) := by
  have hg : cx.glob = G := by kernel_rfl
  have hs := st.bad Ws hW hb a ha hi hhi h1 h2
  refine Fact.ok_tri (fn := fn) (cd := cd) (envAt _) func body (Q := fun V' ex σ' => V' = vals [di Ws, .int hi, .int 0, .list []] ∧ ex = .ret ∧ σ' = finB) ?tri ?hq
  case hq =>
    rintro V' ex σ' ⟨rfl, rfl, rfl⟩
    exact ⟨rfl, .inr rfl, endBad a⟩
  refine Tri.flat (by kernel_rfl) ?_
  show TriL P G _ cx none 5 L _ _
  have hka := kA a ha
  unfold chkA at hka
  rw [Bool.and_eq_true] at hka
  refine TriL.go 3 (envAt _) hg stays_none (tb := []) trivial (Nat.le_refl 5) hka.2 ?_
  simp only [four]
  simp only [D.tm_den, den_int, den_bool, den_str, den_v, den_op, dens_nil, dens_cons, vals_at, List.getD_cons_succ, List.getD_cons_zero, List.getD_nil, List.map_cons, List.map_nil, Int.toNat_natCast, tden_bin, tden_shift, tden_conv, tden_not, tden_and, tden_sbin, tden_slen, tden_len, tden_nth, tden_fld, tden_mk, tden_cat, tden_sub, tden_set, tden_setf, tden_rep, tden_sget, tden_ssub, tden_ite, tden_bytes, tden_text, tden_fits, tden_nadd, tden_nsub, tden_small, intD_add, intD_sub, intD_mul, intD_quo, intD_rem, intD_eql, intD_neq, intD_lss, intD_leq, intD_gtr, intD_geq, D.int.injEq, D.bool.injEq, D.str.injEq, D.list.injEq, decide_eq_true_eq, decide_eq_false_iff_not, beq_iff_eq]
  rw [at3]
  have hku := kU a ha
  unfold chkU at hku
  rw [Bool.and_eq_true] at hku
  have hkr := kR a ha
  unfold chkR at hkr
  rw [Bool.and_eq_true] at hkr
  have hE : @EnvOk (vals [di Ws, .int hi, .int 0, .list []]) P G (E0.know [yb a]) := @EnvOk.know (vals _) P G _ (envAt _) [yb a] fun z hz => by
    simp only [List.mem_singleton] at hz
    subst hz
    exact Fact.use (tb := []) (ts := four) (l := nm) trivial rfl hs hku.2
  refine TriL.cons stays_none (Q1 := fun V' ex σ' => V' = vals [di Ws, .int hi, .int 0, .list []] ∧ ex = .ret ∧ σ' = finB) (Tri.block (Tri.range hE hg (tb := []) trivial 13 [1, 1, 0, 1, 2] rf_eq (by show 5 ≤ 10; omega) hkr.2 ⟨?_, rfl, rfl⟩)) (fun V' σ' h => by cases h.2.1) (fun V' ex σ' _ h => h)
  simp only [four]
  simp only [D.tm_den, den_int, den_bool, den_str, den_v, den_op, dens_nil, dens_cons, vals_at, List.getD_cons_succ, List.getD_cons_zero, List.getD_nil, List.map_cons, List.map_nil, Int.toNat_natCast, tden_bin, tden_shift, tden_conv, tden_not, tden_and, tden_sbin, tden_slen, tden_len, tden_nth, tden_fld, tden_mk, tden_cat, tden_sub, tden_set, tden_setf, tden_rep, tden_sget, tden_ssub, tden_ite, tden_bytes, tden_text, tden_fits, tden_nadd, tden_nsub, tden_small, intD_add, intD_sub, intD_mul, intD_quo, intD_rem, intD_eql, intD_neq, intD_lss, intD_leq, intD_gtr, intD_geq, D.int.injEq, D.bool.injEq, D.str.injEq, D.list.injEq, decide_eq_true_eq, decide_eq_false_iff_not, beq_iff_eq]
end wd

/-- the page's words behind so many rounds; behind all. -/
def pg (l : List Nat) (i : Nat) : List Nat := (List.range 32).map fun k => if k < i then l.getD k 0 else 0
def ws (l : List Nat) : List Nat := (List.range 32).map fun k => l.getD k 0
theorem pg_zero (l : List Nat) : pg l 0 = List.replicate 32 0 := rfl
theorem pg_end (l : List Nat) (i : Nat) (h : 32 ≤ i ∨ l.length ≤ i) : pg l i = ws l := by
  unfold pg ws
  refine List.map_congr_left fun k hk => ?_
  have hk := List.mem_range.1 hk
  split
  · rfl
  · rw [List.getD_eq_getElem?_getD, List.getElem?_eq_none (by omega)]; rfl
theorem ws_len (l : List Nat) : (ws l).length = 32 := by simp [ws]
theorem ws_get (l : List Nat) (k : Nat) (hk : k < (ws l).length) : (ws l)[k] = l.getD k 0 := by simp [ws]
theorem ws_lt (l : List Nat) (hl : ∀ n ∈ l, n < 2 ^ 64) : ∀ n ∈ ws l, n < 2 ^ 64 := by
  intro n hn
  unfold ws at hn
  obtain ⟨k, -, rfl⟩ := List.mem_map.1 hn
  rw [List.getD_eq_getElem?_getD]
  cases h : l[k]? with
  | none => simp
  | some m => exact hl m (List.mem_of_getElem? h)
theorem zeros_den (V : Val) (l : List Nat) : @Tm.den V zeros = di (pg l 0) := by
  rw [pg_zero]; rfl
theorem upd_den (l : List Nat) (i : Nat) (hi : i < l.length) (a b : D) : @Tm.den (vals [di l, a, b, di (pg l i)]) (upd i) = di (pg l (i + 1)) := by
  have e : pg l (i + 1) = (List.range 32).map fun k => if k < i + 1 then l.getD k 0 else 0 := rfl
  unfold upd
  simp only [den_op, dens_map, tden_mk, List.map_map]
  rw [e]
  unfold di
  rw [List.map_map]
  congr 1
  refine List.map_congr_left fun k hk => ?_
  have hk := List.mem_range.1 hk
  simp only [Function.comp]
  by_cases h : k = i
  · subst h
    rw [if_pos rfl, if_pos (by omega)]
    simp only [D.tm_den, den_int, den_bool, den_str, den_v, den_op, dens_nil, dens_cons, vals_at, List.getD_cons_succ, List.getD_cons_zero, List.getD_nil, List.map_cons, List.map_nil, Int.toNat_natCast, tden_bin, tden_shift, tden_conv, tden_not, tden_and, tden_sbin, tden_slen, tden_len, tden_nth, tden_fld, tden_mk, tden_cat, tden_sub, tden_set, tden_setf, tden_rep, tden_sget, tden_ssub, tden_ite, tden_bytes, tden_text, tden_fits, tden_nadd, tden_nsub, tden_small, intD_add, intD_sub, intD_mul, intD_quo, intD_rem, intD_eql, intD_neq, intD_lss, intD_leq, intD_gtr, intD_geq, D.int.injEq, D.bool.injEq, D.str.injEq, D.list.injEq, decide_eq_true_eq, decide_eq_false_iff_not, beq_iff_eq]
    rw [di_nth l k hi, List.getD_eq_getElem?_getD, List.getElem?_eq_getElem hi]; rfl
  · rw [if_neg h]
    simp only [D.tm_den, den_int, den_bool, den_str, den_v, den_op, dens_nil, dens_cons, vals_at, List.getD_cons_succ, List.getD_cons_zero, List.getD_nil, List.map_cons, List.map_nil, Int.toNat_natCast, tden_bin, tden_shift, tden_conv, tden_not, tden_and, tden_sbin, tden_slen, tden_len, tden_nth, tden_fld, tden_mk, tden_cat, tden_sub, tden_set, tden_setf, tden_rep, tden_sget, tden_ssub, tden_ite, tden_bytes, tden_text, tden_fits, tden_nadd, tden_nsub, tden_small, intD_add, intD_sub, intD_mul, intD_quo, intD_rem, intD_eql, intD_neq, intD_lss, intD_leq, intD_gtr, intD_geq, D.int.injEq, D.bool.injEq, D.str.injEq, D.list.injEq, decide_eq_true_eq, decide_eq_false_iff_not, beq_iff_eq]
    have hpl : k < (pg l i).length := by simp [pg]; omega
    rw [di_nth _ k hpl]
    have : (pg l i)[k] = if k < i then l.getD k 0 else 0 := by simp [pg]
    rw [this]
    by_cases h2 : k < i
    · rw [if_pos h2, if_pos (by omega)]
    · rw [if_neg h2, if_neg (by omega)]
theorem kG (a : Tm) : evFl P (E0.tab []) 100000 cx none 1 ((L.drop 7).take 0) laid [] (subs [.v 0, .v 1, .v 2, .v 3, a]) nm4 .normal laid = true := by kernel_rfl

def Fin (V0 : Val) (V' : Val) (ex : AExit) (σ' : St) : Prop := V' = V0 ∧ ex = .ret ∧ σ' = fin

theorem num_den (V : Val) (lo hi : Nat) (h1 : 65536 ≤ lo) (h2 : lo < hi) (h3 : hi < 70000) (hv1 : V.θ 1 = .int lo) (hv2 : V.θ 2 = .int hi) : @Tm.den V nT = .int (((hi - lo) / 8 : Nat) : Int) := by
  unfold nT
  simp only [den_op, dens_cons, dens_nil, den_v, hv1, hv2, tden_bin, intD_sub, tden_conv, den_int, intD_quo]
  rw [show ((hi : Int) - (lo : Int)) = ((hi - lo : Nat) : Int) by omega, wrap_u64 (n := ((hi - lo : Nat) : Int)) (by omega), wrap_i64 (n := ((hi - lo : Nat) : Int)) (by omega), Int.tdiv_eq_ediv_of_nonneg (by omega), wrap_i64 (by omega)]
  congr 1

theorem tail_ok (l : List Nat) (a hi : Nat) (ha : a < 128) (hlo : 65536 ≤ hi) (hhi : hi < 70000) (h : cnt a hi = 0 ∨ a + cnt a hi ≤ 32) (A B C : Tm) (V0 : Val) (hV : ∀ V : Val, V.code = codeAt P → valsC V.code ([A, B, C].map (@Tm.den V)) = V0) :
    TriL P G (vals [di l, .int ((65536 + 8 * a : Nat) : Int), .int hi, di (((ws l).drop a).take (cnt a hi))]) cx none 1 (L.drop 9) gotOk (Fin V0) := by
  have hg : cx.glob = G := by kernel_rfl
  have le1 : (1 : Nat) ≤ 1 := Nat.le_refl 1
  have hgl : (((ws l).drop a).take (cnt a hi)).length = min (cnt a hi) (32 - a) := by rw [List.length_take, List.length_drop, ws_len]
  by_cases hle : hi ≤ 65536 + 8 * a
  · have hc : cnt a hi = 0 := if_pos hle
    refine TriL.fin (envAt _) hg (tb := [leT true, (.op (.bin .eql .i64) [.op .len [.v 3], .int 0], .bool true)]) ⟨?_, ?_, trivial⟩ le1 (kO0 A B C) ⟨hV _ rfl, rfl, rfl⟩
    · simp only [leT]; simp only [D.tm_den, den_int, den_bool, den_str, den_v, den_op, dens_nil, dens_cons, vals_at, List.getD_cons_succ, List.getD_cons_zero, List.getD_nil, List.map_cons, List.map_nil, Int.toNat_natCast, tden_bin, tden_shift, tden_conv, tden_not, tden_and, tden_sbin, tden_slen, tden_len, tden_nth, tden_fld, tden_mk, tden_cat, tden_sub, tden_set, tden_setf, tden_rep, tden_sget, tden_ssub, tden_ite, tden_bytes, tden_text, tden_fits, tden_nadd, tden_nsub, tden_small, intD_add, intD_sub, intD_mul, intD_quo, intD_rem, intD_eql, intD_neq, intD_lss, intD_leq, intD_gtr, intD_geq, D.int.injEq, D.bool.injEq, D.str.injEq, D.list.injEq, decide_eq_true_eq, decide_eq_false_iff_not, beq_iff_eq]; omega
    · simp only [D.tm_den, den_int, den_bool, den_str, den_v, den_op, dens_nil, dens_cons, vals_at, List.getD_cons_succ, List.getD_cons_zero, List.getD_nil, List.map_cons, List.map_nil, Int.toNat_natCast, tden_bin, tden_shift, tden_conv, tden_not, tden_and, tden_sbin, tden_slen, tden_len, tden_nth, tden_fld, tden_mk, tden_cat, tden_sub, tden_set, tden_setf, tden_rep, tden_sget, tden_ssub, tden_ite, tden_bytes, tden_text, tden_fits, tden_nadd, tden_nsub, tden_small, intD_add, intD_sub, intD_mul, intD_quo, intD_rem, intD_eql, intD_neq, intD_lss, intD_leq, intD_gtr, intD_geq, D.int.injEq, D.bool.injEq, D.str.injEq, D.list.injEq, decide_eq_true_eq, decide_eq_false_iff_not, beq_iff_eq, di, di_len]; rw [hgl, hc]; simp
  · have hc : cnt a hi = (hi - (65536 + 8 * a)) / 8 := if_neg hle
    have hn := num_den (vals [di l, .int ((65536 + 8 * a : Nat) : Int), .int hi, di (((ws l).drop a).take (cnt a hi))]) (65536 + 8 * a) hi (by omega) (by omega) hhi rfl rfl
    rw [← hc] at hn
    have hlen : (((ws l).drop a).take (cnt a hi)).length = cnt a hi := by rw [hgl]; omega
    have key : TriL P G (vals [di l, .int ((65536 + 8 * a : Nat) : Int), .int hi, di (((ws l).drop a).take (cnt a hi)), .int (cnt a hi : Nat), .int (0 : Nat)]) cx none 1 ((L.drop 9).drop 8) last (Fin V0) := by
      rw [at17]
      generalize hcn : cnt a hi = n at *
      refine TriL.cons stays_none (Q1 := fun V' ex σ' => ex = .normal ∧ σ' = fin0 ∧ V'.code = codeAt P) (Tri.block ?_) ?_ (fun V' ex σ' hne h => absurd h.1 hne)
      · refine Tri.loop (α := Nat) (fun i => i ≤ n) (fun i => n - i) (fun i => vals [di l, .int ((65536 + 8 * a : Nat) : Int), .int hi, di (((ws l).drop a).take n), .int (n : Nat), .int (i : Nat)]) stays_none ?_ 0 (Nat.zero_le _)
        intro i hin
        refine Tri.flat (by kernel_rfl) ?_
        show TriL P G _ cx none 1 lp2 last _
        by_cases hlt : i < n
        · have hk : @Tm.den (vals [di l, .int ((65536 + 8 * a : Nat) : Int), .int hi, di (((ws l).drop a).take n), .int (n : Nat), .int (i : Nat)]) kT = .int ((a + i : Nat) : Int) := by
            unfold kT
            simp only [D.tm_den, den_int, den_bool, den_str, den_v, den_op, dens_nil, dens_cons, vals_at, List.getD_cons_succ, List.getD_cons_zero, List.getD_nil, List.map_cons, List.map_nil, Int.toNat_natCast, tden_bin, tden_shift, tden_conv, tden_not, tden_and, tden_sbin, tden_slen, tden_len, tden_nth, tden_fld, tden_mk, tden_cat, tden_sub, tden_set, tden_setf, tden_rep, tden_sget, tden_ssub, tden_ite, tden_bytes, tden_text, tden_fits, tden_nadd, tden_nsub, tden_small, intD_add, intD_sub, intD_mul, intD_quo, intD_rem, intD_eql, intD_neq, intD_lss, intD_leq, intD_gtr, intD_geq, D.int.injEq, D.bool.injEq, D.str.injEq, D.list.injEq, decide_eq_true_eq, decide_eq_false_iff_not, beq_iff_eq]
            rw [show (((65536 + 8 * a : Nat) : Int) - 65536) = ((8 * a : Nat) : Int) by omega, wrap_u64 (n := ((8 * a : Nat) : Int)) (by omega), wrap_i64 (n := ((8 * a : Nat) : Int)) (by omega), Int.tdiv_eq_ediv_of_nonneg (by omega), show ((8 * a : Nat) : Int) / 8 = (a : Int) by omega, wrap_i64 (n := (a : Int)) (by omega), wrap_i64 (by omega)]
            simp
          have hgi : ((((ws l).drop a).take n).map fun (n : Nat) => D.int (n : Int)).getD i .bad = .int ((l.getD (a + i) 0 : Nat) : Int) := by
            rw [di_nth _ i (by omega)]
            congr 2
            rw [List.getElem_take, List.getElem_drop, ws_get]
          have w1 : IntKind.i64.wrap ((i : Int) + 1) = ((i + 1 : Nat) : Int) := by rw [wrap_i64 (by omega)]; simp
          have q1 : ∀ r : List (Tm × Tm), @AllEq (vals [di l, .int ((65536 + 8 * a : Nat) : Int), .int hi, di (((ws l).drop a).take n), .int (n : Nat), .int (i : Nat)]) r → @AllEq (vals [di l, .int ((65536 + 8 * a : Nat) : Int), .int hi, di (((ws l).drop a).take n), .int (n : Nat), .int (i : Nat)]) (inI ++ r) := by
            intro r hr
            refine ⟨?_, ?_, hr⟩
            · simp only [D.tm_den, den_int, den_bool, den_str, den_v, den_op, dens_nil, dens_cons, vals_at, List.getD_cons_succ, List.getD_cons_zero, List.getD_nil, List.map_cons, List.map_nil, Int.toNat_natCast, tden_bin, tden_shift, tden_conv, tden_not, tden_and, tden_sbin, tden_slen, tden_len, tden_nth, tden_fld, tden_mk, tden_cat, tden_sub, tden_set, tden_setf, tden_rep, tden_sget, tden_ssub, tden_ite, tden_bytes, tden_text, tden_fits, tden_nadd, tden_nsub, tden_small, intD_add, intD_sub, intD_mul, intD_quo, intD_rem, intD_eql, intD_neq, intD_lss, intD_leq, intD_gtr, intD_geq, D.int.injEq, D.bool.injEq, D.str.injEq, D.list.injEq, decide_eq_true_eq, decide_eq_false_iff_not, beq_iff_eq]; omega
            · simp only [D.tm_den, den_int, den_bool, den_str, den_v, den_op, dens_nil, dens_cons, vals_at, List.getD_cons_succ, List.getD_cons_zero, List.getD_nil, List.map_cons, List.map_nil, Int.toNat_natCast, tden_bin, tden_shift, tden_conv, tden_not, tden_and, tden_sbin, tden_slen, tden_len, tden_nth, tden_fld, tden_mk, tden_cat, tden_sub, tden_set, tden_setf, tden_rep, tden_sget, tden_ssub, tden_ite, tden_bytes, tden_text, tden_fits, tden_nadd, tden_nsub, tden_small, intD_add, intD_sub, intD_mul, intD_quo, intD_rem, intD_eql, intD_neq, intD_lss, intD_leq, intD_gtr, intD_geq, D.int.injEq, D.bool.injEq, D.str.injEq, D.list.injEq, decide_eq_true_eq, decide_eq_false_iff_not, beq_iff_eq, di, di_len]; rw [hlen]; omega
          have q0 : @Tm.den (vals [di l, .int ((65536 + 8 * a : Nat) : Int), .int hi, di (((ws l).drop a).take n), .int (n : Nat), .int (i : Nat)]) (.op (.bin .lss .i64) [.v 5, .v 4]) = .bool true := by simp only [D.tm_den, den_int, den_bool, den_str, den_v, den_op, dens_nil, dens_cons, vals_at, List.getD_cons_succ, List.getD_cons_zero, List.getD_nil, List.map_cons, List.map_nil, Int.toNat_natCast, tden_bin, tden_shift, tden_conv, tden_not, tden_and, tden_sbin, tden_slen, tden_len, tden_nth, tden_fld, tden_mk, tden_cat, tden_sub, tden_set, tden_setf, tden_rep, tden_sget, tden_ssub, tden_ite, tden_bytes, tden_text, tden_fits, tden_nadd, tden_nsub, tden_small, intD_add, intD_sub, intD_mul, intD_quo, intD_rem, intD_eql, intD_neq, intD_lss, intD_leq, intD_gtr, intD_geq, D.int.injEq, D.bool.injEq, D.str.injEq, D.list.injEq, decide_eq_true_eq, decide_eq_false_iff_not, beq_iff_eq]; omega
          by_cases hkl : a + i < l.length
          · refine TriL.fin (envAt _) hg (tb := ltI true :: ltK true :: lt32 true :: (.op (.bin .leq .i64) [.int 0, kT], .bool true) :: inI ++ [neL]) ⟨q0, ?_, ?_, ?_, q1 _ ⟨?_, trivial⟩⟩ le1 kM1 (.inl ⟨rfl, rfl, i + 1, ?_, hlt, by omega⟩)
            · simp only [ltK]; simp only [D.tm_den, den_int, den_bool, den_str, den_v, den_op, dens_nil, dens_cons, vals_at, List.getD_cons_succ, List.getD_cons_zero, List.getD_nil, List.map_cons, List.map_nil, Int.toNat_natCast, tden_bin, tden_shift, tden_conv, tden_not, tden_and, tden_sbin, tden_slen, tden_len, tden_nth, tden_fld, tden_mk, tden_cat, tden_sub, tden_set, tden_setf, tden_rep, tden_sget, tden_ssub, tden_ite, tden_bytes, tden_text, tden_fits, tden_nadd, tden_nsub, tden_small, intD_add, intD_sub, intD_mul, intD_quo, intD_rem, intD_eql, intD_neq, intD_lss, intD_leq, intD_gtr, intD_geq, D.int.injEq, D.bool.injEq, D.str.injEq, D.list.injEq, decide_eq_true_eq, decide_eq_false_iff_not, beq_iff_eq, hk, di, di_len]; omega
            · simp only [lt32]; simp only [D.tm_den, den_int, den_bool, den_str, den_v, den_op, dens_nil, dens_cons, vals_at, List.getD_cons_succ, List.getD_cons_zero, List.getD_nil, List.map_cons, List.map_nil, Int.toNat_natCast, tden_bin, tden_shift, tden_conv, tden_not, tden_and, tden_sbin, tden_slen, tden_len, tden_nth, tden_fld, tden_mk, tden_cat, tden_sub, tden_set, tden_setf, tden_rep, tden_sget, tden_ssub, tden_ite, tden_bytes, tden_text, tden_fits, tden_nadd, tden_nsub, tden_small, intD_add, intD_sub, intD_mul, intD_quo, intD_rem, intD_eql, intD_neq, intD_lss, intD_leq, intD_gtr, intD_geq, D.int.injEq, D.bool.injEq, D.str.injEq, D.list.injEq, decide_eq_true_eq, decide_eq_false_iff_not, beq_iff_eq, hk]; omega
            · simp only [D.tm_den, den_int, den_bool, den_str, den_v, den_op, dens_nil, dens_cons, vals_at, List.getD_cons_succ, List.getD_cons_zero, List.getD_nil, List.map_cons, List.map_nil, Int.toNat_natCast, tden_bin, tden_shift, tden_conv, tden_not, tden_and, tden_sbin, tden_slen, tden_len, tden_nth, tden_fld, tden_mk, tden_cat, tden_sub, tden_set, tden_setf, tden_rep, tden_sget, tden_ssub, tden_ite, tden_bytes, tden_text, tden_fits, tden_nadd, tden_nsub, tden_small, intD_add, intD_sub, intD_mul, intD_quo, intD_rem, intD_eql, intD_neq, intD_lss, intD_leq, intD_gtr, intD_geq, D.int.injEq, D.bool.injEq, D.str.injEq, D.list.injEq, decide_eq_true_eq, decide_eq_false_iff_not, beq_iff_eq, hk]; omega
            · simp only [neL]
              simp only [D.tm_den, den_int, den_bool, den_str, den_v, den_op, dens_nil, dens_cons, vals_at, List.getD_cons_succ, List.getD_cons_zero, List.getD_nil, List.map_cons, List.map_nil, Int.toNat_natCast, tden_bin, tden_shift, tden_conv, tden_not, tden_and, tden_sbin, tden_slen, tden_len, tden_nth, tden_fld, tden_mk, tden_cat, tden_sub, tden_set, tden_setf, tden_rep, tden_sget, tden_ssub, tden_ite, tden_bytes, tden_text, tden_fits, tden_nadd, tden_nsub, tden_small, intD_add, intD_sub, intD_mul, intD_quo, intD_rem, intD_eql, intD_neq, intD_lss, intD_leq, intD_gtr, intD_geq, D.int.injEq, D.bool.injEq, D.str.injEq, D.list.injEq, decide_eq_true_eq, decide_eq_false_iff_not, beq_iff_eq, hk, di, hgi]
              rw [di_nth l (a + i) hkl, List.getD_eq_getElem?_getD, List.getElem?_eq_getElem hkl]
              simp only [D.tm_den, den_int, den_bool, den_str, den_v, den_op, dens_nil, dens_cons, vals_at, List.getD_cons_succ, List.getD_cons_zero, List.getD_nil, List.map_cons, List.map_nil, Int.toNat_natCast, tden_bin, tden_shift, tden_conv, tden_not, tden_and, tden_sbin, tden_slen, tden_len, tden_nth, tden_fld, tden_mk, tden_cat, tden_sub, tden_set, tden_setf, tden_rep, tden_sget, tden_ssub, tden_ite, tden_bytes, tden_text, tden_fits, tden_nadd, tden_nsub, tden_small, intD_add, intD_sub, intD_mul, intD_quo, intD_rem, intD_eql, intD_neq, intD_lss, intD_leq, intD_gtr, intD_geq, D.int.injEq, D.bool.injEq, D.str.injEq, D.list.injEq, decide_eq_true_eq, decide_eq_false_iff_not, beq_iff_eq]
              simp
            · simp only [nxt]; simp only [D.tm_den, den_int, den_bool, den_str, den_v, den_op, dens_nil, dens_cons, vals_at, List.getD_cons_succ, List.getD_cons_zero, List.getD_nil, List.map_cons, List.map_nil, Int.toNat_natCast, tden_bin, tden_shift, tden_conv, tden_not, tden_and, tden_sbin, tden_slen, tden_len, tden_nth, tden_fld, tden_mk, tden_cat, tden_sub, tden_set, tden_setf, tden_rep, tden_sget, tden_ssub, tden_ite, tden_bytes, tden_text, tden_fits, tden_nadd, tden_nsub, tden_small, intD_add, intD_sub, intD_mul, intD_quo, intD_rem, intD_eql, intD_neq, intD_lss, intD_leq, intD_gtr, intD_geq, D.int.injEq, D.bool.injEq, D.str.injEq, D.list.injEq, decide_eq_true_eq, decide_eq_false_iff_not, beq_iff_eq, w1]
          · refine TriL.fin (envAt _) hg (tb := ltI true :: ltK false :: inI ++ [ne0]) ⟨q0, ?_, q1 _ ⟨?_, trivial⟩⟩ le1 kM5 (.inl ⟨rfl, rfl, i + 1, ?_, hlt, by omega⟩)
            · simp only [ltK]; simp only [D.tm_den, den_int, den_bool, den_str, den_v, den_op, dens_nil, dens_cons, vals_at, List.getD_cons_succ, List.getD_cons_zero, List.getD_nil, List.map_cons, List.map_nil, Int.toNat_natCast, tden_bin, tden_shift, tden_conv, tden_not, tden_and, tden_sbin, tden_slen, tden_len, tden_nth, tden_fld, tden_mk, tden_cat, tden_sub, tden_set, tden_setf, tden_rep, tden_sget, tden_ssub, tden_ite, tden_bytes, tden_text, tden_fits, tden_nadd, tden_nsub, tden_small, intD_add, intD_sub, intD_mul, intD_quo, intD_rem, intD_eql, intD_neq, intD_lss, intD_leq, intD_gtr, intD_geq, D.int.injEq, D.bool.injEq, D.str.injEq, D.list.injEq, decide_eq_true_eq, decide_eq_false_iff_not, beq_iff_eq, hk, di, di_len]; omega
            · simp only [ne0]
              simp only [D.tm_den, den_int, den_bool, den_str, den_v, den_op, dens_nil, dens_cons, vals_at, List.getD_cons_succ, List.getD_cons_zero, List.getD_nil, List.map_cons, List.map_nil, Int.toNat_natCast, tden_bin, tden_shift, tden_conv, tden_not, tden_and, tden_sbin, tden_slen, tden_len, tden_nth, tden_fld, tden_mk, tden_cat, tden_sub, tden_set, tden_setf, tden_rep, tden_sget, tden_ssub, tden_ite, tden_bytes, tden_text, tden_fits, tden_nadd, tden_nsub, tden_small, intD_add, intD_sub, intD_mul, intD_quo, intD_rem, intD_eql, intD_neq, intD_lss, intD_leq, intD_gtr, intD_geq, D.int.injEq, D.bool.injEq, D.str.injEq, D.list.injEq, decide_eq_true_eq, decide_eq_false_iff_not, beq_iff_eq, di, hgi]
              rw [List.getD_eq_getElem?_getD, List.getElem?_eq_none (by omega)]
              simp
            · simp only [nxt]; simp only [D.tm_den, den_int, den_bool, den_str, den_v, den_op, dens_nil, dens_cons, vals_at, List.getD_cons_succ, List.getD_cons_zero, List.getD_nil, List.map_cons, List.map_nil, Int.toNat_natCast, tden_bin, tden_shift, tden_conv, tden_not, tden_and, tden_sbin, tden_slen, tden_len, tden_nth, tden_fld, tden_mk, tden_cat, tden_sub, tden_set, tden_setf, tden_rep, tden_sget, tden_ssub, tden_ite, tden_bytes, tden_text, tden_fits, tden_nadd, tden_nsub, tden_small, intD_add, intD_sub, intD_mul, intD_quo, intD_rem, intD_eql, intD_neq, intD_lss, intD_leq, intD_gtr, intD_geq, D.int.injEq, D.bool.injEq, D.str.injEq, D.list.injEq, decide_eq_true_eq, decide_eq_false_iff_not, beq_iff_eq, w1]
        · refine TriL.fin (envAt _) hg (tb := [ltI false]) ⟨?_, trivial⟩ le1 kM6 (.inr ⟨by simp, rfl, rfl, rfl⟩)
          simp only [ltI]; simp only [D.tm_den, den_int, den_bool, den_str, den_v, den_op, dens_nil, dens_cons, vals_at, List.getD_cons_succ, List.getD_cons_zero, List.getD_nil, List.map_cons, List.map_nil, Int.toNat_natCast, tden_bin, tden_shift, tden_conv, tden_not, tden_and, tden_sbin, tden_slen, tden_len, tden_nth, tden_fld, tden_mk, tden_cat, tden_sub, tden_set, tden_setf, tden_rep, tden_sget, tden_ssub, tden_ite, tden_bytes, tden_text, tden_fits, tden_nadd, tden_nsub, tden_small, intD_add, intD_sub, intD_mul, intD_quo, intD_rem, intD_eql, intD_neq, intD_lss, intD_leq, intD_gtr, intD_geq, D.int.injEq, D.bool.injEq, D.str.injEq, D.list.injEq, decide_eq_true_eq, decide_eq_false_iff_not, beq_iff_eq]; omega
      · rintro V' σ' ⟨-, rfl, hcode⟩
        obtain ⟨θ, code⟩ := V'
        have hcode : code = codeAt P := hcode
        subst hcode
        refine TriL.mono (TriL.ice (V := ⟨θ, codeAt P⟩) (k0 := 1) (@EnvOk.tab P G E0 _ (envAt _) [] trivial) hg le1 (kZ A B C)) ?_
        rintro V' ex σ' ⟨rfl, rfl, rfl⟩
        exact ⟨by rw [by_subs]; exact hV _ rfl, rfl, rfl⟩
    by_cases h0 : 0 < cnt a hi
    · refine TriL.go 8 (envAt _) hg stays_none (tb := [leT false, gtN true, gtE false, neN]) ⟨?_, ?_, ?_, ?_, trivial⟩ le1 kO3 ?_
      · simp only [leT]; simp only [D.tm_den, den_int, den_bool, den_str, den_v, den_op, dens_nil, dens_cons, vals_at, List.getD_cons_succ, List.getD_cons_zero, List.getD_nil, List.map_cons, List.map_nil, Int.toNat_natCast, tden_bin, tden_shift, tden_conv, tden_not, tden_and, tden_sbin, tden_slen, tden_len, tden_nth, tden_fld, tden_mk, tden_cat, tden_sub, tden_set, tden_setf, tden_rep, tden_sget, tden_ssub, tden_ite, tden_bytes, tden_text, tden_fits, tden_nadd, tden_nsub, tden_small, intD_add, intD_sub, intD_mul, intD_quo, intD_rem, intD_eql, intD_neq, intD_lss, intD_leq, intD_gtr, intD_geq, D.int.injEq, D.bool.injEq, D.str.injEq, D.list.injEq, decide_eq_true_eq, decide_eq_false_iff_not, beq_iff_eq]; omega
      · simp only [gtN]; simp only [D.tm_den, den_int, den_bool, den_str, den_v, den_op, dens_nil, dens_cons, vals_at, List.getD_cons_succ, List.getD_cons_zero, List.getD_nil, List.map_cons, List.map_nil, Int.toNat_natCast, tden_bin, tden_shift, tden_conv, tden_not, tden_and, tden_sbin, tden_slen, tden_len, tden_nth, tden_fld, tden_mk, tden_cat, tden_sub, tden_set, tden_setf, tden_rep, tden_sget, tden_ssub, tden_ite, tden_bytes, tden_text, tden_fits, tden_nadd, tden_nsub, tden_small, intD_add, intD_sub, intD_mul, intD_quo, intD_rem, intD_eql, intD_neq, intD_lss, intD_leq, intD_gtr, intD_geq, D.int.injEq, D.bool.injEq, D.str.injEq, D.list.injEq, decide_eq_true_eq, decide_eq_false_iff_not, beq_iff_eq, hn, gt_iff_lt]; omega
      · simp only [gtE, endT]
        simp only [D.tm_den, den_int, den_bool, den_str, den_v, den_op, dens_nil, dens_cons, vals_at, List.getD_cons_succ, List.getD_cons_zero, List.getD_nil, List.map_cons, List.map_nil, Int.toNat_natCast, tden_bin, tden_shift, tden_conv, tden_not, tden_and, tden_sbin, tden_slen, tden_len, tden_nth, tden_fld, tden_mk, tden_cat, tden_sub, tden_set, tden_setf, tden_rep, tden_sget, tden_ssub, tden_ite, tden_bytes, tden_text, tden_fits, tden_nadd, tden_nsub, tden_small, intD_add, intD_sub, intD_mul, intD_quo, intD_rem, intD_eql, intD_neq, intD_lss, intD_leq, intD_gtr, intD_geq, D.int.injEq, D.bool.injEq, D.str.injEq, D.list.injEq, decide_eq_true_eq, decide_eq_false_iff_not, beq_iff_eq, hn, gt_iff_lt]
        rw [wrap_u64 (n := ((cnt a hi : Nat) : Int)) (by omega), wrap_u64 (n := 8 * ((cnt a hi : Nat) : Int)) (by omega), wrap_u64 (by omega)]
        omega
      · simp only [neN]; simp only [D.tm_den, den_int, den_bool, den_str, den_v, den_op, dens_nil, dens_cons, vals_at, List.getD_cons_succ, List.getD_cons_zero, List.getD_nil, List.map_cons, List.map_nil, Int.toNat_natCast, tden_bin, tden_shift, tden_conv, tden_not, tden_and, tden_sbin, tden_slen, tden_len, tden_nth, tden_fld, tden_mk, tden_cat, tden_sub, tden_set, tden_setf, tden_rep, tden_sget, tden_ssub, tden_ite, tden_bytes, tden_text, tden_fits, tden_nadd, tden_nsub, tden_small, intD_add, intD_sub, intD_mul, intD_quo, intD_rem, intD_eql, intD_neq, intD_lss, intD_leq, intD_gtr, intD_geq, D.int.injEq, D.bool.injEq, D.str.injEq, D.list.injEq, decide_eq_true_eq, decide_eq_false_iff_not, beq_iff_eq, hn, di, di_len]; rw [hlen]; simp
      · simp only [six]
        simp only [D.tm_den, den_int, den_bool, den_str, den_v, den_op, dens_nil, dens_cons, vals_at, List.getD_cons_succ, List.getD_cons_zero, List.getD_nil, List.map_cons, List.map_nil, Int.toNat_natCast, tden_bin, tden_shift, tden_conv, tden_not, tden_and, tden_sbin, tden_slen, tden_len, tden_nth, tden_fld, tden_mk, tden_cat, tden_sub, tden_set, tden_setf, tden_rep, tden_sget, tden_ssub, tden_ite, tden_bytes, tden_text, tden_fits, tden_nadd, tden_nsub, tden_small, intD_add, intD_sub, intD_mul, intD_quo, intD_rem, intD_eql, intD_neq, intD_lss, intD_leq, intD_gtr, intD_geq, D.int.injEq, D.bool.injEq, D.str.injEq, D.list.injEq, decide_eq_true_eq, decide_eq_false_iff_not, beq_iff_eq, hn]
        exact key
    · refine TriL.go 8 (envAt _) hg stays_none (tb := [leT false, gtN false, neN]) ⟨?_, ?_, ?_, trivial⟩ le1 kO5 ?_
      · simp only [leT]; simp only [D.tm_den, den_int, den_bool, den_str, den_v, den_op, dens_nil, dens_cons, vals_at, List.getD_cons_succ, List.getD_cons_zero, List.getD_nil, List.map_cons, List.map_nil, Int.toNat_natCast, tden_bin, tden_shift, tden_conv, tden_not, tden_and, tden_sbin, tden_slen, tden_len, tden_nth, tden_fld, tden_mk, tden_cat, tden_sub, tden_set, tden_setf, tden_rep, tden_sget, tden_ssub, tden_ite, tden_bytes, tden_text, tden_fits, tden_nadd, tden_nsub, tden_small, intD_add, intD_sub, intD_mul, intD_quo, intD_rem, intD_eql, intD_neq, intD_lss, intD_leq, intD_gtr, intD_geq, D.int.injEq, D.bool.injEq, D.str.injEq, D.list.injEq, decide_eq_true_eq, decide_eq_false_iff_not, beq_iff_eq]; omega
      · simp only [gtN]; simp only [D.tm_den, den_int, den_bool, den_str, den_v, den_op, dens_nil, dens_cons, vals_at, List.getD_cons_succ, List.getD_cons_zero, List.getD_nil, List.map_cons, List.map_nil, Int.toNat_natCast, tden_bin, tden_shift, tden_conv, tden_not, tden_and, tden_sbin, tden_slen, tden_len, tden_nth, tden_fld, tden_mk, tden_cat, tden_sub, tden_set, tden_setf, tden_rep, tden_sget, tden_ssub, tden_ite, tden_bytes, tden_text, tden_fits, tden_nadd, tden_nsub, tden_small, intD_add, intD_sub, intD_mul, intD_quo, intD_rem, intD_eql, intD_neq, intD_lss, intD_leq, intD_gtr, intD_geq, D.int.injEq, D.bool.injEq, D.str.injEq, D.list.injEq, decide_eq_true_eq, decide_eq_false_iff_not, beq_iff_eq, hn, gt_iff_lt]; omega
      · simp only [neN]; simp only [D.tm_den, den_int, den_bool, den_str, den_v, den_op, dens_nil, dens_cons, vals_at, List.getD_cons_succ, List.getD_cons_zero, List.getD_nil, List.map_cons, List.map_nil, Int.toNat_natCast, tden_bin, tden_shift, tden_conv, tden_not, tden_and, tden_sbin, tden_slen, tden_len, tden_nth, tden_fld, tden_mk, tden_cat, tden_sub, tden_set, tden_setf, tden_rep, tden_sget, tden_ssub, tden_ite, tden_bytes, tden_text, tden_fits, tden_nadd, tden_nsub, tden_small, intD_add, intD_sub, intD_mul, intD_quo, intD_rem, intD_eql, intD_neq, intD_lss, intD_leq, intD_gtr, intD_geq, D.int.injEq, D.bool.injEq, D.str.injEq, D.list.injEq, decide_eq_true_eq, decide_eq_false_iff_not, beq_iff_eq, hn, di, di_len]; rw [hlen]; simp
      · simp only [six]
        simp only [D.tm_den, den_int, den_bool, den_str, den_v, den_op, dens_nil, dens_cons, vals_at, List.getD_cons_succ, List.getD_cons_zero, List.getD_nil, List.map_cons, List.map_nil, Int.toNat_natCast, tden_bin, tden_shift, tden_conv, tden_not, tden_and, tden_sbin, tden_slen, tden_len, tden_nth, tden_fld, tden_mk, tden_cat, tden_sub, tden_set, tden_setf, tden_rep, tden_sget, tden_ssub, tden_ite, tden_bytes, tden_text, tden_fits, tden_nadd, tden_nsub, tden_small, intD_add, intD_sub, intD_mul, intD_quo, intD_rem, intD_eql, intD_neq, intD_lss, intD_leq, intD_gtr, intD_geq, D.int.injEq, D.bool.injEq, D.str.injEq, D.list.injEq, decide_eq_true_eq, decide_eq_false_iff_not, beq_iff_eq, hn]
        exact key

theorem ok (hsp : ∀ V : Val, @Fact.Ok V P G spk) (l : List Nat) (hl : ∀ n ∈ l, n < 2 ^ 64) (lo hi : Nat) (hlo : lo < 2 ^ 64) (hhi : hi < 2 ^ 64) : @Fact.Ok (vals [di l, .int lo, .int hi]) P G x := by
  have hg : cx.glob = G := by kernel_rfl
  have le1 : (1 : Nat) ≤ 1 := Nat.le_refl 1
  refine Fact.ok_tri (fn := fn) (cd := cd) (envAt _) func body (Q := Fin (vals [di l, .int lo, .int hi])) ?tri ?hq
  case hq =>
    rintro V' ex σ' ⟨rfl, rfl, rfl⟩
    exact ⟨rfl, .inr rfl, by kernel_rfl⟩
  refine Tri.flat (by kernel_rfl) ?_
  show TriL P G _ cx none 1 L _ _
  have hE0 : @EnvOk (vals [di l, .int lo, .int hi]) P G (E0.know [spk]) := @EnvOk.know (vals _) P G _ (envAt _) [spk] fun z hz => by
    simp only [List.mem_singleton] at hz
    subst hz
    exact hsp _
  refine TriL.go 6 hE0 hg stays_none (tb := []) trivial le1 kA ?_
  rw [List.map_cons, List.map_cons, List.map_cons, List.map_cons, List.map_nil, zeros_den _ l]
  simp only [D.tm_den, den_int, den_bool, den_str, den_v, den_op, dens_nil, dens_cons, vals_at, List.getD_cons_succ, List.getD_cons_zero, List.getD_nil, List.map_cons, List.map_nil, Int.toNat_natCast, tden_bin, tden_shift, tden_conv, tden_not, tden_and, tden_sbin, tden_slen, tden_len, tden_nth, tden_fld, tden_mk, tden_cat, tden_sub, tden_set, tden_setf, tden_rep, tden_sget, tden_ssub, tden_ite, tden_bytes, tden_text, tden_fits, tden_nadd, tden_nsub, tden_small, intD_add, intD_sub, intD_mul, intD_quo, intD_rem, intD_eql, intD_neq, intD_lss, intD_leq, intD_gtr, intD_geq, D.int.injEq, D.bool.injEq, D.str.injEq, D.list.injEq, decide_eq_true_eq, decide_eq_false_iff_not, beq_iff_eq]
  rw [at6]
  have e127 : (127 : Int) = ((2 ^ 7 - 1 : Nat) : Int) := rfl
  have e511 : (511 : Int) = ((2 ^ 9 - 1 : Nat) : Int) := rfl
  refine TriL.cons stays_none (Q1 := fun V' ex σ' => ex = .normal ∧ σ' = laid ∧ V' = vals [di l, .int lo, .int hi, di (ws l)]) (Tri.block ?_) ?_ (fun V' ex σ' hne h => absurd h.1 hne)
  · refine Tri.loops (α := Nat) (fun i => i ≤ 32 ∧ i ≤ l.length) (fun i => 32 - i) (fun i => vals [di l, .int lo, .int hi, di (pg l i)]) inv stays_none ?_ 0 ⟨by omega, Nat.zero_le _⟩
    rintro i ⟨hi32, hil⟩
    refine Tri.flat (by kernel_rfl) ?_
    show TriL P G _ cx none 1 lp (inv i) _
    have t1 : ∀ b : Bool, b = decide (i < l.length) → @AllEq (vals [di l, .int lo, .int hi, di (pg l i)]) (T1 b i) := by
      rintro b rfl
      refine ⟨?_, trivial⟩
      simp only [D.tm_den, den_int, den_bool, den_str, den_v, den_op, dens_nil, dens_cons, vals_at, List.getD_cons_succ, List.getD_cons_zero, List.getD_nil, List.map_cons, List.map_nil, Int.toNat_natCast, tden_bin, tden_shift, tden_conv, tden_not, tden_and, tden_sbin, tden_slen, tden_len, tden_nth, tden_fld, tden_mk, tden_cat, tden_sub, tden_set, tden_setf, tden_rep, tden_sget, tden_ssub, tden_ite, tden_bytes, tden_text, tden_fits, tden_nadd, tden_nsub, tden_small, intD_add, intD_sub, intD_mul, intD_quo, intD_rem, intD_eql, intD_neq, intD_lss, intD_leq, intD_gtr, intD_geq, D.int.injEq, D.bool.injEq, D.str.injEq, D.list.injEq, decide_eq_true_eq, decide_eq_false_iff_not, beq_iff_eq, di, di_len]
      rw [Bool.eq_iff_iff]; simp
    by_cases h32 : i = 32
    · subst h32
      refine TriL.fin (envAt _) hg (tb := T1 (decide (32 < l.length)) 32) (t1 _ rfl) (by show 1 ≤ 5; omega) (kX32 _) (.inr ⟨by simp, rfl, rfl, ?_⟩)
      rw [pg_end l 32 (.inl (Nat.le_refl _))]
      simp only [D.tm_den, den_int, den_bool, den_str, den_v, den_op, dens_nil, dens_cons, vals_at, List.getD_cons_succ, List.getD_cons_zero, List.getD_nil, List.map_cons, List.map_nil, Int.toNat_natCast, tden_bin, tden_shift, tden_conv, tden_not, tden_and, tden_sbin, tden_slen, tden_len, tden_nth, tden_fld, tden_mk, tden_cat, tden_sub, tden_set, tden_setf, tden_rep, tden_sget, tden_ssub, tden_ite, tden_bytes, tden_text, tden_fits, tden_nadd, tden_nsub, tden_small, intD_add, intD_sub, intD_mul, intD_quo, intD_rem, intD_eql, intD_neq, intD_lss, intD_leq, intD_gtr, intD_geq, D.int.injEq, D.bool.injEq, D.str.injEq, D.list.injEq, decide_eq_true_eq, decide_eq_false_iff_not, beq_iff_eq]
    · by_cases hlt : i < l.length
      · refine TriL.fin (envAt _) hg (tb := T1 true i) (t1 _ (by simp [hlt])) (by show 1 ≤ 5; omega) (kL i (by omega)) (.inl ⟨rfl, i + 1, rfl, ?_, ⟨by omega, by omega⟩, by show 32 - (i + 1) < 32 - i; omega⟩)
        rw [List.map_cons, List.map_cons, List.map_cons, List.map_cons, List.map_nil, upd_den l i hlt]
        simp only [D.tm_den, den_int, den_bool, den_str, den_v, den_op, dens_nil, dens_cons, vals_at, List.getD_cons_succ, List.getD_cons_zero, List.getD_nil, List.map_cons, List.map_nil, Int.toNat_natCast, tden_bin, tden_shift, tden_conv, tden_not, tden_and, tden_sbin, tden_slen, tden_len, tden_nth, tden_fld, tden_mk, tden_cat, tden_sub, tden_set, tden_setf, tden_rep, tden_sget, tden_ssub, tden_ite, tden_bytes, tden_text, tden_fits, tden_nadd, tden_nsub, tden_small, intD_add, intD_sub, intD_mul, intD_quo, intD_rem, intD_eql, intD_neq, intD_lss, intD_leq, intD_gtr, intD_geq, D.int.injEq, D.bool.injEq, D.str.injEq, D.list.injEq, decide_eq_true_eq, decide_eq_false_iff_not, beq_iff_eq]
      · refine TriL.fin (envAt _) hg (tb := T1 false i) (t1 _ (by simp [hlt])) (by show 1 ≤ 5; omega) (kX i (by omega)) (.inr ⟨by simp, rfl, rfl, ?_⟩)
        rw [pg_end l i (.inr (by omega))]
        simp only [D.tm_den, den_int, den_bool, den_str, den_v, den_op, dens_nil, dens_cons, vals_at, List.getD_cons_succ, List.getD_cons_zero, List.getD_nil, List.map_cons, List.map_nil, Int.toNat_natCast, tden_bin, tden_shift, tden_conv, tden_not, tden_and, tden_sbin, tden_slen, tden_len, tden_nth, tden_fld, tden_mk, tden_cat, tden_sub, tden_set, tden_setf, tden_rep, tden_sget, tden_ssub, tden_ite, tden_bytes, tden_text, tden_fits, tden_nadd, tden_nsub, tden_small, intD_add, intD_sub, intD_mul, intD_quo, intD_rem, intD_eql, intD_neq, intD_lss, intD_leq, intD_gtr, intD_geq, D.int.injEq, D.bool.injEq, D.str.injEq, D.list.injEq, decide_eq_true_eq, decide_eq_false_iff_not, beq_iff_eq]
  · rintro V' σ' ⟨-, rfl, rfl⟩
    have ha : lo % 128 < 128 := Nat.mod_lt _ (by omega)
    generalize hae : lo % 128 = a at ha
    have hb : hi % 512 < 512 := Nat.mod_lt _ (by omega)
    have lo_den : ∀ d d' : D, @Tm.den (vals [di l, .int lo, .int hi, d, d']) loT = .int ((65536 + 8 * a : Nat) : Int) := by
      intro d d'
      unfold loT
      simp only [D.tm_den, den_int, den_bool, den_str, den_v, den_op, dens_nil, dens_cons, vals_at, List.getD_cons_succ, List.getD_cons_zero, List.getD_nil, List.map_cons, List.map_nil, Int.toNat_natCast, tden_bin, tden_shift, tden_conv, tden_not, tden_and, tden_sbin, tden_slen, tden_len, tden_nth, tden_fld, tden_mk, tden_cat, tden_sub, tden_set, tden_setf, tden_rep, tden_sget, tden_ssub, tden_ite, tden_bytes, tden_text, tden_fits, tden_nadd, tden_nsub, tden_small, intD_add, intD_sub, intD_mul, intD_quo, intD_rem, intD_eql, intD_neq, intD_lss, intD_leq, intD_gtr, intD_geq, D.int.injEq, D.bool.injEq, D.str.injEq, D.list.injEq, decide_eq_true_eq, decide_eq_false_iff_not, beq_iff_eq]
      rw [e127, and_mask lo 7 hlo (by omega), show (2 : Nat) ^ 7 = 128 from rfl, hae]
      simp only [D.tm_den, den_int, den_bool, den_str, den_v, den_op, dens_nil, dens_cons, vals_at, List.getD_cons_succ, List.getD_cons_zero, List.getD_nil, List.map_cons, List.map_nil, Int.toNat_natCast, tden_bin, tden_shift, tden_conv, tden_not, tden_and, tden_sbin, tden_slen, tden_len, tden_nth, tden_fld, tden_mk, tden_cat, tden_sub, tden_set, tden_setf, tden_rep, tden_sget, tden_ssub, tden_ite, tden_bytes, tden_text, tden_fits, tden_nadd, tden_nsub, tden_small, intD_add, intD_sub, intD_mul, intD_quo, intD_rem, intD_eql, intD_neq, intD_lss, intD_leq, intD_gtr, intD_geq, D.int.injEq, D.bool.injEq, D.str.injEq, D.list.injEq, decide_eq_true_eq, decide_eq_false_iff_not, beq_iff_eq]
      rw [wrap_u64 (n := (a : Int) * 8) (by omega), wrap_u64 (by omega)]
      congr 1; omega
    have hi_den : ∀ d d' : D, @Tm.den (vals [di l, .int lo, .int hi, d, d']) hiT = .int ((65536 + hi % 512 : Nat) : Int) := by
      intro d d'
      unfold hiT
      simp only [D.tm_den, den_int, den_bool, den_str, den_v, den_op, dens_nil, dens_cons, vals_at, List.getD_cons_succ, List.getD_cons_zero, List.getD_nil, List.map_cons, List.map_nil, Int.toNat_natCast, tden_bin, tden_shift, tden_conv, tden_not, tden_and, tden_sbin, tden_slen, tden_len, tden_nth, tden_fld, tden_mk, tden_cat, tden_sub, tden_set, tden_setf, tden_rep, tden_sget, tden_ssub, tden_ite, tden_bytes, tden_text, tden_fits, tden_nadd, tden_nsub, tden_small, intD_add, intD_sub, intD_mul, intD_quo, intD_rem, intD_eql, intD_neq, intD_lss, intD_leq, intD_gtr, intD_geq, D.int.injEq, D.bool.injEq, D.str.injEq, D.list.injEq, decide_eq_true_eq, decide_eq_false_iff_not, beq_iff_eq]
      rw [e511, and_mask hi 9 hhi (by omega), show (2 : Nat) ^ 9 = 512 from rfl]
      simp only [D.tm_den, den_int, den_bool, den_str, den_v, den_op, dens_nil, dens_cons, vals_at, List.getD_cons_succ, List.getD_cons_zero, List.getD_nil, List.map_cons, List.map_nil, Int.toNat_natCast, tden_bin, tden_shift, tden_conv, tden_not, tden_and, tden_sbin, tden_slen, tden_len, tden_nth, tden_fld, tden_mk, tden_cat, tden_sub, tden_set, tden_setf, tden_rep, tden_sget, tden_ssub, tden_ite, tden_bytes, tden_text, tden_fits, tden_nadd, tden_nsub, tden_small, intD_add, intD_sub, intD_mul, intD_quo, intD_rem, intD_eql, intD_neq, intD_lss, intD_leq, intD_gtr, intD_geq, D.int.injEq, D.bool.injEq, D.str.injEq, D.list.injEq, decide_eq_true_eq, decide_eq_false_iff_not, beq_iff_eq]
      rw [wrap_u64 (by omega)]
      congr 1
    have hcd : (65536 + hi % 512) < 70000 := by omega
    have hcl : 65536 ≤ 65536 + hi % 512 := by omega
    generalize 65536 + hi % 512 = h' at hi_den hcd hcl
    have hwl := ws_len l
    have hwb := ws_lt l hl
    have hVf : ∀ V : Val, V.code = codeAt P → valsC V.code ([(di l).tm, .int (lo : Int), .int (hi : Int)].map (@Tm.den V)) = vals [di l, .int lo, .int hi] := by
      intro V hV
      rw [hV]
      simp only [D.tm_den, den_int, den_bool, den_str, den_v, den_op, dens_nil, dens_cons, vals_at, List.getD_cons_succ, List.getD_cons_zero, List.getD_nil, List.map_cons, List.map_nil, Int.toNat_natCast, tden_bin, tden_shift, tden_conv, tden_not, tden_and, tden_sbin, tden_slen, tden_len, tden_nth, tden_fld, tden_mk, tden_cat, tden_sub, tden_set, tden_setf, tden_rep, tden_sget, tden_ssub, tden_ite, tden_bytes, tden_text, tden_fits, tden_nadd, tden_nsub, tden_small, intD_add, intD_sub, intD_mul, intD_quo, intD_rem, intD_eql, intD_neq, intD_lss, intD_leq, intD_gtr, intD_geq, D.int.injEq, D.bool.injEq, D.str.injEq, D.list.injEq, decide_eq_true_eq, decide_eq_false_iff_not, beq_iff_eq]
    have hkv := kV a ha
    unfold chkV at hkv
    rw [Bool.and_eq_true] at hkv
    have hkw := kW a ha
    unfold chkW at hkw
    rw [Bool.and_eq_true] at hkw
    by_cases hc : cnt a h' = 0 ∨ a + cnt a h' ≤ 32
    · refine TriL.go 0 (envAt _) hg stays_none (tb := []) trivial (by show 1 ≤ 5; omega) (kG (di (((ws l).drop a).take (cnt a h'))).tm) ?_
      simp only [D.tm_den, den_int, den_bool, den_str, den_v, den_op, dens_nil, dens_cons, vals_at, List.getD_cons_succ, List.getD_cons_zero, List.getD_nil, List.map_cons, List.map_nil, Int.toNat_natCast, tden_bin, tden_shift, tden_conv, tden_not, tden_and, tden_sbin, tden_slen, tden_len, tden_nth, tden_fld, tden_mk, tden_cat, tden_sub, tden_set, tden_setf, tden_rep, tden_sget, tden_ssub, tden_ite, tden_bytes, tden_text, tden_fits, tden_nadd, tden_nsub, tden_small, intD_add, intD_sub, intD_mul, intD_quo, intD_rem, intD_eql, intD_neq, intD_lss, intD_leq, intD_gtr, intD_geq, D.int.injEq, D.bool.injEq, D.str.injEq, D.list.injEq, decide_eq_true_eq, decide_eq_false_iff_not, beq_iff_eq]
      rw [List.drop_zero]
      have hs := wd.ok (ws l) hwl hwb a ha h' hcd hc
      have hE : @EnvOk (vals [di l, .int lo, .int hi, di (ws l), di (((ws l).drop a).take (cnt a h'))]) P G (E0.know [yw a]) := @EnvOk.know (vals _) P G _ (envAt _) [yw a] fun z hz => by
        simp only [List.mem_singleton] at hz
        subst hz
        refine Fact.use (tb := TW a) (ts := wts) (l := nm4) ⟨?_, trivial⟩ ?_ hs hkv.1
        · rw [lo_den]; rfl
        · unfold wts
          rw [List.map_cons, List.map_cons, List.map_cons, List.map_cons, List.map_nil, hi_den]
          simp only [D.tm_den, den_int, den_bool, den_str, den_v, den_op, dens_nil, dens_cons, vals_at, List.getD_cons_succ, List.getD_cons_zero, List.getD_nil, List.map_cons, List.map_nil, Int.toNat_natCast, tden_bin, tden_shift, tden_conv, tden_not, tden_and, tden_sbin, tden_slen, tden_len, tden_nth, tden_fld, tden_mk, tden_cat, tden_sub, tden_set, tden_setf, tden_rep, tden_sget, tden_ssub, tden_ite, tden_bytes, tden_text, tden_fits, tden_nadd, tden_nsub, tden_small, intD_add, intD_sub, intD_mul, intD_quo, intD_rem, intD_eql, intD_neq, intD_lss, intD_leq, intD_gtr, intD_geq, D.int.injEq, D.bool.injEq, D.str.injEq, D.list.injEq, decide_eq_true_eq, decide_eq_false_iff_not, beq_iff_eq]
      refine TriL.go 2 hE hg stays_none (tb := TW a) ⟨by rw [lo_den]; rfl, trivial⟩ (by show 1 ≤ 5; omega) hkw.1 ?_
      rw [List.map_cons, List.map_cons, List.map_cons, List.map_cons, List.map_nil, hi_den]
      unfold st.atT
      simp only [D.tm_den, den_int, den_bool, den_str, den_v, den_op, dens_nil, dens_cons, vals_at, List.getD_cons_succ, List.getD_cons_zero, List.getD_nil, List.map_cons, List.map_nil, Int.toNat_natCast, tden_bin, tden_shift, tden_conv, tden_not, tden_and, tden_sbin, tden_slen, tden_len, tden_nth, tden_fld, tden_mk, tden_cat, tden_sub, tden_set, tden_setf, tden_rep, tden_sget, tden_ssub, tden_ite, tden_bytes, tden_text, tden_fits, tden_nadd, tden_nsub, tden_small, intD_add, intD_sub, intD_mul, intD_quo, intD_rem, intD_eql, intD_neq, intD_lss, intD_leq, intD_gtr, intD_geq, D.int.injEq, D.bool.injEq, D.str.injEq, D.list.injEq, decide_eq_true_eq, decide_eq_false_iff_not, beq_iff_eq]
      rw [List.drop_drop]
      exact tail_ok l a h' ha hcl hcd hc _ _ _ _ hVf
    · have h1 : 0 < cnt a h' := by omega
      have h2 : 32 < a + cnt a h' := by omega
      refine TriL.go 0 (envAt _) hg stays_none (tb := []) trivial (by show 1 ≤ 5; omega) (kG (.op .mk [])) ?_
      simp only [D.tm_den, den_int, den_bool, den_str, den_v, den_op, dens_nil, dens_cons, vals_at, List.getD_cons_succ, List.getD_cons_zero, List.getD_nil, List.map_cons, List.map_nil, Int.toNat_natCast, tden_bin, tden_shift, tden_conv, tden_not, tden_and, tden_sbin, tden_slen, tden_len, tden_nth, tden_fld, tden_mk, tden_cat, tden_sub, tden_set, tden_setf, tden_rep, tden_sget, tden_ssub, tden_ite, tden_bytes, tden_text, tden_fits, tden_nadd, tden_nsub, tden_small, intD_add, intD_sub, intD_mul, intD_quo, intD_rem, intD_eql, intD_neq, intD_lss, intD_leq, intD_gtr, intD_geq, D.int.injEq, D.bool.injEq, D.str.injEq, D.list.injEq, decide_eq_true_eq, decide_eq_false_iff_not, beq_iff_eq]
      rw [List.drop_zero]
      have hs := wd.bad (ws l) hwl hwb a ha h' hcd h1 h2
      have hE : @EnvOk (vals [di l, .int lo, .int hi, di (ws l), .list []]) P G (E0.know [ywb a]) := @EnvOk.know (vals _) P G _ (envAt _) [ywb a] fun z hz => by
        simp only [List.mem_singleton] at hz
        subst hz
        refine Fact.use (tb := TW a) (ts := wts) (l := nm4) ⟨?_, trivial⟩ ?_ hs hkv.2
        · rw [lo_den]; rfl
        · unfold wts
          rw [List.map_cons, List.map_cons, List.map_cons, List.map_cons, List.map_nil, hi_den]
          simp only [D.tm_den, den_int, den_bool, den_str, den_v, den_op, dens_nil, dens_cons, vals_at, List.getD_cons_succ, List.getD_cons_zero, List.getD_nil, List.map_cons, List.map_nil, Int.toNat_natCast, tden_bin, tden_shift, tden_conv, tden_not, tden_and, tden_sbin, tden_slen, tden_len, tden_nth, tden_fld, tden_mk, tden_cat, tden_sub, tden_set, tden_setf, tden_rep, tden_sget, tden_ssub, tden_ite, tden_bytes, tden_text, tden_fits, tden_nadd, tden_nsub, tden_small, intD_add, intD_sub, intD_mul, intD_quo, intD_rem, intD_eql, intD_neq, intD_lss, intD_leq, intD_gtr, intD_geq, D.int.injEq, D.bool.injEq, D.str.injEq, D.list.injEq, decide_eq_true_eq, decide_eq_false_iff_not, beq_iff_eq]
      refine TriL.go 2 hE hg stays_none (tb := TW a) ⟨by rw [lo_den]; rfl, trivial⟩ (by show 1 ≤ 5; omega) hkw.2 ?_
      rw [List.map_cons, List.map_cons, List.map_cons, List.map_cons, List.map_nil, hi_den]
      unfold st.atT
      simp only [D.tm_den, den_int, den_bool, den_str, den_v, den_op, dens_nil, dens_cons, vals_at, List.getD_cons_succ, List.getD_cons_zero, List.getD_nil, List.map_cons, List.map_nil, Int.toNat_natCast, tden_bin, tden_shift, tden_conv, tden_not, tden_and, tden_sbin, tden_slen, tden_len, tden_nth, tden_fld, tden_mk, tden_cat, tden_sub, tden_set, tden_setf, tden_rep, tden_sget, tden_ssub, tden_ite, tden_bytes, tden_text, tden_fits, tden_nadd, tden_nsub, tden_small, intD_add, intD_sub, intD_mul, intD_quo, intD_rem, intD_eql, intD_neq, intD_lss, intD_leq, intD_gtr, intD_geq, D.int.injEq, D.bool.injEq, D.str.injEq, D.list.injEq, decide_eq_true_eq, decide_eq_false_iff_not, beq_iff_eq]
      rw [List.drop_drop]
      have hle : ¬ h' ≤ 65536 + 8 * a := fun e => by rw [show cnt a h' = 0 from if_pos e] at h1; omega
      have hn := num_den (vals [di l, .int ((65536 + 8 * a : Nat) : Int), .int h', .list []]) (65536 + 8 * a) h' (by omega) (by omega) hcd rfl rfl
      rw [← show cnt a h' = (h' - (65536 + 8 * a)) / 8 from if_neg hle] at hn
      have hcb : cnt a h' ≤ 600 := by unfold cnt; split <;> omega
      refine TriL.fin (envAt _) hg (tb := [leT false, gtN true, gtE true]) ⟨?_, ?_, ?_, trivial⟩ le1 (kB1 (di l).tm (.int (lo : Int)) (.int (hi : Int))) ⟨hVf _ rfl, rfl, rfl⟩
      · simp only [leT]; simp only [D.tm_den, den_int, den_bool, den_str, den_v, den_op, dens_nil, dens_cons, vals_at, List.getD_cons_succ, List.getD_cons_zero, List.getD_nil, List.map_cons, List.map_nil, Int.toNat_natCast, tden_bin, tden_shift, tden_conv, tden_not, tden_and, tden_sbin, tden_slen, tden_len, tden_nth, tden_fld, tden_mk, tden_cat, tden_sub, tden_set, tden_setf, tden_rep, tden_sget, tden_ssub, tden_ite, tden_bytes, tden_text, tden_fits, tden_nadd, tden_nsub, tden_small, intD_add, intD_sub, intD_mul, intD_quo, intD_rem, intD_eql, intD_neq, intD_lss, intD_leq, intD_gtr, intD_geq, D.int.injEq, D.bool.injEq, D.str.injEq, D.list.injEq, decide_eq_true_eq, decide_eq_false_iff_not, beq_iff_eq]; omega
      · simp only [gtN]; simp only [D.tm_den, den_int, den_bool, den_str, den_v, den_op, dens_nil, dens_cons, vals_at, List.getD_cons_succ, List.getD_cons_zero, List.getD_nil, List.map_cons, List.map_nil, Int.toNat_natCast, tden_bin, tden_shift, tden_conv, tden_not, tden_and, tden_sbin, tden_slen, tden_len, tden_nth, tden_fld, tden_mk, tden_cat, tden_sub, tden_set, tden_setf, tden_rep, tden_sget, tden_ssub, tden_ite, tden_bytes, tden_text, tden_fits, tden_nadd, tden_nsub, tden_small, intD_add, intD_sub, intD_mul, intD_quo, intD_rem, intD_eql, intD_neq, intD_lss, intD_leq, intD_gtr, intD_geq, D.int.injEq, D.bool.injEq, D.str.injEq, D.list.injEq, decide_eq_true_eq, decide_eq_false_iff_not, beq_iff_eq, hn, gt_iff_lt]; omega
      · simp only [gtE, endT]
        simp only [D.tm_den, den_int, den_bool, den_str, den_v, den_op, dens_nil, dens_cons, vals_at, List.getD_cons_succ, List.getD_cons_zero, List.getD_nil, List.map_cons, List.map_nil, Int.toNat_natCast, tden_bin, tden_shift, tden_conv, tden_not, tden_and, tden_sbin, tden_slen, tden_len, tden_nth, tden_fld, tden_mk, tden_cat, tden_sub, tden_set, tden_setf, tden_rep, tden_sget, tden_ssub, tden_ite, tden_bytes, tden_text, tden_fits, tden_nadd, tden_nsub, tden_small, intD_add, intD_sub, intD_mul, intD_quo, intD_rem, intD_eql, intD_neq, intD_lss, intD_leq, intD_gtr, intD_geq, D.int.injEq, D.bool.injEq, D.str.injEq, D.list.injEq, decide_eq_true_eq, decide_eq_false_iff_not, beq_iff_eq, hn, gt_iff_lt]
        rw [wrap_u64 (n := ((cnt a h' : Nat) : Int)) (by omega), wrap_u64 (n := 8 * ((cnt a h' : Nat) : Int)) (by omega), wrap_u64 (by omega)]
        omega
end iw
end Go.Proofs.YtjmjbjnbfodalaaGreat
