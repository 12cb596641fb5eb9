/- lazy.Lay of slots that are laid late: each slot's word is its entry. Conditions: numbers as a 16-bit id has, at most 12 slots. -/
import Derived.Test.YtjmjbjnbfodalaaGreatLzLayK
import Derived.Test.YtjmjbjnbfodalaaGreatLzResK
set_option linter.unusedSimpArgs false
set_option linter.unusedVariables false
set_option linter.unusedSectionVars false
set_option maxRecDepth 100000
namespace Go.Proofs.YtjmjbjnbfodalaaGreat
open Go.Tc
namespace lz
theorem mk_den (V : Val) (l : List Tm) : @Tm.den V (.op .mk l) = .list (l.map (@Tm.den V)) := by
  letI := V
  rw [den_op, tden_mk, dens_map]
def ent (id : Int) (k : Nat) : Int := 0x10000000000 + 8 * (id * 256 + k)
def wl (id : Int) (k : Nat) : D := .list ((List.range 12).map fun j => .int (if j < k then ent id j else 0))
theorem Mof_len (b : Int) (n : Nat) (s : Nat → Int) : (Mof b n s).length = n := by simp [Mof]
theorem bnds_at (id fv b : Int) (n k : Nat) (s : Nat → Int) (h : k < n) : ∃ l, ((Mof b n s).map (bnd id fv)).getD k .bad = .list (.int (b + 8 * (k : Int)) :: l) := by
  have : ((Mof b n s).map (bnd id fv)).getD k .bad = bnd id fv (b + 8 * (k : Int), s k) := by
    simp [List.getD_eq_getElem?_getD, Mof, h]
  rw [this]
  unfold bnd
  split <;> exact ⟨_, rfl⟩
namespace ly
noncomputable abbrev V (sl tx fvD : D) (id fv b : Int) (n : Nat) (s : Nat → Int) (k : Nat) : Val := vals [sl, .int id, bnds id fv (Mof b n s), tx, fvD, wl id k]
theorem ok (np : Nat) (b : Int) (hA : evFl P (E0.tab []) 100000 cx none 19 (L.take 4) (startSt (xL np)) [] (subs (five ++ [.op .mk (List.replicate 12 (.int 0))])) nm .normal (invL np 0) = true)
    (hX : ∀ k, k < 13 → chkX np k = true) (hL : ∀ k, k < 12 → chkL np b k = true) (hZ : evFl P (E0.tab []) 100000 cx none 19 (L.drop 5) (finL np) [] (subs (five ++ [.v 5])) [(19, 19)] .ret (finL np) = true)
    (hE : endsSo P E0 cx fn (xL np) (finL np) = true)
    (sl tx fvD : D) (id fv : Int) (hid : 0 ≤ id ∧ id ≤ 65535) (n : Nat) (hn : n ≤ 12) (s : Nat → Int) : @Fact.Ok (V sl tx fvD id fv b n s n) P G (xL np) := by
  have hg : cx.glob = G := by kernel_rfl
  refine Fact.ok_tri (fn := fn) (cd := cd) (envAt _) func body (Q := fun V' ex σ' => V' = V sl tx fvD id fv b n s n ∧ ex = .ret ∧ σ' = finL np) ?tri ?hq
  case hq =>
    rintro V' ex σ' ⟨rfl, rfl, rfl⟩
    exact ⟨rfl, .inr rfl, hE⟩
  refine Tri.flat (by kernel_rfl) ?_
  show TriL P G _ cx none 19 L _ _
  refine TriL.go 4 (envAt _) hg stays_none (tb := []) trivial (Nat.le_refl 19) hA ?_
  have h0 : (five ++ [Tm.op .mk (List.replicate 12 (.int 0))]).map (@Tm.den (V sl tx fvD id fv b n s n)) = [sl, .int id, bnds id fv (Mof b n s), tx, fvD, wl id 0] := by
    simp [five, wl, valsC, List.range_succ, List.replicate]
  rw [h0, at4]
  refine TriL.cons stays_none (Q1 := fun V' ex σ' => ex = .normal ∧ σ' = finL np ∧ V' = V sl tx fvD id fv b n s n) (Tri.block ?_) ?_ (fun V' ex σ' hne h => absurd h.1 hne)
  · refine Tri.loops (α := Nat) (fun k => k ≤ n) (fun k => n - k) (fun k => V sl tx fvD id fv b n s k) (invL np) stays_none ?_ 0 (Nat.zero_le _)
    intro k hk
    refine Tri.flat (by kernel_rfl) ?_
    show TriL P G _ cx none 19 lp (invL np k) _
    have hlen : @Tm.den (V sl tx fvD id fv b n s k) (.op (.bin .lss .i64) [.int k, .op .len [.v 2]]) = .bool (decide (k < n)) := by
      show TOp.den (.bin .lss .i64) [.int k, TOp.den .len [bnds id fv (Mof b n s)]] = _
      simp only [bnds, tden_len, bnds_len, Mof_len, tden_bin, intD, D.bool.injEq]
      rw [Bool.eq_iff_iff]; simp
    by_cases hlt : k < n
    · have hl := hL k (by omega)
      unfold chkL at hl
      have hent : @Tm.den (V sl tx fvD id fv b n s k) (entT k) = .int (ent id k) := by
        unfold entT
        simp only [D.tm_den, den_int, den_bool, den_str, den_v, den_op, dens_nil, dens_cons, vals_at, List.getD_cons_succ, List.getD_cons_zero, List.getD_nil, List.map_cons, List.map_nil, Int.toNat_natCast, tden_bin, tden_shift, tden_conv, tden_not, tden_and, tden_sbin, tden_slen, tden_len, tden_nth, tden_fld, tden_mk, tden_cat, tden_sub, tden_set, tden_setf, tden_rep, tden_sget, tden_ssub, tden_ite, tden_bytes, tden_text, tden_fits, tden_nadd, tden_nsub, tden_small, intD_add, intD_sub, intD_mul, intD_quo, intD_rem, intD_eql, intD_neq, intD_lss, intD_leq, intD_gtr, intD_geq, D.int.injEq, D.bool.injEq, D.str.injEq, D.list.injEq, decide_eq_true_eq, decide_eq_false_iff_not, beq_iff_eq]
        rw [wrap_u64 (n := id) (by omega), wrap_u64 (n := id * 256) (by omega), wrap_u64 (n := id * 256 + (k : Int)) (by omega), wrap_u64 (n := 8 * (id * 256 + (k : Int))) (by omega), wrap_u64 (by omega)]
        rfl
      have hpos : 0 < ent id k ∧ ent id k < 2 ^ 62 := by unfold ent; omega
      refine TriL.fin (envAt _) hg (tb := tL b k) ⟨?_, ?_, ?_, ?_, ?_, ?_, trivial⟩ (by show 19 ≤ 21; omega) hl (.inl ⟨rfl, k + 1, rfl, ?_, hlt, by omega⟩)
      · obtain ⟨l, hl⟩ := bnds_at id fv b n k s hlt
        show TOp.den (.fld 0) [TOp.den .nth [bnds id fv (Mof b n s), .int k]] = .int (b + 8 * (k : Int))
        simp only [bnds, tden_nth, Int.toNat_natCast, hl]
        rfl
      · simp only [lenT]; rw [hlen]; simp [hlt]
      · show D.bool (decide (id < 0)) = .bool false
        simp; omega
      · show D.bool (decide (id > 0x40000000)) = .bool false
        simp; omega
      · show TOp.den (.bin .eql .u64) [@Tm.den (V sl tx fvD id fv b n s k) (entT k), .int 0] = .bool false
        rw [hent]; show D.bool (ent id k == 0) = .bool false
        simp; omega
      · show TOp.den (.bin .eql .i64) [@Tm.den (V sl tx fvD id fv b n s k) (entT k), .int 0] = .bool false
        rw [hent]; show D.bool (ent id k == 0) = .bool false
        simp; omega
      · have hw : @Tm.den (V sl tx fvD id fv b n s k) (wset k (entT k)) = wl id (k + 1) := by
          unfold wset wl
          rw [mk_den, List.map_map]
          congr 1
          apply List.map_congr_left
          intro j hj
          have hj : j < 12 := by simpa using hj
          simp only [Function.comp_apply]
          by_cases e : j = k
          · subst e
            rw [if_pos rfl, hent, if_pos (by omega)]
          · rw [if_neg e]
            show TOp.den .nth [wl id k, .int j] = _
            simp only [wl, tden_nth, Int.toNat_natCast]
            rw [List.getD_eq_getElem?_getD, List.getElem?_map, List.getElem?_range hj]
            simp only [Option.map_some, Option.getD_some, D.int.injEq]
            by_cases h1 : j < k
            · rw [if_pos h1, if_pos (by omega)]
            · rw [if_neg h1, if_neg (by omega)]
        show valsC (codeAt P) _ = valsC (codeAt P) _
        congr 1
        simp only [five, List.cons_append, List.nil_append, List.map_cons, List.map_nil, hw]
        rfl
    · have hkn : k = n := by omega
      subst hkn
      have hx := hX k (by omega)
      unfold chkX at hx
      refine TriL.fin (envAt _) hg (tb := [lenT k false]) ⟨?_, trivial⟩ (by show 19 ≤ 21; omega) hx (.inr ⟨by simp, rfl, rfl, ?_⟩)
      · simp only [lenT]; rw [hlen]; simp
      · rfl
  · rintro V' σ' ⟨-, rfl, rfl⟩
    refine TriL.fin (envAt _) hg (tb := []) trivial (by show 19 ≤ 20; omega) hZ ⟨?_, rfl, rfl⟩
    rfl
theorem ok4 (sl tx fvD : D) (id fv : Int) (hid : 0 ≤ id ∧ id ≤ 65535) (n : Nat) (hn : n ≤ 12) (s : Nat → Int) : @Fact.Ok (V sl tx fvD id fv 768 n s n) P G (xL 4) :=
  ok 4 768 kA4 (fun k hk => seg_at kX4 k (Nat.zero_le _) hk) (fun k hk => by
    by_cases h : k < 4
    · exact seg_at kL4_0 k (by omega) (by omega)
    by_cases h : k < 8
    · exact seg_at kL4_4 k (by omega) (by omega)
    · exact seg_at kL4_8 k (by omega) (by omega)) kZ4 (by kernel_rfl) sl tx fvD id fv hid n hn s
theorem ok5 (sl tx fvD : D) (id fv : Int) (hid : 0 ≤ id ∧ id ≤ 65535) (n : Nat) (hn : n ≤ 12) (s : Nat → Int) : @Fact.Ok (V sl tx fvD id fv 1024 n s n) P G (xL 5) :=
  ok 5 1024 kA5 (fun k hk => seg_at kX5 k (Nat.zero_le _) hk) (fun k hk => by
    by_cases h : k < 4
    · exact seg_at kL5_0 k (by omega) (by omega)
    by_cases h : k < 8
    · exact seg_at kL5_4 k (by omega) (by omega)
    · exact seg_at kL5_8 k (by omega) (by omega)) kZ5 (by kernel_rfl) sl tx fvD id fv hid n hn s
end ly
end lz
end Go.Proofs.YtjmjbjnbfodalaaGreat
set_option maxRecDepth 100000
namespace Go.Proofs.YtjmjbjnbfodalaaGreat
open Go.Tc
namespace lz
def wd (w : Nat → Int) : D := .list ((List.range 12).map fun j => .int (w j))
theorem wd_congr {w w' : Nat → Int} (h : ∀ j, j < 12 → w j = w' j) : wd w = wd w' := by
  unfold wd
  congr 1
  refine List.map_congr_left fun j hj => ?_
  rw [h j (List.mem_range.1 hj)]
def upd (w : Nat → Int) (k : Nat) (x : Int) (j : Nat) : Int := if j = k then x else w j
theorem wd_nth (V : Val) {w : Nat → Int} {v j : Nat} (hv : @Tm.den V (.v v) = wd w) (hj : j < 12) : @Tm.den V (.op .nth [.v v, .int j]) = .int (w j) := by
  letI := V
  rw [den_op, dens_cons, dens_cons, dens_nil, hv, den_int]
  simp only [wd, tden_nth, Int.toNat_natCast]
  rw [List.getD_eq_getElem?_getD, List.getElem?_map, List.getElem?_range hj]
  rfl
theorem wset_den (V : Val) {w : Nat → Int} {k : Nat} {t : Tm} {n : Int} (h5 : @Tm.den V (.v 5) = wd w) (ht : @Tm.den V t = .int n) : @Tm.den V (ly.wset k t) = wd (upd w k n) := by
  unfold ly.wset wd
  rw [mk_den, List.map_map]
  congr 1
  refine List.map_congr_left fun j hj => ?_
  have hj := List.mem_range.1 hj
  simp only [Function.comp_apply, upd]
  by_cases e : j = k
  · rw [if_pos e, if_pos e, ht]
  · rw [if_neg e, if_neg e, wd_nth V h5 hj]
theorem bnd_is (id fv b : Int) (n k : Nat) (s : Nat → Int) (h : k < n) : ((Mof b n s).map (bnd id fv)).getD k .bad = bnd id fv (b + 8 * (k : Int), s k) := by
  simp [List.getD_eq_getElem?_getD, Mof, h]
theorem el_den (V : Val) {id fv b : Int} {n k : Nat} {s : Nat → Int} (h2 : @Tm.den V (.v 2) = bnds id fv (Mof b n s)) (h : k < n) : @Tm.den V (elK k) = bnd id fv (b + 8 * (k : Int), s k) := by
  letI := V
  unfold elK
  rw [den_op, dens_cons, dens_cons, dens_nil, h2, den_int]
  simp only [bnds, tden_nth, Int.toNat_natCast]
  exact bnd_is id fv b n k s h
theorem fld_den (V : Val) {k i : Nat} {l : List D} (h : @Tm.den V (elK k) = .list l) : @Tm.den V (.op (.fld i) [elK k]) = l.getD i .bad := by
  letI := V
  rw [den_op, dens_cons, dens_nil, h, tden_fld]
theorem bnd_one (id fv : Int) (a u : Int) (h : u = 1) : bnd id fv (a, u) = .list [.int a, .int 5, .int 1, .int 0, .int id, .int 1, .int (65536 + fv), .bool true] := by
  subst h; rfl
theorem bnd_not (id fv : Int) (a u : Int) (h : u ≠ 1) : bnd id fv (a, u) = .list [.int a, .int 5, .int u, .int 0, .int 0, .int 0, .int 0, .bool false] := by
  unfold bnd; rw [if_neg h]
theorem len_den (V : Val) {id fv b : Int} {n : Nat} {s : Nat → Int} (h2 : @Tm.den V (.v 2) = bnds id fv (Mof b n s)) : @Tm.den V (.op .len [.v 2]) = .int n := by
  letI := V
  rw [den_op, dens_cons, dens_nil, h2]
  simp only [bnds, tden_len, bnds_len, Mof_len]
theorem lss_den (V : Val) {id fv b : Int} {n : Nat} {s : Nat → Int} (k : Nat) (h2 : @Tm.den V (.v 2) = bnds id fv (Mof b n s)) : @Tm.den V (.op (.bin .lss .i64) [.int k, .op .len [.v 2]]) = .bool (decide (k < n)) := by
  letI := V
  rw [den_op, dens_cons, dens_cons, dens_nil, len_den V h2, den_int, tden_bin]
  simp only [intD, D.bool.injEq]
  rw [Bool.eq_iff_iff]; simp
namespace ap
def av (fv : Int) (s : Nat → Int) (k : Nat) (j : Nat) : Int := if j < k then val fv (decide (s j = 1)) else 0
noncomputable abbrev V (sl tx fvD : D) (id fv b : Int) (n : Nat) (s : Nat → Int) (k : Nat) : Val := vals [sl, .int id, bnds id fv (Mof b n s), tx, fvD, wd (av fv s k)]
theorem seg4 {f : Nat → Bool} (h0 : seg f 0 4 = true) (h4 : seg f 4 1 = true) (k : Nat) (hk : k < 5) : f k = true := by
  by_cases h : k < 4
  · exact seg_at h0 k (by omega) (by omega)
  · exact seg_at h4 k (by omega) (by omega)
theorem seg12 {f : Nat → Bool} (h0 : seg f 0 4 = true) (h4 : seg f 4 4 = true) (h8 : seg f 8 4 = true) (k : Nat) (hk : k < 12) : f k = true := by
  by_cases h : k < 4
  · exact seg_at h0 k (by omega) (by omega)
  by_cases h : k < 8
  · exact seg_at h4 k (by omega) (by omega)
  · exact seg_at h8 k (by omega) (by omega)
end ap
namespace lo
end lo
namespace rs
noncomputable abbrev V (sl tx fvD : D) (id fv b : Int) (n : Nat) (s : Nat → Int) (l : List D) : Val := vals (sl :: .int id :: bnds id fv (Mof b n s) :: tx :: fvD :: l)
theorem t0_ok (sl tx fvD : D) (id fv b : Int) (n : Nat) (s : Nat → Int) (l : List D) (k : Nat) (hk : k < n) (hn : n ≤ 12) (c : Int) (hc : s k = c) (r : List (Tm × Tm)) (hr : @AllEq (V sl tx fvD id fv b n s l) r) : @AllEq (V sl tx fvD id fv b n s l) (t0 b k c ++ r) := by
  have hlen := lss_den (V sl tx fvD id fv b n s l) k (b := b) (n := n) (s := s) (fv := fv) (id := id) rfl
  have he := el_den (V sl tx fvD id fv b n s l) (b := b) (n := n) (s := s) (fv := fv) (id := id) rfl hk
  have hl2 := len_den (V sl tx fvD id fv b n s l) (b := b) (n := n) (s := s) (fv := fv) (id := id) rfl
  have hb : ∃ r6 r7 r4 r5, bnd id fv (b + 8 * (k : Int), s k) = .list [.int (b + 8 * (k : Int)), .int 5, .int (s k), .int 0, r4, r5, r6, r7] := by
    by_cases h1 : s k = 1
    · rw [bnd_one _ _ _ _ h1, h1]; exact ⟨_, _, _, _, rfl⟩
    · rw [bnd_not _ _ _ _ h1]; exact ⟨_, _, _, _, rfl⟩
  obtain ⟨r6, r7, r4, r5, hb⟩ := hb
  rw [hb, hc] at he
  refine ⟨?_, ?_, ?_, ?_, ?_, ?_, ?_, hr⟩
  · exact fld_den _ he
  · simp only [ly.lenT]; rw [hlen]; simp [hk]
  · letI := V sl tx fvD id fv b n s l
    rw [den_op, dens_cons, dens_nil, hlen]; simp [hk]
  · letI := V sl tx fvD id fv b n s l
    rw [den_op, dens_cons, dens_cons, dens_nil, hl2, den_int, tden_bin]
    simp only [intD, den_bool, D.bool.injEq, decide_eq_true_eq]; omega
  · exact fld_den _ he
  · exact fld_den _ he
  · exact fld_den _ he
theorem ok1 {np : Nat} {b fv : Int} {k : Nat} (h : chk1 np b fv k = true) (hx : chkE np fv k = true) (sl tx fvD : D) (id : Int) (n : Nat) (hn : n ≤ 12) (hk : k < n) (s : Nat → Int) (hs : s k = 1) (w : Nat → Int) :
    @Fact.Ok (V sl tx fvD id fv b n s [wd w, wd (upd w k (val fv true))]) P G (x np fv true k) := by
  unfold chkE at hx
  rw [Bool.and_eq_true, Bool.and_eq_true] at hx
  have hg : cx.glob = G := by kernel_rfl
  refine Fact.ok_tri (fn := fn) (cd := cd) (envAt _) func body (Q := fun V' ex σ' => V' = V sl tx fvD id fv b n s [wd w, wd (upd w k (val fv true))] ∧ ex = .ret ∧ σ' = fin np 6 (val fv true) fault) ?tri ?hq
  case hq =>
    rintro V' ex σ' ⟨rfl, rfl, rfl⟩
    exact ⟨rfl, .inr rfl, hx.1.1⟩
  refine Tri.flat (by kernel_rfl) ?_
  show TriL P G _ cx none 19 L _ _
  have he := el_den (V sl tx fvD id fv b n s [wd w, wd (upd w k (val fv true))]) (b := b) (n := n) (s := s) (fv := fv) (id := id) rfl hk
  rw [bnd_one _ _ _ _ hs] at he
  refine TriL.fin (envAt _) hg (tb := t1 b fv k) (t0_ok sl tx fvD id fv b n s _ k hk hn 1 hs _ ⟨fld_den _ he, fld_den _ he, trivial⟩) (Nat.le_refl 19) h ⟨?_, rfl, rfl⟩
  simp only [ly.five, List.cons_append, List.nil_append, List.map_cons, List.map_nil]
  rw [wset_den (V sl tx fvD id fv b n s [wd w, wd (upd w k (val fv true))]) (w := w) rfl rfl]
  rfl
theorem ok3 {np : Nat} {b fv : Int} {k : Nat} (h : chk3 np b fv k = true) (hx : chkE np fv k = true) (sl tx fvD : D) (id : Int) (n : Nat) (hn : n ≤ 12) (hk : k < n) (s : Nat → Int) (hs : s k = 3) (w : Nat → Int) :
    @Fact.Ok (V sl tx fvD id fv b n s [wd w, wd (upd w k (val fv false))]) P G (x np fv false k) := by
  unfold chkE at hx
  rw [Bool.and_eq_true, Bool.and_eq_true] at hx
  have hg : cx.glob = G := by kernel_rfl
  refine Fact.ok_tri (fn := fn) (cd := cd) (envAt _) func body (Q := fun V' ex σ' => V' = V sl tx fvD id fv b n s [wd w, wd (upd w k (val fv false))] ∧ ex = .ret ∧ σ' = fin np 6 (val fv false) fault) ?tri ?hq
  case hq =>
    rintro V' ex σ' ⟨rfl, rfl, rfl⟩
    exact ⟨rfl, .inr rfl, hx.1.2⟩
  refine Tri.flat (by kernel_rfl) ?_
  show TriL P G _ cx none 19 L _ _
  have he := el_den (V sl tx fvD id fv b n s [wd w, wd (upd w k (val fv false))]) (b := b) (n := n) (s := s) (fv := fv) (id := id) rfl hk
  rw [bnd_not _ _ _ _ (by omega)] at he
  refine TriL.fin (envAt _) hg (tb := t2 b k 3) (t0_ok sl tx fvD id fv b n s _ k hk hn 3 hs _ ⟨fld_den _ he, trivial⟩) (Nat.le_refl 19) h ⟨?_, rfl, rfl⟩
  simp only [ly.five, List.cons_append, List.nil_append, List.map_cons, List.map_nil]
  rw [wset_den (V sl tx fvD id fv b n s [wd w, wd (upd w k (val fv false))]) (w := w) rfl rfl]
  rfl
theorem ok2 {np : Nat} {b fv : Int} {k : Nat} (h : chk2 np b fv k = true) (hx : chkE np fv k = true) (sl tx fvD : D) (id : Int) (n : Nat) (hn : n ≤ 12) (hk : k < n) (s : Nat → Int) (hs : s k = 2) (w : Nat → Int) :
    @Fact.Ok (V sl tx fvD id fv b n s [wd w]) P G (xG np k) := by
  unfold chkE at hx
  rw [Bool.and_eq_true, Bool.and_eq_true] at hx
  have hg : cx.glob = G := by kernel_rfl
  refine Fact.ok_tri (fn := fn) (cd := cd) (envAt _) func body (Q := fun V' ex σ' => V' = V sl tx fvD id fv b n s [wd w] ∧ ex = .ret ∧ σ' = fin np 5 0 fltG) ?tri ?hq
  case hq =>
    rintro V' ex σ' ⟨rfl, rfl, rfl⟩
    exact ⟨rfl, .inr rfl, hx.2⟩
  refine Tri.flat (by kernel_rfl) ?_
  show TriL P G _ cx none 19 L _ _
  have he := el_den (V sl tx fvD id fv b n s [wd w]) (b := b) (n := n) (s := s) (fv := fv) (id := id) rfl hk
  rw [bnd_not _ _ _ _ (by omega)] at he
  exact TriL.fin (envAt _) hg (tb := t2 b k 2) (t0_ok sl tx fvD id fv b n s _ k hk hn 2 hs _ ⟨fld_den _ he, trivial⟩) (Nat.le_refl 19) h ⟨rfl, rfl, rfl⟩
structure Kit (np m : Nat) (b fv : Int) : Prop where
  n : chkN np = true
  e : ∀ k, k < m → chkE np fv k = true
  c1 : ∀ k, k < m → chk1 np b fv k = true
  c2 : ∀ k, k < m → chk2 np b fv k = true
  c3 : ∀ k, k < m → chk3 np b fv k = true
theorem kit4 : Kit 4 5 768 260 := ⟨n4, fun k hk => seg_at e4 k (by omega) (by omega), ap.seg4 c1_4_0 c1_4_4, ap.seg4 c2_4_0 c2_4_4, ap.seg4 c3_4_0 c3_4_4⟩
theorem kit5 : Kit 5 12 1024 516 := ⟨n5, fun k hk => seg_at e5 k (by omega) (by omega), ap.seg12 c1_5_0 c1_5_4 c1_5_8, ap.seg12 c2_5_0 c2_5_4 c2_5_8, ap.seg12 c3_5_0 c3_5_4 c3_5_8⟩
end rs
end lz
end Go.Proofs.YtjmjbjnbfodalaaGreat
