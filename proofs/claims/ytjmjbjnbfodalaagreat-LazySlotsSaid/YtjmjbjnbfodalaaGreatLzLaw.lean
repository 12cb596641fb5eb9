/- the law LazySlots, some slots: whatever their symbols, the number and the calls: true. Conditions: the contracts of what it calls. -/
import Derived.Test.YtjmjbjnbfodalaaGreatLzLay
import Derived.Test.YtjmjbjnbfodalaaGreatLzLawK
set_option linter.unusedSimpArgs false
set_option linter.unusedVariables false
set_option linter.unusedSectionVars false
set_option maxRecDepth 100000
namespace Go.Proofs.YtjmjbjnbfodalaaGreat
open Go.Tc
namespace lz
theorem byte_twice [Val] (x : Tm) : (Tm.op .byte [x]).den = (Tm.op .byte [.op .byte [x]]).den := by
  rw [den_op, dens_cons, dens_nil, den_op, dens_cons, dens_nil, den_op, dens_cons, dens_nil]
  generalize x.den = d
  show D.int ((d.nat % 256 : Nat) : Int) = D.int (((D.int ((d.nat % 256 : Nat) : Int)).nat % 256 : Nat) : Int)
  simp only [D.nat, Int.toNat_natCast, Nat.mod_mod]
theorem by1_eq [Val] (w : Tm) (j : Nat) : (by1 w j).den = (byTm w j).den := byte_twice _
theorem get1_eq [Val] (w : Tm) : ∀ k, (get1 w k).den = (getTm w k).den
  | 0 => rfl
  | 1 => by
    simp only [get1, getTm]
    rw [den_op, dens_cons, dens_cons, dens_nil, den_op, dens_cons, dens_nil, by1_eq, den_op, dens_cons, dens_cons, dens_nil, den_op, dens_cons, dens_nil]
  | k + 2 => by
    simp only [get1, getTm]
    rw [den_op, dens_cons, dens_cons, dens_nil, den_op, dens_cons, dens_cons, dens_nil, get1_eq w (k + 1), den_op, dens_cons, dens_nil, by1_eq,
      den_op, dens_cons, dens_cons, dens_nil, den_op, dens_cons, dens_cons, dens_nil, den_op, dens_cons, dens_nil]
theorem get1_den [Val] {w : Tm} {n : Int} (hw : w.den = .int n) (h0 : 0 ≤ n) (hn : n < 2 ^ 64) : (get1 w 8).den = .int n := by
  obtain ⟨m, rfl⟩ : ∃ m : Nat, n = m := ⟨n.toNat, by omega⟩
  rw [get1_eq, get8_den hw (by omega), hw]
theorem mask16 (id : Int) : ∃ r, intD .and .i64 id 65535 = .int r ∧ 0 ≤ r ∧ r ≤ 65535 := by
  refine ⟨((BitVec.ofInt 64 id &&& BitVec.ofInt 64 65535).toNat : Nat), ?_, by omega, ?_⟩
  · show D.int (IntKind.i64.wrap ((BitVec.ofInt 64 id &&& BitVec.ofInt 64 65535).toNat : Int)) = _
    have h : (BitVec.ofInt 64 id &&& BitVec.ofInt 64 65535).toNat ≤ 65535 := by
      rw [BitVec.toNat_and]
      exact Nat.le_trans Nat.and_le_right (by decide)
    rw [wrap_i64 (by omega)]
  · have h : (BitVec.ofInt 64 id &&& BitVec.ofInt 64 65535).toNat ≤ 65535 := by
      rw [BitVec.toNat_and]
      exact Nat.le_trans Nat.and_le_right (by decide)
    omega
theorem rem_den (V : Val) {sl : List Int} {k : Nat} (h0 : @Tm.den V (.v 0) = md.ints sl) (hk : k < sl.length) : @Tm.den V (ls.remT k) = .int (tt (sl.getD k 0)) := by
  letI := V
  have hx : (Tm.op .nth [.v 0, .int k]).den = .int (sl.getD k 0) := by
    rw [den_op, dens_cons, dens_cons, dens_nil, h0, den_int]
    simp only [md.ints, tden_nth, Int.toNat_natCast]
    exact md.ints_nth sl k hk
  have h3 := tmod3 (sl.getD k 0)
  unfold ls.remT
  rw [den_op, dens_cons, den_op, dens_cons, den_op, dens_cons, hx]
  simp only [dens_cons, dens_nil, den_int, tden_bin, intD, tt]
  rw [wrap_i64 (by omega)]
namespace ls
structure Kit (np m : Nat) (b fv : Int) : Prop where
  kb : chkB np = true
  kc : chkC np = true
  kd : chkD np = true
  ke : chkE np = true
  kn : chkN np = true
  kf : chkF np = true
  kh : ∀ k, k ≤ m → chkH np k = true
  v1 : ∀ k, k < m → chk1 np b fv k = true
  v2 : ∀ k, k < m → chk2 np b k = true
  v3 : ∀ k, k < m → chk3 np b fv k = true
  kg : ∀ d k, k < m → chkG np b d k = true
theorem kit4 : Kit 4 5 768 260 := ⟨b4, c4, d4, e4, n4, f4, fun k hk => seg_at h4 k (by omega) (by omega), ap.seg4 v1_4_0 v1_4_4, ap.seg4 v2_4_0 v2_4_4, ap.seg4 v3_4_0 v3_4_4, fun d => by
  cases d
  · exact ap.seg4 gf4_0 gf4_4
  · exact ap.seg4 gt4_0 gt4_4⟩
theorem kit5 : Kit 5 12 1024 516 := ⟨b5, c5, d5, e5, n5, f5, fun k hk => seg_at h5 k (by omega) (by omega), ap.seg12 v1_5_0 v1_5_4 v1_5_8, ap.seg12 v2_5_0 v2_5_4 v2_5_8, ap.seg12 v3_5_0 v3_5_4 v3_5_8, fun d => by
  cases d
  · exact ap.seg12 gf5_0 gf5_4 gf5_8
  · exact ap.seg12 gt5_0 gt5_4 gt5_8⟩
theorem kZg (g : Tm) : evFl P (E0.tab []) 100000 cx none 1 L13 fin0 [] (subs [.v 0, g, .v 7]) [] .ret fin = true := by kernel_rfl
noncomputable def D5 (sl : List Int) (r b fv : Int) (n : Nat) (tx : D) : List D := [md.ints sl, .int r, bnds r fv (Mof b n (symOf sl)), tx, .int fv]
noncomputable def D8 (sl calls : List Int) (r b fv : Int) (n : Nat) (tx : D) (w : Nat → Int) : List D := D5 sl r b fv n tx ++ [wd w, wd (ap.av fv (symOf sl) n), md.ints calls]
def dn (n : Nat) (d : Nat → Bool) : D := .list ((List.range n).map fun j => .bool (d j))
noncomputable def D10 (sl calls : List Int) (r b fv : Int) (n : Nat) (tx : D) (w : Nat → Int) (d : Nat → Bool) (i : Nat) : List D := D8 sl calls r b fv n tx w ++ [dn n d, .int (i : Nat)]
theorem dn_nth {n k : Nat} {d : Nat → Bool} (h : k < n) : ((List.range n).map fun j => D.bool (d j)).getD k .bad = .bool (d k) := by
  rw [List.getD_eq_getElem?_getD, List.getElem?_map, List.getElem?_range h]; rfl
theorem dn_set {n k : Nat} {d : Nat → Bool} : D.list (((List.range n).map fun j => D.bool (d j)).set k (.bool true)) = dn n fun j => if j = k then true else d j := by
  unfold dn
  congr 1
  refine List.ext_getElem (by simp) fun i h1 h2 => ?_
  simp only [List.getElem_set, List.getElem_map, List.getElem_range]
  by_cases e : k = i
  · rw [if_pos e, if_pos e.symm]
  · rw [if_neg e, if_neg (fun h => e h.symm)]
def Inv (r fv : Int) (s : Nat → Int) (n : Nat) (w : Nat → Int) (d : Nat → Bool) : Prop := ∀ j, j < n → w j = if d j then val fv (decide (s j = 1)) else ent r j
theorem Inv.upd {r fv : Int} {s : Nat → Int} {n : Nat} {w : Nat → Int} {d : Nat → Bool} (h : Inv r fv s n w d) (k : Nat) {f : Bool} (hf : decide (s k = 1) = f) : Inv r fv s n (upd w k (val fv f)) fun j => if j = k then true else d j := by
  intro j hj
  unfold lz.upd
  by_cases e : j = k
  · subst e; simp [hf]
  · simp [e, h j hj]
section
variable {np m : Nat} {b fv : Int} (K : Kit np m b fv) (R : rs.Kit np m b fv) (hfv : 0 ≤ fv ∧ fv ≤ 1000) (hm : m ≤ 12)
variable (sl calls : List Int) (r : Int) (hr : 0 ≤ r ∧ r ≤ 65535) (n : Nat) (hn : n ≤ m) (hns : n ≤ sl.length) (tx : D)
include K R hfv hm hr hn hns
theorem val_ne (f : Bool) (k : Nat) : val fv f ≠ ent r k := by
  unfold val ent
  cases f <;> simp <;> omega
omit K R hfv hm hr hn hns in
theorem at_map (w : Nat → Int) (d : Nat → Bool) (i : Nat) (l : List Tm) : (vs 5 ++ l).map (@Tm.den (vals (D10 sl calls r b fv n tx w d i))) = D5 sl r b fv n tx ++ l.map (@Tm.den (vals (D10 sl calls r b fv n tx w d i))) := by
  rw [List.map_append]; rfl
theorem known (w : Nat → Int) (d : Nat → Bool) (i : Nat) {y : Fact} (hy : @Fact.Ok (vals (D10 sl calls r b fv n tx w d i)) P G y) : @EnvOk (vals (D10 sl calls r b fv n tx w d i)) P G (E0.know [y]) :=
  @EnvOk.know (vals (D10 sl calls r b fv n tx w d i)) P G _ (envAt _) [y] fun z hz => by
    rw [List.mem_singleton] at hz
    rw [hz]; exact hy
theorem round (w : Nat → Int) (d : Nat → Bool) (i : Nat) (hi : i ≤ 20) (hI : Inv r fv (symOf sl) n w d) :
    TriL P G (vals (D10 sl calls r b fv n tx w d i)) cx none 1 lp (inv np) fun V' ex σ' => (ex = .normal ∧ σ' = inv np ∧ i < 20 ∧ ∃ w' d', V' = vals (D10 sl calls r b fv n tx w' d' (i + 1)) ∧ Inv r fv (symOf sl) n w' d') ∨ (ex = .exit 0 ∧ σ' = inv np ∧ V' = vals (D10 sl calls r b fv n tx w d i)) := by
  have hg : cx.glob = G := by kernel_rfl
  have hk0 : (1 : Nat) ≤ (inv np).next := by show 1 ≤ 38; omega
  obtain ⟨hN1, hX2⟩ := Bool.and_eq_true_iff.1 K.kn
  obtain ⟨hN1, hX1⟩ := Bool.and_eq_true_iff.1 hN1
  obtain ⟨hN1, hO1⟩ := Bool.and_eq_true_iff.1 hN1
  obtain ⟨hNu, hO0⟩ := Bool.and_eq_true_iff.1 hN1
  have h2 : @Tm.den (vals (D10 sl calls r b fv n tx w d i)) (.v 2) = bnds r fv (Mof b n (symOf sl)) := rfl
  have h0 : @Tm.den (vals (D10 sl calls r b fv n tx w d i)) (.v 0) = md.ints sl := rfl
  have h5 : @Tm.den (vals (D10 sl calls r b fv n tx w d i)) (.v 5) = wd w := rfl
  have h6 : @Tm.den (vals (D10 sl calls r b fv n tx w d i)) (.v 6) = wd (ap.av fv (symOf sl) n) := rfl
  have h7 : @Tm.den (vals (D10 sl calls r b fv n tx w d i)) (.v 7) = md.ints calls := rfl
  have h8 : @Tm.den (vals (D10 sl calls r b fv n tx w d i)) (.v 8) = dn n d := rfl
  have h9 : @Tm.den (vals (D10 sl calls r b fv n tx w d i)) (.v 9) = .int (i : Nat) := rfl
  have hlt : ∀ c : Bool, decide (i < calls.length) = c → @Tm.den (vals (D10 sl calls r b fv n tx w d i)) (ltC c).1 = @Tm.den (vals (D10 sl calls r b fv n tx w d i)) (ltC c).2 := by
    rintro c rfl
    letI := vals (D10 sl calls r b fv n tx w d i)
    show (Tm.op (.bin .lss .i64) [.v 9, .op .len [.v 7]]).den = .bool (decide (i < calls.length))
    rw [den_op, dens_cons, dens_cons, dens_nil, den_op, dens_cons, dens_nil, h7, h9]
    simp only [md.ints, tden_len, md.ints_len, tden_bin, intD, D.bool.injEq]
    rw [Bool.eq_iff_iff]; simp
  have h20 : ∀ c : Bool, decide (i < 20) = c → @Tm.den (vals (D10 sl calls r b fv n tx w d i)) (lt20 c).1 = @Tm.den (vals (D10 sl calls r b fv n tx w d i)) (lt20 c).2 := by
    rintro c rfl
    letI := vals (D10 sl calls r b fv n tx w d i)
    show (Tm.op (.bin .lss .i64) [.v 9, .int 20]).den = .bool (decide (i < 20))
    rw [den_op, dens_cons, dens_cons, dens_nil, h9, den_int]
    simp only [tden_bin, intD, D.bool.injEq]
    rw [Bool.eq_iff_iff]; simp; omega
  by_cases hc : i < calls.length
  case neg =>
    exact TriL.fin (envAt _) hg (tb := [ltC false]) ⟨hlt false (by simp [hc]), trivial⟩ hk0 hX1 (.inr ⟨rfl, rfl, rfl⟩)
  by_cases hi20 : i < 20
  case neg =>
    exact TriL.fin (envAt _) hg (tb := [ltC true, lt20 false]) ⟨hlt true (by simp [hc]), h20 false (by simp [hi20]), trivial⟩ hk0 hX2 (.inr ⟨rfl, rfl, rfl⟩)
  have hin : ∀ l, @AllEq (vals (D10 sl calls r b fv n tx w d i)) l → @AllEq (vals (D10 sl calls r b fv n tx w d i)) (inC ++ l) := fun l hl => by
    refine ⟨hlt true (by simp [hc]), h20 true (by simp [hi20]), ?_, hl⟩
    letI := vals (D10 sl calls r b fv n tx w d i)
    rw [den_op, dens_cons, dens_cons, dens_nil, h9, den_int]
    simp only [tden_bin, intD, den_bool, D.bool.injEq, decide_eq_true_eq]; omega
  have hcall : @Tm.den (vals (D10 sl calls r b fv n tx w d i)) callT = .int (calls.getD i 0) := by
    letI := vals (D10 sl calls r b fv n tx w d i)
    unfold callT
    rw [den_op, dens_cons, dens_cons, dens_nil, h7, h9]
    simp only [md.ints, tden_nth, Int.toNat_natCast]
    exact md.ints_nth calls i hc
  have hnxt : @Tm.den (vals (D10 sl calls r b fv n tx w d i)) nxt = .int ((i + 1 : Nat) : Int) := by
    letI := vals (D10 sl calls r b fv n tx w d i)
    unfold nxt
    rw [den_op, dens_cons, dens_cons, dens_nil, h9, den_int, tden_bin]
    simp only [intD]
    rw [wrap_i64 (by omega)]
    congr 1
  have hlen := len_den (vals (D10 sl calls r b fv n tx w d i)) h2
  have hto : (vs 9 ++ [nxt]).map (@Tm.den (vals (D10 sl calls r b fv n tx w d i))) = D10 sl calls r b fv n tx w d (i + 1) := by
    rw [List.map_append, List.map_cons, List.map_nil, hnxt]; rfl
  generalize calls.getD i 0 = c at hcall
  by_cases hout : c < 0 ∨ (n : Int) ≤ c
  · have hy : @Fact.Ok (vals (D10 sl calls r b fv n tx w d i)) P G (yO np) := by
      have he : (vs 6 ++ [callT]).map (@Tm.den (vals (D10 sl calls r b fv n tx w d i))) = D5 sl r b fv n tx ++ [wd w, .int c] := by
        rw [List.map_append, List.map_cons, List.map_nil, hcall]; rfl
      have hx : @Fact.Ok (vals (D5 sl r b fv n tx ++ [wd w, .int c])) P G (rs.xO np) := rs.okO R.n (md.ints sl) tx (.int fv) r fv b n (symOf sl) w c hout
      exact Fact.use (tb := []) trivial he hx hNu
    by_cases hneg : c < 0
    · refine TriL.fin (known K R hfv hm sl calls r hr n hn hns tx w d i hy) hg (tb := tO0) (hin _ ⟨?_, trivial⟩) hk0 hO0 (.inl ⟨rfl, rfl, hi20, w, d, ?_, hI⟩)
      · letI := vals (D10 sl calls r b fv n tx w d i)
        rw [den_op, dens_cons, dens_cons, dens_nil, hcall, den_int, tden_bin]
        simp only [intD, den_bool, D.bool.injEq, decide_eq_true_eq]; omega
      · rw [hto]
    · refine TriL.fin (known K R hfv hm sl calls r hr n hn hns tx w d i hy) hg (tb := tO1) (hin _ ⟨?_, ?_, trivial⟩) hk0 hO1 (.inl ⟨rfl, rfl, hi20, w, d, ?_, hI⟩)
      · letI := vals (D10 sl calls r b fv n tx w d i)
        rw [den_op, dens_cons, dens_cons, dens_nil, hcall, den_int, tden_bin]
        simp only [intD, den_bool, D.bool.injEq, decide_eq_false_iff_not]; omega
      · letI := vals (D10 sl calls r b fv n tx w d i)
        rw [den_op, dens_cons, dens_cons, dens_nil, hcall]
        show TOp.den (.bin .geq .i64) [.int c, (Tm.op .len [.v 2]).den] = _
        rw [hlen, tden_bin]
        simp only [intD, den_bool, D.bool.injEq, decide_eq_true_eq]; omega
      · rw [hto]
  obtain ⟨k, rfl⟩ : ∃ k : Nat, c = k := ⟨c.toNat, by omega⟩
  have hk : k < n := by omega
  have hkm : k < m := by omega
  have hrem := rem_den (vals (D10 sl calls r b fv n tx w d i)) h0 (show k < sl.length by omega)
  have he2 := el_den (vals (D10 sl calls r b fv n tx w d i)) h2 hk
  have tin : ∀ (x : Int) l, tt (sl.getD k 0) = x → @AllEq (vals (D10 sl calls r b fv n tx w d i)) l → @AllEq (vals (D10 sl calls r b fv n tx w d i)) (tIn b k x ++ l) := by
    intro x l hx hl
    rw [hx] at hrem
    have hat : @Tm.den (vals (D10 sl calls r b fv n tx w d i)) (.op (.fld 0) [.op .nth [.v 2, .int k]]) = .int (b + 8 * (k : Int)) := by
      have hb : ∃ l, bnd r fv (b + 8 * (k : Int), symOf sl k) = .list (.int (b + 8 * (k : Int)) :: l) := by unfold bnd; split <;> exact ⟨_, rfl⟩
      obtain ⟨l, hb⟩ := hb
      rw [hb] at he2
      exact fld_den (vals (D10 sl calls r b fv n tx w d i)) (i := 0) he2
    refine hin _ ⟨hcall, ?_, hat, ?_, ?_, hrem, hl⟩
    · letI := vals (D10 sl calls r b fv n tx w d i)
      rw [den_op, dens_cons, dens_cons, dens_nil, den_int]
      show TOp.den (.bin .geq .i64) [.int k, (Tm.op .len [.v 2]).den] = _
      rw [hlen, tden_bin]
      simp only [intD, den_bool, D.bool.injEq, decide_eq_false_iff_not]; omega
    · show @Tm.den (vals (D10 sl calls r b fv n tx w d i)) (.op (.bin .lss .i64) [.int k, .op .len [.v 2]]) = .bool true
      rw [lss_den (vals (D10 sl calls r b fv n tx w d i)) k h2]; simp [hk]
    · letI := vals (D10 sl calls r b fv n tx w d i)
      rw [den_op, dens_cons, dens_cons, dens_nil, den_op, dens_cons, dens_nil, h0, den_int]
      simp only [md.ints, tden_len, md.ints_len, tden_bin, intD, den_bool, D.bool.injEq, decide_eq_true_eq]; omega
  have hlt8 : @Tm.den (vals (D10 sl calls r b fv n tx w d i)) (lt8 k).1 = @Tm.den (vals (D10 sl calls r b fv n tx w d i)) (lt8 k).2 := by
    letI := vals (D10 sl calls r b fv n tx w d i)
    show (Tm.op (.bin .lss .i64) [.int k, .op .len [.v 8]]).den = .bool true
    rw [den_op, dens_cons, dens_cons, dens_nil, den_op, dens_cons, dens_nil, h8, den_int]
    simp only [dn, tden_len, List.length_map, List.length_range, tden_bin, intD, D.bool.injEq, decide_eq_true_eq]; omega
  have hw6 := wd_nth (vals (D10 sl calls r b fv n tx w d i)) h6 (show k < 12 by omega)
  have hval : ∀ f, 0 ≤ val fv f ∧ val fv f < 2 ^ 64 := fun f => by unfold val; cases f <;> simp <;> omega
  have hset : @Tm.den (vals (D10 sl calls r b fv n tx w d i)) (setD k) = dn n fun j => if j = k then true else d j := by
    letI := vals (D10 sl calls r b fv n tx w d i)
    unfold setD
    rw [den_op, dens_cons, dens_cons, dens_cons, dens_nil, h8, den_int, den_bool]
    simp only [dn, tden_set, Int.toNat_natCast]
    exact dn_set
  -- a slot that is bound
  have bound : ∀ (f : Bool) (x : Int), decide (symOf sl k = 1) = f → tt (sl.getD k 0) = x → @Fact.Ok (vals (D5 sl r b fv n tx ++ [wd w, wd (upd w k (val fv f))])) P G (rs.x np fv f k) → chkV np b fv f x k = true →
      TriL P G (vals (D10 sl calls r b fv n tx w d i)) cx none 1 lp (inv np) fun V' ex σ' => (ex = .normal ∧ σ' = inv np ∧ i < 20 ∧ ∃ w' d', V' = vals (D10 sl calls r b fv n tx w' d' (i + 1)) ∧ Inv r fv (symOf sl) n w' d') ∨ (ex = .exit 0 ∧ σ' = inv np ∧ V' = vals (D10 sl calls r b fv n tx w d i)) := by
    intro f x hf hx hfact hchk
    unfold chkV at hchk
    obtain ⟨hu, hv⟩ := Bool.and_eq_true_iff.1 hchk
    have hws : @Tm.den (vals (D10 sl calls r b fv n tx w d i)) (ly.wset k (.int (val fv f))) = wd (upd w k (val fv f)) := wset_den (vals (D10 sl calls r b fv n tx w d i)) h5 rfl
    have hy : @Fact.Ok (vals (D10 sl calls r b fv n tx w d i)) P G (yR np fv f k) := by
      have he : (vs 6 ++ [ly.wset k (.int (val fv f))]).map (@Tm.den (vals (D10 sl calls r b fv n tx w d i))) = D5 sl r b fv n tx ++ [wd w, wd (upd w k (val fv f))] := by
        rw [List.map_append, List.map_cons, List.map_nil, hws]; rfl
      exact Fact.use (tb := []) trivial he hfact hu
    refine TriL.fin (known K R hfv hm sl calls r hr n hn hns tx w d i hy) hg (tb := tIn b k x ++ [g6 k (val fv f), lt8 k]) (tin x _ hx ⟨?_, hlt8, trivial⟩) hk0 hv (.inl ⟨rfl, rfl, hi20, upd w k (val fv f), fun j => if j = k then true else d j, ?_, hI.upd k hf⟩)
    · show @Tm.den (vals (D10 sl calls r b fv n tx w d i)) (get1 (.op .nth [.v 6, .int k]) 8) = .int (val fv f)
      refine @get1_den (vals (D10 sl calls r b fv n tx w d i)) _ _ ?_ (hval f).1 (hval f).2
      rw [hw6]
      unfold ap.av
      rw [if_pos hk, hf]
    · rw [at_map]
      simp only [List.map_cons, List.map_nil, hws, hset, hnxt]
      rfl
  have hsy : symOf sl k = tt (sl.getD k 0) + 1 := rfl
  rcases tt_cases (sl.getD k 0) with ht | ht | ht
  · have h1 := K.v1 k hkm
    unfold chk1 at h1
    exact bound true 0 (by rw [hsy, ht]; rfl) ht (rs.ok1 (R.c1 k hkm) (R.e k hkm) (md.ints sl) tx (.int fv) r n (by omega) hk (symOf sl) (by rw [hsy, ht]; rfl) w) h1
  · have h2c := K.v2 k hkm
    unfold chk2 at h2c
    obtain ⟨hu, hv⟩ := Bool.and_eq_true_iff.1 h2c
    have hfact := rs.ok2 (R.c2 k hkm) (R.e k hkm) (md.ints sl) tx (.int fv) r n (by omega) hk (symOf sl) (by rw [hsy, ht]; rfl) w
    have hy : @Fact.Ok (vals (D10 sl calls r b fv n tx w d i)) P G (yG np k) := by
      have he : (vs 6).map (@Tm.den (vals (D10 sl calls r b fv n tx w d i))) = D5 sl r b fv n tx ++ [wd w] := rfl
      exact Fact.use (tb := []) trivial he hfact hu
    refine TriL.fin (known K R hfv hm sl calls r hr n hn hns tx w d i hy) hg (tb := tIn b k 1) ?_ hk0 hv (.inl ⟨rfl, rfl, hi20, w, d, ?_, hI⟩)
    · have := tin 1 [] ht trivial
      rwa [List.append_nil] at this
    · rw [hto]
  · have h3 := K.v3 k hkm
    unfold chk3 at h3
    exact bound false 2 (by rw [hsy, ht]; rfl) ht (rs.ok3 (R.c3 k hkm) (R.e k hkm) (md.ints sl) tx (.int fv) r n (by omega) hk (symOf sl) (by rw [hsy, ht]; rfl) w) h3
theorem round2 (w : Nat → Int) (d : Nat → Bool) (i : Nat) (hI : Inv r fv (symOf sl) n w d) (k : Nat) (hk : k < n) :
    TriL P G (vals (D10 sl calls r b fv n tx w d i)) cx none 1 lp2 (inv2 np k) fun V' ex σ' => ex = .normal ∧ σ' = inv2 np (k + 1) ∧ V' = vals (D10 sl calls r b fv n tx w d i) := by
  have hg : cx.glob = G := by kernel_rfl
  have hgk := K.kg (d k) k (by omega)
  unfold chkG at hgk
  have h2 : @Tm.den (vals (D10 sl calls r b fv n tx w d i)) (.v 2) = bnds r fv (Mof b n (symOf sl)) := rfl
  have h5 : @Tm.den (vals (D10 sl calls r b fv n tx w d i)) (.v 5) = wd w := rfl
  have h8 : @Tm.den (vals (D10 sl calls r b fv n tx w d i)) (.v 8) = dn n d := rfl
  have h1 : @Tm.den (vals (D10 sl calls r b fv n tx w d i)) (.v 1) = .int r := rfl
  have hw5 := wd_nth (vals (D10 sl calls r b fv n tx w d i)) h5 (show k < 12 by omega)
  have he2 := el_den (vals (D10 sl calls r b fv n tx w d i)) h2 hk
  have hat : @Tm.den (vals (D10 sl calls r b fv n tx w d i)) (.op (.fld 0) [.op .nth [.v 2, .int k]]) = .int (b + 8 * (k : Int)) := by
    have hb : ∃ l, bnd r fv (b + 8 * (k : Int), symOf sl k) = .list (.int (b + 8 * (k : Int)) :: l) := by unfold bnd; split <;> exact ⟨_, rfl⟩
    obtain ⟨l, hb⟩ := hb
    rw [hb] at he2
    exact fld_den (vals (D10 sl calls r b fv n tx w d i)) (i := 0) he2
  have hwk := hI k hk
  have hbw : 0 ≤ w k ∧ w k < 2 ^ 64 := by
    rw [hwk]
    unfold val ent
    cases d k <;> simp <;> (try split) <;> omega
  have he8 : @Tm.den (vals (D10 sl calls r b fv n tx w d i)) (eight k) = .bool (d k) := by
    letI := vals (D10 sl calls r b fv n tx w d i)
    unfold eight
    rw [den_op, dens_cons, dens_cons, dens_nil, h8, den_int]
    simp only [dn, tden_nth, Int.toNat_natCast]
    exact dn_nth hk
  have hent : @Tm.den (vals (D10 sl calls r b fv n tx w d i)) (ly.entT k) = .int (ent r k) := by
    unfold ly.entT
    simp only [den_op, dens_cons, dens_nil, den_int, h1, tden_bin, tden_conv, intD]
    rw [wrap_u64 (n := r) (by omega), wrap_u64 (n := r * 256) (by omega), wrap_u64 (n := r * 256 + (k : Int)) (by omega), wrap_u64 (n := 8 * (r * 256 + (k : Int))) (by omega), wrap_u64 (by omega)]
    rfl
  have href : @Tm.den (vals (D10 sl calls r b fv n tx w d i)) (refE k) = .int (ent r k) := by
    unfold refE
    simp only [den_op, dens_cons, dens_nil, den_int, h1, tden_bin, tden_conv, intD]
    rw [wrap_u64 (n := r) (by omega), wrap_u64 (n := 2048 * r) (by omega), wrap_u64 (n := 0x10000000000 + 2048 * r) (by omega), wrap_u64 (by omega)]
    unfold ent
    congr 1; omega
  have hne : (w k != ent r k) = d k := by
    rw [hwk]
    cases hd : d k
    · simp
    · have := val_ne K R hfv hm sl r hr n hn hns (decide (symOf sl k = 1)) k
      simp [this]
  have neq : ∀ (q : IntKind) (t : Tm), @Tm.den (vals (D10 sl calls r b fv n tx w d i)) t = .int (ent r k) → @Tm.den (vals (D10 sl calls r b fv n tx w d i)) (.op (.bin .neq q) [word5 k, t]) = .bool (d k) := by
    intro q t ht
    letI := vals (D10 sl calls r b fv n tx w d i)
    unfold word5
    rw [den_op, dens_cons, dens_cons, dens_nil, hw5, ht, tden_bin]
    simp only [intD, hne]
  refine TriL.fin (envAt _) hg (tb := tG b k (d k)) ⟨hat, ?_, ?_, ?_, ?_, ?_, he8, ?_, neq _ _ hent, neq _ _ hent, neq _ _ href, neq _ _ href, trivial⟩ (by show 1 ≤ 38; omega) hgk ⟨rfl, rfl, ?_⟩
  · show @Tm.den (vals (D10 sl calls r b fv n tx w d i)) (.op (.bin .lss .i64) [.int k, .op .len [.v 2]]) = .bool true
    rw [lss_den (vals (D10 sl calls r b fv n tx w d i)) k h2]; simp [hk]
  · show D.bool (decide (r < 0)) = .bool false
    simp; omega
  · show D.bool (decide (r > 0x40000000)) = .bool false
    simp; omega
  · show @Tm.den (vals (D10 sl calls r b fv n tx w d i)) (get1 (word5 k) 8) = @Tm.den (vals (D10 sl calls r b fv n tx w d i)) (word5 k)
    rw [@get1_den (vals (D10 sl calls r b fv n tx w d i)) (word5 k) (w k) hw5 hbw.1 hbw.2]
    exact hw5.symm
  · letI := vals (D10 sl calls r b fv n tx w d i)
    show (Tm.op (.bin .lss .i64) [.int k, .op .len [.v 8]]).den = .bool true
    rw [den_op, dens_cons, dens_cons, dens_nil, den_op, dens_cons, dens_nil, h8, den_int]
    simp only [dn, tden_len, List.length_map, List.length_range, tden_bin, intD, D.bool.injEq, decide_eq_true_eq]; omega
  · letI := vals (D10 sl calls r b fv n tx w d i)
    rw [den_op, dens_cons, dens_nil, he8]; rfl
  · rfl
theorem ok (id : Int) (hid : intD .and .i64 id 65535 = .int r)
    (hmade : @Fact.Ok (vals (D5 sl r b fv n tx)) P G (xM np))
    (hLL : @Fact.Ok (vals (D5 sl r b fv n tx ++ [wl r n])) P G (xL np))
    (hLO : @Fact.Ok (vals (D5 sl r b fv n tx ++ [wd (ap.av fv (symOf sl) n)])) P G (lo.x np))
    (hsp : ∀ V : Val, @Fact.Ok V P G spk) : @Fact.Ok (vals [md.ints sl, .int id, md.ints calls]) P G x := by
  have hg : cx.glob = G := by kernel_rfl
  refine Fact.ok_tri (fn := fn) (cd := cd) (envAt _) func body (Q := fun V' ex σ' => V' = vals [md.ints sl, .int id, md.ints calls] ∧ ex = .ret ∧ σ' = fin) ?tri ?hq
  case hq =>
    rintro V' ex σ' ⟨rfl, rfl, rfl⟩
    exact ⟨rfl, .inr rfl, kE⟩
  refine Tri.flat (by kernel_rfl) ?_
  show TriL P G _ cx none 1 L _ _
  have hEs : @EnvOk (vals [md.ints sl, .int id, md.ints calls]) P G (E0.know [spk]) := @EnvOk.know (vals [md.ints sl, .int id, md.ints calls]) P G _ (envAt _) [spk] fun z hz => by
    rw [List.mem_singleton] at hz
    rw [hz]; exact hsp _
  refine TriL.go 4 hEs hg stays_none (tb := []) trivial (Nat.le_refl 1) (kA (bnds r fv (Mof b n (symOf sl))).tm tx.tm (.int fv) (wl r n).tm (wd (ap.av fv (symOf sl) n)).tm) ?_
  have hw0 : wl r n = wd (fun j => if j < n then ent r j else 0) := rfl
  generalize hw : (fun j => if j < n then ent r j else 0) = w at hw0
  have h8 : ([.v 0, idT, (bnds r fv (Mof b n (symOf sl))).tm, tx.tm, .int fv, (wl r n).tm, (wd (ap.av fv (symOf sl) n)).tm, .v 2] : List Tm).map (@Tm.den (vals [md.ints sl, .int id, md.ints calls])) = D8 sl calls r b fv n tx w := by
    have h1 : @Tm.den (vals [md.ints sl, .int id, md.ints calls]) idT = .int r := hid
    simp only [List.map_cons, List.map_nil, D.tm_den, h1, hw0]
    rfl
  rw [h8]
  have hIw : Inv r fv (symOf sl) n w fun _ => false := by
    intro j hj
    subst hw
    simp [hj]
  have one : ∀ {y : Fact} {l : List D}, @Fact.Ok (vals l) P G y → @EnvOk (vals l) P G (E0.know [y]) := fun {y l} hy => @EnvOk.know (vals l) P G _ (envAt _) [y] fun z hz => by
    rw [List.mem_singleton] at hz
    rw [hz]; exact hy
  have two : ∀ {y z : Fact} {l : List D}, @Fact.Ok (vals l) P G y → @Fact.Ok (vals l) P G z → @EnvOk (vals l) P G (E0.know [y, z]) := fun {y z l} hy hz => @EnvOk.know (vals l) P G _ (envAt _) [y, z] fun q hq => by
    rcases List.mem_cons.1 hq with e | e
    · rw [e]; exact hy
    · rw [List.mem_singleton] at e
      rw [e]; exact hz
  obtain ⟨hBu, hB⟩ := Bool.and_eq_true_iff.1 K.kb
  obtain ⟨hCu, hC⟩ := Bool.and_eq_true_iff.1 K.kc
  obtain ⟨hDu, hD⟩ := Bool.and_eq_true_iff.1 K.kd
  obtain ⟨hDu, hDv⟩ := Bool.and_eq_true_iff.1 hDu
  have e5 : (vs 5).map (@Tm.den (vals (D8 sl calls r b fv n tx w))) = D5 sl r b fv n tx := rfl
  have e6 : (vs 6).map (@Tm.den (vals (D8 sl calls r b fv n tx w))) = D5 sl r b fv n tx ++ [wl r n] := by rw [hw0]; rfl
  have e7 : (vs 5 ++ [Tm.v 6]).map (@Tm.den (vals (D8 sl calls r b fv n tx w))) = D5 sl r b fv n tx ++ [wd (ap.av fv (symOf sl) n)] := rfl
  have e8 : (vs 8).map (@Tm.den (vals (D8 sl calls r b fv n tx w))) = D8 sl calls r b fv n tx w := rfl
  have y1 : @Fact.Ok (vals (D8 sl calls r b fv n tx w)) P G (xM np) := Fact.use (tb := []) trivial e5 hmade hBu
  have y2 : @Fact.Ok (vals (D8 sl calls r b fv n tx w)) P G (y2 np) := Fact.use (tb := []) trivial e5 hmade hCu
  have y3 : @Fact.Ok (vals (D8 sl calls r b fv n tx w)) P G (y3 np) := Fact.use (tb := []) trivial e6 hLL hDu
  have y4 : @Fact.Ok (vals (D8 sl calls r b fv n tx w)) P G (y4 np) := Fact.use (tb := []) trivial e7 hLO hDv
  refine TriL.go (l := L4) 1 (one y1) hg stays_none (tb := []) trivial (Nat.le_refl 1) hB ?_
  rw [e8]
  refine TriL.go (l := L5) 1 (one y2) hg stays_none (tb := []) trivial (by show 1 ≤ 19; omega) hC ?_
  rw [e8]
  refine TriL.go (l := L6) 2 (two y3 y4) hg stays_none (tb := []) trivial (by show 1 ≤ 37; omega) hD ?_
  rw [e8]
  have hlen := len_den (vals (D8 sl calls r b fv n tx w)) (id := r) (fv := fv) (b := b) (n := n) (s := symOf sl) rfl
  refine TriL.go (l := L8) 2 (envAt _) hg stays_none (tb := tE0) ⟨?_, ?_, ?_, trivial⟩ (by show 1 ≤ 37; omega) K.ke ?_
  · letI := vals (D8 sl calls r b fv n tx w)
    rw [den_op, dens_cons, dens_nil]
    show TOp.den .small [(Tm.op .len [.v 2]).den] = _
    rw [hlen]
    simp only [tden_small, den_bool, D.bool.injEq, decide_eq_true_eq]; omega
  · letI := vals (D8 sl calls r b fv n tx w)
    rw [den_op, dens_cons, dens_cons, dens_nil]
    show TOp.den (.bin .leq .i64) [_, (Tm.op .len [.v 2]).den] = _
    rw [hlen, den_int, tden_bin]
    simp only [intD, den_bool, D.bool.injEq, decide_eq_true_eq]; omega
  · letI := vals (D8 sl calls r b fv n tx w)
    rw [den_op, dens_cons, dens_cons, dens_nil]
    show TOp.den (.bin .leq .i64) [(Tm.op .len [.v 2]).den, (Tm.op .len [.v 2]).den] = _
    rw [hlen, tden_bin]
    simp only [intD, den_bool, D.bool.injEq, decide_eq_true_eq]; omega
  have hrep : (vs 8 ++ [Tm.op .rep [lenV, .bool false], Tm.int 0]).map (@Tm.den (vals (D8 sl calls r b fv n tx w))) = D10 sl calls r b fv n tx w (fun _ => false) 0 := by
    have h1 : @Tm.den (vals (D8 sl calls r b fv n tx w)) (.op .rep [lenV, .bool false]) = dn n fun _ => false := by
      letI := vals (D8 sl calls r b fv n tx w)
      rw [den_op, dens_cons, dens_cons, dens_nil]
      show TOp.den .rep [(Tm.op .len [.v 2]).den, _] = _
      rw [hlen, den_bool, tden_rep]
      simp only [Int.toNat_natCast, dn]
      congr 1
      rw [List.map_const', List.length_range]
    rw [List.map_append, e8, List.map_cons, List.map_cons, List.map_nil, h1]
    rfl
  rw [hrep]
  show TriL P G _ cx none 1 L10 _ _
  rw [at10]
  refine TriL.cons stays_none (Q1 := fun V' ex σ' => ex = .normal ∧ σ' = inv np ∧ ∃ w d i, V' = vals (D10 sl calls r b fv n tx w d i) ∧ Inv r fv (symOf sl) n w d) (Tri.block ?_) ?_ (fun V' ex σ' hne h => absurd h.1 hne)
  · refine Tri.loops (α := (Nat → Int) × (Nat → Bool) × Nat) (fun a => a.2.2 ≤ 20 ∧ Inv r fv (symOf sl) n a.1 a.2.1) (fun a => 20 - a.2.2) (fun a => vals (D10 sl calls r b fv n tx a.1 a.2.1 a.2.2)) (fun _ => inv np) stays_none ?_ (w, (fun _ => false), 0) ⟨by show 0 ≤ 20; omega, hIw⟩
    rintro ⟨w, d, i⟩ ⟨hi, hI⟩
    refine Tri.flat (by kernel_rfl) ?_
    show TriL P G _ cx none 1 lp (inv np) _
    refine TriL.mono (round K R hfv hm sl calls r hr n hn hns tx w d i hi hI) ?_
    rintro V' ex σ' (⟨rfl, rfl, hi20, w', d', rfl, hI'⟩ | ⟨rfl, rfl, rfl⟩)
    · exact .inl ⟨rfl, (w', d', i + 1), rfl, rfl, ⟨by show i + 1 ≤ 20; omega, hI'⟩, by show 20 - (i + 1) < 20 - i; omega⟩
    · exact .inr ⟨by simp, rfl, rfl, w, d, i, rfl, hI⟩
  · rintro V' σ' ⟨-, rfl, w, d, i, rfl, hI⟩
    have e10 : (vs 10).map (@Tm.den (vals (D10 sl calls r b fv n tx w d i))) = D10 sl calls r b fv n tx w d i := rfl
    refine TriL.go (l := L11) 1 (envAt _) hg stays_none (tb := []) trivial (by show 1 ≤ 38; omega) K.kf ?_
    rw [e10]
    show TriL P G _ cx none 1 L12 _ _
    rw [at12]
    refine TriL.cons stays_none (Q1 := fun V' ex σ' => ex = .normal ∧ σ' = fin0 ∧ V' = vals (D10 sl calls r b fv n tx w d i)) (Tri.block ?_) ?_ (fun V' ex σ' hne h => absurd h.1 hne)
    · refine Tri.loops (α := Nat) (fun k => k ≤ n) (fun k => n - k) (fun _ => vals (D10 sl calls r b fv n tx w d i)) (inv2 np) stays_none ?_ 0 (Nat.zero_le _)
      intro k hk
      refine Tri.flat (by kernel_rfl) ?_
      show TriL P G _ cx none 1 lp2 (inv2 np k) _
      by_cases hlt : k < n
      · refine TriL.mono (round2 K R hfv hm sl calls r hr n hn hns tx w d i hI k hlt) ?_
        rintro V' ex σ' ⟨rfl, rfl, rfl⟩
        exact .inl ⟨rfl, k + 1, rfl, rfl, hlt, by omega⟩
      · have hh := K.kh k (by omega)
        unfold chkH at hh
        refine TriL.fin (envAt _) hg (tb := [ly.lenT k false]) ⟨?_, trivial⟩ (by show 1 ≤ 38; omega) hh (.inr ⟨by simp, rfl, rfl, ?_⟩)
        · show @Tm.den (vals (D10 sl calls r b fv n tx w d i)) (.op (.bin .lss .i64) [.int k, .op .len [.v 2]]) = .bool false
          rw [lss_den (vals (D10 sl calls r b fv n tx w d i)) (id := r) (fv := fv) (b := b) (n := n) (s := symOf sl) k rfl]; simp [hlt]
        · rw [e10]
    · rintro V' σ' ⟨-, rfl, rfl⟩
      refine TriL.fin (l := L13) (envAt _) hg (tb := []) trivial (by show 1 ≤ 1; omega) (kZg (.int id)) ⟨?_, rfl, rfl⟩
      rfl
end
end ls
end lz
end Go.Proofs.YtjmjbjnbfodalaaGreat
