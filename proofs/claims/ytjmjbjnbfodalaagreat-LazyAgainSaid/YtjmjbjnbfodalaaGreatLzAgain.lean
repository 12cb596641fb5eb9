/- the law LazyAgain, some slots: whatever their symbols, the number and the slot: true. Conditions: the contracts of what it calls. -/
import Derived.Test.YtjmjbjnbfodalaaGreatLzSort
import Derived.Test.YtjmjbjnbfodalaaGreatLzAgK4
import Derived.Test.YtjmjbjnbfodalaaGreatLzAgK5a
import Derived.Test.YtjmjbjnbfodalaaGreatLzAgK5b
import Derived.Test.YtjmjbjnbfodalaaGreatLzAgK5c
import Derived.Test.YtjmjbjnbfodalaaGreatLzLaw
set_option linter.unusedSimpArgs false
set_option linter.unusedVariables false
set_option linter.unusedSectionVars false
set_option maxRecDepth 100000
namespace Go.Proofs.YtjmjbjnbfodalaaGreat
open Go.Tc
namespace lz
theorem know1 {l : List D} {E : Env} (hE : @EnvOk (vals l) P G E) {y : Fact} (hy : @Fact.Ok (vals l) P G y) : @EnvOk (vals l) P G (E.know [y]) := @EnvOk.know (vals l) P G _ hE [y] fun z hz => by
  rw [List.mem_singleton] at hz
  rw [hz]; exact hy
theorem know2 {l : List D} {E : Env} (hE : @EnvOk (vals l) P G E) {y z : Fact} (hy : @Fact.Ok (vals l) P G y) (hz : @Fact.Ok (vals l) P G z) : @EnvOk (vals l) P G (E.know [y, z]) := @EnvOk.know (vals l) P G _ hE [y, z] fun q hq => by
  rcases List.mem_cons.1 hq with e | e
  · rw [e]; exact hy
  · rw [List.mem_singleton] at e
    rw [e]; exact hz
theorem AllEq.of_mem [Val] : ∀ {l : List (Tm × Tm)}, (∀ p ∈ l, p.1.den = p.2.den) → AllEq l
  | [], _ => trivial
  | p :: l, h => ⟨h p List.mem_cons_self, AllEq.of_mem fun q hq => h q (List.mem_cons_of_mem _ hq)⟩
theorem byE_same (V : Val) {a b j i : Nat} (h : @Tm.den V (.op .nth [.v a, .int j]) = @Tm.den V (.op .nth [.v b, .int j])) : @Tm.den V (byE a j i) = @Tm.den V (byE b j i) := by
  letI := V
  unfold byE
  rw [den_op, dens_cons, dens_nil, den_op, dens_cons, dens_nil, den_op, dens_cons, dens_cons, dens_nil, h]
  rfl
theorem byE_int (V : Val) (a j i : Nat) : ∃ n, @Tm.den V (byE a j i) = .int n := by
  letI := V
  unfold byE
  rw [den_op, dens_cons, dens_nil]
  exact ⟨_, rfl⟩
theorem eqR_ok (V : Val) {a b : Nat} (h : @Tm.den V (.v a) = @Tm.den V (.v b)) : @AllEq V (eqR a b) := by
  letI := V
  refine AllEq.of_mem fun p hp => ?_
  obtain ⟨j, -, hp⟩ := List.mem_flatMap.1 hp
  obtain ⟨i, -, rfl⟩ := List.mem_map.1 hp
  have hs : (byE a j i).den = (byE b j i).den := byE_same V (by rw [den_op, dens_cons, dens_cons, dens_nil, h]; rfl)
  obtain ⟨n, hn⟩ := byE_int V b j i
  show (Tm.op (.bin .eql .i64) [byE a j i, byE b j i]).den = .bool true
  rw [den_op, dens_cons, dens_cons, dens_nil, hs, hn, tden_bin]
  simp [intD]
theorem hole_ne (V : Val) {a b i : Nat} (h : @Tm.den V (.op .nth [.v a, .int i]) = @Tm.den V (.op .nth [.v b, .int i])) : @Tm.den V (.op (.sbin .neq) [la.hole8 a i, la.hole8 b i]) = .bool false := by
  letI := V
  have hl : (List.range 8).map (fun j => (byE a i j).den) = (List.range 8).map (fun j => (byE b i j).den) := List.map_congr_left fun j _ => byE_same V h
  have hd : (la.hole8 a i).den = (la.hole8 b i).den := by
    unfold la.hole8
    rw [den_op, dens_cons, den_op, dens_cons]
    congr 2
  obtain ⟨s, hs⟩ : ∃ s, (la.hole8 b i).den = .str s := by
    unfold la.hole8
    rw [den_op, dens_cons]
    exact ⟨_, rfl⟩
  rw [den_op, dens_cons, dens_cons, dens_nil, hd, hs]
  show strD .neq s s = .bool false
  simp [strD, BS.eq]
namespace cy
theorem ok {np : Nat} {nm : List (Nat × Nat)} (hU : chkU np = true) (hK : chk np nm = true) (hs : @Fact.Ok (vals []) P G (so.st.x np)) (w : Nat → Int) : @Fact.Ok (vals [wd w]) P G (x np) := by
  unfold chk at hK; unfold chkU at hU
  obtain ⟨h1, h2⟩ := Bool.and_eq_true_iff.1 hK
  have hg : cx.glob = G := by kernel_rfl
  refine Fact.ok_tri (fn := fn) (cd := cd) (envC [wd w]) func body (Q := fun V' ex σ' => V' = vals [wd w] ∧ ex = .ret ∧ σ' = fin np) ?tri ?hq
  case hq =>
    rintro V' ex σ' ⟨rfl, rfl, rfl⟩
    exact ⟨rfl, .inr rfl, h2⟩
  refine Tri.flat (by kernel_rfl) ?_
  show TriL P G _ cx none 19 L _ _
  have he : ([] : List Tm).map (@Tm.den (vals [wd w])) = [] := rfl
  have hy : @Fact.Ok (vals [wd w]) P G (y np) := Fact.use (tb := []) trivial he hs hU
  refine TriL.fin (know1 (envC [wd w]) hy) hg (tb := []) trivial (Nat.le_refl 19) h1 ⟨?_, rfl, rfl⟩
  rfl
end cy
namespace sm
theorem ok {np : Nat} (hU : chkU np = true) (hK : chk np = true) (hs : @Fact.Ok (vals []) P G (so.st.x np)) (w : Nat → Int) : @Fact.Ok (vals [wd w, wd w]) P G (x np) := by
  unfold chk at hK; unfold chkU at hU
  obtain ⟨h1, h2⟩ := Bool.and_eq_true_iff.1 hK
  have hg : cx.glob = G := by kernel_rfl
  refine Fact.ok_tri (fn := fn) (cd := cd) (envC [wd w, wd w]) func body (Q := fun V' ex σ' => V' = vals [wd w, wd w] ∧ ex = .ret ∧ σ' = fin np) ?tri ?hq
  case hq =>
    rintro V' ex σ' ⟨rfl, rfl, rfl⟩
    exact ⟨rfl, .inr rfl, h2⟩
  refine Tri.flat (by kernel_rfl) ?_
  show TriL P G _ cx none 30 L _ _
  have he : ([] : List Tm).map (@Tm.den (vals [wd w, wd w])) = [] := rfl
  have hy : @Fact.Ok (vals [wd w, wd w]) P G (y np) := Fact.use (tb := []) trivial he hs hU
  refine TriL.fin (know1 (envC [wd w, wd w]) hy) hg (tb := eqR 1 0) (eqR_ok (vals [wd w, wd w]) rfl) (Nat.le_refl 30) h1 ⟨?_, rfl, rfl⟩
  rfl
end sm
namespace la
structure Kit (np m : Nat) (b fv : Int) : Prop where
  kb : (chkB np && chkC np && chkD np && chkFu np) = true
  kk : ∀ k, k < m → chkK np k = true
  rr : ∀ f k, k < m → chkR np fv f k = true
  rg : ∀ k, k < m → chkG np k = true
  nn : ∀ x flt, (∃ f, x = val fv f ∧ flt = fault) ∨ (x = 0 ∧ flt = rs.fltG) → ∀ i, i < m → chkN np b x flt i = true
  qq : ∀ f i, i < m → chkQ np b (val fv f) fault i = true
  mm : ∀ i, i < m → chkM np b i = true
  xx : ∀ x flt, (∃ f, x = val fv f ∧ flt = fault) ∨ (x = 0 ∧ flt = rs.fltG) → ∀ i, i ≤ m → chkX np x flt i = true
theorem kit4 : Kit 4 5 768 260 := ⟨b4, ap.seg4 k4_0 k4_4, fun f => by
  cases f
  · exact ap.seg4 rf4_0 rf4_4
  · exact ap.seg4 rt4_0 rt4_4, ap.seg4 rg4_0 rg4_4, fun x flt h => by
  rcases h with ⟨f, rfl, rfl⟩ | ⟨rfl, rfl⟩
  · cases f
    · exact ap.seg4 nf4_0 nf4_4
    · exact ap.seg4 nt4_0 nt4_4
  · exact ap.seg4 ng4_0 ng4_4, fun f => by
  cases f
  · exact ap.seg4 qf4_0 qf4_4
  · exact ap.seg4 qt4_0 qt4_4, ap.seg4 m4_0 m4_4, fun x flt h i hi => by
  rcases h with ⟨f, rfl, rfl⟩ | ⟨rfl, rfl⟩
  · cases f
    · exact seg_at xf4 i (by omega) (by omega)
    · exact seg_at xt4 i (by omega) (by omega)
  · exact seg_at xg4 i (by omega) (by omega)⟩
theorem kit5 : Kit 5 12 1024 516 := ⟨b5, ap.seg12 k5_0 k5_4 k5_8, fun f => by
  cases f
  · exact ap.seg12 rf5_0 rf5_4 rf5_8
  · exact ap.seg12 rt5_0 rt5_4 rt5_8, ap.seg12 rg5_0 rg5_4 rg5_8, fun x flt h => by
  rcases h with ⟨f, rfl, rfl⟩ | ⟨rfl, rfl⟩
  · cases f
    · exact ap.seg12 nf5_0 nf5_4 nf5_8
    · exact ap.seg12 nt5_0 nt5_4 nt5_8
  · exact ap.seg12 ng5_0 ng5_4 ng5_8, fun f => by
  cases f
  · exact ap.seg12 qf5_0 qf5_4 qf5_8
  · exact ap.seg12 qt5_0 qt5_4 qt5_8, ap.seg12 m5_0 m5_4 m5_8, fun x flt h i hi => by
  rcases h with ⟨f, rfl, rfl⟩ | ⟨rfl, rfl⟩
  · cases f
    · exact seg_at xf5 i (by omega) (by omega)
    · exact seg_at xt5 i (by omega) (by omega)
  · exact seg_at xg5 i (by omega) (by omega)⟩
theorem pick (n : Nat) (hn : 0 < n) (hn2 : n ≤ 12) (w : Int) : ∃ k : Nat, k < n ∧ IntKind.i64.wrap (w.tmod n + n) = w.tmod n + n ∧ (w.tmod n + n).tmod n = k := by
  have h1 : -(n : Int) < w.tmod n ∧ w.tmod n < n := by
    have h := Int.tmod_eq_emod (a := w) (b := n)
    have h1 := Int.emod_nonneg w (b := (n : Int)) (by omega)
    have h2 := Int.emod_lt_of_pos w (b := (n : Int)) (by omega)
    have h3 : w % (n : Int) = 0 → (n : Int) ∣ w := fun h => Int.dvd_of_emod_eq_zero h
    rw [h]
    split
    · omega
    · rename_i hnn
      have : w % (n : Int) ≠ 0 := fun e => hnn (.inr (h3 e))
      have h4 : ((n : Int).natAbs : Int) = n := by simp
      omega
  have h2 : (w.tmod n + n).tmod n = (w.tmod n + n) % n := Int.tmod_eq_emod_of_nonneg (by omega)
  have h3 := Int.emod_nonneg (w.tmod n + n) (b := (n : Int)) (by omega)
  have h4 := Int.emod_lt_of_pos (w.tmod n + n) (b := (n : Int)) (by omega)
  refine ⟨((w.tmod n + n) % n).toNat, by omega, wrap_i64 (by omega), by rw [h2]; omega⟩
noncomputable def D8 (sl : List Int) (which r b fv : Int) (n : Nat) (tx : D) (w0 w1 : Nat → Int) : List D := ls.D5 sl r b fv n tx ++ [wd w0, wd w1, .int which]
noncomputable def D9 (sl : List Int) (which r b fv : Int) (n : Nat) (tx : D) (w0 w1 : Nat → Int) (k : Nat) : List D := D8 sl which r b fv n tx w0 w1 ++ [.int (k : Nat)]
def Fin (V : Val) (V' : Val) (ex : AExit) (σ' : St) : Prop := V' = V ∧ ex = .ret ∧ σ' = fin
section
variable {np m : Nat} {b fv : Int} (K : Kit np m b fv) (R : rs.Kit np m b fv) (hfv : 0 ≤ fv ∧ fv ≤ 1000) (hm : m ≤ 12)
variable (sl : List Int) (which r : Int) (hr : 0 ≤ r ∧ r ≤ 65535) (n : Nat) (hn : n ≤ m) (hns : n ≤ sl.length) (tx : D)
include K R hfv hm hr hn hns
theorem loop (w0 w1 : Nat → Int) (k : Nat) (x : Int) (flt : List AV) (hxf : (∃ f, x = val fv f ∧ flt = fault ∧ w1 k = x) ∨ (x = 0 ∧ flt = rs.fltG)) (hw : ∀ i, i < 12 → i ≠ k → w0 i = w1 i) (hx : 0 ≤ x ∧ x < 2 ^ 64) (id : Int) :
    TriL P G (vals (D9 sl which r b fv n tx w0 w1 k)) cx none 1 L17 (sJ np x flt 0) (Fin (vals [md.ints sl, .int id, .int which])) := by
  have hg : cx.glob = G := by kernel_rfl
  have hkind : (∃ f, x = val fv f ∧ flt = fault) ∨ (x = 0 ∧ flt = rs.fltG) := hxf.imp (fun ⟨f, h1, h2, _⟩ => ⟨f, h1, h2⟩) (fun h => h)
  have hk0 : (1 : Nat) ≤ 31 := by omega
  have h2 : @Tm.den (vals (D9 sl which r b fv n tx w0 w1 k)) (.v 2) = bnds r fv (Mof b n (symOf sl)) := rfl
  have h5 : @Tm.den (vals (D9 sl which r b fv n tx w0 w1 k)) (.v 5) = wd w0 := rfl
  have h6 : @Tm.den (vals (D9 sl which r b fv n tx w0 w1 k)) (.v 6) = wd w1 := rfl
  have h8 : @Tm.den (vals (D9 sl which r b fv n tx w0 w1 k)) (.v 8) = .int (k : Nat) := rfl
  have e9 : (vs 9).map (@Tm.den (vals (D9 sl which r b fv n tx w0 w1 k))) = D9 sl which r b fv n tx w0 w1 k := rfl
  rw [at17]
  refine TriL.cons stays_none (Q1 := fun V' ex σ' => ex = .normal ∧ σ' = fin0 ∧ V' = vals (D9 sl which r b fv n tx w0 w1 k)) (Tri.block ?_) ?_ (fun V' ex σ' hne h => absurd h.1 hne)
  · refine Tri.loops (α := Nat) (fun i => i ≤ n) (fun i => n - i) (fun _ => vals (D9 sl which r b fv n tx w0 w1 k)) (sJ np x flt) stays_none ?_ 0 (Nat.zero_le _)
    intro i hi
    refine Tri.flat (by kernel_rfl) ?_
    show TriL P G _ cx none 1 lp (sJ np x flt i) _
    by_cases hlt : i < n
    case neg =>
      have hh := K.xx x flt hkind i (by omega)
      unfold chkX at hh
      refine TriL.fin (envAt _) hg (tb := [ly.lenT i false]) ⟨?_, trivial⟩ hk0 hh (.inr ⟨by simp, rfl, rfl, ?_⟩)
      · show @Tm.den (vals (D9 sl which r b fv n tx w0 w1 k)) (.op (.bin .lss .i64) [.int i, .op .len [.v 2]]) = .bool false
        rw [lss_den (vals (D9 sl which r b fv n tx w0 w1 k)) i h2]; simp [hlt]
      · rw [e9]
    have he2 := el_den (vals (D9 sl which r b fv n tx w0 w1 k)) h2 hlt
    have hat : @Tm.den (vals (D9 sl which r b fv n tx w0 w1 k)) (.op (.fld 0) [.op .nth [.v 2, .int i]]) = .int (b + 8 * (i : Int)) := by
      have hb : ∃ l, bnd r fv (b + 8 * (i : Int), symOf sl i) = .list (.int (b + 8 * (i : Int)) :: l) := by unfold bnd; split <;> exact ⟨_, rfl⟩
      obtain ⟨l, hb⟩ := hb
      rw [hb] at he2
      exact fld_den (vals (D9 sl which r b fv n tx w0 w1 k)) (i := 0) he2
    have hI : ∀ e : Bool, decide (i = k) = e → @AllEq (vals (D9 sl which r b fv n tx w0 w1 k)) (tI b i e) := by
      rintro e rfl
      refine ⟨hat, ?_, ?_, ?_, trivial⟩
      · show @Tm.den (vals (D9 sl which r b fv n tx w0 w1 k)) (.op (.bin .lss .i64) [.int i, .op .len [.v 2]]) = .bool true
        rw [lss_den (vals (D9 sl which r b fv n tx w0 w1 k)) i h2]; simp [hlt]
      · letI := vals (D9 sl which r b fv n tx w0 w1 k)
        show (Tm.op (.bin .neq .i64) [.int i, .v 8]).den = .bool _
        rw [den_op, dens_cons, dens_cons, dens_nil, h8, den_int, tden_bin]
        by_cases e : i = k
        · simp [intD, e]
        · simp [intD, e]
          exact fun h => e (by omega)
      · letI := vals (D9 sl which r b fv n tx w0 w1 k)
        show (Tm.op (.bin .eql .i64) [.int i, .v 8]).den = .bool _
        rw [den_op, dens_cons, dens_cons, dens_nil, h8, den_int, tden_bin]
        by_cases e : i = k
        · simp [intD, e]
        · simp [intD, e]
          exact fun h => e (by omega)
    by_cases hik : i = k
    · rcases hxf with ⟨f, rfl, rfl, hwk⟩ | ⟨rfl, rfl⟩
      · have hq := K.qq f i (by omega)
        unfold chkQ at hq
        refine TriL.fin (envAt _) hg (tb := (get1 (.op .nth [.v 6, .int i]) 8, .int (val fv f)) :: tI b i true) ⟨?_, hI true (by simp [hik])⟩ hk0 hq (.inl ⟨rfl, i + 1, rfl, ?_, hlt, by omega⟩)
        · refine @get1_den (vals (D9 sl which r b fv n tx w0 w1 k)) _ _ ?_ hx.1 hx.2
          rw [wd_nth (vals (D9 sl which r b fv n tx w0 w1 k)) h6 (show i < 12 by omega), hik, hwk]
        · rw [e9]
      · have hq := K.mm i (by omega)
        unfold chkM at hq
        refine TriL.fin (envAt _) hg (tb := tI b i true) (hI true (by simp [hik])) hk0 hq (.inl ⟨rfl, i + 1, rfl, ?_, hlt, by omega⟩)
        rw [e9]
    · have hq := K.nn x flt hkind i (by omega)
      unfold chkN at hq
      refine TriL.fin (envAt _) hg (tb := neT i :: tI b i false) ⟨?_, hI false (by simp [hik])⟩ hk0 hq (.inl ⟨rfl, i + 1, rfl, ?_, hlt, by omega⟩)
      · refine hole_ne (vals (D9 sl which r b fv n tx w0 w1 k)) ?_
        rw [wd_nth (vals (D9 sl which r b fv n tx w0 w1 k)) h5 (show i < 12 by omega), wd_nth (vals (D9 sl which r b fv n tx w0 w1 k)) h6 (show i < 12 by omega), hw i (by omega) hik]
      · rw [e9]
  · rintro V' σ' ⟨-, rfl, rfl⟩
    refine TriL.fin (l := L18) (envAt _) hg (tb := []) trivial (by show 1 ≤ 1; omega) (kZ (.int id)) ⟨?_, rfl, rfl⟩
    rfl
theorem ok (id : Int) (hid : intD .and .i64 id 65535 = .int r) (hn0 : 0 < n)
    (hmade : @Fact.Ok (vals (ls.D5 sl r b fv n tx)) P G (xM np))
    (hLL : @Fact.Ok (vals (ls.D5 sl r b fv n tx ++ [wl r n])) P G (xL np))
    (hcy : ∀ w, @Fact.Ok (vals [wd w]) P G (cy.x np)) (hsm : ∀ w, @Fact.Ok (vals [wd w, wd w]) P G (sm.x np))
    (hsp : ∀ V : Val, @Fact.Ok V P G ls.spk) : @Fact.Ok (vals [md.ints sl, .int id, .int which]) P G x := by
  have hg : cx.glob = G := by kernel_rfl
  obtain ⟨k, hk, hpw, hpk⟩ := pick n hn0 (by omega) which
  have hkm : k < m := by omega
  refine Fact.ok_tri (fn := fn) (cd := cd) (envAt _) func body (Q := Fin (vals [md.ints sl, .int id, .int which])) ?tri ?hq
  case hq =>
    rintro V' ex σ' ⟨rfl, rfl, rfl⟩
    exact ⟨rfl, .inr rfl, kE⟩
  refine Tri.flat (by kernel_rfl) ?_
  show TriL P G _ cx none 1 L _ _
  have hw0 : wl r n = wd (fun j => if j < n then ent r j else 0) := rfl
  generalize hw : (fun j => if j < n then ent r j else 0) = w0 at hw0
  -- what stands in the words behind Resolve
  obtain ⟨w1, hw1⟩ : ∃ w1 : Nat → Int, w1 = if symOf sl k = 2 then w0 else upd w0 k (val fv (decide (symOf sl k = 1))) := ⟨_, rfl⟩
  refine TriL.go 4 (know1 (envAt _) (hsp _)) hg stays_none (tb := []) trivial (Nat.le_refl 1) (kA (bnds r fv (Mof b n (symOf sl))).tm tx.tm (.int fv) (wl r n).tm (wd w1).tm) ?_
  have h8 : ([.v 0, idT, (bnds r fv (Mof b n (symOf sl))).tm, tx.tm, .int fv, (wl r n).tm, (wd w1).tm, .v 2] : List Tm).map (@Tm.den (vals [md.ints sl, .int id, .int which])) = D8 sl which r b fv n tx w0 w1 := by
    have h1 : @Tm.den (vals [md.ints sl, .int id, .int which]) idT = .int r := hid
    simp only [List.map_cons, List.map_nil, D.tm_den, h1, hw0]
    rfl
  rw [h8]
  obtain ⟨hB, hFu⟩ := Bool.and_eq_true_iff.1 K.kb
  obtain ⟨hB, hD⟩ := Bool.and_eq_true_iff.1 hB
  obtain ⟨hB, hC⟩ := Bool.and_eq_true_iff.1 hB
  obtain ⟨hBu, hBv⟩ := Bool.and_eq_true_iff.1 hB
  obtain ⟨hCu, hCv⟩ := Bool.and_eq_true_iff.1 hC
  obtain ⟨hFu, hFu4⟩ := Bool.and_eq_true_iff.1 hFu
  obtain ⟨hFu, hFu3⟩ := Bool.and_eq_true_iff.1 hFu
  obtain ⟨hFu1, hFu2⟩ := Bool.and_eq_true_iff.1 hFu
  have hK := K.kk k hkm
  unfold chkK at hK
  obtain ⟨hE, hF⟩ := Bool.and_eq_true_iff.1 hK
  have e5 : (vs 5).map (@Tm.den (vals (D8 sl which r b fv n tx w0 w1))) = ls.D5 sl r b fv n tx := rfl
  have e6 : (vs 6).map (@Tm.den (vals (D8 sl which r b fv n tx w0 w1))) = ls.D5 sl r b fv n tx ++ [wl r n] := by rw [hw0]; rfl
  have e8 : (vs 8).map (@Tm.den (vals (D8 sl which r b fv n tx w0 w1))) = D8 sl which r b fv n tx w0 w1 := rfl
  have h2 : @Tm.den (vals (D8 sl which r b fv n tx w0 w1)) (.v 2) = bnds r fv (Mof b n (symOf sl)) := rfl
  have h7 : @Tm.den (vals (D8 sl which r b fv n tx w0 w1)) (.v 7) = .int which := rfl
  have hlen := len_den (vals (D8 sl which r b fv n tx w0 w1)) h2
  have y1 : @Fact.Ok (vals (D8 sl which r b fv n tx w0 w1)) P G (xM np) := Fact.use (tb := []) trivial e5 hmade hBu
  have y3 : @Fact.Ok (vals (D8 sl which r b fv n tx w0 w1)) P G (y3 np) := Fact.use (tb := []) trivial e6 hLL hCu
  refine TriL.go (l := L4) 1 (know1 (envAt _) y1) hg stays_none (tb := []) trivial (Nat.le_refl 1) hBv ?_
  rw [e8]
  refine TriL.go (l := L5) 2 (know1 (envAt _) y3) hg stays_none (tb := []) trivial (by show 1 ≤ 19; omega) hCv ?_
  rw [e8]
  refine TriL.go (l := L7) 2 (envAt _) hg stays_none (tb := [(.op (.bin .eql .i64) [lenV, .int 0], .bool false)]) ⟨?_, trivial⟩ (by show 1 ≤ 19; omega) hD ?_
  · letI := vals (D8 sl which r b fv n tx w0 w1)
    rw [den_op, dens_cons, dens_cons, dens_nil]
    show TOp.den (.bin .eql .i64) [(Tm.op .len [.v 2]).den, _] = _
    rw [hlen, den_int, tden_bin]
    simp [intD]; omega
  rw [e8]
  refine TriL.go (l := L9) 1 (envAt _) hg stays_none (tb := kT k) ⟨?_, ?_, trivial⟩ (by show 1 ≤ 19; omega) hE ?_
  · letI := vals (D8 sl which r b fv n tx w0 w1)
    rw [den_op, dens_cons, dens_cons, dens_nil]
    show TOp.den (.bin .neq .i64) [(Tm.op .len [.v 2]).den, _] = _
    rw [hlen, den_int, tden_bin]
    simp [intD]; omega
  · letI := vals (D8 sl which r b fv n tx w0 w1)
    have hl : (lenV).den = .int n := hlen
    rw [den_op, dens_cons, dens_cons, dens_nil, den_op, dens_cons, dens_cons, dens_nil, den_op, dens_cons, dens_cons, dens_nil, h7, hl]
    simp only [tden_bin, intD, den_int, D.int.injEq]
    rw [hpw, hpk]
  rw [e8]
  have ycA : @Fact.Ok (vals (D8 sl which r b fv n tx w0 w1)) P G (cA np) := Fact.use (tb := []) (ts := [.v 5]) trivial (ds' := [wd w0]) rfl (hcy w0) hFu1
  have ycB : @Fact.Ok (vals (D8 sl which r b fv n tx w0 w1)) P G (cB np) := Fact.use (tb := []) (ts := [.v 6]) trivial (ds' := [wd w1]) rfl (hcy w1) hFu2
  have ymA : @Fact.Ok (vals (D8 sl which r b fv n tx w0 w1)) P G (mA np) := Fact.use (tb := []) (ts := [.v 6, .v 6]) trivial (ds' := [wd w1, wd w1]) rfl (hsm w1) hFu3
  unfold chkF at hF
  refine TriL.go (l := L10) 1 (know1 (envAt _) ycA) hg stays_none (tb := []) trivial (by show 1 ≤ 19; omega) hF ?_
  rw [e8]
  show TriL P G _ cx none 1 L11 (sF np k) _
  have hsy : symOf sl k = tt (sl.getD k 0) + 1 := rfl
  have e9 : (vs 8 ++ [Tm.int k]).map (@Tm.den (vals (D8 sl which r b fv n tx w0 w1))) = D9 sl which r b fv n tx w0 w1 k := rfl
  have hval : ∀ f, 0 ≤ val fv f ∧ val fv f < 2 ^ 64 := fun f => by unfold val; cases f <;> simp <;> omega
  by_cases hs2 : symOf sl k = 2
  · -- the symbol is missing
    rw [if_pos hs2] at hw1
    have hG := K.rg k hkm
    unfold chkG at hG
    obtain ⟨hG, hJ⟩ := Bool.and_eq_true_iff.1 hG
    obtain ⟨hG, hI⟩ := Bool.and_eq_true_iff.1 hG
    obtain ⟨hG, hH⟩ := Bool.and_eq_true_iff.1 hG
    unfold chkGG at hG; unfold chkIG at hI; unfold chkH at hH; unfold chkJ at hJ
    obtain ⟨hGu, hGv⟩ := Bool.and_eq_true_iff.1 hG
    obtain ⟨hIu, hIv⟩ := Bool.and_eq_true_iff.1 hI
    have hfact := rs.ok2 (R.c2 k hkm) (R.e k hkm) (md.ints sl) tx (.int fv) r n (by omega) hk (symOf sl) hs2 w0
    have yG : @Fact.Ok (vals (D8 sl which r b fv n tx w0 w1)) P G (zG np k) := by
      have he : (vs 6).map (@Tm.den (vals (D8 sl which r b fv n tx w0 w1))) = ls.D5 sl r b fv n tx ++ [wd w0] := rfl
      exact Fact.use (tb := []) trivial he hfact hGu
    have yG2 : @Fact.Ok (vals (D8 sl which r b fv n tx w0 w1)) P G (zG2 np k) := by
      have he : (vs 5 ++ [Tm.v 6]).map (@Tm.den (vals (D8 sl which r b fv n tx w0 w1))) = ls.D5 sl r b fv n tx ++ [wd w0] := by rw [hw1]; rfl
      exact Fact.use (tb := []) trivial he hfact hIu
    have ymB : @Fact.Ok (vals (D8 sl which r b fv n tx w0 w1)) P G (mB np) := by
      have he : ([.v 5, .v 6] : List Tm).map (@Tm.den (vals (D8 sl which r b fv n tx w0 w1))) = [wd w0, wd w0] := by rw [hw1]; rfl
      exact Fact.use (tb := []) trivial he (hsm w0) hFu4
    have eG : (vs 6 ++ [Tm.v 5, Tm.v 7]).map (@Tm.den (vals (D8 sl which r b fv n tx w0 w1))) = D8 sl which r b fv n tx w0 w1 := by rw [hw1]; rfl
    refine TriL.go (l := L11) 1 (know1 (envAt _) yG) hg stays_none (tb := []) trivial (by show 1 ≤ 30; omega) hGv ?_
    rw [eG]
    refine TriL.go (l := L12) 1 (know1 (envAt _) ycB) hg stays_none (tb := []) trivial (by show 1 ≤ 31; omega) hH ?_
    rw [e8]
    refine TriL.go (l := L13) 1 (know1 (envAt _) yG2) hg stays_none (tb := []) trivial (by show 1 ≤ 42; omega) hIv ?_
    rw [e8]
    refine TriL.go (l := L14) 3 (know2 (envAt _) ymA ymB) hg stays_none (tb := []) trivial (by show 1 ≤ 43; omega) hJ ?_
    rw [e9]
    exact loop K R hfv hm sl which r hr n hn hns tx w0 w1 k 0 rs.fltG (.inr ⟨rfl, rfl⟩) (fun i _ _ => by rw [hw1]) (by omega) id
  · rw [if_neg hs2] at hw1
    generalize hf : decide (symOf sl k = 1) = f at hw1
    have hG := K.rr f k hkm
    unfold chkR at hG
    obtain ⟨hG, hJ⟩ := Bool.and_eq_true_iff.1 hG
    obtain ⟨hG, hI⟩ := Bool.and_eq_true_iff.1 hG
    obtain ⟨hG, hH⟩ := Bool.and_eq_true_iff.1 hG
    unfold chkGR at hG; unfold chkIR at hI; unfold chkH at hH; unfold chkJ at hJ
    obtain ⟨hGu, hGv⟩ := Bool.and_eq_true_iff.1 hG
    obtain ⟨hIu, hIv⟩ := Bool.and_eq_true_iff.1 hI
    have hfact : ∀ w, @Fact.Ok (vals (ls.D5 sl r b fv n tx ++ [wd w, wd (upd w k (val fv f))])) P G (rs.x np fv f k) := by
      intro w
      rcases tt_cases (sl.getD k 0) with ht | ht | ht
      · have h1 : symOf sl k = 1 := by rw [hsy, ht]; rfl
        have : f = true := by rw [← hf, h1]; rfl
        subst this
        exact rs.ok1 (R.c1 k hkm) (R.e k hkm) (md.ints sl) tx (.int fv) r n (by omega) hk (symOf sl) h1 w
      · exact absurd (by rw [hsy, ht]; rfl) hs2
      · have h1 : symOf sl k = 3 := by rw [hsy, ht]; rfl
        have : f = false := by rw [← hf, h1]; rfl
        subst this
        exact rs.ok3 (R.c3 k hkm) (R.e k hkm) (md.ints sl) tx (.int fv) r n (by omega) hk (symOf sl) h1 w
    have h5 : @Tm.den (vals (D8 sl which r b fv n tx w0 w1)) (.v 5) = wd w0 := rfl
    have hws : @Tm.den (vals (D8 sl which r b fv n tx w0 w1)) (ly.wset k (.int (val fv f))) = wd w1 := by
      rw [wset_den (vals (D8 sl which r b fv n tx w0 w1)) h5 rfl, hw1]
    have yG : @Fact.Ok (vals (D8 sl which r b fv n tx w0 w1)) P G (zR np fv f k) := by
      have he : (vs 6 ++ [ly.wset k (.int (val fv f))]).map (@Tm.den (vals (D8 sl which r b fv n tx w0 w1))) = ls.D5 sl r b fv n tx ++ [wd w0, wd (upd w0 k (val fv f))] := by
        rw [List.map_append, List.map_cons, List.map_nil, hws, hw1]; rfl
      exact Fact.use (tb := []) trivial he (hfact w0) hGu
    have hw11 : wd (upd w1 k (val fv f)) = wd w1 := by
      refine wd_congr fun j _ => ?_
      rw [hw1]
      unfold upd
      by_cases e : j = k
      · simp [e]
      · simp [e]
    have yG2 : @Fact.Ok (vals (D8 sl which r b fv n tx w0 w1)) P G (zR2 np fv f k) := by
      have he : (vs 5 ++ [Tm.v 6, Tm.v 6]).map (@Tm.den (vals (D8 sl which r b fv n tx w0 w1))) = ls.D5 sl r b fv n tx ++ [wd w1, wd (upd w1 k (val fv f))] := by rw [hw11]; rfl
      exact Fact.use (tb := []) trivial he (hfact w1) hIu
    have eG : (vs 6 ++ [ly.wset k (.int (val fv f)), Tm.v 7]).map (@Tm.den (vals (D8 sl which r b fv n tx w0 w1))) = D8 sl which r b fv n tx w0 w1 := by
      rw [List.map_append, List.map_cons, List.map_cons, List.map_nil, hws]; rfl
    refine TriL.go (l := L11) 1 (know1 (envAt _) yG) hg stays_none (tb := []) trivial (by show 1 ≤ 30; omega) hGv ?_
    rw [eG]
    refine TriL.go (l := L12) 1 (know1 (envAt _) ycB) hg stays_none (tb := []) trivial (by show 1 ≤ 31; omega) hH ?_
    rw [e8]
    refine TriL.go (l := L13) 1 (know1 (envAt _) yG2) hg stays_none (tb := []) trivial (by show 1 ≤ 42; omega) hIv ?_
    rw [e8]
    refine TriL.go (l := L14) 3 (know1 (envAt _) ymA) hg stays_none (tb := []) trivial (by show 1 ≤ 43; omega) hJ ?_
    rw [e9]
    refine loop K R hfv hm sl which r hr n hn hns tx w0 w1 k (val fv f) fault (.inl ⟨f, rfl, rfl, ?_⟩) (fun i _ hik => ?_) (hval f) id
    · rw [hw1]; unfold upd; rw [if_pos rfl]
    · rw [hw1]; unfold upd; rw [if_neg hik]
end
end la
end lz
end Go.Proofs.YtjmjbjnbfodalaaGreat
