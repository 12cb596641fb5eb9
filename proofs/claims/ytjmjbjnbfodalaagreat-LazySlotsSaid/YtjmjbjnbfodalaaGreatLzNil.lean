/- the law LazySlots with no slots: whatever the number and the calls: true. No condition. -/
import Derived.Test.YtjmjbjnbfodalaaGreatLzLaw
import Derived.Test.YtjmjbjnbfodalaaGreatLzNilK
set_option linter.unusedSimpArgs false
set_option linter.unusedVariables false
set_option linter.unusedSectionVars false
set_option maxRecDepth 100000
namespace Go.Proofs.YtjmjbjnbfodalaaGreat
open Go.Tc
namespace lz
theorem one_ok {y : Fact} {l : List D} (hy : @Fact.Ok (vals l) P G y) : @EnvOk (vals l) P G (E0.know [y]) := @EnvOk.know (vals l) P G _ (envAt _) [y] fun z hz => by
  rw [List.mem_singleton] at hz
  rw [hz]; exact hy
theorem two_ok {y z : Fact} {l : List D} (hy : @Fact.Ok (vals l) P G y) (hz : @Fact.Ok (vals l) P G z) : @EnvOk (vals l) P G (E0.know [y, z]) := @EnvOk.know (vals l) P G _ (envAt _) [y, z] fun q hq => by
  rcases List.mem_cons.1 hq with e | e
  · rw [e]; exact hy
  · rw [List.mem_singleton] at e
    rw [e]; exact hz
theorem made0 (id : Int) : @Fact.Ok (vals [md.ints [], .int id]) P G xM0 := by
  have hg : md.cx.glob = G := by kernel_rfl
  refine Fact.ok_tri (fn := md.fn) (cd := md.cd) (envAt _) md.func md.body (Q := fun V' ex σ' => V' = vals [md.ints [], .int id] ∧ ex = .ret ∧ σ' = endM0) ?tri ?hq
  case hq =>
    rintro V' ex σ' ⟨rfl, rfl, rfl⟩
    exact ⟨rfl, .inr rfl, eM0⟩
  refine Tri.flat (by kernel_rfl) ?_
  show TriL P G _ md.cx none 1 md.L _ _
  refine TriL.fin (two_ok (@b3_ok (vals [md.ints [], .int id]) trivial) (@b6_ok (vals [md.ints [], .int id]) trivial)) hg (tb := len0) ⟨rfl, trivial⟩ (Nat.le_refl 1) kM0 ⟨rfl, rfl, rfl⟩
namespace ls
noncomputable def N8 (calls : List Int) (r : Int) : List D := [md.ints [], .int r, .int 0, .int 0, .int 0, .int 0, .int 0, md.ints calls]
noncomputable def N10 (calls : List Int) (r : Int) (i : Nat) : List D := N8 calls r ++ [.int 0, .int (i : Nat)]
theorem ok0 (calls : List Int) (id r : Int) (hid : intD .and .i64 id 65535 = .int r) (hsp : ∀ V : Val, @Fact.Ok V P G spk) : @Fact.Ok (vals [md.ints [], .int id, md.ints calls]) P G x := by
  have hg : cx.glob = G := by kernel_rfl
  refine Fact.ok_tri (fn := fn) (cd := cd) (envAt _) func body (Q := fun V' ex σ' => V' = vals [md.ints [], .int id, md.ints calls] ∧ ex = .ret ∧ σ' = fin) ?tri ?hq
  case hq =>
    rintro V' ex σ' ⟨rfl, rfl, rfl⟩
    exact ⟨rfl, .inr rfl, kE⟩
  refine Tri.flat (by kernel_rfl) ?_
  show TriL P G _ cx none 1 L _ _
  refine TriL.go 4 (one_ok (hsp _)) hg stays_none (tb := []) trivial (Nat.le_refl 1) (kA (.int 0) (.int 0) (.int 0) (.int 0) (.int 0)) ?_
  have h8 : ([.v 0, idT, .int 0, .int 0, .int 0, .int 0, .int 0, .v 2] : List Tm).map (@Tm.den (vals [md.ints [], .int id, md.ints calls])) = N8 calls r := by
    have h1 : @Tm.den (vals [md.ints [], .int id, md.ints calls]) idT = .int r := hid
    simp only [List.map_cons, List.map_nil, h1]
    rfl
  rw [h8]
  have e8 : (vs 8).map (@Tm.den (vals (N8 calls r))) = N8 calls r := rfl
  have e2 : (vs 2).map (@Tm.den (vals (N8 calls r))) = [md.ints [], .int r] := rfl
  have y1 : @Fact.Ok (vals (N8 calls r)) P G xM0 := Fact.use (tb := []) trivial e2 (made0 r) u10
  have y2 : @Fact.Ok (vals (N8 calls r)) P G y20 := Fact.use (tb := []) trivial e2 (made0 r) u20
  refine TriL.go (l := L4) 1 (one_ok y1) hg stays_none (tb := []) trivial (Nat.le_refl 1) b0 ?_
  rw [e8]
  refine TriL.go (l := L5) 1 (one_ok y2) hg stays_none (tb := []) trivial (by show 1 ≤ 19; omega) c0 ?_
  rw [e8]
  refine TriL.go (l := L6) 2 (envAt _) hg stays_none (tb := []) trivial (by show 1 ≤ 37; omega) d0 ?_
  rw [e8]
  refine TriL.go (l := L8) 2 (envAt _) hg stays_none (tb := []) trivial (by show 1 ≤ 37; omega) e0 ?_
  have e10 : (vs 8 ++ [Tm.int 0, Tm.int 0]).map (@Tm.den (vals (N8 calls r))) = N10 calls r 0 := rfl
  rw [e10]
  show TriL P G _ cx none 1 L10 _ _
  rw [at10]
  refine TriL.cons stays_none (Q1 := fun V' ex σ' => ex = .normal ∧ σ' = inv0 ∧ ∃ i, V' = vals (N10 calls r i)) (Tri.block ?_) ?_ (fun V' ex σ' hne h => absurd h.1 hne)
  · refine Tri.loop (α := Nat) (fun i => i ≤ 20) (fun i => 20 - i) (fun i => vals (N10 calls r i)) stays_none ?_ 0 (by omega)
    intro i hi
    refine Tri.flat (by kernel_rfl) ?_
    show TriL P G _ cx none 1 lp inv0 _
    have hk0 : (1 : Nat) ≤ inv0.next := by show 1 ≤ 38; omega
    have h7 : @Tm.den (vals (N10 calls r i)) (.v 7) = md.ints calls := rfl
    have h9 : @Tm.den (vals (N10 calls r i)) (.v 9) = .int (i : Nat) := rfl
    have hlt : ∀ c : Bool, decide (i < calls.length) = c → @Tm.den (vals (N10 calls r i)) (ltC c).1 = @Tm.den (vals (N10 calls r i)) (ltC c).2 := by
      rintro c rfl
      letI := vals (N10 calls r i)
      show (Tm.op (.bin .lss .i64) [.v 9, .op .len [.v 7]]).den = .bool (decide (i < calls.length))
      rw [den_op, dens_cons, dens_cons, dens_nil, den_op, dens_cons, dens_nil, h7, h9]
      simp only [md.ints, tden_len, md.ints_len, tden_bin, intD, D.bool.injEq]
      rw [Bool.eq_iff_iff]; simp
    have h20 : ∀ c : Bool, decide (i < 20) = c → @Tm.den (vals (N10 calls r i)) (lt20 c).1 = @Tm.den (vals (N10 calls r i)) (lt20 c).2 := by
      rintro c rfl
      letI := vals (N10 calls r i)
      show (Tm.op (.bin .lss .i64) [.v 9, .int 20]).den = .bool (decide (i < 20))
      rw [den_op, dens_cons, dens_cons, dens_nil, h9, den_int]
      simp only [tden_bin, intD, D.bool.injEq]
      rw [Bool.eq_iff_iff]; simp; omega
    by_cases hc : i < calls.length
    case neg => exact TriL.fin (envAt _) hg (tb := [ltC false]) ⟨hlt false (by simp [hc]), trivial⟩ hk0 x00 (.inr ⟨by simp, rfl, rfl, i, rfl⟩)
    by_cases hi20 : i < 20
    case neg => exact TriL.fin (envAt _) hg (tb := [ltC true, lt20 false]) ⟨hlt true (by simp [hc]), h20 false (by simp [hi20]), trivial⟩ hk0 x01 (.inr ⟨by simp, rfl, rfl, i, rfl⟩)
    have hin : ∀ l, @AllEq (vals (N10 calls r i)) l → @AllEq (vals (N10 calls r i)) (inC ++ l) := fun l hl => by
      refine ⟨hlt true (by simp [hc]), h20 true (by simp [hi20]), ?_, hl⟩
      letI := vals (N10 calls r i)
      rw [den_op, dens_cons, dens_cons, dens_nil, h9, den_int]
      simp only [tden_bin, intD, den_bool, D.bool.injEq, decide_eq_true_eq]; omega
    have hcall : @Tm.den (vals (N10 calls r i)) callT = .int (calls.getD i 0) := by
      letI := vals (N10 calls r i)
      unfold callT
      rw [den_op, dens_cons, dens_cons, dens_nil, h7, h9]
      simp only [md.ints, tden_nth, Int.toNat_natCast]
      exact md.ints_nth calls i hc
    have hnxt : @Tm.den (vals (N10 calls r i)) nxt = .int ((i + 1 : Nat) : Int) := by
      letI := vals (N10 calls r i)
      unfold nxt
      rw [den_op, dens_cons, dens_cons, dens_nil, h9, den_int, tden_bin]
      simp only [intD]
      rw [wrap_i64 (by omega)]
      congr 1
    have hto : (vs 9 ++ [nxt]).map (@Tm.den (vals (N10 calls r i))) = N10 calls r (i + 1) := by
      rw [List.map_append, List.map_cons, List.map_nil, hnxt]; rfl
    generalize calls.getD i 0 = c at hcall
    have hb : ∀ (o : BinOp) (q : Bool), intD o .i64 c 0 = .bool q → @Tm.den (vals (N10 calls r i)) (.op (.bin o .i64) [callT, .int 0]) = .bool q := fun o q h => by
      letI := vals (N10 calls r i)
      rw [den_op, dens_cons, dens_cons, dens_nil, hcall, den_int, tden_bin]; exact h
    by_cases hneg : c < 0
    · refine TriL.fin (envAt _) hg (tb := tO00) (hin _ ⟨hb _ _ ?_, hb _ _ ?_, trivial⟩) hk0 o00 (.inl ⟨rfl, rfl, i + 1, ?_, by omega, by omega⟩)
      · simp [hneg]
      · simp; omega
      · rw [hto]
    · refine TriL.fin (envAt _) hg (tb := tO01) (hin _ ⟨hb _ _ ?_, hb _ _ ?_, ?_, trivial⟩) hk0 o01 (.inl ⟨rfl, rfl, i + 1, ?_, by omega, by omega⟩)
      · simp; omega
      · simp; omega
      · letI := vals (N10 calls r i)
        rw [den_op, dens_cons, dens_nil, hb .lss false (by simp; omega)]; rfl
      · rw [hto]
  · rintro V' σ' ⟨-, rfl, i, rfl⟩
    exact TriL.fin (l := L11) (envAt _) hg (tb := []) trivial (by show 1 ≤ 38; omega) (z00 (.int id)) ⟨rfl, rfl, rfl⟩
end ls
end lz
end Go.Proofs.YtjmjbjnbfodalaaGreat
