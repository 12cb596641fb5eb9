/- slices.IndexFunc over members of a scope, with the test of scope.Merge: the first member of a number. No condition. -/
import Derived.Test.YtkkoidhohapjcaaGreatEnv
set_option linter.unusedSimpArgs false
set_option linter.unusedVariables false
set_option linter.unusedSectionVars false
namespace Go.Proofs.YtkkoidhohapjcaaGreat
open Go.Tc

/-- the number of a member. -/
def idOf (d : D) : D := eltFld mK d 0
def idsOk (L : List D) : Prop := ∀ d ∈ L, ∃ n : Int, idOf d = .int n ∧ -2 ^ 63 ≤ n ∧ n < 2 ^ 63
def indexOf (x : Int) : List D → Int
  | [] => -1
  | d :: r => match idOf d with
    | .int n => if n = x then 0 else if indexOf x r = -1 then -1 else indexOf x r + 1
    | _ => -1

theorem indexOf_ge (x : Int) : ∀ L, -1 ≤ indexOf x L
  | [] => by simp [indexOf]
  | d :: r => by
    have := indexOf_ge x r
    simp only [indexOf]
    split
    · split
      · omega
      · split <;> omega
    · omega

namespace ix
-- 0: the members; 1 2 3: the one that is sought; 4: the answer; 5: the loop's number
def x : Fact := ⟨174, [.lsl 2 3 (.int 0) (.op .len [.v 0]) .rd, .fn (.func 82) [] [.ptr 1 0]], 3, [(1, .row [.sy (.int .i64) (.v 1), .sy (.int .u64) (.v 2), .sy (.ref []) (.v 3)] 79 .solid), (2, .lrow mK (.v 0) 79 (.buf 0 false))],
  .sy (.int .i64) (.v 4), [(1, .row [.sy (.int .i64) (.v 1), .sy (.int .u64) (.v 2), .sy (.ref []) (.v 3)] 79 .solid), (2, .lrow mK (.v 0) 79 (.buf 0 false))], 3⟩
noncomputable def fn : Func := Tryz.f174
noncomputable def cd : Code := match fn.body with | some c => c | none => .skip
noncomputable def cx : Ctx := cxOf P fn cd x.args.length
def a (c : Code) : Code := match c with | .seq x _ => x | _ => .skip
def b (c : Code) : Code := match c with | .seq _ x => x | .block _ x => x | .loop x => x | _ => .skip
noncomputable def c0 : Code := a cd
noncomputable def c1 : Code := a (a (b cd))
noncomputable def lp : Code := b (b (b (a (b cd))))
noncomputable def c2 : Code := b (b cd)
theorem cd_eq : cd = .seq c0 (.seq (.seq c1 (.block 0 (.loop lp))) c2) := by kernel_rfl
theorem func : P.funcs[x.f]? = some fn := Tryz.func174
theorem body : fn.body = some cd := by kernel_rfl

/-- where the loop stands. -/
def inv : St := { vars := [(0, .lsl 2 3 (.int 0) (.op .len [.v 0]) .rd), (1, .fn (.func 82) [] [.ptr 1 0]), (7, .sy (.int .i64) (.op .len [.v 0])), (8, .sy (.int .i64) (.v 5))], loc := [], marks := [], objs := x.pre, next := 3 }
def s0 : St := { vars := [(0, .lsl 2 3 (.int 0) (.op .len [.v 0]) .rd), (1, .fn (.func 82) [] [.ptr 1 0])], loc := [], marks := [], objs := x.pre, next := 3 }
def mid : St := { vars := [], loc := [], marks := [], objs := x.pre, next := 3 }
def fin : St := { vars := [(4, .sy (.int .i64) (.v 4))], loc := [], marks := [], objs := x.pre, next := 3 }
def lss : Tm := .op (.bin .lss .i64) [.v 5, .op .len [.v 0]]
def leq0 : Tm := .op (.bin .leq .i64) [.int 0, .v 5]
def eqs : Tm := .op (.bin .eql .i64) [.op (.fld 0) [.op .nth [.v 0, .v 5]], .v 1]
theorem k0_ : evIce P (E0.tab []) 100000 cx none 3 c0 (startSt x) [] (subs [.v 0, .v 1, .v 2, .v 3, .v 4]) [] .normal s0 = true := by kernel_rfl
theorem k1_ : evIce P (E0.tab []) 100000 cx none 3 c1 s0 [] (subs [.v 0, .v 1, .v 2, .v 3, .v 4, .int 0]) [] .normal inv = true := by kernel_rfl
theorem kA_ : evIce P (E0.tab [(lss, .bool false)]) 100000 cx none 3 lp inv [] (subs [.v 0, .v 1, .v 2, .v 3, .v 4]) [] (.exit 0) mid = true := by kernel_rfl
theorem kB_ : evIce P (E0.tab [(lss, .bool true), (leq0, .bool true), (eqs, .bool true), (.v 4, .v 5)]) 100000 cx none 3 lp inv [] (subs [.v 0, .v 1, .v 2, .v 3, .v 4]) [] .ret fin = true := by kernel_rfl
theorem kC_ : evIce P (E0.tab [(lss, .bool true), (leq0, .bool true), (eqs, .bool false)]) 100000 cx none 3 lp inv [] (subs [.v 0, .v 1, .v 2, .v 3, .v 4, .op (.bin .add .i64) [.v 5, .int 1]]) [] .normal inv = true := by kernel_rfl
theorem k2_ : evIce P (E0.tab [(.v 4, .int (-1))]) 100000 cx none 3 c2 mid [] (subs [.v 0, .v 1, .v 2, .v 3, .v 4]) [] .ret fin = true := by kernel_rfl

theorem get_den (V : Val) {L : List D} (h : V.θ 0 = .list L) {i : Nat} (hi : V.θ 5 = .int i) : @Tm.den V (.op (.fld 0) [.op .nth [.v 0, .v 5]]) = idOf (L.getD i .bad) := by
  simp only [den_op, dens_cons, dens_nil, den_v, h, hi, tden_nth, idOf, eltFld, mK, Int.toNat_natCast]
  cases L.getD i .bad <;> rfl

theorem ok (L : List D) (x1 : Int) (d2 d3 : D) (hL : idsOk L) (hn : L.length ≤ 2 ^ 30) : @Fact.Ok (vals [.list L, .int x1, d2, d3, .int (indexOf x1 L)]) P G x := by
  generalize hr : indexOf x1 L = r
  refine Fact.ok_tri (fn := fn) (cd := cd) (envAt _) func body (Q := fun V' ex σ' => V' = vals [.list L, .int x1, d2, d3, .int r] ∧ ex = .ret ∧ σ' = fin) ?tri ?hq
  case hq =>
    rintro V' ex σ' ⟨rfl, rfl, rfl⟩
    exact ⟨rfl, .inr rfl, by kernel_rfl⟩
  show Tri P G _ cx none 3 cd (startSt x) _
  rw [cd_eq]
  have hg : cx.glob = G := by kernel_rfl
  refine Tri.goSeq (envAt _) hg stays_none (tb := []) trivial (Nat.le_refl 3) k0_ ?_
  refine Tri.seq stays_none (Q1 := fun V' ex σ' => (ex = .normal ∧ V' = vals [.list L, .int x1, d2, d3, .int r] ∧ σ' = mid ∧ r = -1) ∨ (ex = .ret ∧ V' = vals [.list L, .int x1, d2, d3, .int r] ∧ σ' = fin)) ?_ ?_ ?_
  · refine Tri.goSeq (envAt _) hg stays_none (tb := []) trivial (Nat.le_refl 3) k1_ (Tri.block ?_)
    refine Tri.loop (α := Nat) (fun i => i ≤ L.length ∧ r = if indexOf x1 (L.drop i) = -1 then -1 else indexOf x1 (L.drop i) + i) (fun i => L.length - i) (fun i => vals [.list L, .int x1, d2, d3, .int r, .int (i : Int)]) stays_none ?_ 0 ?_
    · rintro i ⟨hi, hI⟩
      have hb : (i : Int) < 2 ^ 62 := by omega
      have hw : IntKind.i64.wrap ((i : Int) + 1) = ((i + 1 : Nat) : Int) := by rw [IntWalk.i64_in _ (by omega)]; simp
      by_cases hlt : i < L.length
      · obtain ⟨m, hm, -⟩ := hL (L[i]) (List.getElem_mem hlt)
        have hd : L.getD i .bad = L[i] := by simp [List.getD_eq_getElem?_getD, hlt]
        have hdrop : L.drop i = L[i] :: L.drop (i + 1) := List.drop_eq_getElem_cons hlt
        have hf : @Tm.den (vals [.list L, .int x1, d2, d3, .int r, .int (i : Int)]) (.op (.fld 0) [.op .nth [.v 0, .v 5]]) = .int m := by
          rw [get_den (i := i) _ rfl rfl, hd, hm]
        rw [hdrop] at hI
        simp only [indexOf, hm] at hI
        by_cases he : m = x1
        · rw [if_pos he] at hI
          refine Tri.go (envAt _) hg (tb := [(lss, .bool true), (leq0, .bool true), (eqs, .bool true), (.v 4, .v 5)]) ⟨?_, ?_, ?_, ?_, trivial⟩ (Nat.le_refl 3) kB_ (.inr ⟨by simp, .inr ⟨rfl, rfl, rfl⟩⟩)
          · simp [lss, hlt]
          · simp [leq0]
          · simp only [eqs, den_op, dens_cons, dens_nil] at hf ⊢
            rw [hf]; simp [he]
          · simp at hI
            simp [hI]
        · rw [if_neg he] at hI
          refine Tri.go (envAt _) hg (tb := [(lss, .bool true), (leq0, .bool true), (eqs, .bool false)]) ⟨?_, ?_, ?_, trivial⟩ (Nat.le_refl 3) kC_ (.inl ⟨rfl, rfl, i + 1, ?_, ⟨hlt, ?_⟩, by omega⟩)
          · simp [lss, hlt]
          · simp [leq0]
          · simp only [eqs, den_op, dens_cons, dens_nil] at hf ⊢
            rw [hf]; simp [he]
          · simp [hw]
          · by_cases h1 : indexOf x1 (L.drop (i + 1)) = -1
            · simp [h1] at hI ⊢; exact hI
            · simp only [h1, if_false] at hI ⊢
              have := indexOf_ge x1 (L.drop (i + 1))
              split at hI <;> omega
      · have hi' : i = L.length := by omega
        subst hi'
        refine Tri.go (envAt _) hg (tb := [(lss, .bool false)]) ⟨?_, trivial⟩ (Nat.le_refl 3) kA_ (.inr ⟨by simp, .inl ⟨rfl, rfl, rfl, ?_⟩⟩)
        · simp [lss]
        · simpa [indexOf] using hI
    · simp [← hr]
  · rintro V' σ' (⟨-, rfl, rfl, hr1⟩ | ⟨h, -⟩)
    · exact Tri.go (envAt _) hg (tb := [(.v 4, .int (-1))]) ⟨by simp [hr1], trivial⟩ (Nat.le_refl 3) k2_ ⟨rfl, rfl, rfl⟩
    · cases h
  · rintro V' ex σ' hne (⟨h, -⟩ | ⟨rfl, rfl, rfl⟩)
    · exact absurd h hne
    · exact ⟨rfl, rfl, rfl⟩
end ix
end Go.Proofs.YtkkoidhohapjcaaGreat
