/- the law LazyAgain with no slots: whatever the number and the slot: true. No condition. -/
import Derived.Test.YtjmjbjnbfodalaaGreatLzNil
import Derived.Test.YtjmjbjnbfodalaaGreatLzAgain
set_option linter.unusedSimpArgs false
set_option linter.unusedVariables false
set_option linter.unusedSectionVars false
set_option maxRecDepth 1000000
namespace Go.Proofs.YtjmjbjnbfodalaaGreat
open Go.Tc
namespace lz
namespace la
def sB0 : St := { vars := [(2, bi (.v 7)), (6, .bool false), (7, .ptr 10 0), (8, .ptr 13 0), (9, .nilSlice), (10, .bool true)], loc := [], marks := [], objs := spaceE 3 ++ [mem], next := 19 }
theorem u10 : usesSo (tableNf []) G (subs (vs 2)) [] xM0 xM0 = true := by kernel_rfl
theorem b0 : evFl P ((E0.know [xM0]).tab []) 100000 cx none 1 (L4.take 1) sA [] (subs (vs 8)) (nmB 3) .normal sB0 = true := by kernel_rfl
theorem z0 (g : Tm) : evFl P (E0.tab []) 100000 cx none 1 L5 sB0 [] (subs [.v 0, g, .v 7]) [] .ret fin = true := by kernel_rfl
noncomputable def N8 (which : Int) (r : Int) : List D := [md.ints [], .int r, .int 0, .int 0, .int 0, .int 0, .int 0, .int which]
theorem ok0 (which id r : Int) (hid : intD .and .i64 id 65535 = .int r) (hsp : ∀ V : Val, @Fact.Ok V P G ls.spk) : @Fact.Ok (vals [md.ints [], .int id, .int which]) P G x := by
  have hg : cx.glob = G := by kernel_rfl
  refine Fact.ok_tri (fn := fn) (cd := cd) (envAt _) func body (Q := Fin (vals [md.ints [], .int id, .int which])) ?tri ?hq
  case hq =>
    rintro V' ex σ' ⟨rfl, rfl, rfl⟩
    exact ⟨rfl, .inr rfl, kE⟩
  refine Tri.flat (by kernel_rfl) ?_
  show TriL P G _ cx none 1 L _ _
  refine TriL.go 4 (one_ok (hsp _)) hg stays_none (tb := []) trivial (Nat.le_refl 1) (kA (.int 0) (.int 0) (.int 0) (.int 0) (.int 0)) ?_
  have h8 : ([.v 0, idT, .int 0, .int 0, .int 0, .int 0, .int 0, .v 2] : List Tm).map (@Tm.den (vals [md.ints [], .int id, .int which])) = N8 which r := by
    have h1 : @Tm.den (vals [md.ints [], .int id, .int which]) idT = .int r := hid
    simp only [List.map_cons, List.map_nil, h1]
    rfl
  rw [h8]
  have e8 : (vs 8).map (@Tm.den (vals (N8 which r))) = N8 which r := rfl
  have e2 : (vs 2).map (@Tm.den (vals (N8 which r))) = [md.ints [], .int r] := rfl
  have y1 : @Fact.Ok (vals (N8 which r)) P G xM0 := Fact.use (tb := []) trivial e2 (made0 r) u10
  refine TriL.go (l := L4) 1 (one_ok y1) hg stays_none (tb := []) trivial (Nat.le_refl 1) b0 ?_
  rw [e8]
  exact TriL.fin (l := L5) (envAt _) hg (tb := []) trivial (by show 1 ≤ 19; omega) (z0 (.int id)) ⟨rfl, rfl, rfl⟩
end la
end lz
end Go.Proofs.YtjmjbjnbfodalaaGreat
