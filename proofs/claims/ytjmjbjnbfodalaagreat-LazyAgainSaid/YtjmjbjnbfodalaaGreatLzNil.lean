/- the law LazySlots with no slots: whatever the number and the calls: true. No condition. -/
import Derived.Test.YtjmjbjnbfodalaaGreatLzLaw
import Derived.Test.YtjmjbjnbfodalaaGreatLzNilK
set_option linter.unusedSimpArgs false
set_option linter.unusedVariables false
set_option linter.unusedSectionVars false
set_option maxRecDepth 100000
namespace Go.Proofs.YtjmjbjnbfodalaaGreat
open Go.Tc
namespace lz
theorem one_ok {y : Fact} {l : List D} (hy : @Fact.Ok (vals l) P G y) : @EnvOk (vals l) P G (E0.know [y]) := @EnvOk.know (vals l) P G _ (envAt _) [y] fun z hz => by
  rw [List.mem_singleton] at hz
  rw [hz]; exact hy
theorem two_ok {y z : Fact} {l : List D} (hy : @Fact.Ok (vals l) P G y) (hz : @Fact.Ok (vals l) P G z) : @EnvOk (vals l) P G (E0.know [y, z]) := @EnvOk.know (vals l) P G _ (envAt _) [y, z] fun q hq => by
  rcases List.mem_cons.1 hq with e | e
  · rw [e]; exact hy
  · rw [List.mem_singleton] at e
    rw [e]; exact hz
theorem made0 (id : Int) : @Fact.Ok (vals [md.ints [], .int id]) P G xM0 := by
  have hg : md.cx.glob = G := by kernel_rfl
  refine Fact.ok_tri (fn := md.fn) (cd := md.cd) (envAt _) md.func md.body (Q := fun V' ex σ' => V' = vals [md.ints [], .int id] ∧ ex = .ret ∧ σ' = endM0) ?tri ?hq
  case hq =>
    rintro V' ex σ' ⟨rfl, rfl, rfl⟩
    exact ⟨rfl, .inr rfl, eM0⟩
  refine Tri.flat (by kernel_rfl) ?_
  show TriL P G _ md.cx none 1 md.L _ _
  refine TriL.fin (two_ok (@b3_ok (vals [md.ints [], .int id]) trivial) (@b6_ok (vals [md.ints [], .int id]) trivial)) hg (tb := len0) ⟨rfl, trivial⟩ (Nat.le_refl 1) kM0 ⟨rfl, rfl, rfl⟩
namespace ls
end ls
end lz
end Go.Proofs.YtjmjbjnbfodalaaGreat
