/- what stands beside the given program where it is run by the evaluator: the three functions without a body that the runs reach; the program's facts that the evaluator's soundness asks for. No condition. -/
import Derived.Test.YtgnnmpjafjlnfaaGreatProg
import Derived.Test.YtgnnmpjafjlnfaaGreatTbStart
namespace Go.Proofs.YtgnnmpjafjlnfaaGreat
open Go.Tb

noncomputable abbrev P : Program := Tryz.prog
abbrev G : Nat := 1
def E0 : Env := ⟨[(353, .noEscape), (374, .makeNoZero 5), (392, .indexByteString)], fun _ _ _ => none⟩

theorem ext353 : ExtOk P 353 .noEscape := ⟨Tryz.f353, _, Tryz.func353, by kernel_rfl, by kernel_rfl, by kernel_rfl, (by kernel_rfl : Extern.find Tryz.f353 = some Extern.AbiNoEscape.same), rfl⟩
theorem ext392 : ExtOk P 392 .indexByteString := ⟨Tryz.f392, _, Tryz.func392, by kernel_rfl, by kernel_rfl, by kernel_rfl, (by kernel_rfl : Extern.find Tryz.f392 = some Extern.BytealgIndexByte.indexByte), rfl⟩
theorem ext374 : ExtOk P 374 (.makeNoZero 5) := ⟨Tryz.f374, _, Tryz.func374, by kernel_rfl, by kernel_rfl, by kernel_rfl, (by kernel_rfl : Extern.find Tryz.f374 = some (Extern.BytealgMakeNoZero.makeNoZero #[3] #[71])), #[3], 71, rfl, by kernel_rfl⟩

theorem names : (P.funcs.toList.all fun fn => !(fn.name == "runtime.NumGoroutine")) = true := by kernel_rfl

theorem env0 : EnvOk P G E0 where
  glob := by kernel_rfl
  mixed := by kernel_rfl
  ext := by
    intro f x h
    simp only [Env.ext, E0, List.find?] at h
    split at h
    · rename_i h1; have := eq_of_beq h1; subst this; simp only [Option.map_some, Option.some.injEq] at h; subst h; exact ext353
    · split at h
      · rename_i h1; have := eq_of_beq h1; subst this; simp only [Option.map_some, Option.some.injEq] at h; subst h; exact ext374
      · split at h
        · rename_i h1; have := eq_of_beq h1; subst this; simp only [Option.map_some, Option.some.injEq] at h; subst h; exact ext392
        · cases h
  names := by
    intro f fn hf _ hn
    have h := List.all_eq_true.1 names fn (Array.mem_toList_iff.2 (Array.mem_of_getElem? hf))
    rw [hn] at h
    exact absurd h (by decide)
  prim := by intro f args H r H' h; cases h

theorem knowsNone : ∀ x ∈ ([] : List Fact), x.Ok P G := fun _ h => by cases h
theorem knows {x : Fact} {l : List Fact} (h : x.Ok P G) (t : ∀ y ∈ l, y.Ok P G) : ∀ y ∈ x :: l, y.Ok P G := fun y hy => by
  rcases List.mem_cons.1 hy with e | e
  · rw [e]; exact h
  · exact t y e
end Go.Proofs.YtgnnmpjafjlnfaaGreat
