/- what stands beside the given program where it is run by the evaluator: the three functions without a body that the runs reach; the program's facts that the evaluator's soundness asks for. No condition. -/
import Derived.Test.YtmjibbnnpfbkfaaGreatDoorProg
import Derived.Test.YtmjibbnnpfbkfaaGreatDoorTbStart
namespace Go.Proofs.YtmjibbnnpfbkfaaGreatDoor
open Go.Tb

noncomputable abbrev P : Program := Tryz.prog
abbrev G : Nat := 5
def E0 : Env := ⟨[(281, .noEscape), (370, .indexByteString), (414, .makeNoZero 5)], fun _ _ _ => none⟩

theorem ext281 : ExtOk P 281 .noEscape := ⟨Tryz.f281, _, Tryz.func281, by kernel_rfl, by kernel_rfl, by kernel_rfl, (by kernel_rfl : Extern.find Tryz.f281 = some Extern.AbiNoEscape.same), rfl⟩
theorem ext370 : ExtOk P 370 .indexByteString := ⟨Tryz.f370, _, Tryz.func370, by kernel_rfl, by kernel_rfl, by kernel_rfl, (by kernel_rfl : Extern.find Tryz.f370 = some Extern.BytealgIndexByte.indexByte), rfl⟩
theorem ext414 : ExtOk P 414 (.makeNoZero 5) := ⟨Tryz.f414, _, Tryz.func414, by kernel_rfl, by kernel_rfl, by kernel_rfl, (by kernel_rfl : Extern.find Tryz.f414 = some (Extern.BytealgMakeNoZero.makeNoZero #[3] #[158])), #[3], 158, rfl, by kernel_rfl⟩

theorem names : (P.funcs.toList.all fun fn => !(fn.name == "runtime.NumGoroutine")) = true := by kernel_rfl

theorem env0 : EnvOk P G E0 where
  glob := by kernel_rfl
  mixed := by kernel_rfl
  ext := by
    intro f x h
    simp only [Env.ext, E0, List.find?] at h
    split at h
    · rename_i h1; have := eq_of_beq h1; subst this; simp only [Option.map_some, Option.some.injEq] at h; subst h; exact ext281
    · split at h
      · rename_i h1; have := eq_of_beq h1; subst this; simp only [Option.map_some, Option.some.injEq] at h; subst h; exact ext370
      · split at h
        · rename_i h1; have := eq_of_beq h1; subst this; simp only [Option.map_some, Option.some.injEq] at h; subst h; exact ext414
        · cases h
  names := by
    intro f fn hf _ hn
    have h := List.all_eq_true.1 names fn (Array.mem_toList_iff.2 (Array.mem_of_getElem? hf))
    rw [hn] at h
    exact absurd h (by decide)
  prim := by intro f args H r H' h; cases h

theorem knowsNone : ∀ x ∈ ([] : List Fact), x.Ok P G := fun _ h => by cases h
theorem knows {x : Fact} {l : List Fact} (h : x.Ok P G) (t : ∀ y ∈ l, y.Ok P G) : ∀ y ∈ x :: l, y.Ok P G := fun y hy => by
  rcases List.mem_cons.1 hy with e | e
  · rw [e]; exact h
  · exact t y e
end Go.Proofs.YtmjibbnnpfbkfaaGreatDoor
