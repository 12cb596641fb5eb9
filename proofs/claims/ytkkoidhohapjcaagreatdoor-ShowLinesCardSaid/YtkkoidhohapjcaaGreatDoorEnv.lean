/- what stands beside the given program where it is run by the evaluator: the three functions without a body that the runs reach; the program's facts that the evaluator's soundness asks for. No condition. -/
import Derived.Test.YtkkoidhohapjcaaGreatDoorProg
import Derived.Test.YtkkoidhohapjcaaGreatDoorTcIns
import Derived.Test.YtkkoidhohapjcaaGreatDoorTcStr
import Derived.Test.YtkkoidhohapjcaaGreatDoorTcLib
import Derived.Test.YtkkoidhohapjcaaGreatDoorTcFlat
set_option linter.unusedSimpArgs false
set_option linter.unusedVariables false
set_option linter.unusedSectionVars false
namespace Go.Proofs.YtkkoidhohapjcaaGreatDoor
open Go.Tc

noncomputable abbrev P : Program := Tryz.prog
abbrev G : Nat := 7
/-- kinds of cells that zero values do not tell. -/
def kinds (_ : Nat) : Option (List CK) := none
def E0 : Env := { exts := [(180, .noEscape), (206, .makeNoZero 5), (212, .indexByteString)], prim := fun _ _ _ => none, nf := fun t => t, kinds }
/-- unknown data; loops over functions are named by where they stand. -/
noncomputable abbrev vals (l : List D) : Val := valsC (codeAt P) l
noncomputable abbrev EC : Env := E0.named P

theorem ext180 : ExtOk P 180 .noEscape := ⟨Tryz.f180, _, Tryz.func180, by kernel_rfl, by kernel_rfl, by kernel_rfl, (by kernel_rfl : Extern.find Tryz.f180 = some Extern.AbiNoEscape.same), rfl⟩
theorem ext206 : ExtOk P 206 (.makeNoZero 5) := ⟨Tryz.f206, _, Tryz.func206, by kernel_rfl, by kernel_rfl, by kernel_rfl, (by kernel_rfl : Extern.find Tryz.f206 = some (Extern.BytealgMakeNoZero.makeNoZero #[3] #[53])), #[3], 53, rfl, by kernel_rfl⟩
theorem ext212 : ExtOk P 212 .indexByteString := ⟨Tryz.f212, _, Tryz.func212, by kernel_rfl, by kernel_rfl, by kernel_rfl, (by kernel_rfl : Extern.find Tryz.f212 = some Extern.BytealgIndexByte.indexByte), rfl⟩

theorem names : (P.funcs.toList.all fun fn => !(fn.name == "runtime.NumGoroutine")) = true := by kernel_rfl

theorem env0 [Val] : EnvOk P G E0 where
  glob := by kernel_rfl
  mixed := by kernel_rfl
  nf := fun _ => rfl
  code := fun _ _ _ h => by cases h
  ext := by
    intro f x h
    simp only [Env.ext, E0, List.find?] at h
    split at h
    · rename_i h1; have := eq_of_beq h1; subst this; simp only [Option.map_some, Option.some.injEq] at h; subst h; exact ext180
    · split at h
      · rename_i h1; have := eq_of_beq h1; subst this; simp only [Option.map_some, Option.some.injEq] at h; subst h; exact ext206
      · split at h
        · rename_i h1; have := eq_of_beq h1; subst this; simp only [Option.map_some, Option.some.injEq] at h; subst h; exact ext212
        · cases h
  names := by
    intro f fn hf _ hn
    have h := List.all_eq_true.1 names fn (Array.mem_toList_iff.2 (Array.mem_of_getElem? hf))
    rw [hn] at h
    exact absurd h (by decide)
  prim := by intro f args H r H' h; cases h

theorem envAt (V : Val) : @EnvOk V P G E0 := @env0 V
theorem envC (l : List D) : @EnvOk (vals l) P G EC := EnvOk.named (@env0 (vals l))
theorem knowsNone [Val] : ∀ x ∈ ([] : List Fact), x.Ok P G := fun _ h => by cases h
theorem knows [Val] {x : Fact} {l : List Fact} (h : x.Ok P G) (t : ∀ y ∈ l, y.Ok P G) : ∀ y ∈ x :: l, y.Ok P G := fun y hy => by
  rcases List.mem_cons.1 hy with e | e
  · rw [e]; exact h
  · exact t y e
end Go.Proofs.YtkkoidhohapjcaaGreatDoor
