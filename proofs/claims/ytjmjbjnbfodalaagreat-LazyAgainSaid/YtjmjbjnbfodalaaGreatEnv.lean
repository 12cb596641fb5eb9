/- what stands beside the given program where it is run by the evaluator: the three functions without a body that the runs reach; the program's facts that the evaluator's soundness asks for. No condition. -/
import Derived.Test.YtjmjbjnbfodalaaGreatProg
import Derived.Test.YtjmjbjnbfodalaaGreatTcIns
import Derived.Test.YtjmjbjnbfodalaaGreatTcStr
import Derived.Test.YtjmjbjnbfodalaaGreatTcLib
set_option linter.unusedSimpArgs false
set_option linter.unusedVariables false
set_option linter.unusedSectionVars false
namespace Go.Proofs.YtjmjbjnbfodalaaGreat
open Go.Tc
noncomputable abbrev P : Program := Tryz.prog
abbrev G : Nat := 1
def kinds (_ : Nat) : Option (List CK) := none
def E0 : Env := { exts := [(301, .noEscape), (317, .makeNoZero 5), (326, .indexByteString)], prim := fun _ _ _ => none, nf := fun t => t, kinds }
noncomputable abbrev vals (l : List D) : Val := valsC (codeAt P) l
noncomputable abbrev EC : Env := E0.named P
theorem ext301 : ExtOk P 301 .noEscape := ⟨Tryz.f301, _, Tryz.func301, by kernel_rfl, by kernel_rfl, by kernel_rfl, (by kernel_rfl : Extern.find Tryz.f301 = some Extern.AbiNoEscape.same), rfl⟩
theorem ext317 : ExtOk P 317 (.makeNoZero 5) := ⟨Tryz.f317, _, Tryz.func317, by kernel_rfl, by kernel_rfl, by kernel_rfl, (by kernel_rfl : Extern.find Tryz.f317 = some (Extern.BytealgMakeNoZero.makeNoZero #[3] #[137])), #[3], 137, rfl, by kernel_rfl⟩
theorem ext326 : ExtOk P 326 .indexByteString := ⟨Tryz.f326, _, Tryz.func326, by kernel_rfl, by kernel_rfl, by kernel_rfl, (by kernel_rfl : Extern.find Tryz.f326 = some Extern.BytealgIndexByte.indexByte), rfl⟩
theorem names : (P.funcs.toList.all fun fn => !(fn.name == "runtime.NumGoroutine")) = true := by kernel_rfl
theorem env0 [Val] : EnvOk P G E0 where
  glob := by kernel_rfl
  mixed := by kernel_rfl
  nf := fun _ => rfl
  code := fun _ _ _ h => by cases h
  ext := by
    intro f x h
    simp only [Env.ext, E0, List.find?] at h
    split at h
    · rename_i h1; have := eq_of_beq h1; subst this; simp only [Option.map_some, Option.some.injEq] at h; subst h; exact ext301
    · split at h
      · rename_i h1; have := eq_of_beq h1; subst this; simp only [Option.map_some, Option.some.injEq] at h; subst h; exact ext317
      · split at h
        · rename_i h1; have := eq_of_beq h1; subst this; simp only [Option.map_some, Option.some.injEq] at h; subst h; exact ext326
        · cases h
  names := by
    intro f fn hf _ hn
    have h := List.all_eq_true.1 names fn (Array.mem_toList_iff.2 (Array.mem_of_getElem? hf))
    rw [hn] at h
    exact absurd h (by decide)
  prim := by intro f args H r H' h; cases h
theorem envAt (V : Val) : @EnvOk V P G E0 := @env0 V
theorem envC (l : List D) : @EnvOk (vals l) P G EC := EnvOk.named (@env0 (vals l))
theorem knowsNone [Val] : ∀ x ∈ ([] : List Fact), x.Ok P G := fun _ h => by cases h
theorem knows [Val] {x : Fact} {l : List Fact} (h : x.Ok P G) (t : ∀ y ∈ l, y.Ok P G) : ∀ y ∈ x :: l, y.Ok P G := fun y hy => by
  rcases List.mem_cons.1 hy with e | e
  · rw [e]; exact h
  · exact t y e
end Go.Proofs.YtjmjbjnbfodalaaGreat
