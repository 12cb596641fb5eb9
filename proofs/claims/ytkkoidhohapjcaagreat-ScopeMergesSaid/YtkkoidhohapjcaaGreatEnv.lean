/- what stands beside the given program where it is run by the evaluator: the three functions without a body that the runs reach; the program's facts that the evaluator's soundness asks for. No condition. -/
import Derived.Test.YtkkoidhohapjcaaGreatProg
import Derived.Test.YtkkoidhohapjcaaGreatTcVals
set_option linter.unusedSimpArgs false
set_option linter.unusedVariables false
set_option linter.unusedSectionVars false
namespace Go.Proofs.YtkkoidhohapjcaaGreat
open Go.Tc

noncomputable abbrev P : Program := Tryz.prog
abbrev G : Nat := 1
/-- a member of a scope without an object. -/
def mK : List CK := [.int .i64, .int .u64, .ref []]
/-- kinds of cells that zero values do not tell. -/
def kinds (t : Nat) : Option (List CK) := bif t.beq 79 then some mK else bif t.beq 76 then some [.isl mK] else none
def E0 : Env := ⟨[(304, .noEscape), (305, .makeNoZero 5), (347, .indexByteString)], fun _ _ _ => none, fun t => t, kinds⟩

theorem ext304 : ExtOk P 304 .noEscape := ⟨Tryz.f304, _, Tryz.func304, by kernel_rfl, by kernel_rfl, by kernel_rfl, (by kernel_rfl : Extern.find Tryz.f304 = some Extern.AbiNoEscape.same), rfl⟩
theorem ext305 : ExtOk P 305 (.makeNoZero 5) := ⟨Tryz.f305, _, Tryz.func305, by kernel_rfl, by kernel_rfl, by kernel_rfl, (by kernel_rfl : Extern.find Tryz.f305 = some (Extern.BytealgMakeNoZero.makeNoZero #[3] #[53])), #[3], 53, rfl, by kernel_rfl⟩
theorem ext347 : ExtOk P 347 .indexByteString := ⟨Tryz.f347, _, Tryz.func347, by kernel_rfl, by kernel_rfl, by kernel_rfl, (by kernel_rfl : Extern.find Tryz.f347 = some Extern.BytealgIndexByte.indexByte), rfl⟩

theorem names : (P.funcs.toList.all fun fn => !(fn.name == "runtime.NumGoroutine")) = true := by kernel_rfl

theorem env0 [Val] : EnvOk P G E0 where
  glob := by kernel_rfl
  mixed := by kernel_rfl
  nf := fun _ => rfl
  ext := by
    intro f x h
    simp only [Env.ext, E0, List.find?] at h
    split at h
    · rename_i h1; have := eq_of_beq h1; subst this; simp only [Option.map_some, Option.some.injEq] at h; subst h; exact ext304
    · split at h
      · rename_i h1; have := eq_of_beq h1; subst this; simp only [Option.map_some, Option.some.injEq] at h; subst h; exact ext305
      · split at h
        · rename_i h1; have := eq_of_beq h1; subst this; simp only [Option.map_some, Option.some.injEq] at h; subst h; exact ext347
        · cases h
  names := by
    intro f fn hf _ hn
    have h := List.all_eq_true.1 names fn (Array.mem_toList_iff.2 (Array.mem_of_getElem? hf))
    rw [hn] at h
    exact absurd h (by decide)
  prim := by intro f args H r H' h; cases h

theorem envAt (V : Val) : @EnvOk V P G E0 := @env0 V
theorem knowsNone [Val] : ∀ x ∈ ([] : List Fact), x.Ok P G := fun _ h => by cases h
theorem knows [Val] {x : Fact} {l : List Fact} (h : x.Ok P G) (t : ∀ y ∈ l, y.Ok P G) : ∀ y ∈ x :: l, y.Ok P G := fun y hy => by
  rcases List.mem_cons.1 hy with e | e
  · rw [e]; exact h
  · exact t y e
end Go.Proofs.YtkkoidhohapjcaaGreat
