/- one operation: those that read nothing, those that only read, those that make a block. -/
import Derived.Test.YtkkoidhohapjcaaGreatDoorTcExt
set_option linter.unusedSimpArgs false
set_option linter.unusedVariables false
set_option linter.unusedSectionVars false
namespace Go.Tc
variable [Val]

section
variable {P : Program} {G : Nat} {β : Pl} {H : AHeap} {w : World} {E : Env} {S : Evs} {c : Ctx} {T : Tmps} {ev : Operand → Value}

/-- what the operands of an operation stand for. -/
def OpsR (β : Pl) (c : Ctx) (T : Tmps) (ev : Operand → Value) (l : Array Operand) : Prop := ∀ x ∈ l, ∀ v, aeval c T x = some v → VR β v (ev x)

theorem aevals_of {l : List Operand} : ∀ {vs : List AV}, (∀ x ∈ l, ∀ v, aeval c T x = some v → VR β v (ev x)) → aevals c T l = some vs → VRs β vs (l.map ev) := by
  induction l with
  | nil => intro vs _ h; cases h; exact .nil
  | cons x r ih =>
    intro vs hρ h
    simp only [aevals] at h
    cases hx : aeval c T x with
    | none => simp [hx] at h
    | some y =>
      cases hr : aevals c T r with
      | none => simp [hx, hr] at h
      | some ys =>
        simp only [hx, hr, Option.some.injEq] at h
        subst h
        exact .cons (hρ x (by simp) y hx) (ih (fun z hz => hρ z (by simp [hz])) hr)

theorem parts_of : ∀ {l : List (Nat × Operand)} {vs : List AV}, VRs β vs ((l.map (·.2)).map ev) → PartsR β ((l.map (·.1)).zip vs) (l.map fun (i, x) => (i, ev x))
  | [], vs, h => by cases h; trivial
  | (i, x) :: l, vs, h => by
    cases h with | cons h hs =>
    exact ⟨rfl, h, parts_of hs⟩

theorem optR_of {o : Option Operand} {vs : List AV} (h : VRs β vs (o.toList.map ev)) : OptR β vs.head? (o.map ev) := by
  cases o with
  | none => cases h; exact trivial
  | some x => cases h with | cons h hs => exact h

/-! ### operations that read no block -/
theorem pure_run (hn : ∀ t, (E.nf t).den = t.den) {o : Oper} {v : AV} {H' : AHeap} (hc : cls o.op = .pure) (h : opA P E S c o T H = some (v, H')) (hρ : OpsR β c T ev o.op.operands) :
    H' = H ∧ ∃ u, (execOp ev o).run P w = .ok (.value u) w ∧ VR β v u := by
  obtain ⟨dst, op, type, pos, after, guard⟩ := o
  simp only at hc hρ
  cases op <;> try (simp only [cls, reduceCtorEq] at hc)
  case move x =>
    simp only [opA, Option.map_eq_some_iff, Prod.mk.injEq] at h
    obtain ⟨y, hy, rfl, rfl⟩ := h
    exact ⟨rfl, _, rfl, hρ x (by simp [Op.operands]) _ hy⟩
  case assign x =>
    simp only [opA, Option.map_eq_some_iff, Prod.mk.injEq] at h
    obtain ⟨y, hy, rfl, rfl⟩ := h
    exact ⟨rfl, _, rfl, hρ x (by simp [Op.operands]) _ hy⟩
  case pick q a b =>
    simp only [opA] at h
    split at h
    · rename_i t x y hq hx hy
      cases h
      have h1 := hρ q (by simp [Op.operands]) _ hq
      have h2 := hρ a (by simp [Op.operands]) _ hx
      have h3 := hρ b (by simp [Op.operands]) _ hy
      generalize hev : ev q = vq at h1
      cases h1
      refine ⟨rfl, if t = true then ev a else ev b, by simp [execOp, hev, asBool, Result.andThen], ?_⟩
      cases t <;> simp_all
    · cases h
  case build t parts =>
    simp only [opA] at h
    split at h
    · rename_i vs hvs
      rw [Option.map_eq_some_iff] at h
      obtain ⟨r, hr, he⟩ := h
      cases he
      have hp := parts_of (aevals_of (fun x hx => hρ x (by simpa [Op.operands] using hx)) hvs)
      obtain ⟨u, h1, h2⟩ := buildA_run (P := P) (w := w) (parts' := parts.map fun (i, x) => (i, ev x)) hr (by simpa using hp)
      exact ⟨rfl, u, by simp [execOp, h1, Result.andThen], h2⟩
    · cases h
  case nilCheck x =>
    simp only [opA] at h
    split at h <;> try (cases h; done)
    · rename_i ks t hy
      split at h
      · rename_i hr
        cases h
        have h1 := hρ x (by simp [Op.operands]) _ hy
        refine ⟨rfl, ev x, ?_, h1⟩
        generalize hev : ev x = vx at h1
        cases h1 with | sy hc =>
        generalize hd : t.den = d at hc
        cases hc with
        | rnil =>
          have hl : (mkT E.nf .len [t]).den = .int 0 := by rw [mkT_den hn]; simp [Tm.dens, hd, TOp.den]
          have := inRangeT_den hn hr (a := 0) (b := 0) rfl hl
          omega
        | ref hi => simp [execOp, hev]
      · cases h
    rename_i y n1 n2 n3 n4 n5 hy
    cases h
    have h1 := hρ x (by simp [Op.operands]) _ hy
    refine ⟨rfl, ev x, ?_, h1⟩
    generalize hev : ev x = vx at h1
    cases h1 <;> try (simp_all [execOp]; done)
    case sy ck tm hcc => generalize tm.den = d at hcc; cases hcc <;> first | (exfalso; exact n5 _ _ rfl) | simp_all [execOp]
    case fn f f' a b a' b' hf ha hb =>
      cases hf <;> first | (simp [execOp, hev]; done) | (exfalso; exact n4 _ _ _ rfl)
  case unOp op t x =>
    simp only [opA, Option.map_eq_some_iff, Option.bind_eq_some_iff, Prod.mk.injEq] at h
    obtain ⟨r, ⟨y, hy, hr⟩, rfl, rfl⟩ := h
    obtain ⟨u, h1, h2⟩ := unOpA_run (P := P) (w := w) hn hr (hρ x (by simp [Op.operands]) _ hy)
    exact ⟨rfl, u, by simp [execOp, h1, Result.andThen], h2⟩
  case makeInterface t x =>
    simp only [opA] at h
    split at h
    · cases h
    · rename_i d hd hu
      simp only [Option.map_eq_some_iff, Prod.mk.injEq] at h
      obtain ⟨y, hy, rfl, rfl⟩ := h
      refine ⟨rfl, .iface t (ev x), ?_, .iface t (hρ x (by simp [Op.operands]) _ hy)⟩
      simp only [execOp, Instr.makeInterface, Sem.run_bind, run_underlying (undT_und hu), Result.andThen_ok]
      simp
    · cases h
  case makeFunc f first captured =>
    simp only [opA] at h
    split at h
    · rename_i g a b hf h1 h2
      cases h
      have k1 := aevals_of (fun x hx => hρ x (by simp [Op.operands]; exact .inl (by simpa using hx))) h1
      have k2 := aevals_of (fun x hx => hρ x (by simp [Op.operands]; exact .inr (by simpa using hx))) h2
      refine ⟨rfl, .func f (first.map ev) (captured.map ev), by simp [execOp, Instr.makeFunc, Result.andThen], .fn ?_ (by simpa using k1) (by simpa using k2)⟩
      cases f <;> simp only [fnA, Option.some.injEq, reduceCtorEq] at hf <;> subst hf <;> constructor
    · cases h
  case fieldAddr s x i =>
    simp only [opA, Option.map_eq_some_iff, Option.bind_eq_some_iff, Prod.mk.injEq] at h
    obtain ⟨r, ⟨y, hy, hr⟩, rfl, rfl⟩ := h
    obtain ⟨u, h1, h2⟩ := fieldAddrA_run (P := P) (w := w) hr (derefA_VR hn (hρ x (by simp [Op.operands]) _ hy))
    exact ⟨rfl, u, by simp [execOp, h1, Result.andThen], h2⟩
  case field s x i =>
    simp only [opA, Option.map_eq_some_iff, Option.bind_eq_some_iff, Prod.mk.injEq] at h
    obtain ⟨r, ⟨y, hy, hr⟩, rfl, rfl⟩ := h
    obtain ⟨u, h1, h2⟩ := fieldA_run (P := P) (w := w) hr (hρ x (by simp [Op.operands]) _ hy)
    exact ⟨rfl, u, by simp [execOp, h1, Result.andThen], h2⟩
  case indexAddr t x i =>
    simp only [opA] at h
    split at h
    · rename_i y z hy hz
      simp only [Option.map_eq_some_iff, Prod.mk.injEq] at h
      obtain ⟨r, hr, rfl, rfl⟩ := h
      obtain ⟨u, h1, h2⟩ := indexAddrA_run (P := P) (w := w) hn hr (hρ x (by simp [Op.operands]) _ hy) (hρ i (by simp [Op.operands]) _ hz)
      exact ⟨rfl, u, by simp [execOp, h1, Result.andThen], h2⟩
    · cases h
  case index t x i =>
    simp only [opA] at h
    split at h
    · rename_i y z hy hz
      simp only [Option.map_eq_some_iff, Prod.mk.injEq] at h
      obtain ⟨r, hr, rfl, rfl⟩ := h
      obtain ⟨u, h1, h2⟩ := indexA_run (P := P) (w := w) hn hr (hρ x (by simp [Op.operands]) _ hy) (hρ i (by simp [Op.operands]) _ hz)
      exact ⟨rfl, u, by simp [execOp, h1, Result.andThen], h2⟩
    · cases h
  case typeAssert x xt t ok =>
    simp only [opA, Option.map_eq_some_iff, Option.bind_eq_some_iff, Prod.mk.injEq] at h
    obtain ⟨r, ⟨y, hy, hr⟩, rfl, rfl⟩ := h
    obtain ⟨u, h1, h2⟩ := typeAssertA_run (P := P) (w := w) (xt := xt) hr (hρ x (by simp [Op.operands]) _ hy)
    exact ⟨rfl, u, by simp [execOp, h1, Result.andThen], h2⟩
  case extract x i =>
    simp only [opA] at h
    split at h
    · rename_i l hl
      simp only [Option.map_eq_some_iff, Prod.mk.injEq] at h
      obtain ⟨r, hr, rfl, rfl⟩ := h
      obtain ⟨u, h1, h2⟩ := extractA_run (P := P) (w := w) hr (hρ x (by simp [Op.operands]) _ hl)
      exact ⟨rfl, u, by simp [execOp, h1, Result.andThen], h2⟩
    · cases h
  all_goals (first | (simp only [opA, reduceCtorEq] at h; done) | (split at hc <;> first | (cases hc; done) | (rename_i hq; cases hq; done) | (simp_all; done)))

end
end Go.Tc
