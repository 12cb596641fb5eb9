/- one operation: those that read nothing, those that only read, those that make a block. -/
import Derived.Test.YtjmjbjnbfodalaaGreatTcExt
set_option linter.unusedSimpArgs false
set_option linter.unusedVariables false
set_option linter.unusedSectionVars false
namespace Go.Tc
variable [Val]

section
variable {P : Program} {G : Nat} {β : Pl} {H : AHeap} {w : World} {E : Env} {S : Evs} {c : Ctx} {T : Tmps} {ev : Operand → Value}

/-- what the operands of an operation stand for. -/
def OpsR (β : Pl) (c : Ctx) (T : Tmps) (ev : Operand → Value) (l : Array Operand) : Prop := ∀ x ∈ l, ∀ v, aeval c T x = some v → VR β v (ev x)

theorem aevals_of {l : List Operand} : ∀ {vs : List AV}, (∀ x ∈ l, ∀ v, aeval c T x = some v → VR β v (ev x)) → aevals c T l = some vs → VRs β vs (l.map ev) := by
  induction l with
  | nil => intro vs _ h; cases h; exact .nil
  | cons x r ih =>
    intro vs hρ h
    simp only [aevals] at h
    cases hx : aeval c T x with
    | none => simp [hx] at h
    | some y =>
      cases hr : aevals c T r with
      | none => simp [hx, hr] at h
      | some ys =>
        simp only [hx, hr, Option.some.injEq] at h
        subst h
        exact .cons (hρ x (by simp) y hx) (ih (fun z hz => hρ z (by simp [hz])) hr)

theorem parts_of : ∀ {l : List (Nat × Operand)} {vs : List AV}, VRs β vs ((l.map (·.2)).map ev) → PartsR β ((l.map (·.1)).zip vs) (l.map fun (i, x) => (i, ev x))
  | [], vs, h => by cases h; trivial
  | (i, x) :: l, vs, h => by
    cases h with | cons h hs =>
    exact ⟨rfl, h, parts_of hs⟩

theorem optR_of {o : Option Operand} {vs : List AV} (h : VRs β vs (o.toList.map ev)) : OptR β vs.head? (o.map ev) := by
  cases o with
  | none => cases h; exact trivial
  | some x => cases h with | cons h hs => exact h

/-! ### operations that read no block -/
theorem pure_run (hn : ∀ t, (E.nf t).den = t.den) {o : Oper} {v : AV} {H' : AHeap} (hc : cls o.op = .pure) (h : opA P E S c o T H = some (v, H')) (hρ : OpsR β c T ev o.op.operands) :
    H' = H ∧ ∃ u, (execOp ev o).run P w = .ok (.value u) w ∧ VR β v u := by
  obtain ⟨dst, op, type, pos, after, guard⟩ := o
  simp only at hc hρ
  cases op <;> try (simp only [cls, reduceCtorEq] at hc)
  case move x =>
    simp only [opA, Option.map_eq_some_iff, Prod.mk.injEq] at h
    obtain ⟨y, hy, rfl, rfl⟩ := h
    exact ⟨rfl, _, rfl, hρ x (by simp [Op.operands]) _ hy⟩
  case assign x =>
    simp only [opA, Option.map_eq_some_iff, Prod.mk.injEq] at h
    obtain ⟨y, hy, rfl, rfl⟩ := h
    exact ⟨rfl, _, rfl, hρ x (by simp [Op.operands]) _ hy⟩
  case pick q a b =>
    simp only [opA] at h
    split at h
    · rename_i t x y hq hx hy
      cases h
      have h1 := hρ q (by simp [Op.operands]) _ hq
      have h2 := hρ a (by simp [Op.operands]) _ hx
      have h3 := hρ b (by simp [Op.operands]) _ hy
      generalize hev : ev q = vq at h1
      cases h1
      refine ⟨rfl, if t = true then ev a else ev b, by simp [execOp, hev, asBool, Result.andThen], ?_⟩
      cases t <;> simp_all
    · cases h
  case build t parts =>
    simp only [opA] at h
    split at h
    · rename_i vs hvs
      rw [Option.map_eq_some_iff] at h
      obtain ⟨r, hr, he⟩ := h
      cases he
      have hp := parts_of (aevals_of (fun x hx => hρ x (by simpa [Op.operands] using hx)) hvs)
      obtain ⟨u, h1, h2⟩ := buildA_run (P := P) (w := w) (parts' := parts.map fun (i, x) => (i, ev x)) hr (by simpa using hp)
      exact ⟨rfl, u, by simp [execOp, h1, Result.andThen], h2⟩
    · cases h
  case nilCheck x =>
    simp only [opA] at h
    split at h <;> try (cases h; done)
    · rename_i ks t hy
      split at h
      · rename_i hr
        cases h
        have h1 := hρ x (by simp [Op.operands]) _ hy
        refine ⟨rfl, ev x, ?_, h1⟩
        generalize hev : ev x = vx at h1
        cases h1 with | sy hc =>
        generalize hd : t.den = d at hc
        cases hc with
        | rnil =>
          have hl : (mkT E.nf .len [t]).den = .int 0 := by rw [mkT_den hn]; simp [Tm.dens, hd, TOp.den]
          have := inRangeT_den hn hr (a := 0) (b := 0) rfl hl
          omega
        | ref hi => simp [execOp, hev]
      · cases h
    rename_i y n1 n2 n3 n4 n5 hy
    cases h
    have h1 := hρ x (by simp [Op.operands]) _ hy
    refine ⟨rfl, ev x, ?_, h1⟩
    generalize hev : ev x = vx at h1
    cases h1 <;> try (simp_all [execOp]; done)
    case sy ck tm hcc => generalize tm.den = d at hcc; cases hcc <;> first | (exfalso; exact n5 _ _ rfl) | simp_all [execOp]
    case fn f f' a b a' b' hf ha hb =>
      cases hf <;> first | (simp [execOp, hev]; done) | (exfalso; exact n4 _ _ _ rfl)
  case unOp op t x =>
    simp only [opA, Option.map_eq_some_iff, Option.bind_eq_some_iff, Prod.mk.injEq] at h
    obtain ⟨r, ⟨y, hy, hr⟩, rfl, rfl⟩ := h
    obtain ⟨u, h1, h2⟩ := unOpA_run (P := P) (w := w) hn hr (hρ x (by simp [Op.operands]) _ hy)
    exact ⟨rfl, u, by simp [execOp, h1, Result.andThen], h2⟩
  case makeInterface t x =>
    simp only [opA] at h
    split at h
    · cases h
    · rename_i d hd hu
      simp only [Option.map_eq_some_iff, Prod.mk.injEq] at h
      obtain ⟨y, hy, rfl, rfl⟩ := h
      refine ⟨rfl, .iface t (ev x), ?_, .iface t (hρ x (by simp [Op.operands]) _ hy)⟩
      simp only [execOp, Instr.makeInterface, Sem.run_bind, run_underlying (undT_und hu), Result.andThen_ok]
      simp
    · cases h
  case makeFunc f first captured =>
    simp only [opA] at h
    split at h
    · rename_i g a b hf h1 h2
      cases h
      have k1 := aevals_of (fun x hx => hρ x (by simp [Op.operands]; exact .inl (by simpa using hx))) h1
      have k2 := aevals_of (fun x hx => hρ x (by simp [Op.operands]; exact .inr (by simpa using hx))) h2
      refine ⟨rfl, .func f (first.map ev) (captured.map ev), by simp [execOp, Instr.makeFunc, Result.andThen], .fn ?_ (by simpa using k1) (by simpa using k2)⟩
      cases f <;> simp only [fnA, Option.some.injEq, reduceCtorEq] at hf <;> subst hf <;> constructor
    · cases h
  case fieldAddr s x i =>
    simp only [opA, Option.map_eq_some_iff, Option.bind_eq_some_iff, Prod.mk.injEq] at h
    obtain ⟨r, ⟨y, hy, hr⟩, rfl, rfl⟩ := h
    obtain ⟨u, h1, h2⟩ := fieldAddrA_run (P := P) (w := w) hr (derefA_VR hn (hρ x (by simp [Op.operands]) _ hy))
    exact ⟨rfl, u, by simp [execOp, h1, Result.andThen], h2⟩
  case field s x i =>
    simp only [opA, Option.map_eq_some_iff, Option.bind_eq_some_iff, Prod.mk.injEq] at h
    obtain ⟨r, ⟨y, hy, hr⟩, rfl, rfl⟩ := h
    obtain ⟨u, h1, h2⟩ := fieldA_run (P := P) (w := w) hr (hρ x (by simp [Op.operands]) _ hy)
    exact ⟨rfl, u, by simp [execOp, h1, Result.andThen], h2⟩
  case indexAddr t x i =>
    simp only [opA] at h
    split at h
    · rename_i y z hy hz
      simp only [Option.map_eq_some_iff, Prod.mk.injEq] at h
      obtain ⟨r, hr, rfl, rfl⟩ := h
      obtain ⟨u, h1, h2⟩ := indexAddrA_run (P := P) (w := w) hn hr (hρ x (by simp [Op.operands]) _ hy) (hρ i (by simp [Op.operands]) _ hz)
      exact ⟨rfl, u, by simp [execOp, h1, Result.andThen], h2⟩
    · cases h
  case index t x i =>
    simp only [opA] at h
    split at h
    · rename_i y z hy hz
      simp only [Option.map_eq_some_iff, Prod.mk.injEq] at h
      obtain ⟨r, hr, rfl, rfl⟩ := h
      obtain ⟨u, h1, h2⟩ := indexA_run (P := P) (w := w) hn hr (hρ x (by simp [Op.operands]) _ hy) (hρ i (by simp [Op.operands]) _ hz)
      exact ⟨rfl, u, by simp [execOp, h1, Result.andThen], h2⟩
    · cases h
  case typeAssert x xt t ok =>
    simp only [opA, Option.map_eq_some_iff, Option.bind_eq_some_iff, Prod.mk.injEq] at h
    obtain ⟨r, ⟨y, hy, hr⟩, rfl, rfl⟩ := h
    obtain ⟨u, h1, h2⟩ := typeAssertA_run (P := P) (w := w) (xt := xt) hr (hρ x (by simp [Op.operands]) _ hy)
    exact ⟨rfl, u, by simp [execOp, h1, Result.andThen], h2⟩
  case extract x i =>
    simp only [opA] at h
    split at h
    · rename_i l hl
      simp only [Option.map_eq_some_iff, Prod.mk.injEq] at h
      obtain ⟨r, hr, rfl, rfl⟩ := h
      obtain ⟨u, h1, h2⟩ := extractA_run (P := P) (w := w) hr (hρ x (by simp [Op.operands]) _ hl)
      exact ⟨rfl, u, by simp [execOp, h1, Result.andThen], h2⟩
    · cases h
  all_goals (first | (simp only [opA, reduceCtorEq] at h; done) | (split at hc <;> first | (cases hc; done) | (rename_i hq; cases hq; done) | (simp_all; done)))

end
end Go.Tc

namespace Go.Tc
variable [Val]

section
variable {P : Program} {G : Nat} {β : Pl} {H : AHeap} {w : World} {E : Env} {S : Evs} {c : Ctx} {T : Tmps} {ev : Operand → Value}

/-- built-in functions that only read. -/
def readsOnly : Builtin → Bool
  | .len | .cap | .min | .max | .unsafeSliceData => true
  | _ => false

theorem builtinRead_run (hn : ∀ t, (E.nf t).den = t.den) {b : Builtin} {ats : Array TypeId} {args : List AV} {vs : List Value} {v : AV} {H' : AHeap} {n : Nat} {ty : TypeId} {cs : Array Bool} (hb : readsOnly b = true) (hw : WR G β H.get n w)
    (h : builtinA P E b ats args H = some (v, H')) (ha : VRs β args vs) : H' = H ∧ ∃ u, (builtin b ats ty cs vs.toArray).run P w = .ok (.value u) w ∧ VR β v u := by
  obtain ⟨ats⟩ := ats
  unfold builtinA at h
  split at h <;> simp only [readsOnly, Bool.false_eq_true] at hb
  · rename_i t ts x r hl
    simp only at hl; subst hl
    cases ha with | @cons _ y _ ys hx hr =>
    simp only [Option.map_eq_some_iff, Prod.mk.injEq] at h
    obtain ⟨r, hr, rfl, rfl⟩ := h
    obtain ⟨u, h1, h2⟩ := lenA_run (P := P) (w := w) (ts := ts) (ty := ty) (rest := ys) hn hw hr hx
    exact ⟨rfl, u, by simp only [builtin, Sem.run_bind, h1, Result.andThen_ok, Sem.run_pure], h2⟩
  · rename_i t ts x r hl
    simp only at hl; subst hl
    cases ha with | @cons _ y _ ys hx hr =>
    simp only [Option.map_eq_some_iff, Prod.mk.injEq] at h
    obtain ⟨r, hr, rfl, rfl⟩ := h
    obtain ⟨u, h1, h2⟩ := capA_run (P := P) (w := w) (ts := ts) (ty := ty) (rest := ys) hr hx
    exact ⟨rfl, u, by simp only [builtin, Sem.run_bind, h1, Result.andThen_ok, Sem.run_pure], h2⟩
  · simp only [Option.map_eq_some_iff, Prod.mk.injEq] at h
    obtain ⟨r, hr, rfl, rfl⟩ := h
    have hq : ∃ u, (Builtin.min_ ⟨ats⟩ ty vs.toArray).run P w = .ok u w ∧ VR β r u := by
      split at hr
      · rename_i hm; cases hr; exact minA_run (P := P) (w := w) (ts := ⟨ats⟩) (ty := ty) hm ha
      · exact minS_run (P := P) (w := w) (ts := ⟨ats⟩) (ty := ty) hn hr ha
    obtain ⟨u, h1, h2⟩ := hq
    exact ⟨rfl, u, by simp only [builtin, Sem.run_bind, h1, Result.andThen_ok, Sem.run_pure], h2⟩
  · simp only [Option.map_eq_some_iff, Prod.mk.injEq] at h
    obtain ⟨r, hr, rfl, rfl⟩ := h
    have hq : ∃ u, (Builtin.max_ ⟨ats⟩ ty vs.toArray).run P w = .ok u w ∧ VR β r u := by
      split at hr
      · rename_i hm; cases hr; exact maxA_run (P := P) (w := w) (ts := ⟨ats⟩) (ty := ty) hm ha
      · exact maxS_run (P := P) (w := w) (ts := ⟨ats⟩) (ty := ty) hn hr ha
    obtain ⟨u, h1, h2⟩ := hq
    exact ⟨rfl, u, by simp only [builtin, Sem.run_bind, h1, Result.andThen_ok, Sem.run_pure], h2⟩
  · cases h
    cases ha with | cons hx hr =>
    cases hr
    cases hx
    exact ⟨rfl, .pointer none, rfl, .nilPtr⟩
  · rename_i b off len cap
    cases ha with | cons hx hr =>
    cases hr
    split at h
    · cases h
    · rename_i h0
      cases h
      cases hx with
      | @slice _ p _ _ _ k hp hc hle =>
      exact ⟨rfl, .pointer (some ⟨p.c, p.base + off, none⟩), by
        have hk : k ≠ 0 := by omega
        have hd : ∀ (a : Addr) (m : Nat), Builtin.unsafeSliceData_ ⟨ats⟩ ty #[.slice (some a) m k] = (do if k ≠ 0 then pure (.pointer (some a)) else if (← viewAt a.block).isSome then pure (.pointer (some a)) else pure (.pointer (some ⟨← newObj (.view a (← elemOf ty)), 0, none⟩)) : Sem Value) := fun _ _ => rfl
        rw [show [Value.slice (some ⟨p.c, p.base + off, none⟩) len k].toArray = #[Value.slice (some ⟨p.c, p.base + off, none⟩) len k] from rfl]
        simp only [builtin, hd, if_pos hk, Sem.run_bind, Sem.run_pure, Result.andThen_ok], .ptr off hp⟩
  · rename_i b es lo n cm
    cases ha with | cons hx hr =>
    cases hr
    split at h
    · rename_i h0
      cases h
      have k0 := holdsT_den hn h0
      cases hx with
      | @lsl _ _ _ _ _ l m k p hl hm hp hc hle =>
        simp only [Tm.dens, hm, Tm.den, TOp.den, intD, D.bool.injEq, decide_eq_true_eq] at k0
        exact ⟨rfl, .pointer (some ⟨p.c, p.base + l * es, none⟩), by
          have hk : k ≠ 0 := by omega
          have hd : ∀ (a : Addr) (m : Nat), Builtin.unsafeSliceData_ ⟨ats⟩ ty #[.slice (some a) m k] = (do if k ≠ 0 then pure (.pointer (some a)) else if (← viewAt a.block).isSome then pure (.pointer (some a)) else pure (.pointer (some ⟨← newObj (.view a (← elemOf ty)), 0, none⟩)) : Sem Value) := fun _ _ => rfl
          rw [show [Value.slice (some ⟨p.c, p.base + l * es, none⟩) m k].toArray = #[Value.slice (some ⟨p.c, p.base + l * es, none⟩) m k] from rfl]
          simp only [builtin, hd, if_pos hk, Sem.run_bind, Sem.run_pure, Result.andThen_ok], .eptr 0 hl hp⟩
      | lsl0 hl hm =>
        simp only [Tm.dens, hm, Tm.den, TOp.den, intD, D.bool.injEq, decide_eq_true_eq] at k0
        omega
      | lslE a c hl hm hc =>
        simp only [Tm.dens, hm, Tm.den, TOp.den, intD, D.bool.injEq, decide_eq_true_eq] at k0
        omega
    · cases h
  · cases h

/-! ### operations that only read -/
theorem load_run (hnf : ∀ t, (E.nf t).den = t.den) {n : Nat} {o : Oper} {v : AV} {H' : AHeap} (hc : cls o.op = .load) (hn : H'.next = H.next) (hw : WR G β H.get n w) (h : opA P E S c o T H = some (v, H')) (hρ : OpsR β c T ev o.op.operands) :
    H' = H ∧ ∃ u, (execOp ev o).run P w = .ok (.value u) w ∧ VR β v u := by
  obtain ⟨dst, op, type, pos, after, guard⟩ := o
  simp only at hc hρ
  cases op <;> try (simp only [cls, reduceCtorEq] at hc)
  case load t x =>
    simp only [opA, Option.map_eq_some_iff, Option.bind_eq_some_iff, Prod.mk.injEq] at h
    obtain ⟨r, ⟨y, hy, hr⟩, rfl, rfl⟩ := h
    obtain ⟨u, h1, h2⟩ := loadA_run (P := P) (w := w) hnf hw hr (derefA_VR hnf (hρ x (by simp [Op.operands]) _ hy))
    exact ⟨rfl, u, by simp [execOp, h1, Result.andThen], h2⟩
  case lookup t x i ok =>
    simp only [opA] at h
    split at h
    · rename_i y z hy hz
      simp only [Option.map_eq_some_iff, Prod.mk.injEq] at h
      obtain ⟨r, hr, rfl, rfl⟩ := h
      have hq : ∃ u, (Instr.lookup t (ev x) (ev i) ok).run P w = .ok u w ∧ VR β r u := by
        split at hr
        · rename_i r0 hl
          cases hr
          exact lookupL_run (P := P) (w := w) hnf hw hl (hρ x (by simp [Op.operands]) _ hy) (hρ i (by simp [Op.operands]) _ hz)
        split at hr
        · exact lookupS_run (P := P) (w := w) hnf hw hr (hρ x (by simp [Op.operands]) _ hy) (hρ i (by simp [Op.operands]) _ hz)
        · exact lookupA_run (P := P) (w := w) hw hr (hρ x (by simp [Op.operands]) _ hy) (hρ i (by simp [Op.operands]) _ hz)
      obtain ⟨u, h1, h2⟩ := hq
      exact ⟨rfl, u, by simp [execOp, h1, Result.andThen], h2⟩
    · cases h
  case binOp op t x y _ =>
    simp only [opA] at h
    split at h
    · rename_i a b hy hz
      simp only [Option.map_eq_some_iff, Prod.mk.injEq] at h
      obtain ⟨r, hr, rfl, rfl⟩ := h
      obtain ⟨u, h1, h2⟩ := binOpA_run (P := P) (w := w) hnf hw hr (hρ x (by simp [Op.operands]) _ hy) (hρ y (by simp [Op.operands]) _ hz)
      refine ⟨rfl, u, ?_, h2⟩
      simp only [execOp]
      rw [Sem.run_bind, h1]; rfl
    · cases h
  case convert src dst x =>
    simp only [opA] at h
    split at h
    · rename_i y hy
      have hv := hρ x (by simp [Op.operands]) _ hy
      split at h
      · split at h
        · split at h
          · simp only [Option.some.injEq, Prod.mk.injEq] at h
            obtain ⟨rfl, rfl⟩ := h
            rw [AHeap.next_new] at hn
            omega
          · cases h
        · cases h
      · simp only [Option.map_eq_some_iff, Prod.mk.injEq] at h
        obtain ⟨r, hr, rfl, rfl⟩ := h
        obtain ⟨u, h1, h2⟩ := convertA_run (P := P) (w := w) hnf hw hr hv
        exact ⟨rfl, u, by simp [execOp, h1, Result.andThen], h2⟩
    · cases h
  case slice t x lo hi mx =>
    simp only [opA] at h
    split at h
    · rename_i y l hh m hy hl hh' hm
      simp only [Option.map_eq_some_iff, Prod.mk.injEq] at h
      obtain ⟨r, hr, rfl, rfl⟩ := h
      have k0 := hρ x (by simp [Op.operands]) _ hy
      have k1 := optR_of (aevals_of (fun x hx => hρ x (by simp [Op.operands]; right; left; simpa using hx)) hl)
      have k2 := optR_of (aevals_of (fun x hx => hρ x (by simp [Op.operands]; right; right; left; simpa using hx)) hh')
      have k3 := optR_of (aevals_of (fun x hx => hρ x (by simp [Op.operands]; right; right; right; simpa using hx)) hm)
      obtain ⟨u, h1, h2⟩ := sliceA_run (P := P) (w := w) hnf hw hr k0 k1 k2 k3
      exact ⟨rfl, u, by simp [execOp, h1, Result.andThen], h2⟩
    · cases h
  case call q =>
    obtain ⟨callee, args, ats⟩ := q
    have hq : ∃ b, callee = .builtin b ∧ readsOnly b = true := by
      cases callee with
      | builtin b => refine ⟨b, rfl, ?_⟩; cases b <;> simp_all [readsOnly]
      | value f => simp at hc
      | invoke r m => simp at hc
    obtain ⟨b, rfl, hb⟩ := hq
    simp only [opA] at h
    split at h
    · cases h
    · rename_i vs hvs
      have ha := aevals_of (fun x hx => hρ x (by simp [Op.operands, Call.operands]; simpa using hx)) hvs
      obtain ⟨h0, u, h1, h2⟩ := builtinRead_run (P := P) (ty := type) (cs := args.map fun | .const _ => true | _ => false) hnf hb hw h ha
      refine ⟨h0, u, ?_, h2⟩
      rw [← Array.toList_map, Array.toArray_toList] at h1
      simp only [execOp, resolve, invoke, Sem.run_bind, Sem.run_pure, Result.andThen_ok]
      exact h1
  all_goals (first | (simp only [opA, reduceCtorEq] at h; done) | (split at hc <;> first | (cases hc; done) | (rename_i hq; cases hq; done) | (simp_all; done)))

end
end Go.Tc

/- operations that make a block, wherever in the logical heap it comes to lie. -/
namespace Go.Tc
variable [Val]

section
variable {P : Program} {G : Nat} {β : Pl} {H : AHeap} {w : World} {E : Env} {S : Evs} {c : Ctx} {T : Tmps} {ev : Operand → Value}

/-- a block is made: the model's, the logical one, and the value that names it. -/
def AllocAt (P : Program) (β : Pl) (w : World) (id : Nat) (v : AV) (ob : AObj) (m : Sem Value) : Prop :=
  ∃ obj sz u, m.run P w = .ok u (w.alloc obj) ∧ ∀ β', Ext β β' → β' id = some ⟨w.heap.size, 0, sz⟩ → VR β' v u ∧ ObjR β' (w.alloc obj) ⟨w.heap.size, 0, sz⟩ ob

theorem rowObj {elem : TypeId} {cells : List AV} {vs : List Value} (hc : VRs β cells vs) {β' : Pl} (he : Ext β β') :
    ObjR β' (w.alloc (.cells vs.toArray elem)) ⟨w.heap.size, 0, vs.length⟩ (.row cells elem .solid) := by
  have hlen := hc.length
  refine ⟨vs.toArray, 0, 0, World.alloc_heap_new _ _, by simp, by simp [hlen], ?_, rfl, by simp [hlen], rfl, rfl⟩
  have : (vs.toArray.toList.drop 0).take cells.length = vs := by simp [hlen]
  rw [this]
  exact hc.mono he

theorem buildSliceA_at {t : TypeId} {len : Nat} {parts : List (Nat × AV)} {parts' : Array (Nat × Value)} {e : TypeId} {cells : List AV} {id : Nat} (h : buildSliceA P t len parts = some (e, cells)) (hp : PartsR β parts parts'.toList) :
    AllocAt P β w id (.slice id 0 len (.exact len)) (.row cells e .solid) (Instr.buildSlice t len parts') := by
  unfold buildSliceA at h
  split at h
  · rename_i elem hu
    split at h
    · rename_i n z hn hz
      split at h
      · cases h
      · rename_i hc
        simp only [Bool.or_eq_true, decide_eq_true_eq, not_or] at hc
        obtain ⟨⟨hc1, hc2⟩, hc3⟩ := hc
        have hc2 : z.cells.length = n := by simpa using hc2
        rw [Option.map_eq_some_iff] at h
        obtain ⟨c, hf, he⟩ := h
        simp only [Prod.mk.injEq] at he
        obtain ⟨rfl, rfl⟩ := he
        obtain ⟨zv, h1, h2⟩ := zeroT_run (P := P) (β := β) (w := w) hz
        have hz0 := zeros_VRs (n := len) h2.cells hc2 hc3
        obtain ⟨us, h6, h7, h8⟩ := fill_run (place' := fun i => some (i * n, n)) (fun i q hq => hq) _ _ _ ((Array.range (len * n)).map (zv.cells[· % zv.cells.size]!)) _ hp hz0 hf
        have k1 : (newRow elem us.toList.toArray).run P w = .ok ⟨w.heap.size, 0, none⟩ (w.alloc (.cells us.toList.toArray elem)) := by simp [newRow]
        have hmap : len * n = 0 → (Array.range (len * n)).map ((#[] : Array Value)[· % (#[] : Array Value).size]!) = (Array.range (len * n)).map (zv.cells[· % zv.cells.size]!) := fun h0 => by rw [h0]; simp
        have q1 : (newRow elem us).run P w = .ok ⟨w.heap.size, 0, none⟩ (w.alloc (.cells us.toList.toArray elem)) := by rw [← k1, Array.toArray_toList]
        refine ⟨.cells us.toList.toArray elem, us.toList.length, .slice (some ⟨w.heap.size, 0, none⟩) len len, ?_, fun β' he hi => ⟨.slice 0 len hi rfl (Nat.le_refl _), rowObj h7 he⟩⟩
        simp only [Instr.buildSlice, Sem.run_bind, run_underlying (undT_und hu), Result.andThen_ok, sizeT_run hn, if_neg hc1]
        split
        · rename_i h0
          simp only [Sem.run_bind, Sem.run_pure, Result.andThen_ok, hmap h0, h6, q1]
        · simp only [Sem.run_bind, Sem.run_pure, Result.andThen_ok, h1, h6, q1]
    · cases h
  · cases h

theorem makeSliceA_at {t : TypeId} {a b : AV} {v u : Value} {e : TypeId} {cells : List AV} {l c id : Nat} (h : makeSliceA P t a b = some (e, cells, l, c)) (hx : VR β a v) (hy : VR β b u) :
    AllocAt P β w id (.slice id 0 l (.exact c)) (.row cells e .solid) (Instr.makeSlice t v u) := by
  unfold makeSliceA at h
  split at h
  · rename_i elem k1 m k2 n hu
    cases hx; cases hy
    split at h
    · rename_i s z by8 hs hz hby
      split at h
      · rename_i hb
        split at h
        · rename_i hzs
          simp only [Option.some.injEq, Prod.mk.injEq] at h
          obtain ⟨rfl, rfl, rfl, rfl⟩ := h
          obtain ⟨b1, b2, b3, b4⟩ := hb
          obtain ⟨zv, h1, h2⟩ := zeroT_run (P := P) (β := β) (w := w) hz
          have hz0 := zeros_VRs (n := n.toNat) h2.cells hzs.1 hzs.2
          have q1 : (newRow elem ((Array.range (n.toNat * s)).map (zv.cells[· % zv.cells.size]!)).toList.toArray).run P w = .ok ⟨w.heap.size, 0, none⟩ (w.alloc (.cells ((Array.range (n.toNat * s)).map (zv.cells[· % zv.cells.size]!)).toList.toArray elem)) := by simp [newRow]
          obtain ⟨inf, hi1, hi2⟩ := bytesT_run (w := w) hby
          have wl : IntKind.i64.wrap m = m := IntWalk.i64_in _ (by omega)
          have wc : IntKind.i64.wrap n = n := IntWalk.i64_in _ (by omega)
          have hn0 : (by8 : Int) * n ≤ 2 ^ 40 := by rw [Int.mul_comm]; exact b3
          have hlm : (by8 : Int) * m ≤ by8 * n := Int.mul_le_mul_of_nonneg_left b2 (by omega)
          have hmap : n.toNat * s = 0 → (Array.range (n.toNat * s)).map ((#[] : Array Value)[· % (#[] : Array Value).size]!) = (Array.range (n.toNat * s)).map (zv.cells[· % zv.cells.size]!) := fun h0 => by rw [h0]; simp
          have q1' : (newRow elem ((Array.range (n.toNat * s)).map (zv.cells[· % zv.cells.size]!))).run P w = .ok ⟨w.heap.size, 0, none⟩ (w.alloc (.cells ((Array.range (n.toNat * s)).map (zv.cells[· % zv.cells.size]!)).toList.toArray elem)) := by
            rw [← q1, Array.toArray_toList]
          refine ⟨_, _, .slice (some ⟨w.heap.size, 0, none⟩) m.toNat n.toNat, ?_, fun β' he hi => ⟨.slice 0 _ hi rfl (by omega), rowObj hz0 he⟩⟩
          simp only [Instr.makeSlice, Sem.run_bind, run_underlying (undT_und hu), Result.andThen_ok, asInt, asIntOf, Sem.run_pure, hi1, hi2, wl, wc]
          have c1 : ¬ (n < 0) := by omega
          have c2 : ¬ ((by8 : Int) * n > 2 ^ 48) := by omega
          have c3 : ¬ (m < 0) := by omega
          have c4 : ¬ (m > n) := by omega
          simp only [c1, c2, c3, c4, decide_false, Bool.or_self, Bool.false_eq_true, if_false, Sem.run_bind, run_askRoom, Result.andThen_ok, sizeT_run hs]
          split
          · rename_i h0
            simp only [Sem.run_bind, Sem.run_pure, Result.andThen_ok, hmap h0, q1']
          · simp only [Sem.run_bind, Sem.run_pure, Result.andThen_ok, h1, q1']
        · cases h
      · cases h
    · cases h
  · cases h

theorem newRow_at {e : TypeId} {cells : List AV} {a : Array Value} {id : Nat} (hc : VRs β cells a.toList) :
    AllocAt P β w id (.ptr id 0) (.row cells e .solid) (do pure (.pointer (some (← newRow e a)))) := by
  refine ⟨.cells a.toList.toArray e, a.toList.length, .pointer (some ⟨w.heap.size, 0 + 0, none⟩), by simp [newRow, Result.andThen], fun β' he hi => ⟨.ptr 0 hi, rowObj hc he⟩⟩

/-- a made slice of unknown length. -/
theorem symMakeA_at {nf : Tm → Tm} (hn : ∀ t, (nf t).den = t.den) {kinds : TypeId → Option (List CK)} {t : TypeId} {a b r : AV} {v u : Value} {H H' : AHeap} (h : symMakeA P nf kinds H t a b = some (r, H')) (hx : VR β a v) (hy : VR β b u) :
    ∃ ob, H' = H.new ob ∧ AllocAt P β w H.next r ob (Instr.makeSlice t v u) := by
  unfold symMakeA at h
  split at h
  · rename_i e tl tc hu htl htc
    split at h
    · rename_i ks zt hze
      obtain ⟨z, by8, hz, hsz, hby, h8, hzl, hks, hexp⟩ := zeroEltA_run hze
      cases hc : (holdsT nf .small [tc] && holdsT nf (.bin .leq .i64) [.int 0, tl] && holdsT nf (.bin .leq .i64) [tl, tc])
      · rw [hc] at h; cases h
      · rw [hc] at h
        simp only [cond_true, Option.some.injEq, Prod.mk.injEq] at h
        obtain ⟨rfl, rfl⟩ := h
        simp only [Bool.and_eq_true] at hc
        obtain ⟨⟨c1, c2⟩, c3⟩ := hc
        have k1 := tmOf_cell htl hx
        have k2 := tmOf_cell htc hy
        generalize hdl : tl.den = dl at k1
        generalize hdc : tc.den = dc at k2
        cases k1 with | int _ l =>
        cases k2 with | int _ c =>
        have c1 := holdsT_den hn c1
        have c2 := holdsT_den hn c2
        have c3 := holdsT_den hn c3
        simp only [Tm.dens, hdc, TOp.den, D.bool.injEq, decide_eq_true_eq] at c1
        simp only [Tm.dens, hdl, Tm.den, TOp.den, intD, D.bool.injEq, decide_eq_true_eq] at c2
        simp only [Tm.dens, hdl, hdc, TOp.den, intD, D.bool.injEq, decide_eq_true_eq] at c3
        obtain ⟨q, rfl⟩ : ∃ q : Nat, c = (q : Int) := ⟨c.toNat, by omega⟩
        obtain ⟨m, rfl⟩ : ∃ m : Nat, l = (m : Int) := ⟨l.toNat, by omega⟩
        have hq : q ≤ 2 ^ 30 := by omega
        have hmq : m ≤ q := by omega
        have hrep : (mkT nf .rep [tc, zt]).den = .list (List.replicate q zt.den) := by
          rw [mkT_den hn]; simp [Tm.dens, hdc, TOp.den]
        have hsz0 : ks.length ≠ 0 := fun e => hks (List.length_eq_zero_iff.1 e)
        have ha : makeSliceA P t (.int .i64 (m : Int)) (.int .i64 (q : Int)) = some (e, repeatL z.cells q, m, q) := by
          unfold makeSliceA
          have b3 : (q : Int) * (by8 : Int) ≤ 2 ^ 40 := by
            have := Nat.mul_le_mul hq h8
            have : ((q * by8 : Nat) : Int) ≤ ((2 ^ 40 : Nat) : Int) := by omega
            simpa using this
          have b : 0 ≤ (m : Int) ∧ (m : Int) ≤ (q : Int) ∧ (q : Int) * (by8 : Int) ≤ 2 ^ 40 ∧ (q : Int) ≤ 2 ^ 40 := ⟨by omega, by omega, b3, by omega⟩
          simp only [hu, hsz, hz, hby, if_pos b, hzl, Int.toNat_natCast]
          rw [if_pos ⟨trivial, hsz0⟩]
        obtain ⟨obj, sz, y, r1, r2⟩ := makeSliceA_at (w := w) (id := H.next) ha (.int .i64 (m : Int)) (.int .i64 (q : Int)) (β := β)
        refine ⟨_, rfl, obj, sz, y, r1, fun β' he hi => ?_⟩
        obtain ⟨s1, s2⟩ := r2 β' he hi
        obtain ⟨cc, lo, hi', h1, h2, h3, h4, h5⟩ := s2
        have hlen : (repeatL z.cells q).length = q * ks.length := by rw [repeatL_length, hzl]
        rw [hlen] at h3 h4 h5
        obtain ⟨g1, g2, rfl, rfl⟩ := h5
        constructor
        · cases s1 with
          | @slice _ p _ _ _ k hp hcap hle =>
          rw [hi] at hp
          cases hp
          simp only [CapR] at hcap
          subst hcap
          have := VR.lsl (β := β') (b := H.next) (es := ks.length) (lo := .int 0) (len := tl) (cm := .opn) (l := 0) (n := m) (c := k) (p := ⟨w.heap.size, 0, sz⟩) rfl hdl hi (by
            simp only at g2
            refine ⟨by omega, ?_, ?_⟩
            · show 0 + 0 * ks.length + k * ks.length ≤ sz; rw [g2]; omega
            · show sz < 0 + 0 * ks.length + (k + 1) * ks.length; rw [g2, Nat.add_mul]; omega) hle
          rwa [Nat.zero_mul] at this
        · refine ⟨_, hrep, hks, cc, 0, 0, h1, h2, ?_, ?_, ?_⟩
          · rw [expandL_len, List.length_replicate]; exact h3
          · rw [expandL_len, List.length_replicate]; exact hexp q _ β' _ hrep h4
          · exact ⟨fun o _ _ => by omega, fun _ => .inl rfl⟩
    · cases h
  · cases h

theorem newMap_at {id : Nat} : AllocAt P β w id (.map id) (.map [] 0) (do pure (.map (some (← newObj (.map #[] 0))))) := by
  refine ⟨.map #[] 0, 0, .map (some w.heap.size), by simp [Result.andThen], fun β' he hi => ⟨.map hi, #[], World.alloc_heap_new _ _, ?_⟩⟩
  exact .nil

/-- operations that make a block. -/
theorem alloc_run (hnf : ∀ t, (E.nf t).den = t.den) {o : Oper} {v : AV} {H' : AHeap} (hc : cls o.op = .alloc) (h : opA P E S c o T H = some (v, H')) (hρ : OpsR β c T ev o.op.operands) :
    ∃ ob m, H' = H.new ob ∧ (∀ w, (execOp ev o).run P w = (m.run P w).andThen fun u w' => .ok (.value u) w') ∧ AllocAt P β w H.next v ob m := by
  obtain ⟨dst, op, type, pos, after, guard⟩ := o
  simp only at hc hρ
  cases op <;> try (simp only [cls, reduceCtorEq] at hc)
  case alloc e =>
    simp only [opA, Option.map_eq_some_iff, newA, Prod.mk.injEq] at h
    obtain ⟨z, hz, rfl, rfl⟩ := h
    obtain ⟨zv, h1, h2⟩ := zeroT_run (P := P) (β := β) (w := w) hz
    obtain ⟨obj, sz, u, k1, k2⟩ := newRow_at (P := P) (w := w) (e := e) (id := H.next) h2.cells
    refine ⟨_, Instr.alloc e true (.tuple #[]), rfl, fun w => by simp only [execOp, Sem.run_bind, Sem.run_pure], obj, sz, u, ?_, k2⟩
    simpa [Instr.alloc, h1, newVar] using k1
  case box e x =>
    simp only [opA, Option.map_eq_some_iff, newA, Prod.mk.injEq] at h
    obtain ⟨y, hy, rfl, rfl⟩ := h
    exact ⟨_, Instr.box e (ev x), rfl, fun w => by simp only [execOp, Sem.run_bind, Sem.run_pure], newRow_at (hρ x (by simp [Op.operands]) _ hy).cells⟩
  case buildSlice t len parts =>
    simp only [opA] at h
    split at h
    · rename_i vs hvs
      simp only [Option.map_eq_some_iff, Prod.mk.injEq, Prod.exists] at h
      obtain ⟨e, cells, hr, rfl, rfl⟩ := h
      have hp := parts_of (aevals_of (fun x hx => hρ x (by simpa [Op.operands] using hx)) hvs)
      exact ⟨_, _, rfl, fun w => by simp only [execOp, Sem.run_bind, Sem.run_pure], buildSliceA_at (parts' := parts.map fun (i, x) => (i, ev x)) hr (by simpa using hp)⟩
    · cases h
  case makeSlice t l k =>
    simp only [opA] at h
    split at h
    · rename_i a b ha hb
      split at h
      · rename_i e cells l' k' hr
        simp only [Option.some.injEq, Prod.mk.injEq] at h
        obtain ⟨rfl, rfl⟩ := h
        exact ⟨_, _, rfl, fun w => by simp only [execOp, Sem.run_bind, Sem.run_pure], makeSliceA_at hr (hρ l (by simp [Op.operands]) _ ha) (hρ k (by simp [Op.operands]) _ hb)⟩
      · obtain ⟨ob, h1, h2⟩ := symMakeA_at (P := P) (w := w) hnf h (hρ l (by simp [Op.operands]) _ ha) (hρ k (by simp [Op.operands]) _ hb)
        exact ⟨ob, _, h1, fun w => by simp only [execOp, Sem.run_bind, Sem.run_pure], h2⟩
    · cases h
  case makeMap t r =>
    simp only [opA] at h
    cases r with
    | none =>
      simp only [Option.some.injEq, Prod.mk.injEq] at h
      obtain ⟨rfl, rfl⟩ := h
      exact ⟨_, Instr.makeMap t none, rfl, fun w => by simp only [execOp, Sem.run_bind, Sem.run_pure, Option.map_none], newMap_at⟩
    | some x =>
      simp only at h
      split at h
      · rename_i k n kt vt hu hx
        simp only [Option.some.injEq, Prod.mk.injEq] at h
        obtain ⟨rfl, rfl⟩ := h
        have hv := hρ x (by simp [Op.operands]) _ hx
        obtain ⟨obj, sz, u, k1, k2⟩ := newMap_at (P := P) (β := β) (w := w) (id := H.next)
        refine ⟨_, Instr.makeMap t (some (ev x)), rfl, fun w => by simp only [execOp, Sem.run_bind, Sem.run_pure, Option.map_some], obj, sz, u, ?_, k2⟩
        generalize ev x = vx at hv
        cases hv
        simpa [Instr.makeMap, run_underlying (undT_und hu), asInt, asIntOf] using k1
      · cases h
  all_goals (first | (simp only [opA] at h; done) | (split at hc <;> first | (cases hc; done) | (rename_i hq; cases hq; done) | (simp_all; done)))

end
end Go.Tc
