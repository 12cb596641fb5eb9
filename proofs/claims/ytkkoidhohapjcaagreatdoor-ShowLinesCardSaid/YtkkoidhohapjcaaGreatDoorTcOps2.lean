import Derived.Test.YtkkoidhohapjcaaGreatDoorTcOps1
set_option linter.unusedSimpArgs false
set_option linter.unusedVariables false
set_option linter.unusedSectionVars false
namespace Go.Tc
variable [Val]

section
variable {P : Program} {G : Nat} {β : Pl} {H : AHeap} {w : World} {E : Env} {S : Evs} {c : Ctx} {T : Tmps} {ev : Operand → Value}

/-- built-in functions that only read. -/
def readsOnly : Builtin → Bool
  | .len | .cap | .min | .max | .unsafeSliceData => true
  | _ => false

theorem builtinRead_run (hn : ∀ t, (E.nf t).den = t.den) {b : Builtin} {ats : Array TypeId} {args : List AV} {vs : List Value} {v : AV} {H' : AHeap} {n : Nat} {ty : TypeId} {cs : Array Bool} (hb : readsOnly b = true) (hw : WR G β H.get n w)
    (h : builtinA P E b ats args H = some (v, H')) (ha : VRs β args vs) : H' = H ∧ ∃ u, (builtin b ats ty cs vs.toArray).run P w = .ok (.value u) w ∧ VR β v u := by
  obtain ⟨ats⟩ := ats
  unfold builtinA at h
  split at h <;> simp only [readsOnly, Bool.false_eq_true] at hb
  · rename_i t ts x r hl
    simp only at hl; subst hl
    cases ha with | @cons _ y _ ys hx hr =>
    simp only [Option.map_eq_some_iff, Prod.mk.injEq] at h
    obtain ⟨r, hr, rfl, rfl⟩ := h
    obtain ⟨u, h1, h2⟩ := lenA_run (P := P) (w := w) (ts := ts) (ty := ty) (rest := ys) hn hw hr hx
    exact ⟨rfl, u, by simp only [builtin, Sem.run_bind, h1, Result.andThen_ok, Sem.run_pure], h2⟩
  · rename_i t ts x r hl
    simp only at hl; subst hl
    cases ha with | @cons _ y _ ys hx hr =>
    simp only [Option.map_eq_some_iff, Prod.mk.injEq] at h
    obtain ⟨r, hr, rfl, rfl⟩ := h
    obtain ⟨u, h1, h2⟩ := capA_run (P := P) (w := w) (ts := ts) (ty := ty) (rest := ys) hr hx
    exact ⟨rfl, u, by simp only [builtin, Sem.run_bind, h1, Result.andThen_ok, Sem.run_pure], h2⟩
  · simp only [Option.map_eq_some_iff, Prod.mk.injEq] at h
    obtain ⟨r, hr, rfl, rfl⟩ := h
    have hq : ∃ u, (Builtin.min_ ⟨ats⟩ ty vs.toArray).run P w = .ok u w ∧ VR β r u := by
      split at hr
      · rename_i hm; cases hr; exact minA_run (P := P) (w := w) (ts := ⟨ats⟩) (ty := ty) hm ha
      · exact minS_run (P := P) (w := w) (ts := ⟨ats⟩) (ty := ty) hn hr ha
    obtain ⟨u, h1, h2⟩ := hq
    exact ⟨rfl, u, by simp only [builtin, Sem.run_bind, h1, Result.andThen_ok, Sem.run_pure], h2⟩
  · simp only [Option.map_eq_some_iff, Prod.mk.injEq] at h
    obtain ⟨r, hr, rfl, rfl⟩ := h
    have hq : ∃ u, (Builtin.max_ ⟨ats⟩ ty vs.toArray).run P w = .ok u w ∧ VR β r u := by
      split at hr
      · rename_i hm; cases hr; exact maxA_run (P := P) (w := w) (ts := ⟨ats⟩) (ty := ty) hm ha
      · exact maxS_run (P := P) (w := w) (ts := ⟨ats⟩) (ty := ty) hn hr ha
    obtain ⟨u, h1, h2⟩ := hq
    exact ⟨rfl, u, by simp only [builtin, Sem.run_bind, h1, Result.andThen_ok, Sem.run_pure], h2⟩
  · cases h
    cases ha with | cons hx hr =>
    cases hr
    cases hx
    exact ⟨rfl, .pointer none, rfl, .nilPtr⟩
  · rename_i b off len cap
    cases ha with | cons hx hr =>
    cases hr
    split at h
    · cases h
    · rename_i h0
      cases h
      cases hx with
      | @slice _ p _ _ _ k hp hc hle =>
      exact ⟨rfl, .pointer (some ⟨p.c, p.base + off, none⟩), by
        have hk : k ≠ 0 := by omega
        have hd : ∀ (a : Addr) (m : Nat), Builtin.unsafeSliceData_ ⟨ats⟩ ty #[.slice (some a) m k] = (do if k ≠ 0 then pure (.pointer (some a)) else if (← viewAt a.block).isSome then pure (.pointer (some a)) else pure (.pointer (some ⟨← newObj (.view a (← elemOf ty)), 0, none⟩)) : Sem Value) := fun _ _ => rfl
        rw [show [Value.slice (some ⟨p.c, p.base + off, none⟩) len k].toArray = #[Value.slice (some ⟨p.c, p.base + off, none⟩) len k] from rfl]
        simp only [builtin, hd, if_pos hk, Sem.run_bind, Sem.run_pure, Result.andThen_ok], .ptr off hp⟩
  · rename_i b es lo n cm
    cases ha with | cons hx hr =>
    cases hr
    split at h
    · rename_i h0
      cases h
      have k0 := holdsT_den hn h0
      cases hx with
      | @lsl _ _ _ _ _ l m k p hl hm hp hc hle =>
        simp only [Tm.dens, hm, Tm.den, TOp.den, intD, D.bool.injEq, decide_eq_true_eq] at k0
        exact ⟨rfl, .pointer (some ⟨p.c, p.base + l * es, none⟩), by
          have hk : k ≠ 0 := by omega
          have hd : ∀ (a : Addr) (m : Nat), Builtin.unsafeSliceData_ ⟨ats⟩ ty #[.slice (some a) m k] = (do if k ≠ 0 then pure (.pointer (some a)) else if (← viewAt a.block).isSome then pure (.pointer (some a)) else pure (.pointer (some ⟨← newObj (.view a (← elemOf ty)), 0, none⟩)) : Sem Value) := fun _ _ => rfl
          rw [show [Value.slice (some ⟨p.c, p.base + l * es, none⟩) m k].toArray = #[Value.slice (some ⟨p.c, p.base + l * es, none⟩) m k] from rfl]
          simp only [builtin, hd, if_pos hk, Sem.run_bind, Sem.run_pure, Result.andThen_ok], .eptr 0 hl hp⟩
      | lsl0 hl hm =>
        simp only [Tm.dens, hm, Tm.den, TOp.den, intD, D.bool.injEq, decide_eq_true_eq] at k0
        omega
      | lslE a c hl hm hc =>
        simp only [Tm.dens, hm, Tm.den, TOp.den, intD, D.bool.injEq, decide_eq_true_eq] at k0
        omega
    · cases h
  · cases h

/-! ### operations that only read -/
theorem load_run (hnf : ∀ t, (E.nf t).den = t.den) {n : Nat} {o : Oper} {v : AV} {H' : AHeap} (hc : cls o.op = .load) (hn : H'.next = H.next) (hw : WR G β H.get n w) (h : opA P E S c o T H = some (v, H')) (hρ : OpsR β c T ev o.op.operands) :
    H' = H ∧ ∃ u, (execOp ev o).run P w = .ok (.value u) w ∧ VR β v u := by
  obtain ⟨dst, op, type, pos, after, guard⟩ := o
  simp only at hc hρ
  cases op <;> try (simp only [cls, reduceCtorEq] at hc)
  case load t x =>
    simp only [opA, Option.map_eq_some_iff, Option.bind_eq_some_iff, Prod.mk.injEq] at h
    obtain ⟨r, ⟨y, hy, hr⟩, rfl, rfl⟩ := h
    obtain ⟨u, h1, h2⟩ := loadA_run (P := P) (w := w) hnf hw hr (derefA_VR hnf (hρ x (by simp [Op.operands]) _ hy))
    exact ⟨rfl, u, by simp [execOp, h1, Result.andThen], h2⟩
  case lookup t x i ok =>
    simp only [opA] at h
    split at h
    · rename_i y z hy hz
      simp only [Option.map_eq_some_iff, Prod.mk.injEq] at h
      obtain ⟨r, hr, rfl, rfl⟩ := h
      have hq : ∃ u, (Instr.lookup t (ev x) (ev i) ok).run P w = .ok u w ∧ VR β r u := by
        split at hr
        · exact lookupS_run (P := P) (w := w) hnf hw hr (hρ x (by simp [Op.operands]) _ hy) (hρ i (by simp [Op.operands]) _ hz)
        · exact lookupA_run (P := P) (w := w) hw hr (hρ x (by simp [Op.operands]) _ hy) (hρ i (by simp [Op.operands]) _ hz)
      obtain ⟨u, h1, h2⟩ := hq
      exact ⟨rfl, u, by simp [execOp, h1, Result.andThen], h2⟩
    · cases h
  case binOp op t x y _ =>
    simp only [opA] at h
    split at h
    · rename_i a b hy hz
      simp only [Option.map_eq_some_iff, Prod.mk.injEq] at h
      obtain ⟨r, hr, rfl, rfl⟩ := h
      obtain ⟨u, h1, h2⟩ := binOpA_run (P := P) (w := w) hnf hw hr (hρ x (by simp [Op.operands]) _ hy) (hρ y (by simp [Op.operands]) _ hz)
      refine ⟨rfl, u, ?_, h2⟩
      simp only [execOp]
      rw [Sem.run_bind, h1]; rfl
    · cases h
  case convert src dst x =>
    simp only [opA] at h
    split at h
    · rename_i y hy
      have hv := hρ x (by simp [Op.operands]) _ hy
      split at h
      · split at h
        · split at h
          · simp only [Option.some.injEq, Prod.mk.injEq] at h
            obtain ⟨rfl, rfl⟩ := h
            rw [AHeap.next_new] at hn
            omega
          · cases h
        · cases h
      · simp only [Option.map_eq_some_iff, Prod.mk.injEq] at h
        obtain ⟨r, hr, rfl, rfl⟩ := h
        obtain ⟨u, h1, h2⟩ := convertA_run (P := P) (w := w) hnf hw hr hv
        exact ⟨rfl, u, by simp [execOp, h1, Result.andThen], h2⟩
    · cases h
  case slice t x lo hi mx =>
    simp only [opA] at h
    split at h
    · rename_i y l hh m hy hl hh' hm
      simp only [Option.map_eq_some_iff, Prod.mk.injEq] at h
      obtain ⟨r, hr, rfl, rfl⟩ := h
      have k0 := hρ x (by simp [Op.operands]) _ hy
      have k1 := optR_of (aevals_of (fun x hx => hρ x (by simp [Op.operands]; right; left; simpa using hx)) hl)
      have k2 := optR_of (aevals_of (fun x hx => hρ x (by simp [Op.operands]; right; right; left; simpa using hx)) hh')
      have k3 := optR_of (aevals_of (fun x hx => hρ x (by simp [Op.operands]; right; right; right; simpa using hx)) hm)
      obtain ⟨u, h1, h2⟩ := sliceA_run (P := P) (w := w) hnf hw hr k0 k1 k2 k3
      exact ⟨rfl, u, by simp [execOp, h1, Result.andThen], h2⟩
    · cases h
  case call q =>
    obtain ⟨callee, args, ats⟩ := q
    have hq : ∃ b, callee = .builtin b ∧ readsOnly b = true := by
      cases callee with
      | builtin b => refine ⟨b, rfl, ?_⟩; cases b <;> simp_all [readsOnly]
      | value f => simp at hc
      | invoke r m => simp at hc
    obtain ⟨b, rfl, hb⟩ := hq
    simp only [opA] at h
    split at h
    · cases h
    · rename_i vs hvs
      have ha := aevals_of (fun x hx => hρ x (by simp [Op.operands, Call.operands]; simpa using hx)) hvs
      obtain ⟨h0, u, h1, h2⟩ := builtinRead_run (P := P) (ty := type) (cs := args.map fun | .const _ => true | _ => false) hnf hb hw h ha
      refine ⟨h0, u, ?_, h2⟩
      rw [← Array.toList_map, Array.toArray_toList] at h1
      simp only [execOp, resolve, invoke, Sem.run_bind, Sem.run_pure, Result.andThen_ok]
      exact h1
  all_goals (first | (simp only [opA, reduceCtorEq] at h; done) | (split at hc <;> first | (cases hc; done) | (rename_i hq; cases hq; done) | (simp_all; done)))

end
end Go.Tc
