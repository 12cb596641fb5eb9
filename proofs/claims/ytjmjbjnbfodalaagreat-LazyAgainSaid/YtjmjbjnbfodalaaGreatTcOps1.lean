/- one operation: those that read nothing, those that only read, those that make a block. -/
import Derived.Test.YtjmjbjnbfodalaaGreatTcMisc
import Derived.RangeFuncNested
import Derived.Test.YtjmjbjnbfodalaaGreatTcMaps
set_option linter.unusedSimpArgs false
set_option linter.unusedVariables false
set_option linter.unusedSectionVars false
namespace Go.Tc
variable [Val]
section
variable {P : Program} {G : Nat} {β : Pl} {H : AHeap} {w : World} {E : Env} {S : Evs} {c : Ctx} {T : Tmps} {ev : Operand → Value}
def OpsR (β : Pl) (c : Ctx) (T : Tmps) (ev : Operand → Value) (l : Array Operand) : Prop := ∀ x ∈ l, ∀ v, aeval c T x = some v → VR β v (ev x)
theorem aevals_of {l : List Operand} : ∀ {vs : List AV}, (∀ x ∈ l, ∀ v, aeval c T x = some v → VR β v (ev x)) → aevals c T l = some vs → VRs β vs (l.map ev) := by
  induction l with
  | nil => intro vs _ h; cases h; exact .nil
  | cons x r ih =>
    intro vs hρ h
    simp only [aevals] at h
    cases hx : aeval c T x with
    | none => simp [hx] at h
    | some y =>
      cases hr : aevals c T r with
      | none => simp [hx, hr] at h
      | some ys =>
        simp only [hx, hr, Option.some.injEq] at h
        subst h
        exact .cons (hρ x (by simp) y hx) (ih (fun z hz => hρ z (by simp [hz])) hr)
theorem parts_of : ∀ {l : List (Nat × Operand)} {vs : List AV}, VRs β vs ((l.map (·.2)).map ev) → PartsR β ((l.map (·.1)).zip vs) (l.map fun (i, x) => (i, ev x))
  | [], vs, h => by cases h; trivial
  | (i, x) :: l, vs, h => by
    cases h with | cons h hs =>
    exact ⟨rfl, h, parts_of hs⟩
theorem optR_of {o : Option Operand} {vs : List AV} (h : VRs β vs (o.toList.map ev)) : OptR β vs.head? (o.map ev) := by
  cases o with
  | none => cases h; exact trivial
  | some x => cases h with | cons h hs => exact h
theorem pure_run (hn : ∀ t, (E.nf t).den = t.den) {o : Oper} {v : AV} {H' : AHeap} (hc : cls o.op = .pure) (h : opA P E S c o T H = some (v, H')) (hρ : OpsR β c T ev o.op.operands) :
    H' = H ∧ ∃ u, (execOp ev o).run P w = .ok (.value u) w ∧ VR β v u := by
  obtain ⟨dst, op, type, pos, after, guard⟩ := o
  simp only at hc hρ
  cases op <;> try (simp only [cls, reduceCtorEq] at hc)
  case move x =>
    simp only [opA, Option.map_eq_some_iff, Prod.mk.injEq] at h
    obtain ⟨y, hy, rfl, rfl⟩ := h
    exact ⟨rfl, _, rfl, hρ x (by simp [Op.operands]) _ hy⟩
  case assign x =>
    simp only [opA, Option.map_eq_some_iff, Prod.mk.injEq] at h
    obtain ⟨y, hy, rfl, rfl⟩ := h
    exact ⟨rfl, _, rfl, hρ x (by simp [Op.operands]) _ hy⟩
  case pick q a b =>
    simp only [opA] at h
    split at h
    · rename_i t x y hq hx hy
      cases h
      have h1 := hρ q (by simp [Op.operands]) _ hq
      have h2 := hρ a (by simp [Op.operands]) _ hx
      have h3 := hρ b (by simp [Op.operands]) _ hy
      generalize hev : ev q = vq at h1
      cases h1
      refine ⟨rfl, if t = true then ev a else ev b, by simp [execOp, hev, asBool, Result.andThen], ?_⟩
      cases t <;> simp_all
    · cases h
  case build t parts =>
    simp only [opA] at h
    split at h
    · rename_i vs hvs
      rw [Option.map_eq_some_iff] at h
      obtain ⟨r, hr, he⟩ := h
      cases he
      have hp := parts_of (aevals_of (fun x hx => hρ x (by simpa [Op.operands] using hx)) hvs)
      obtain ⟨u, h1, h2⟩ := buildA_run (P := P) (w := w) (parts' := parts.map fun (i, x) => (i, ev x)) hr (by simpa using hp)
      exact ⟨rfl, u, by simp [execOp, h1, Result.andThen], h2⟩
    · cases h
  case nilCheck x =>
    simp only [opA] at h
    split at h <;> try (cases h; done)
    · rename_i ks t hy
      split at h
      · rename_i hr
        cases h
        have h1 := hρ x (by simp [Op.operands]) _ hy
        refine ⟨rfl, ev x, ?_, h1⟩
        generalize hev : ev x = vx at h1
        cases h1 with | sy hc =>
        generalize hd : t.den = d at hc
        cases hc with
        | rnil =>
          have hl : (mkT E.nf .len [t]).den = .int 0 := by rw [mkT_den hn]; simp [Tm.dens, hd, TOp.den]
          have := inRangeT_den hn hr (a := 0) (b := 0) rfl hl
          omega
        | ref hi => simp [execOp, hev]
      · cases h
    rename_i y n1 n2 n3 n4 n5 hy
    cases h
    have h1 := hρ x (by simp [Op.operands]) _ hy
    refine ⟨rfl, ev x, ?_, h1⟩
    generalize hev : ev x = vx at h1
    cases h1 <;> try (simp_all [execOp]; done)
    case sy ck tm hcc => generalize tm.den = d at hcc; cases hcc <;> first | (exfalso; exact n5 _ _ rfl) | simp_all [execOp]
    case fn f f' a b a' b' hf ha hb =>
      cases hf <;> first | (simp [execOp, hev]; done) | (exfalso; exact n4 _ _ _ rfl)
  case unOp op t x =>
    simp only [opA, Option.map_eq_some_iff, Option.bind_eq_some_iff, Prod.mk.injEq] at h
    obtain ⟨r, ⟨y, hy, hr⟩, rfl, rfl⟩ := h
    obtain ⟨u, h1, h2⟩ := unOpA_run (P := P) (w := w) hn hr (hρ x (by simp [Op.operands]) _ hy)
    exact ⟨rfl, u, by simp [execOp, h1, Result.andThen], h2⟩
  case makeInterface t x =>
    simp only [opA] at h
    split at h
    · cases h
    · rename_i d hd hu
      simp only [Option.map_eq_some_iff, Prod.mk.injEq] at h
      obtain ⟨y, hy, rfl, rfl⟩ := h
      refine ⟨rfl, .iface t (ev x), ?_, .iface t (hρ x (by simp [Op.operands]) _ hy)⟩
      simp only [execOp, Instr.makeInterface, Sem.run_bind, run_underlying (undT_und hu), Result.andThen_ok]
      simp
    · cases h
  case makeFunc f first captured =>
    simp only [opA] at h
    split at h
    · rename_i g a b hf h1 h2
      cases h
      have k1 := aevals_of (fun x hx => hρ x (by simp [Op.operands]; exact .inl (by simpa using hx))) h1
      have k2 := aevals_of (fun x hx => hρ x (by simp [Op.operands]; exact .inr (by simpa using hx))) h2
      refine ⟨rfl, .func f (first.map ev) (captured.map ev), by simp [execOp, Instr.makeFunc, Result.andThen], .fn ?_ (by simpa using k1) (by simpa using k2)⟩
      cases f <;> simp only [fnA, Option.some.injEq, reduceCtorEq] at hf <;> subst hf <;> constructor
    · cases h
  case fieldAddr s x i =>
    simp only [opA, Option.map_eq_some_iff, Option.bind_eq_some_iff, Prod.mk.injEq] at h
    obtain ⟨r, ⟨y, hy, hr⟩, rfl, rfl⟩ := h
    obtain ⟨u, h1, h2⟩ := fieldAddrA_run (P := P) (w := w) hr (derefA_VR hn (hρ x (by simp [Op.operands]) _ hy))
    exact ⟨rfl, u, by simp [execOp, h1, Result.andThen], h2⟩
  case field s x i =>
    simp only [opA, Option.map_eq_some_iff, Option.bind_eq_some_iff, Prod.mk.injEq] at h
    obtain ⟨r, ⟨y, hy, hr⟩, rfl, rfl⟩ := h
    obtain ⟨u, h1, h2⟩ := fieldA_run (P := P) (w := w) hr (hρ x (by simp [Op.operands]) _ hy)
    exact ⟨rfl, u, by simp [execOp, h1, Result.andThen], h2⟩
  case indexAddr t x i =>
    simp only [opA] at h
    split at h
    · rename_i y z hy hz
      simp only [Option.map_eq_some_iff, Prod.mk.injEq] at h
      obtain ⟨r, hr, rfl, rfl⟩ := h
      obtain ⟨u, h1, h2⟩ := indexAddrA_run (P := P) (w := w) hn hr (hρ x (by simp [Op.operands]) _ hy) (hρ i (by simp [Op.operands]) _ hz)
      exact ⟨rfl, u, by simp [execOp, h1, Result.andThen], h2⟩
    · cases h
  case index t x i =>
    simp only [opA] at h
    split at h
    · rename_i y z hy hz
      simp only [Option.map_eq_some_iff, Prod.mk.injEq] at h
      obtain ⟨r, hr, rfl, rfl⟩ := h
      obtain ⟨u, h1, h2⟩ := indexA_run (P := P) (w := w) hn hr (hρ x (by simp [Op.operands]) _ hy) (hρ i (by simp [Op.operands]) _ hz)
      exact ⟨rfl, u, by simp [execOp, h1, Result.andThen], h2⟩
    · cases h
  case typeAssert x xt t ok =>
    simp only [opA, Option.map_eq_some_iff, Option.bind_eq_some_iff, Prod.mk.injEq] at h
    obtain ⟨r, ⟨y, hy, hr⟩, rfl, rfl⟩ := h
    obtain ⟨u, h1, h2⟩ := typeAssertA_run (P := P) (w := w) (xt := xt) hr (hρ x (by simp [Op.operands]) _ hy)
    exact ⟨rfl, u, by simp [execOp, h1, Result.andThen], h2⟩
  case extract x i =>
    simp only [opA] at h
    split at h
    · rename_i l hl
      simp only [Option.map_eq_some_iff, Prod.mk.injEq] at h
      obtain ⟨r, hr, rfl, rfl⟩ := h
      obtain ⟨u, h1, h2⟩ := extractA_run (P := P) (w := w) hr (hρ x (by simp [Op.operands]) _ hl)
      exact ⟨rfl, u, by simp [execOp, h1, Result.andThen], h2⟩
    · cases h
  all_goals (first | (simp only [opA, reduceCtorEq] at h; done) | (split at hc <;> first | (cases hc; done) | (rename_i hq; cases hq; done) | (simp_all; done)))
end
end Go.Tc
namespace Go.Tc
variable [Val]
section
variable {P : Program} {G : Nat} {β : Pl} {H : AHeap} {w : World} {E : Env} {S : Evs} {c : Ctx} {T : Tmps} {ev : Operand → Value}
def readsOnly : Builtin → Bool
  | .len | .cap | .min | .max | .unsafeSliceData => true
  | _ => false
theorem builtinRead_run (hn : ∀ t, (E.nf t).den = t.den) {b : Builtin} {ats : Array TypeId} {args : List AV} {vs : List Value} {v : AV} {H' : AHeap} {n : Nat} {ty : TypeId} {cs : Array Bool} (hb : readsOnly b = true) (hw : WR G β H.get n w)
    (h : builtinA P E b ats args H = some (v, H')) (ha : VRs β args vs) : H' = H ∧ ∃ u, (builtin b ats ty cs vs.toArray).run P w = .ok (.value u) w ∧ VR β v u := by
  obtain ⟨ats⟩ := ats
  unfold builtinA at h
  split at h <;> simp only [readsOnly, Bool.false_eq_true] at hb
  · rename_i t ts x r hl
    simp only at hl; subst hl
    cases ha with | @cons _ y _ ys hx hr =>
    simp only [Option.map_eq_some_iff, Prod.mk.injEq] at h
    obtain ⟨r, hr, rfl, rfl⟩ := h
    obtain ⟨u, h1, h2⟩ := lenA_run (P := P) (w := w) (ts := ts) (ty := ty) (rest := ys) hn hw hr hx
    exact ⟨rfl, u, by simp only [builtin, Sem.run_bind, h1, Result.andThen_ok, Sem.run_pure], h2⟩
  · rename_i t ts x r hl
    simp only at hl; subst hl
    cases ha with | @cons _ y _ ys hx hr =>
    simp only [Option.map_eq_some_iff, Prod.mk.injEq] at h
    obtain ⟨r, hr, rfl, rfl⟩ := h
    obtain ⟨u, h1, h2⟩ := capA_run (P := P) (w := w) (ts := ts) (ty := ty) (rest := ys) hr hx
    exact ⟨rfl, u, by simp only [builtin, Sem.run_bind, h1, Result.andThen_ok, Sem.run_pure], h2⟩
  · simp only [Option.map_eq_some_iff, Prod.mk.injEq] at h
    obtain ⟨r, hr, rfl, rfl⟩ := h
    have hq : ∃ u, (Builtin.min_ ⟨ats⟩ ty vs.toArray).run P w = .ok u w ∧ VR β r u := by
      split at hr
      · rename_i hm; cases hr; exact minA_run (P := P) (w := w) (ts := ⟨ats⟩) (ty := ty) hm ha
      · exact minS_run (P := P) (w := w) (ts := ⟨ats⟩) (ty := ty) hn hr ha
    obtain ⟨u, h1, h2⟩ := hq
    exact ⟨rfl, u, by simp only [builtin, Sem.run_bind, h1, Result.andThen_ok, Sem.run_pure], h2⟩
  · simp only [Option.map_eq_some_iff, Prod.mk.injEq] at h
    obtain ⟨r, hr, rfl, rfl⟩ := h
    have hq : ∃ u, (Builtin.max_ ⟨ats⟩ ty vs.toArray).run P w = .ok u w ∧ VR β r u := by
      split at hr
      · rename_i hm; cases hr; exact maxA_run (P := P) (w := w) (ts := ⟨ats⟩) (ty := ty) hm ha
      · exact maxS_run (P := P) (w := w) (ts := ⟨ats⟩) (ty := ty) hn hr ha
    obtain ⟨u, h1, h2⟩ := hq
    exact ⟨rfl, u, by simp only [builtin, Sem.run_bind, h1, Result.andThen_ok, Sem.run_pure], h2⟩
  · cases h
    cases ha with | cons hx hr =>
    cases hr
    cases hx
    exact ⟨rfl, .pointer none, rfl, .nilPtr⟩
  · rename_i b off len cap
    cases ha with | cons hx hr =>
    cases hr
    split at h
    · cases h
    · rename_i h0
      cases h
      cases hx with
      | @slice _ p _ _ _ k hp hc hle =>
      exact ⟨rfl, .pointer (some ⟨p.c, p.base + off, none⟩), by
        have hk : k ≠ 0 := by omega
        have hd : ∀ (a : Addr) (m : Nat), Builtin.unsafeSliceData_ ⟨ats⟩ ty #[.slice (some a) m k] = (do if k ≠ 0 then pure (.pointer (some a)) else if (← viewAt a.block).isSome then pure (.pointer (some a)) else pure (.pointer (some ⟨← newObj (.view a (← elemOf ty)), 0, none⟩)) : Sem Value) := fun _ _ => rfl
        rw [show [Value.slice (some ⟨p.c, p.base + off, none⟩) len k].toArray = #[Value.slice (some ⟨p.c, p.base + off, none⟩) len k] from rfl]
        simp only [builtin, hd, if_pos hk, Sem.run_bind, Sem.run_pure, Result.andThen_ok], .ptr off hp⟩
  · rename_i b es lo n cm
    cases ha with | cons hx hr =>
    cases hr
    split at h
    · rename_i h0
      cases h
      have k0 := holdsT_den hn h0
      cases hx with
      | @lsl _ _ _ _ _ l m k p hl hm hp hc hle =>
        simp only [Tm.dens, hm, Tm.den, TOp.den, intD, D.bool.injEq, decide_eq_true_eq] at k0
        exact ⟨rfl, .pointer (some ⟨p.c, p.base + l * es, none⟩), by
          have hk : k ≠ 0 := by omega
          have hd : ∀ (a : Addr) (m : Nat), Builtin.unsafeSliceData_ ⟨ats⟩ ty #[.slice (some a) m k] = (do if k ≠ 0 then pure (.pointer (some a)) else if (← viewAt a.block).isSome then pure (.pointer (some a)) else pure (.pointer (some ⟨← newObj (.view a (← elemOf ty)), 0, none⟩)) : Sem Value) := fun _ _ => rfl
          rw [show [Value.slice (some ⟨p.c, p.base + l * es, none⟩) m k].toArray = #[Value.slice (some ⟨p.c, p.base + l * es, none⟩) m k] from rfl]
          simp only [builtin, hd, if_pos hk, Sem.run_bind, Sem.run_pure, Result.andThen_ok], .eptr 0 hl hp⟩
      | lsl0 hl hm =>
        simp only [Tm.dens, hm, Tm.den, TOp.den, intD, D.bool.injEq, decide_eq_true_eq] at k0
        omega
      | lslE a c hl hm hc =>
        simp only [Tm.dens, hm, Tm.den, TOp.den, intD, D.bool.injEq, decide_eq_true_eq] at k0
        omega
    · cases h
  · cases h
theorem load_run (hnf : ∀ t, (E.nf t).den = t.den) {n : Nat} {o : Oper} {v : AV} {H' : AHeap} (hc : cls o.op = .load) (hn : H'.next = H.next) (hw : WR G β H.get n w) (h : opA P E S c o T H = some (v, H')) (hρ : OpsR β c T ev o.op.operands) :
    H' = H ∧ ∃ u, (execOp ev o).run P w = .ok (.value u) w ∧ VR β v u := by
  obtain ⟨dst, op, type, pos, after, guard⟩ := o
  simp only at hc hρ
  cases op <;> try (simp only [cls, reduceCtorEq] at hc)
  case load t x =>
    simp only [opA, Option.map_eq_some_iff, Option.bind_eq_some_iff, Prod.mk.injEq] at h
    obtain ⟨r, ⟨y, hy, hr⟩, rfl, rfl⟩ := h
    obtain ⟨u, h1, h2⟩ := loadA_run (P := P) (w := w) hnf hw hr (derefA_VR hnf (hρ x (by simp [Op.operands]) _ hy))
    exact ⟨rfl, u, by simp [execOp, h1, Result.andThen], h2⟩
  case lookup t x i ok =>
    simp only [opA] at h
    split at h
    · rename_i y z hy hz
      simp only [Option.map_eq_some_iff, Prod.mk.injEq] at h
      obtain ⟨r, hr, rfl, rfl⟩ := h
      have hq : ∃ u, (Instr.lookup t (ev x) (ev i) ok).run P w = .ok u w ∧ VR β r u := by
        split at hr
        · rename_i r0 hl
          cases hr
          exact lookupL_run (P := P) (w := w) hnf hw hl (hρ x (by simp [Op.operands]) _ hy) (hρ i (by simp [Op.operands]) _ hz)
        split at hr
        · exact lookupS_run (P := P) (w := w) hnf hw hr (hρ x (by simp [Op.operands]) _ hy) (hρ i (by simp [Op.operands]) _ hz)
        · exact lookupA_run (P := P) (w := w) hw hr (hρ x (by simp [Op.operands]) _ hy) (hρ i (by simp [Op.operands]) _ hz)
      obtain ⟨u, h1, h2⟩ := hq
      exact ⟨rfl, u, by simp [execOp, h1, Result.andThen], h2⟩
    · cases h
  case binOp op t x y _ =>
    simp only [opA] at h
    split at h
    · rename_i a b hy hz
      simp only [Option.map_eq_some_iff, Prod.mk.injEq] at h
      obtain ⟨r, hr, rfl, rfl⟩ := h
      obtain ⟨u, h1, h2⟩ := binOpA_run (P := P) (w := w) hnf hw hr (hρ x (by simp [Op.operands]) _ hy) (hρ y (by simp [Op.operands]) _ hz)
      refine ⟨rfl, u, ?_, h2⟩
      simp only [execOp]
      rw [Sem.run_bind, h1]; rfl
    · cases h
  case convert src dst x =>
    simp only [opA] at h
    split at h
    · rename_i y hy
      have hv := hρ x (by simp [Op.operands]) _ hy
      split at h
      · split at h
        · split at h
          · simp only [Option.some.injEq, Prod.mk.injEq] at h
            obtain ⟨rfl, rfl⟩ := h
            rw [AHeap.next_new] at hn
            omega
          · cases h
        · cases h
      · simp only [Option.map_eq_some_iff, Prod.mk.injEq] at h
        obtain ⟨r, hr, rfl, rfl⟩ := h
        obtain ⟨u, h1, h2⟩ := convertA_run (P := P) (w := w) hnf hw hr hv
        exact ⟨rfl, u, by simp [execOp, h1, Result.andThen], h2⟩
    · cases h
  case slice t x lo hi mx =>
    simp only [opA] at h
    split at h
    · rename_i y l hh m hy hl hh' hm
      simp only [Option.map_eq_some_iff, Prod.mk.injEq] at h
      obtain ⟨r, hr, rfl, rfl⟩ := h
      have k0 := hρ x (by simp [Op.operands]) _ hy
      have k1 := optR_of (aevals_of (fun x hx => hρ x (by simp [Op.operands]; right; left; simpa using hx)) hl)
      have k2 := optR_of (aevals_of (fun x hx => hρ x (by simp [Op.operands]; right; right; left; simpa using hx)) hh')
      have k3 := optR_of (aevals_of (fun x hx => hρ x (by simp [Op.operands]; right; right; right; simpa using hx)) hm)
      obtain ⟨u, h1, h2⟩ := sliceA_run (P := P) (w := w) hnf hw hr k0 k1 k2 k3
      exact ⟨rfl, u, by simp [execOp, h1, Result.andThen], h2⟩
    · cases h
  case call q =>
    obtain ⟨callee, args, ats⟩ := q
    have hq : ∃ b, callee = .builtin b ∧ readsOnly b = true := by
      cases callee with
      | builtin b => refine ⟨b, rfl, ?_⟩; cases b <;> simp_all [readsOnly]
      | value f => simp at hc
      | invoke r m => simp at hc
    obtain ⟨b, rfl, hb⟩ := hq
    simp only [opA] at h
    split at h
    · cases h
    · rename_i vs hvs
      have ha := aevals_of (fun x hx => hρ x (by simp [Op.operands, Call.operands]; simpa using hx)) hvs
      obtain ⟨h0, u, h1, h2⟩ := builtinRead_run (P := P) (ty := type) (cs := args.map fun | .const _ => true | _ => false) hnf hb hw h ha
      refine ⟨h0, u, ?_, h2⟩
      rw [← Array.toList_map, Array.toArray_toList] at h1
      simp only [execOp, resolve, invoke, Sem.run_bind, Sem.run_pure, Result.andThen_ok]
      exact h1
  all_goals (first | (simp only [opA, reduceCtorEq] at h; done) | (split at hc <;> first | (cases hc; done) | (rename_i hq; cases hq; done) | (simp_all; done)))
end
end Go.Tc
namespace Go.Tc
variable [Val]
section
variable {P : Program} {G : Nat} {β : Pl} {H : AHeap} {w : World} {E : Env} {S : Evs} {c : Ctx} {T : Tmps} {ev : Operand → Value}
def AllocAt (P : Program) (β : Pl) (w : World) (id : Nat) (v : AV) (ob : AObj) (m : Sem Value) : Prop :=
  ∃ obj sz u, m.run P w = .ok u (w.alloc obj) ∧ ∀ β', Ext β β' → β' id = some ⟨w.heap.size, 0, sz⟩ → VR β' v u ∧ ObjR β' (w.alloc obj) ⟨w.heap.size, 0, sz⟩ ob
theorem rowObj {elem : TypeId} {cells : List AV} {vs : List Value} (hc : VRs β cells vs) {β' : Pl} (he : Ext β β') :
    ObjR β' (w.alloc (.cells vs.toArray elem)) ⟨w.heap.size, 0, vs.length⟩ (.row cells elem .solid) := by
  have hlen := hc.length
  refine ⟨vs.toArray, 0, 0, World.alloc_heap_new _ _, by simp, by simp [hlen], ?_, rfl, by simp [hlen], rfl, rfl⟩
  have : (vs.toArray.toList.drop 0).take cells.length = vs := by simp [hlen]
  rw [this]
  exact hc.mono he
theorem buildSliceA_at {t : TypeId} {len : Nat} {parts : List (Nat × AV)} {parts' : Array (Nat × Value)} {e : TypeId} {cells : List AV} {id : Nat} (h : buildSliceA P t len parts = some (e, cells)) (hp : PartsR β parts parts'.toList) :
    AllocAt P β w id (.slice id 0 len (.exact len)) (.row cells e .solid) (Instr.buildSlice t len parts') := by
  unfold buildSliceA at h
  split at h
  · rename_i elem hu
    split at h
    · rename_i n z hn hz
      split at h
      · cases h
      · rename_i hc
        simp only [Bool.or_eq_true, decide_eq_true_eq, not_or] at hc
        obtain ⟨⟨hc1, hc2⟩, hc3⟩ := hc
        have hc2 : z.cells.length = n := by simpa using hc2
        rw [Option.map_eq_some_iff] at h
        obtain ⟨c, hf, he⟩ := h
        simp only [Prod.mk.injEq] at he
        obtain ⟨rfl, rfl⟩ := he
        obtain ⟨zv, h1, h2⟩ := zeroT_run (P := P) (β := β) (w := w) hz
        have hz0 := zeros_VRs (n := len) h2.cells hc2 hc3
        obtain ⟨us, h6, h7, h8⟩ := fill_run (place' := fun i => some (i * n, n)) (fun i q hq => hq) _ _ _ ((Array.range (len * n)).map (zv.cells[· % zv.cells.size]!)) _ hp hz0 hf
        have k1 : (newRow elem us.toList.toArray).run P w = .ok ⟨w.heap.size, 0, none⟩ (w.alloc (.cells us.toList.toArray elem)) := by simp [newRow]
        have hmap : len * n = 0 → (Array.range (len * n)).map ((#[] : Array Value)[· % (#[] : Array Value).size]!) = (Array.range (len * n)).map (zv.cells[· % zv.cells.size]!) := fun h0 => by rw [h0]; simp
        have q1 : (newRow elem us).run P w = .ok ⟨w.heap.size, 0, none⟩ (w.alloc (.cells us.toList.toArray elem)) := by rw [← k1, Array.toArray_toList]
        refine ⟨.cells us.toList.toArray elem, us.toList.length, .slice (some ⟨w.heap.size, 0, none⟩) len len, ?_, fun β' he hi => ⟨.slice 0 len hi rfl (Nat.le_refl _), rowObj h7 he⟩⟩
        simp only [Instr.buildSlice, Sem.run_bind, run_underlying (undT_und hu), Result.andThen_ok, sizeT_run hn, if_neg hc1]
        split
        · rename_i h0
          simp only [Sem.run_bind, Sem.run_pure, Result.andThen_ok, hmap h0, h6, q1]
        · simp only [Sem.run_bind, Sem.run_pure, Result.andThen_ok, h1, h6, q1]
    · cases h
  · cases h
theorem makeSliceA_at {t : TypeId} {a b : AV} {v u : Value} {e : TypeId} {cells : List AV} {l c id : Nat} (h : makeSliceA P t a b = some (e, cells, l, c)) (hx : VR β a v) (hy : VR β b u) :
    AllocAt P β w id (.slice id 0 l (.exact c)) (.row cells e .solid) (Instr.makeSlice t v u) := by
  unfold makeSliceA at h
  split at h
  · rename_i elem k1 m k2 n hu
    cases hx; cases hy
    split at h
    · rename_i s z by8 hs hz hby
      split at h
      · rename_i hb
        split at h
        · rename_i hzs
          simp only [Option.some.injEq, Prod.mk.injEq] at h
          obtain ⟨rfl, rfl, rfl, rfl⟩ := h
          obtain ⟨b1, b2, b3, b4⟩ := hb
          obtain ⟨zv, h1, h2⟩ := zeroT_run (P := P) (β := β) (w := w) hz
          have hz0 := zeros_VRs (n := n.toNat) h2.cells hzs.1 hzs.2
          have q1 : (newRow elem ((Array.range (n.toNat * s)).map (zv.cells[· % zv.cells.size]!)).toList.toArray).run P w = .ok ⟨w.heap.size, 0, none⟩ (w.alloc (.cells ((Array.range (n.toNat * s)).map (zv.cells[· % zv.cells.size]!)).toList.toArray elem)) := by simp [newRow]
          obtain ⟨inf, hi1, hi2⟩ := bytesT_run (w := w) hby
          have wl : IntKind.i64.wrap m = m := IntWalk.i64_in _ (by omega)
          have wc : IntKind.i64.wrap n = n := IntWalk.i64_in _ (by omega)
          have hn0 : (by8 : Int) * n ≤ 2 ^ 40 := by rw [Int.mul_comm]; exact b3
          have hlm : (by8 : Int) * m ≤ by8 * n := Int.mul_le_mul_of_nonneg_left b2 (by omega)
          have hmap : n.toNat * s = 0 → (Array.range (n.toNat * s)).map ((#[] : Array Value)[· % (#[] : Array Value).size]!) = (Array.range (n.toNat * s)).map (zv.cells[· % zv.cells.size]!) := fun h0 => by rw [h0]; simp
          have q1' : (newRow elem ((Array.range (n.toNat * s)).map (zv.cells[· % zv.cells.size]!))).run P w = .ok ⟨w.heap.size, 0, none⟩ (w.alloc (.cells ((Array.range (n.toNat * s)).map (zv.cells[· % zv.cells.size]!)).toList.toArray elem)) := by
            rw [← q1, Array.toArray_toList]
          refine ⟨_, _, .slice (some ⟨w.heap.size, 0, none⟩) m.toNat n.toNat, ?_, fun β' he hi => ⟨.slice 0 _ hi rfl (by omega), rowObj hz0 he⟩⟩
          simp only [Instr.makeSlice, Sem.run_bind, run_underlying (undT_und hu), Result.andThen_ok, asInt, asIntOf, Sem.run_pure, hi1, hi2, wl, wc]
          have c1 : ¬ (n < 0) := by omega
          have c2 : ¬ ((by8 : Int) * n > 2 ^ 48) := by omega
          have c3 : ¬ (m < 0) := by omega
          have c4 : ¬ (m > n) := by omega
          simp only [c1, c2, c3, c4, decide_false, Bool.or_self, Bool.false_eq_true, if_false, Sem.run_bind, run_askRoom, Result.andThen_ok, sizeT_run hs]
          split
          · rename_i h0
            simp only [Sem.run_bind, Sem.run_pure, Result.andThen_ok, hmap h0, q1']
          · simp only [Sem.run_bind, Sem.run_pure, Result.andThen_ok, h1, q1']
        · cases h
      · cases h
    · cases h
  · cases h
theorem newRow_at {e : TypeId} {cells : List AV} {a : Array Value} {id : Nat} (hc : VRs β cells a.toList) :
    AllocAt P β w id (.ptr id 0) (.row cells e .solid) (do pure (.pointer (some (← newRow e a)))) := by
  refine ⟨.cells a.toList.toArray e, a.toList.length, .pointer (some ⟨w.heap.size, 0 + 0, none⟩), by simp [newRow, Result.andThen], fun β' he hi => ⟨.ptr 0 hi, rowObj hc he⟩⟩
theorem symMakeA_at {nf : Tm → Tm} (hn : ∀ t, (nf t).den = t.den) {kinds : TypeId → Option (List CK)} {t : TypeId} {a b r : AV} {v u : Value} {H H' : AHeap} (h : symMakeA P nf kinds H t a b = some (r, H')) (hx : VR β a v) (hy : VR β b u) :
    ∃ ob, H' = H.new ob ∧ AllocAt P β w H.next r ob (Instr.makeSlice t v u) := by
  unfold symMakeA at h
  split at h
  · rename_i e tl tc hu htl htc
    split at h
    · rename_i ks zt hze
      obtain ⟨z, by8, hz, hsz, hby, h8, hzl, hks, hexp⟩ := zeroEltA_run hze
      cases hc : (holdsT nf .small [tc] && holdsT nf (.bin .leq .i64) [.int 0, tl] && holdsT nf (.bin .leq .i64) [tl, tc])
      · rw [hc] at h; cases h
      · rw [hc] at h
        simp only [cond_true, Option.some.injEq, Prod.mk.injEq] at h
        obtain ⟨rfl, rfl⟩ := h
        simp only [Bool.and_eq_true] at hc
        obtain ⟨⟨c1, c2⟩, c3⟩ := hc
        have k1 := tmOf_cell htl hx
        have k2 := tmOf_cell htc hy
        generalize hdl : tl.den = dl at k1
        generalize hdc : tc.den = dc at k2
        cases k1 with | int _ l =>
        cases k2 with | int _ c =>
        have c1 := holdsT_den hn c1
        have c2 := holdsT_den hn c2
        have c3 := holdsT_den hn c3
        simp only [Tm.dens, hdc, TOp.den, D.bool.injEq, decide_eq_true_eq] at c1
        simp only [Tm.dens, hdl, Tm.den, TOp.den, intD, D.bool.injEq, decide_eq_true_eq] at c2
        simp only [Tm.dens, hdl, hdc, TOp.den, intD, D.bool.injEq, decide_eq_true_eq] at c3
        obtain ⟨q, rfl⟩ : ∃ q : Nat, c = (q : Int) := ⟨c.toNat, by omega⟩
        obtain ⟨m, rfl⟩ : ∃ m : Nat, l = (m : Int) := ⟨l.toNat, by omega⟩
        have hq : q ≤ 2 ^ 30 := by omega
        have hmq : m ≤ q := by omega
        have hrep : (mkT nf .rep [tc, zt]).den = .list (List.replicate q zt.den) := by
          rw [mkT_den hn]; simp [Tm.dens, hdc, TOp.den]
        have hsz0 : ks.length ≠ 0 := fun e => hks (List.length_eq_zero_iff.1 e)
        have ha : makeSliceA P t (.int .i64 (m : Int)) (.int .i64 (q : Int)) = some (e, repeatL z.cells q, m, q) := by
          unfold makeSliceA
          have b3 : (q : Int) * (by8 : Int) ≤ 2 ^ 40 := by
            have := Nat.mul_le_mul hq h8
            have : ((q * by8 : Nat) : Int) ≤ ((2 ^ 40 : Nat) : Int) := by omega
            simpa using this
          have b : 0 ≤ (m : Int) ∧ (m : Int) ≤ (q : Int) ∧ (q : Int) * (by8 : Int) ≤ 2 ^ 40 ∧ (q : Int) ≤ 2 ^ 40 := ⟨by omega, by omega, b3, by omega⟩
          simp only [hu, hsz, hz, hby, if_pos b, hzl, Int.toNat_natCast]
          rw [if_pos ⟨trivial, hsz0⟩]
        obtain ⟨obj, sz, y, r1, r2⟩ := makeSliceA_at (w := w) (id := H.next) ha (.int .i64 (m : Int)) (.int .i64 (q : Int)) (β := β)
        refine ⟨_, rfl, obj, sz, y, r1, fun β' he hi => ?_⟩
        obtain ⟨s1, s2⟩ := r2 β' he hi
        obtain ⟨cc, lo, hi', h1, h2, h3, h4, h5⟩ := s2
        have hlen : (repeatL z.cells q).length = q * ks.length := by rw [repeatL_length, hzl]
        rw [hlen] at h3 h4 h5
        obtain ⟨g1, g2, rfl, rfl⟩ := h5
        constructor
        · cases s1 with
          | @slice _ p _ _ _ k hp hcap hle =>
          rw [hi] at hp
          cases hp
          simp only [CapR] at hcap
          subst hcap
          have := VR.lsl (β := β') (b := H.next) (es := ks.length) (lo := .int 0) (len := tl) (cm := .opn) (l := 0) (n := m) (c := k) (p := ⟨w.heap.size, 0, sz⟩) rfl hdl hi (by
            simp only at g2
            refine ⟨by omega, ?_, ?_⟩
            · show 0 + 0 * ks.length + k * ks.length ≤ sz; rw [g2]; omega
            · show sz < 0 + 0 * ks.length + (k + 1) * ks.length; rw [g2, Nat.add_mul]; omega) hle
          rwa [Nat.zero_mul] at this
        · refine ⟨_, hrep, hks, cc, 0, 0, h1, h2, ?_, ?_, ?_⟩
          · rw [expandL_len, List.length_replicate]; exact h3
          · rw [expandL_len, List.length_replicate]; exact hexp q _ β' _ hrep h4
          · exact ⟨fun o _ _ => by omega, fun _ => .inl rfl⟩
    · cases h
  · cases h
theorem newMap_at {id : Nat} : AllocAt P β w id (.map id) (.map [] 0) (do pure (.map (some (← newObj (.map #[] 0))))) := by
  refine ⟨.map #[] 0, 0, .map (some w.heap.size), by simp [Result.andThen], fun β' he hi => ⟨.map hi, #[], World.alloc_heap_new _ _, ?_⟩⟩
  exact .nil
theorem alloc_run (hnf : ∀ t, (E.nf t).den = t.den) {o : Oper} {v : AV} {H' : AHeap} (hc : cls o.op = .alloc) (h : opA P E S c o T H = some (v, H')) (hρ : OpsR β c T ev o.op.operands) :
    ∃ ob m, H' = H.new ob ∧ (∀ w, (execOp ev o).run P w = (m.run P w).andThen fun u w' => .ok (.value u) w') ∧ AllocAt P β w H.next v ob m := by
  obtain ⟨dst, op, type, pos, after, guard⟩ := o
  simp only at hc hρ
  cases op <;> try (simp only [cls, reduceCtorEq] at hc)
  case alloc e =>
    simp only [opA, Option.map_eq_some_iff, newA, Prod.mk.injEq] at h
    obtain ⟨z, hz, rfl, rfl⟩ := h
    obtain ⟨zv, h1, h2⟩ := zeroT_run (P := P) (β := β) (w := w) hz
    obtain ⟨obj, sz, u, k1, k2⟩ := newRow_at (P := P) (w := w) (e := e) (id := H.next) h2.cells
    refine ⟨_, Instr.alloc e true (.tuple #[]), rfl, fun w => by simp only [execOp, Sem.run_bind, Sem.run_pure], obj, sz, u, ?_, k2⟩
    simpa [Instr.alloc, h1, newVar] using k1
  case box e x =>
    simp only [opA, Option.map_eq_some_iff, newA, Prod.mk.injEq] at h
    obtain ⟨y, hy, rfl, rfl⟩ := h
    exact ⟨_, Instr.box e (ev x), rfl, fun w => by simp only [execOp, Sem.run_bind, Sem.run_pure], newRow_at (hρ x (by simp [Op.operands]) _ hy).cells⟩
  case buildSlice t len parts =>
    simp only [opA] at h
    split at h
    · rename_i vs hvs
      simp only [Option.map_eq_some_iff, Prod.mk.injEq, Prod.exists] at h
      obtain ⟨e, cells, hr, rfl, rfl⟩ := h
      have hp := parts_of (aevals_of (fun x hx => hρ x (by simpa [Op.operands] using hx)) hvs)
      exact ⟨_, _, rfl, fun w => by simp only [execOp, Sem.run_bind, Sem.run_pure], buildSliceA_at (parts' := parts.map fun (i, x) => (i, ev x)) hr (by simpa using hp)⟩
    · cases h
  case makeSlice t l k =>
    simp only [opA] at h
    split at h
    · rename_i a b ha hb
      split at h
      · rename_i e cells l' k' hr
        simp only [Option.some.injEq, Prod.mk.injEq] at h
        obtain ⟨rfl, rfl⟩ := h
        exact ⟨_, _, rfl, fun w => by simp only [execOp, Sem.run_bind, Sem.run_pure], makeSliceA_at hr (hρ l (by simp [Op.operands]) _ ha) (hρ k (by simp [Op.operands]) _ hb)⟩
      · obtain ⟨ob, h1, h2⟩ := symMakeA_at (P := P) (w := w) hnf h (hρ l (by simp [Op.operands]) _ ha) (hρ k (by simp [Op.operands]) _ hb)
        exact ⟨ob, _, h1, fun w => by simp only [execOp, Sem.run_bind, Sem.run_pure], h2⟩
    · cases h
  case makeMap t r =>
    simp only [opA] at h
    cases r with
    | none =>
      simp only [Option.some.injEq, Prod.mk.injEq] at h
      obtain ⟨rfl, rfl⟩ := h
      exact ⟨_, Instr.makeMap t none, rfl, fun w => by simp only [execOp, Sem.run_bind, Sem.run_pure, Option.map_none], newMap_at⟩
    | some x =>
      simp only at h
      split at h
      · rename_i k n kt vt hu hx
        simp only [Option.some.injEq, Prod.mk.injEq] at h
        obtain ⟨rfl, rfl⟩ := h
        have hv := hρ x (by simp [Op.operands]) _ hx
        obtain ⟨obj, sz, u, k1, k2⟩ := newMap_at (P := P) (β := β) (w := w) (id := H.next)
        refine ⟨_, Instr.makeMap t (some (ev x)), rfl, fun w => by simp only [execOp, Sem.run_bind, Sem.run_pure, Option.map_some], obj, sz, u, ?_, k2⟩
        generalize ev x = vx at hv
        cases hv
        simpa [Instr.makeMap, run_underlying (undT_und hu), asInt, asIntOf] using k1
      · cases h
  all_goals (first | (simp only [opA] at h; done) | (split at hc <;> first | (cases hc; done) | (rename_i hq; cases hq; done) | (simp_all; done)))
end
end Go.Tc
namespace Go.Tc
variable [Val]
def Fen : Option Nat → Fence
  | none => Fence.wide
  | some l => Fence.wide.inRound l
omit [Val] in
theorem Fen_fn (r : Option Nat) (f : FuncId) : (Fen r).fn f := by cases r <;> trivial
omit [Val] in
theorem Fen_depth (r : Option Nat) : (Fen r).depth = none := by cases r <;> rfl
omit [Val] in
theorem Fen_round (r : Option Nat) : (Fen r).round = r := by cases r <;> rfl
omit [Val] in
theorem Fen_calls {r : Option Nat} {n : Nat} {P : Program} {f : FuncId} {args : Array Value} {w : World} {R : Ending → World → Prop} (h : CallsIn Fence.wide n P f args w R) : CallsIn (Fen r) n P f args w R := by
  cases r <;> exact h
omit [Val] in
theorem Fen_rounds {r : Option Nat} {n : Nat} {P : Program} {l : Nat} {f : FuncId} {tmps : Array Value} {x y : Code} {w : World} {R : Ending → World → Prop} (h : RoundIn Fence.wide n P l f tmps x y w R) : RoundIn (Fen r) n P l f tmps x y w R := by
  cases r <;> exact h
def LoopIn (F : Fence) (n : Nat) (P : Program) (c : Code) (Q : Exit → Act → World → Prop) (a : Act) (w : World) : Prop :=
  ∀ (b : Frame) (k : List Item) (cs : List Frame), b.roundOf = F.round → F.fn b.fn → F.room (cs.length + 1 + n) →
    ∃ e a' w', Q e a' w' ∧ ArrivesIn (Machine.fenced P F) P (lone (b.atR a (.code c :: .inLoop c :: k)) cs w) b k cs e a' w'
omit [Val] in
theorem loopIn_step {F : Fence} {n : Nat} {P : Program} {c : Code} {Q : Exit → Act → World → Prop} {a : Act} {w : World} (h : c.wpIn F n P (Exit.then (LoopIn F n P c Q) Q) a w) : LoopIn F n P c Q a w := by
  intro b k cs hro hb hr
  obtain ⟨e, a₁, w₁, hq, harr⟩ := h b (.inLoop c :: k) cs hro hb hr
  cases e with
  | normal =>
    obtain ⟨e₂, a₂, w₂, hq₂, harr₂⟩ := hq b k cs hro hb hr
    exact ⟨e₂, a₂, w₂, hq₂, .of_steps (StepsIn.trans harr (.one (fenced_calm hb hr rfl) stepR_inLoop)) harr₂⟩
  | exit id => exact ⟨_, a₁, w₁, hq, .pass (x := .inLoop c) rfl (fun _ _ => .inl (by simp)) harr⟩
  | goto l => exact ⟨_, a₁, w₁, hq, .pass (x := .inLoop c) rfl (fun _ _ => .inl (by simp)) harr⟩
  | ret => exact ⟨_, a₁, w₁, hq, .pass (x := .inLoop c) rfl (fun _ _ => .inl (by simp)) harr⟩
  | panic ch => exact ⟨_, a₁, w₁, hq, .pass (x := .inLoop c) rfl (fun _ _ => .inl (by simp)) harr⟩
  | outgrown => exact ⟨_, a₁, w₁, hq, .pass (x := .inLoop c) rfl (fun _ _ => .inl (by simp)) harr⟩
omit [Val] in
theorem wpIn_of_loopIn {F : Fence} {n : Nat} {P : Program} {c : Code} {Q : Exit → Act → World → Prop} {a : Act} {w : World} (h : LoopIn F n P c Q a w) : (Code.loop c).wpIn F n P Q a w := by
  intro b k cs hro hb hr
  obtain ⟨e, a', w', hq, harr⟩ := h b k cs hro hb hr
  exact ⟨e, a', w', hq, .of_steps (.one (fenced_calm hb hr rfl) stepR_loop) harr⟩
omit [Val] in
theorem loopIn_mono {F : Fence} {n : Nat} {P : Program} {c : Code} {Q Q' : Exit → Act → World → Prop} {a : Act} {w : World} (h : LoopIn F n P c Q a w) (hq : ∀ e a w, Q e a w → Q' e a w) : LoopIn F n P c Q' a w :=
  fun b k cs hro hb hr => let ⟨e, a', w', q, r⟩ := h b k cs hro hb hr; ⟨e, a', w', hq _ _ _ q, r⟩
def CodeIn (F : Fence) (n : Nat) (P : Program) (cd : Code) (Q : Exit → Act → World → Prop) (a : Act) (w : World) : Prop :=
  match cd with
  | .loop c => LoopIn F n P c Q a w
  | cd => cd.wpIn F n P Q a w
omit [Val] in
theorem CodeIn.wpIn {F : Fence} {n : Nat} {P : Program} {cd : Code} {Q : Exit → Act → World → Prop} {a : Act} {w : World} (h : CodeIn F n P cd Q a w) : cd.wpIn F n P Q a w := by
  cases cd <;> first | exact h | exact wpIn_of_loopIn h
def OwnR (β : Pl) : List Nat → List Deferred → Prop
  | [], [] => True
  | m :: ms, d :: ds => (∃ p, β m = some p ∧ d = { target := .collected p.c, args := #[] }) ∧ OwnR β ms ds
  | _, _ => False
omit [Val] in
theorem OwnR.mono {β β' : Pl} (e : Ext β β') : ∀ {ms : List Nat} {ds : List Deferred}, OwnR β ms ds → OwnR β' ms ds
  | [], [], _ => trivial
  | [], _ :: _, h => h
  | _ :: _, [], h => h
  | _ :: _, _ :: _, ⟨⟨p, h1, h2⟩, h3⟩ => ⟨⟨p, e _ _ h1, h2⟩, h3.mono e⟩
def MarksR (β : Pl) : List Mark → List Deferred → Prop
  | [], [] => True
  | .own m :: ms, d :: ds => (∃ p, β m = some p ∧ d = { target := .collected p.c, args := #[] }) ∧ MarksR β ms ds
  | .clo f l :: ms, d :: ds => (∃ x y : Array Value, d = { target := .fn (.func f) y, args := x } ∧ VRs β l (x.toList ++ y.toList)) ∧ MarksR β ms ds
  | _, _ => False
theorem MarksR.mono {β β' : Pl} (e : Ext β β') : ∀ {ms : List Mark} {ds : List Deferred}, MarksR β ms ds → MarksR β' ms ds
  | [], [], _ => trivial
  | [], _ :: _, h => h
  | .own _ :: _, [], h => h
  | .clo _ _ :: _, [], h => h
  | .own _ :: _, _ :: _, ⟨⟨p, h1, h2⟩, h3⟩ => ⟨⟨p, e _ _ h1, h2⟩, h3.mono e⟩
  | .clo _ _ :: _, _ :: _, ⟨⟨x, y, h1, h2⟩, h3⟩ => ⟨⟨x, y, h1, VRs.mono e h2⟩, h3.mono e⟩
theorem OwnR.marks {β : Pl} : ∀ {m : List Nat} {ds : List Deferred}, OwnR β m ds → MarksR β (m.map .own) ds
  | [], [], _ => trivial
  | [], _ :: _, h => h
  | _ :: _, [], h => h
  | _ :: _, _ :: _, ⟨h1, h2⟩ => ⟨h1, h2.marks⟩
theorem MarksR.owns {β : Pl} : ∀ {m : List Mark} {n : List Nat} {ds : List Deferred}, ownsOf m = some n → MarksR β m ds → OwnR β n ds
  | [], n, [], h, _ => by cases h; trivial
  | [], _, _ :: _, _, h => h.elim
  | .own _ :: _, _, [], _, h => h.elim
  | .clo _ _ :: _, _, _, h, _ => by cases h
  | .own b :: r, n, d :: ds, h, hm => by
    simp only [ownsOf] at h
    split at h
    · rename_i l hl
      cases h
      exact ⟨hm.1, MarksR.owns hl hm.2⟩
    · cases h
def AroundR (β : Pl) : Option Nat → Option Nat → Prop
  | none, none => True
  | some l, some r => ∃ p, β l = some p ∧ p.c = r
  | _, _ => False
omit [Val] in
theorem AroundR.mono {β β' : Pl} (e : Ext β β') {a r : Option Nat} (h : AroundR β a r) : AroundR β' a r := by
  cases a <;> cases r <;> first | exact h | exact (let ⟨p, h1, h2⟩ := h; ⟨p, e _ _ h1, h2⟩)
def toExit : AExit → Exit
  | .normal => .normal
  | .exit id => .exit id
  | .goto l => .goto l
  | .ret => .ret
def Out (G : Nat) (β : Pl) (H : AHeap) (w : World) (r : AV) (H' : AHeap) (u : Value) (w' : World) : Prop :=
  ∃ β', VR β' r u ∧ WR G β' H'.get H'.next w' ∧ Tran β H.get H.next w β' H'.get H'.next w'
def RetPost (G : Nat) (β : Pl) (H : AHeap) (w : World) (r : AV) (H' : AHeap) : Ending → World → Prop
  | .returned u, w' => Out G β H w r H' u w'
  | _, _ => False
def CodePost (G : Nat) (c : Ctx) (β : Pl) (H : AHeap) (w : World) (res : Res) : Exit → Act → World → Prop := fun e a' w' =>
  e = toExit res.exit ∧ ∃ β', TR β' c res.tmps a'.tmps ∧ MarksR β' res.marks a'.defers ∧ WR G β' res.heap.get res.heap.next w' ∧ Tran β H.get H.next w β' res.heap.get res.heap.next w'
structure Sound (P : Program) (G : Nat) (S : Evs) : Prop where
  call : ∀ {f : FuncId} {args : List AV} {H : AHeap} {r : AV} {H' : AHeap}, S.call f args H = some (r, H') → ∀ {β : Pl} {w : World} {vs : List Value}, WR G β H.get H.next w → VRs β args vs →
    (∀ w0, (callFunc f vs.toArray).run P w0 = .ok (.enter f vs.toArray) w0) ∧ ∀ n, CallsIn Fence.wide n P f vs.toArray w (RetPost G β H w r H')
  code : ∀ {c : Ctx} {around : Option Nat} {cd : Code} {T : Tmps} {m : List Mark} {H : AHeap} {res : Res}, S.code c around cd T m H = some res → c.glob = G → ∀ {β : Pl} {w : World} {a : Act} {r : Option Nat},
    TR β c T a.tmps → MarksR β m a.defers → WR G β H.get H.next w → AroundR β around r → ∀ n, CodeIn (Fen r) n P cd (CodePost G c β H w res) a w
theorem Sound.none (P : Program) (G : Nat) : Sound P G Evs.none := ⟨fun h => (by cases h), fun h => (by cases h)⟩
structure EnvOk (P : Program) (G : Nat) (E : Env) : Prop where
  glob : P.globals.size = G
  mixed : P.follows .mixedOrders = true
  nf : ∀ t, (E.nf t).den = t.den
  ext : ∀ f x, E.ext f = some x → ExtOk P f x
  code : ∀ f p c, E.code f p = some c → Val.code f p = c
  names : ∀ (f : FuncId) (fn : Func), P.funcs[f]? = some fn → fn.body.isSome = true → fn.name ≠ "runtime.NumGoroutine"
  prim : ∀ {f : FuncId} {args : List AV} {H : AHeap} {r : AV} {H' : AHeap}, E.prim f args H = some (r, H') → ∀ {β : Pl} {w : World} {vs : List Value}, WR G β H.get H.next w → VRs β args vs →
    (∀ w0, (callFunc f vs.toArray).run P w0 = .ok (.enter f vs.toArray) w0) ∧ ∀ n, CallsIn Fence.wide n P f vs.toArray w (RetPost G β H w r H')
def Does (G : Nat) (P : Program) (n : Nat) (r : Option Nat) (o : Oper) (a : Act) (β : Pl) (H : AHeap) (w : World) (v : AV) (H' : AHeap) : Prop :=
  ∀ K Q, (∀ u w', Out G β H w v H' u w' → K (a.put o.dst u) w') → o.wpIn (Fen r) n P a w K Q
def Comes (G : Nat) (P : Program) (β : Pl) (H : AHeap) (w : World) (v : AV) (H' : AHeap) (res : Result Next) : Prop :=
  (∃ u w', res = .ok (.value u) w' ∧ Out G β H w v H' u w') ∨
  (∃ w', res = .ok .skip w' ∧ Out G β H w v H' undef w') ∨
  (∃ f args, res = .ok (.enter f args) w ∧ ∀ n, CallsIn Fence.wide n P f args w (RetPost G β H w v H')) ∨
  (∃ l f tmps x y, res = .ok (.round l f tmps x y) w ∧ ∀ n, RoundIn Fence.wide n P l f tmps x y w (RetPost G β H w v H'))
section
variable {P : Program} {G : Nat} {β : Pl} {H H' : AHeap} {w : World} {E : Env} {S : Evs} {v : AV}
theorem does_of {n : Nat} {r : Option Nat} {o : Oper} {a : Act} (hd : ∀ c, o.op ≠ .defer c) (h : Comes G P β H w v H' ((execOp a.eval o).run P w)) : Does G P n r o a β H w v H' := by
  intro K Q hK
  refine ⟨fun f _ => Fen_fn r f, ?_⟩
  rw [Oper.semAt_eq _ _ _ hd]
  have hdep : ∀ m, (Fen r).depth.isSome = true → 1 ≤ m := fun m h => by rw [Fen_depth] at h; cases h
  rcases h with ⟨u, w', h1, h2⟩ | ⟨w', h1, h2⟩ | ⟨f, args, h1, h2⟩ | ⟨l, f, tmps, x, y, h1, h2⟩
  · rw [h1]; exact hK u w' h2
  · rw [h1]; exact hK undef w' h2
  · rw [h1]
    refine ⟨hdep n, Fen_calls (CallsIn.mono (h2 (n - 1)) fun e w'' he => ?_)⟩
    cases e with
    | returned u => exact hK u w'' he
    | panicked ch => exact he.elim
    | outgrown => exact he.elim
  · rw [h1]
    refine ⟨hdep n, Fen_rounds (RoundIn.mono (h2 (n - 1)) fun e w'' he => ?_)⟩
    cases e with
    | returned u => exact hK u w'' he
    | panicked ch => exact he.elim
    | outgrown => exact he.elim
theorem callFuncA_run (hE : EnvOk P G E) (hS : Sound P G S) {f : FuncId} {args : List AV} {vs : List Value} (h : callFuncA P E S f args H = some (v, H')) (hw : WR G β H.get H.next w) (ha : VRs β args vs) :
    Comes G P β H w v H' ((callFunc f vs.toArray).run P w) := by
  unfold callFuncA at h
  split at h
  · rename_i x hx
    obtain ⟨β', w', z, h1, h2, h3, h4⟩ := extA_run hE.nf (hE.ext f x hx) hw h ha
    exact .inl ⟨z, w', h1, β', h2, h3, h4⟩
  · obtain ⟨h1, h2⟩ := hS.call h hw ha
    exact .inr (.inr (.inl ⟨f, vs.toArray, h1 w, h2⟩))
theorem callMethodA_run (hE : EnvOk P G E) (hS : Sound P G S) {recv : AV} {name : String} {args : List AV} {x : Value} {vs : List Value} (h : callMethodA P E S recv name args H = some (v, H')) (hw : WR G β H.get H.next w) (hx : VR β recv x) (ha : VRs β args vs) :
    Comes G P β H w v H' ((callMethod x name vs.toArray).run P w) := by
  unfold callMethodA at h
  split at h
  · rename_i t y
    cases hx with | iface _ hy =>
    rename_i y'
    split at h
    · rename_i i hi
      split at h
      · rename_i m hm
        split at h
        · rename_i hp
          have hpl : m.path.toList = [] := by simpa using hp
          have hti : ∀ w, (typeInfo t).run P w = .ok i w := fun w => by simp [typeInfo, infoT_info hi]
          have key : ∀ f b d, m.func = some (f, b) → undT P t = some d → (match d, b with | .pointer _, false => False | .pointer _, true => True | _, false => True | _, true => False) → callFuncA P E S f (y :: args) H = some (v, H') →
              Comes G P β H w v H' ((callMethod (.iface t y') name vs.toArray).run P w) := by
            intro f b d hf hu hdb hc
            have hget : ∀ w, (method (P.types.size + Made.depth) t y' name).run P w = .ok (f, y') w := by
              intro w
              have hd : P.types.size + Made.depth = (P.types.size + (Made.depth - 1)) + 1 := by
                have : 1 ≤ Made.depth := by decide
                omega
              rw [hd]
              simp only [method, Sem.run_bind, hti, Result.andThen_ok, hm, hpl, follow, Sem.run_pure, hf, receiverAt, run_underlying (undT_und hu)]
              cases d <;> cases b <;> simp_all [Place.get]
            have := callFuncA_run hE hS hc hw (VRs.cons hy ha)
            simp only [callMethod, Sem.run_bind, run_program, Result.andThen_ok, hget]
            have e : #[y'] ++ vs.toArray = (y' :: vs).toArray := by simp
            rw [e]; exact this
          split at h
          · rename_i f p hf hu; exact key f true _ hf hu trivial h
          · cases h
          · rename_i f d hd hf hu
            refine key f false d hf hu ?_ h
            cases d <;> first | trivial | exact (hd _ rfl).elim
          · cases h
        · cases h
      · cases h
    · cases h
  · cases h
end
end Go.Tc
namespace Go.Tc
variable [Val]
omit [Val] in
theorem assoc_put (l : List (Nat × AV)) (t : Nat) (v : AV) (x : Nat) : assoc (assocPut l t v) x = if x = t then some v else assoc l x := by
  induction l with
  | nil => 
    by_cases e : x = t
    · subst e; simp [assocPut, assoc]
    · have e' : ¬ t = x := fun h => e h.symm
      simp [assocPut, assoc, e, Bool.cond_eq_ite, e']
  | cons p r ih =>
    obtain ⟨k, u⟩ := p
    simp only [assocPut, Bool.cond_eq_ite, Nat.beq_eq]
    by_cases hk : k = t
    · subst hk
      simp only [if_true, assoc, Bool.cond_eq_ite, Nat.beq_eq]
      by_cases e : k = x
      · subst e; simp
      · rw [if_neg e, if_neg e, if_neg (fun h => e h.symm)]
    · simp only [if_neg hk, assoc, Bool.cond_eq_ite, Nat.beq_eq, ih]
      by_cases e : k = x
      · subst e; simp [hk]
      · rw [if_neg e, if_neg e]
omit [Val] in
theorem Tmps.get_put (c : Ctx) (T : Tmps) (t : Nat) (v : AV) (x : Nat) : (T.put c t v).get c x = if x = t then some v else T.get c x := by
  obtain ⟨vars, loc⟩ := T
  unfold Tmps.put Tmps.get
  by_cases hx : x = t
  · subst hx
    cases hm : c.mask.testBit x
    · simp [assoc]
    · simp [assoc_put]
  · cases hm : c.mask.testBit x <;> cases hn : c.mask.testBit t <;> simp [assoc_put, assoc, hx, Bool.cond_eq_ite, Ne.symm hx]
omit [Val] in
theorem Tmps.get_lay {c : Ctx} {T T' : Tmps} {dst : Option Tmp} {v : AV} (h : T.lay c dst v = some T') (x : Nat) : T'.get c x = if dst = some x then some v else T.get c x := by
  unfold Tmps.lay at h
  cases dst with
  | none => simp only [Option.some.injEq] at h; subst h; simp
  | some d =>
    simp only [Bool.cond_eq_ite] at h
    split at h
    · simp only [Option.some.injEq] at h
      subst h
      rw [Tmps.get_put]
      by_cases e : x = d
      · subst e; simp
      · simp [e, Ne.symm e]
    · cases h
omit [Val] in
theorem Tmps.lay_lt {c : Ctx} {T T' : Tmps} {d : Tmp} {v : AV} (h : T.lay c (some d) v = some T') : d < c.n := by
  unfold Tmps.lay at h
  simp only [Bool.cond_eq_ite, Nat.blt_eq] at h
  split at h
  · assumption
  · cases h
omit [Val] in
theorem Tmps.fresh_get {c : Ctx} {T : Tmps} {x : Nat} {v : AV} (h : T.fresh.get c x = some v) : T.get c x = some v := by
  obtain ⟨vars, loc⟩ := T
  simp only [Tmps.fresh, Tmps.get, assoc] at h ⊢
  cases hm : c.mask.testBit x <;> simp_all
theorem TR.fresh {β : Pl} {c : Ctx} {T : Tmps} {tmps : Array Value} (h : TR β c T tmps) : TR β c T.fresh tmps := ⟨h.1, fun t a ht => h.2 t a (Tmps.fresh_get ht)⟩
theorem TR.lay {β : Pl} {c : Ctx} {T T' : Tmps} {a : Act} {dst : Option Tmp} {v : AV} {u : Value} (h : TR β c T a.tmps) (hl : T.lay c dst v = some T') (hv : VR β v u) : TR β c T' (a.put dst u).tmps := by
  cases dst with
  | none => unfold Tmps.lay at hl; simp only [Option.some.injEq] at hl; subst hl; exact h
  | some d =>
    have hd := Tmps.lay_lt hl
    refine ⟨by simp [Act.put, h.1], fun t x ht => ?_⟩
    rw [Tmps.get_lay hl] at ht
    by_cases e : d = t
    · subst e
      simp only [if_true, Option.some.injEq] at ht
      subst ht
      exact ⟨u, by simp [Act.put, h.1, hd], hv⟩
    · rw [if_neg (by simpa using e)] at ht
      obtain ⟨y, h1, h2⟩ := h.2 t x ht
      exact ⟨y, by simp only [Act.put]; rw [Array.getElem?_setIfInBounds_ne e]; exact h1, h2⟩
theorem TR.put {β : Pl} {c : Ctx} {T : Tmps} {tmps : Array Value} {t : Nat} {v : AV} {u : Value} (h : TR β c T tmps) (ht : t < c.n) (hv : VR β v u) : TR β c (T.put c t v) (tmps.setIfInBounds t u) := by
  have hl : T.lay c (some t) v = some (T.put c t v) := by simp [Tmps.lay, Bool.cond_eq_ite, ht]
  exact TR.lay (a := ⟨tmps, []⟩) h hl hv
theorem setParams_TR {β : Pl} {c : Ctx} : ∀ (ps : List Tmp) (vs : List AV) (us : List Value) (T T' : Tmps) (tmps : Array Value), setParams c ps vs T = some T' → VRs β vs us → TR β c T tmps →
    us.length = ps.length ∧ TR β c T' ((ps.zip us).foldl (fun tmps (t, a) => tmps.setIfInBounds t a) tmps)
  | [], [], us, T, T', tmps, h, hv, ht => by
    cases hv; simp only [setParams, Option.some.injEq] at h; subst h; exact ⟨rfl, ht⟩
  | [], _ :: _, us, T, T', tmps, h, hv, ht => by cases h
  | _ :: _, [], us, T, T', tmps, h, hv, ht => by cases h
  | t :: ps, v :: vs, us, T, T', tmps, h, hv, ht => by
    cases hv with | cons hx hs =>
    simp only [setParams, Bool.cond_eq_ite, Nat.blt_eq] at h
    split at h
    · rename_i hlt
      obtain ⟨h1, h2⟩ := setParams_TR ps vs _ _ T' _ h hs (TR.put ht hlt hx)
      exact ⟨by simp [h1], h2⟩
    · cases h
section
variable {P : Program} {G : Nat} {β : Pl} {H H' : AHeap} {w : World} {E : Env} {S : Evs} {v : AV}
theorem loop_at {g : Nat → Option AObj} {n : Nat} (hw : WR G β g n w) {l : Nat} {p : Place} {st : LoopState} {pd : Option Code} {c : Ctx} {T : Tmps} {lc : LRef} {d : Nat}
    (hb : g l = some (.loop ⟨st, pd, c, T, lc, d⟩)) (hp : β l = some p) : ∃ cl : Loop, w.heap[p.c]? = some (.loop cl) ∧ cl.state = st ∧ cl.pending = pd ∧ TR β c T cl.tmps ∧ cl.params = lc.get.params ∧ cl.assign = lc.get.assign ∧ cl.body = lc.get.body ∧
      ∃ q, β d = some q ∧ q.c = cl.defers := by
  obtain ⟨q, hq, ho⟩ := hw.obj _ _ hb
  rw [hp] at hq; cases hq
  exact ho
theorem loop_turn (hw : WR G β H.get H.next w) {l : Nat} {p : Place} {st : LoopState} {pd : Option Code} {c : Ctx} {T : Tmps} {lc : LRef} {d : Nat}
    (hb : H.get l = some (.loop ⟨st, pd, c, T, lc, d⟩)) (hp : β l = some p) {cl : Loop} (hc : w.heap[p.c]? = some (.loop cl)) (st' : LoopState) (pd' : Option Code) :
    WR G β (H.set l (.loop ⟨st', pd', c, T, lc, d⟩)).get (H.set l (.loop ⟨st', pd', c, T, lc, d⟩)).next (w.putObj p.c (.loop { cl with state := st', pending := pd' })) ∧
    Tran β H.get H.next w β (H.set l (.loop ⟨st', pd', c, T, lc, d⟩)).get (H.set l (.loop ⟨st', pd', c, T, lc, d⟩)).next (w.putObj p.c (.loop { cl with state := st', pending := pd' })) := by
  obtain ⟨cl', h1, h2, h3, h4, h5, h6, h7, h8⟩ := loop_at hw hb hp
  rw [hc] at h1; cases h1
  rw [AHeap.get_set, AHeap.next_set]
  have hlt : p.c < w.heap.size := hw.bound l p hp
  refine hw.turn hb rfl hp (by simp) (fun c hc => World.putObj_heap_other hc) rfl rfl rfl ?_
  exact ⟨_, World.putObj_heap_same hlt, rfl, rfl, h4, h5, h6, h7, h8⟩
theorem lcodeA_get (hE : EnvOk P G E) {lc : LRef} {c : LCode} (h : lcodeA E lc = some c) : lc.get = c := by
  cases lc with
  | here c' => cases h; rfl
  | at_ f p => exact hE.code f p c h
theorem roundA_run (hE : EnvOk P G E) (hS : Sound P G S) {l : Nat} {p : Place} {args : List AV} {vs : List Value} (h : roundA P E S l args H = some (v, H')) (hw : WR G β H.get H.next w) (hp : β l = some p) (ha : VRs β args vs) :
    Comes G P β H w v H' ((Instr.yield p.c vs.toArray).run P w) := by
  unfold roundA at h
  split at h
  · rename_i st0 pd0 mask n gl T0 lc d0 hl
    obtain ⟨cl, c1, c2, c3, c4, c5, c6, c7, c8⟩ := loop_at hw hl hp
    split at h
    · cases h
    rename_i params assign body hlc
    rw [lcodeA_get hE hlc] at c5 c6 c7
    dsimp only at c5 c6 c7
    split at h
    · cases h
    · rename_i T hT
      have c4' : TR β ⟨mask, n, P.globals.size⟩ T0 cl.tmps := c4
      obtain ⟨hlen, hTR⟩ := setParams_TR _ _ _ _ _ _ hT ha c4'
      split at h
      · rename_i T1 H1 hasg
        split at h
        · rename_i pd1 k1 t1 b1 d1 hl1
          split at h
          · rename_i ex T2 H2 hbd
            split at h
            · rename_i st2 pd2 k2 t2 b2 d2 hl2
              simp only [Option.some.injEq, Prod.mk.injEq] at h
              obtain ⟨rfl, rfl⟩ := h
              have hy := run_yield (P := P) (args := vs.toArray) c1 (by rw [c5]; simpa using hlen)
              refine .inr (.inr (.inr ⟨_, _, _, _, _, hy, fun m => roundIn_of_wpIn trivial ?_⟩))
              have hfold : ((cl.params.zip vs.toArray).foldl (fun tmps (t, a) => tmps.setIfInBounds t a) cl.tmps) = ((params.toList.zip vs).foldl (fun tmps (t, a) => tmps.setIfInBounds t a) cl.tmps) := by
                rw [c5, ← Array.foldl_toList, Array.toList_zip]
              rw [c6, c7, hfold]
              have q1 := hS.code hasg hE.glob (a := { tmps := (params.toList.zip vs).foldl (fun tmps (t, a) => tmps.setIfInBounds t a) cl.tmps, defers := [] }) (r := some p.c) hTR trivial hw ⟨p, hp, rfl⟩ m
              refine wpIn_mono q1.wpIn ?_
              rintro e a' w' ⟨rfl, β1, t1', m1', w1', r1'⟩
              change ∃ w₂, _
              have hp1 : β1 l = some p := r1'.ext _ _ hp
              obtain ⟨cl1, e1, e2, e3, e4, e5, e6, e7, e8⟩ := loop_at w1' hl1 hp1
              obtain ⟨x1, x2⟩ := loop_turn w1' hl1 hp1 e1 .busy pd1
              have hbr := run_beginRound (P := P) e1 e2
              refine ⟨_, hbr, ?_⟩
              have hmk : a'.defers = [] := by
                cases hd : a'.defers with
                | nil => rfl
                | cons x xs => rw [hd] at m1'; exact m1'.elim
              have hpe : ({ cl1 with state := .busy, pending := pd1 } : Loop) = { cl1 with state := .busy } := by rw [← e3]
              rw [hpe] at x1 x2
              have q2 := hS.code hbd hE.glob (a := a') (r := some p.c) t1' m1' x1 ⟨p, hp1, rfl⟩ m
              refine wpIn_mono q2.wpIn ?_
              rintro e a'' w'' ⟨rfl, β2, t2', m2', w2', r2'⟩
              have hp2 : β2 l = some p := r2'.ext _ _ hp1
              obtain ⟨cl2, f1, -⟩ := loop_at w2' hl2 hp2
              have key : ∀ jump, jump = jumpOf ex → ∃ v' w3, (Instr.endRound p.c jump).run P w'' = .ok v' w3 ∧ RetPost G β H w (.bool (jumpOf ex).isNone) (H2.set l (.loop ⟨if (jumpOf ex).isNone then .ready else .done, jumpOf ex, k2, t2, b2, d2⟩)) (.returned v') w3 := by
                rintro jump rfl
                obtain ⟨y1, y2⟩ := loop_turn w2' hl2 hp2 f1 (if (jumpOf ex).isNone then .ready else .done) (jumpOf ex)
                exact ⟨_, _, run_endRound (jumpOf ex) f1, β2, .bool _, y1, r1'.trans (x2.trans (r2'.trans y2))⟩
              cases ex with
              | normal => exact key none rfl
              | exit id => exact key (some (.exit id)) rfl
              | goto t => exact key (some (.goto t)) rfl
              | ret => exact key (some .ret) rfl
            · cases h
          · cases h
        · cases h
      · cases h
  · cases h
theorem callValueA_run (hE : EnvOk P G E) (hS : Sound P G S) {fv : AV} {args : List AV} {f : Value} {vs : List Value} (h : callValueA P E S fv args H = some (v, H')) (hw : WR G β H.get H.next w) (hf : VR β fv f) (ha : VRs β args vs) :
    Comes G P β H w v H' ((do let d ← Deferred.ofValue f vs.toArray; invoke d.target d.args : Sem Next).run P w) := by
  unfold callValueA at h
  split at h
  · rename_i g first captured
    cases hf with
    | @fn _ f' _ _ x y hF hx hy =>
    cases hF
    simp only [Deferred.ofValue, Sem.run_bind, Sem.run_pure, Result.andThen_ok, invoke]
    have := callFuncA_run hE hS h hw ((hx.append ha).append hy)
    have e : x ++ vs.toArray ++ y = (x.toList ++ vs ++ y.toList).toArray := by simp
    rw [e]; exact this
  · rename_i l
    cases hf with
    | @fn _ f' _ _ x y hF hx hy =>
    cases hF with | yield hp =>
    cases x with | mk x => cases y with | mk y =>
    cases hx; cases hy
    simp only [Deferred.ofValue, Sem.run_bind, Sem.run_pure, Result.andThen_ok, invoke]
    have := roundA_run hE hS h hw hp ha
    simpa using this
  · rename_i name first
    cases hf with
    | @fn _ f' _ _ x y hF hx hy =>
    cases hF
    split at h
    · rename_i r rest hr
      have hall := hx.append ha
      rw [hr] at hall
      simp only [Deferred.ofValue, Sem.run_bind, Sem.run_pure, Result.andThen_ok, invoke]
      generalize hz : x.toList ++ vs = zs at hall
      have e : x ++ vs.toArray = zs.toArray := by rw [← hz]; simp
      rw [e]
      cases hall with
      | @cons _ z _ zr hz1 hz2 =>
      have := callMethodA_run hE hS h hw hz1 hz2
      simpa using this
    · cases h
  · cases h
end
end Go.Tc
namespace Go.Tc
variable [Val]
section
variable {P : Program} {G : Nat} {β : Pl} {H H' : AHeap} {w : World} {E : Env} {S : Evs} {c : Ctx} {T : Tmps} {ev : Operand → Value} {v : AV}
theorem undefA_VR : VR β undefA undef := .tuple .nil
theorem builtinA_run (hnf : ∀ t, (E.nf t).den = t.den) {b : Builtin} {ats : Array TypeId} {args : List AV} {vs : List Value} {ty : TypeId} {cs : Array Bool} (hw : WR G β H.get H.next w)
    (h : builtinA P E b ats args H = some (v, H')) (ha : VRs β args vs) : Comes G P β H w v H' ((builtin b ats ty cs vs.toArray).run P w) := by
  cases hb : readsOnly b with
  | true =>
    obtain ⟨rfl, u, h1, h2⟩ := builtinRead_run (ty := ty) (cs := cs) hnf hb hw h ha
    exact .inl ⟨u, w, h1, β, h2, hw, Tran.refl _ _ _ _⟩
  | false =>
    obtain ⟨ats⟩ := ats
    unfold builtinA at h
    split at h <;> try (simp only [readsOnly, reduceCtorEq] at hb; done)
    · rename_i t xt r s x hl
      simp only at hl; subst hl
      cases ha with | cons hs hr =>
      cases hr with | cons hx hr =>
      cases hr
      split at h
      · rename_i k hu
        rename_i ys yx _
        have key : ∃ (β' : Pl) (w' : World) (z : Value), (Builtin.append_ (t :: xt :: r).toArray ty #[ys, yx]).run P w = .ok z w' ∧ VR β' v z ∧ WR G β' H'.get H'.next w' ∧ Tran β H.get H.next w β' H'.get H'.next w' := by
          split at h
          · split at h
            · rename_i hz
              cases h
              exact symZerosA_run (ts := r) (ty := ty) hnf hw hz hu hs hx
            · exact appendZerosA_run (ts := r) (ty := ty) hw h hu hs hx
          · exact appendZerosA_run (ts := r) (ty := ty) hw h hu hs hx
        obtain ⟨β', w', z, k1, k2, k3, k4⟩ := key
        refine .inl ⟨z, w', ?_, β', k2, k3, k4⟩
        simp only [builtin, Sem.run_bind]
        rw [show [_, _].toArray = #[_, _] from rfl, k1]; rfl
      · rename_i d hd hu
        obtain ⟨β', w', z, k1, k2, k3, k4⟩ := appendA_run (ts := r) (ty := ty) hnf hw h hu (fun k hk => hd k hk) hs hx
        refine .inl ⟨z, w', ?_, β', k2, k3, k4⟩
        simp only [builtin, Sem.run_bind]
        rw [show [_, _].toArray = #[_, _] from rfl, k1]; rfl
      · cases h
    · rename_i t r d x hl
      simp only at hl; subst hl
      cases ha with | cons hs hr =>
      cases hr with | cons hx hr =>
      cases hr
      obtain ⟨w', z, k1, k2, k3, k4⟩ := copyA_run (ts := r) (ty := ty) hw h hs hx
      refine .inl ⟨z, w', ?_, β, k2, k3, k4⟩
      simp only [builtin, Sem.run_bind]
      rw [show [_, _].toArray = #[_, _] from rfl, k1]; rfl
    · rename_i t r m k hl
      simp only at hl; subst hl
      cases ha with | cons hs hr =>
      cases hr with | cons hx hr =>
      cases hr
      simp only [Option.map_eq_some_iff, Prod.mk.injEq] at h
      obtain ⟨H1, h1, rfl, rfl⟩ := h
      obtain ⟨w', k1, k3, k4⟩ := deleteA_run (ts := r) (ty := ty) hw h1 hs hx
      refine .inl ⟨.tuple #[], w', ?_, β, undefA_VR, k3, k4⟩
      simp only [builtin, Sem.run_bind]
      rw [show [_, _].toArray = #[_, _] from rfl, k1]; rfl
    · rename_i t r x hl
      simp only at hl; subst hl
      cases ha with | cons hx hr =>
      cases hr
      obtain ⟨w', z, k1, k2, k3, k4⟩ := clearA_run (ts := r) (ty := ty) hw h hx
      refine .inl ⟨z, w', ?_, β, k2, k3, k4⟩
      simp only [builtin, Sem.run_bind]
      rw [show [_].toArray = #[_] from rfl, k1]; rfl
    · rename_i pt r p n hl
      simp only at hl; subst hl
      cases ha with | cons hs hr =>
      cases hr with | cons hx hr =>
      cases hr
      split at h
      · rename_i e hu
        split at h
        · rename_i hbt
          split at h
          · rename_i r1 hr1
            cases h
            obtain ⟨w', z, k1, k2, k3, k4⟩ := unsafeStringA_run (ts := r) (ty := ty) hw hu hbt hr1 hs hx
            refine .inl ⟨z, w', ?_, β, k2, k3, k4⟩
            simp only [builtin, Sem.run_bind]
            rw [show [_, _].toArray = #[_, _] from rfl, k1]; rfl
          · obtain ⟨w', z, k1, k2, k3, k4⟩ := unsafeStringS_run (ts := r) (ty := ty) hnf hw hu hbt h hs hx
            refine .inl ⟨z, w', ?_, β, k2, k3, k4⟩
            simp only [builtin, Sem.run_bind]
            rw [show [_, _].toArray = #[_, _] from rfl, k1]; rfl
        · cases h
      · cases h
    · cases h
theorem comes_skip {m : Sem Unit} {w' : World} (hr : m.run P w = .ok () w') (h3 : WR G β H'.get H'.next w') (h4 : Tran β H.get H.next w β H'.get H'.next w') :
    Comes G P β H w undefA H' ((do m; pure .skip : Sem Next).run P w) :=
  .inr (.inl ⟨w', by simp [hr, Result.andThen], β, undefA_VR, h3, h4⟩)
theorem opA_run (hE : EnvOk P G E) (hS : Sound P G S) {o : Oper} (h : opA P E S c o T H = some (v, H')) (hw : WR G β H.get H.next w) (hρ : OpsR β c T ev o.op.operands) :
    (∀ d, o.op ≠ .defer d) ∧ Comes G P β H w v H' ((execOp ev o).run P w) := by
  cases hc : cls o.op with
  | pure =>
    obtain ⟨rfl, u, h1, h2⟩ := pure_run (w := w) hE.nf hc h hρ
    exact ⟨fun d hd => (by rw [hd] at hc; simp [cls] at hc), .inl ⟨u, w, h1, β, h2, hw, Tran.refl _ _ _ _⟩⟩
  | alloc =>
    obtain ⟨ob, m, rfl, h1, obj, sz, u, h2, h3⟩ := alloc_run (w := w) hE.nf hc h hρ
    refine ⟨fun d hd => (by rw [hd] at hc; simp [cls] at hc), ?_⟩
    have he := Pl.put_ext (β := β) ⟨w.heap.size, 0, sz⟩ (hw.fresh _ (Nat.le_refl _))
    obtain ⟨k1, k2⟩ := h3 (β.put H.next ⟨w.heap.size, 0, sz⟩) he (Pl.put_same β H.next _)
    obtain ⟨j1, j2⟩ := hw.alloc obj sz ob k2
    refine .inl ⟨u, _, by rw [h1, h2]; rfl, _, k1, ?_, ?_⟩
    · rw [AHeap.get_new, AHeap.next_new]; exact j1
    · rw [AHeap.get_new, AHeap.next_new]; exact j2
  | load =>
    refine ⟨fun d hd => (by rw [hd] at hc; simp [cls] at hc), ?_⟩
    by_cases hn : H'.next = H.next
    · obtain ⟨rfl, u, h1, h2⟩ := load_run (w := w) hE.nf hc hn hw h hρ
      exact .inl ⟨u, w, h1, β, h2, hw, Tran.refl _ _ _ _⟩
    · -- the bytes of a text
      obtain ⟨dst, op, type, pos, after, guard⟩ := o
      simp only at hc hρ
      cases op <;> try (simp only [cls, reduceCtorEq] at hc)
      case convert src dst x =>
        simp only [opA] at h
        split at h
        · rename_i y hy
          have hv := hρ x (by simp [Op.operands]) _ hy
          split at h
          · rename_i sd e s hus hud
            split at h
            · rename_i hue
              split at h
              · rename_i hsz
                simp only [Option.some.injEq, Prod.mk.injEq] at h
                obtain ⟨rfl, rfl⟩ := h
                generalize hev : ev x = vx at hv
                generalize hbs : s.nats s.len = nats at *
                generalize hbl : s.len = slen at *
                cases hv with | str sb =>
                subst hbl
                rw [BS.of_nats] at hbs
                subst hbs
                rw [BS.of_len]
                obtain ⟨β', w', z, k1, k2, k3, k4⟩ := strBytes_run (P := P) (s := sb) hw hus hud hue hsz.2
                refine .inl ⟨z, w', ?_, β', k2, k3, k4⟩
                simp only [execOp, Sem.run_bind, hev, k1, Result.andThen_ok, Sem.run_pure]
              · cases h
            · cases h
          · simp only [Option.map_eq_some_iff, Prod.mk.injEq] at h
            obtain ⟨r, hr, rfl, rfl⟩ := h
            exact absurd rfl hn
        · cases h
      all_goals (exfalso; revert hn; simp only [imp_false, Decidable.not_not])
      case load t x =>
        simp only [opA, Option.map_eq_some_iff, Prod.mk.injEq] at h
        obtain ⟨_, _, _, rfl⟩ := h; rfl
      case lookup t x i ok =>
        simp only [opA] at h
        split at h
        · simp only [Option.map_eq_some_iff, Prod.mk.injEq] at h
          obtain ⟨_, _, _, rfl⟩ := h; rfl
        · cases h
      case binOp op t x y _ =>
        simp only [opA] at h
        split at h
        · simp only [Option.map_eq_some_iff, Prod.mk.injEq] at h
          obtain ⟨_, _, _, rfl⟩ := h; rfl
        · cases h
      case slice t x lo hi mx =>
        simp only [opA] at h
        split at h
        · simp only [Option.map_eq_some_iff, Prod.mk.injEq] at h
          obtain ⟨_, _, _, rfl⟩ := h; rfl
        · cases h
      case call q =>
        obtain ⟨callee, args, ats⟩ := q
        have hq : ∃ b, callee = .builtin b ∧ readsOnly b = true := by
          cases callee with
          | builtin b => refine ⟨b, rfl, ?_⟩; cases b <;> simp_all [readsOnly]
          | value f => simp at hc
          | invoke r m => simp at hc
        obtain ⟨b, rfl, hb⟩ := hq
        simp only [opA] at h
        split at h
        · cases h
        · rename_i vs hvs
          have ha := aevals_of (fun x hx => hρ x (by simp [Op.operands, Call.operands]; simpa using hx)) hvs
          obtain ⟨h0, -⟩ := builtinRead_run (P := P) (ty := type) (cs := #[]) hE.nf hb hw h ha
          rw [h0]
      all_goals (first | (simp only [opA, reduceCtorEq] at h; done) | (split at hc <;> first | (cases hc; done) | (rename_i hq; cases hq; done) | (simp_all; done)))
  | effect =>
    obtain ⟨dst, op, type, pos, after, guard⟩ := o
    simp only at hc hρ
    cases op <;> try (simp only [cls, reduceCtorEq] at hc)
    case store t a x =>
      refine ⟨fun d hd => (by cases hd), ?_⟩
      simp only [opA] at h
      split at h
      · rename_i p y hp hy
        simp only [Option.map_eq_some_iff, Prod.mk.injEq] at h
        obtain ⟨H1, h1, rfl, rfl⟩ := h
        obtain ⟨w', k1, k3, k4⟩ := storeA_run hE.nf hw h1 (hρ a (by simp [Op.operands]) _ hp) (hρ x (by simp [Op.operands]) _ hy)
        exact comes_skip k1 k3 k4
      · cases h
    case mapUpdate t m k x =>
      refine ⟨fun d hd => (by cases hd), ?_⟩
      simp only [opA] at h
      split at h
      · rename_i p y z hp hy hz
        simp only [Option.map_eq_some_iff, Prod.mk.injEq] at h
        obtain ⟨H1, h1, rfl, rfl⟩ := h
        split at h1
        · rename_i H2 h2
          cases h1
          obtain ⟨w', k1, k3, k4⟩ := mapUpdateL_run hE.nf hw h2 (hρ m (by simp [Op.operands]) _ hp) (hρ k (by simp [Op.operands]) _ hy) (hρ x (by simp [Op.operands]) _ hz)
          exact comes_skip k1 k3 k4
        · obtain ⟨w', k1, k3, k4⟩ := mapUpdateA_run hw h1 (hρ m (by simp [Op.operands]) _ hp) (hρ k (by simp [Op.operands]) _ hy) (hρ x (by simp [Op.operands]) _ hz)
          exact comes_skip k1 k3 k4
      · cases h
    case insert t m k x =>
      refine ⟨fun d hd => (by cases hd), ?_⟩
      simp only [opA] at h
      split at h
      · rename_i p y z hp hy hz
        simp only [Option.map_eq_some_iff, Prod.mk.injEq] at h
        obtain ⟨H1, h1, rfl, rfl⟩ := h
        split at h1
        · rename_i H2 h2
          cases h1
          obtain ⟨w', k1, k3, k4⟩ := mapUpdateL_run hE.nf hw h2 (hρ m (by simp [Op.operands]) _ hp) (hρ k (by simp [Op.operands]) _ hy) (hρ x (by simp [Op.operands]) _ hz)
          exact comes_skip k1 k3 k4
        · obtain ⟨w', k1, k3, k4⟩ := mapUpdateA_run hw h1 (hρ m (by simp [Op.operands]) _ hp) (hρ k (by simp [Op.operands]) _ hy) (hρ x (by simp [Op.operands]) _ hz)
          exact comes_skip k1 k3 k4
      · cases h
    case mapEntry t m k =>
      refine ⟨fun d hd => (by cases hd), ?_⟩
      simp only [opA] at h
      split at h
      · rename_i p y hp hy
        split at h
        · rename_i r0 h2
          cases h
          obtain ⟨z, w', k1, k2, k3, k4⟩ := mapEntryL_run hE.nf hw h2 (hρ m (by simp [Op.operands]) _ hp) (hρ k (by simp [Op.operands]) _ hy)
          exact .inl ⟨z, w', by simp only [execOp, Sem.run_bind, k1, Result.andThen_ok, Sem.run_pure], β, k2, k3, k4⟩
        · obtain ⟨z, w', k1, k2, k3, k4⟩ := mapEntryA_run hw h (hρ m (by simp [Op.operands]) _ hp) (hρ k (by simp [Op.operands]) _ hy)
          exact .inl ⟨z, w', by simp only [execOp, Sem.run_bind, k1, Result.andThen_ok, Sem.run_pure], β, k2, k3, k4⟩
      · cases h
    case entryStore t m s x =>
      refine ⟨fun d hd => (by cases hd), ?_⟩
      simp only [opA] at h
      split at h
      · rename_i p y z hp hy hz
        simp only [Option.map_eq_some_iff, Prod.mk.injEq] at h
        obtain ⟨H1, h1, rfl, rfl⟩ := h
        split at h1
        · rename_i H2 h2
          cases h1
          obtain ⟨w', k1, k3, k4⟩ := entryStoreL_run (P := P) (t := t) hE.nf hw h2 (hρ m (by simp [Op.operands]) _ hp) (hρ s (by simp [Op.operands]) _ hy) (hρ x (by simp [Op.operands]) _ hz)
          exact comes_skip k1 k3 k4
        obtain ⟨w', k1, k3, k4⟩ := entryStoreA_run (P := P) (t := t) hw h1 (hρ m (by simp [Op.operands]) _ hp) (hρ s (by simp [Op.operands]) _ hy) (hρ x (by simp [Op.operands]) _ hz)
        exact comes_skip k1 k3 k4
      · cases h
    case range t x =>
      refine ⟨fun d hd => (by cases hd), ?_⟩
      simp only [opA] at h
      split at h
      · rename_i v0 hv0
        obtain ⟨β', w', z, k1, k2, k3, k4⟩ := iterA_run (P := P) hw h (hρ x (by simp [Op.operands]) _ hv0)
        exact .inl ⟨z, w', by simp only [execOp, Sem.run_bind, k1, Result.andThen_ok, Sem.run_pure], β', k2, k3, k4⟩
      · cases h
    case next it isString =>
      refine ⟨fun d hd => (by cases hd), ?_⟩
      simp only [opA] at h
      split at h
      · rename_i v0 hv0
        obtain ⟨w', z, k1, k2, k3, k4⟩ := nextA_run (P := P) (ty := type) hw h (hρ it (by simp [Op.operands]) _ hv0)
        exact .inl ⟨z, w', by simp only [execOp, Sem.run_bind, k1, Result.andThen_ok, Sem.run_pure], β, k2, k3, k4⟩
      · cases h
    case entry it =>
      refine ⟨fun d hd => (by cases hd), ?_⟩
      simp only [opA] at h
      split at h
      · rename_i v0 hv0
        simp only [Option.map_eq_some_iff, Prod.mk.injEq] at h
        obtain ⟨r0, h1, rfl, rfl⟩ := h
        obtain ⟨z, k1, k2⟩ := entryA_run (P := P) hw h1 (hρ it (by simp [Op.operands]) _ hv0)
        exact .inl ⟨z, w, by simp only [execOp, Sem.run_bind, k1, Result.andThen_ok, Sem.run_pure], β, k2, hw, Tran.refl _ _ _ _⟩
      · cases h
    case call q =>
      refine ⟨fun d hd => (by cases hd), ?_⟩
      obtain ⟨callee, args, ats⟩ := q
      simp only [opA] at h
      split at h
      · cases h
      · rename_i vs hvs
        have hmem : ∀ x ∈ args.toList, x ∈ (Op.call ⟨callee, args, ats⟩).operands := fun x hx => by
          simp only [Op.operands, Call.operands, Array.mem_append]
          first | exact .inl (by simpa using hx) | exact .inr (by simpa using hx)
        have ha := aevals_of (fun x hx => hρ x (hmem x hx)) hvs
        have hargs : args.map ev = (args.toList.map ev).toArray := by rw [← Array.toList_map, Array.toArray_toList]
        cases callee with
        | value f =>
          simp only at h
          split at h
          · rename_i fv hfv
            have := callValueA_run hE hS h hw (hρ f (by simp [Op.operands, Call.operands]) _ hfv) ha
            have e : (execOp ev { dst := dst, op := .call ⟨.value f, args, ats⟩, type := type, pos := pos, after := after, guard := guard }) = (do let d ← Deferred.ofValue (ev f) (args.map ev); invoke d.target d.args) := rfl
            rw [e, hargs]
            exact this
          · cases h
        | invoke r name =>
          simp only at h
          split at h
          · rename_i rv hrv
            have := callMethodA_run hE hS h hw (hρ r (by simp [Op.operands, Call.operands]) _ hrv) ha
            have e : (execOp ev { dst := dst, op := .call ⟨.invoke r name, args, ats⟩, type := type, pos := pos, after := after, guard := guard }).run P w = (callMethod (ev r) name ((#[ev r] ++ args.map ev).extract 1 (#[ev r] ++ args.map ev).size)).run P w := by
              have e0 : (#[ev r] ++ args.map ev)[0]? = some (ev r) := by rw [Array.getElem?_append_left (by simp)]; rfl
              simp only [execOp, resolve, Sem.run_bind, Sem.run_pure, Result.andThen_ok, invoke, e0]
            have e2 : (#[ev r] ++ args.map ev).extract 1 (#[ev r] ++ args.map ev).size = (args.toList.map ev).toArray := by
              apply Array.ext'
              simp [List.take_of_length_le]
            rw [e, e2]
            exact this
          · cases h
        | builtin b =>
          simp only at h
          have e : ∃ cs, (execOp ev { dst := dst, op := .call ⟨.builtin b, args, ats⟩, type := type, pos := pos, after := after, guard := guard }).run P w = (builtin b ats type cs (args.map ev)).run P w := ⟨_, by
            simp only [execOp, resolve, Sem.run_bind, Sem.run_pure, Result.andThen_ok, invoke]; rfl⟩
          obtain ⟨cs, e⟩ := e
          rw [e, hargs]
          exact builtinA_run hE.nf hw h ha
    all_goals (simp only [opA, reduceCtorEq] at h)
end
end Go.Tc
