/- every operation. -/
import Derived.Test.YtjmjbjnbfodalaaGreatTcRound
import Derived.Test.YtjmjbjnbfodalaaGreatTcMaps
set_option linter.unusedSimpArgs false
set_option linter.unusedVariables false
set_option linter.unusedSectionVars false
namespace Go.Tc
variable [Val]

section
variable {P : Program} {G : Nat} {β : Pl} {H H' : AHeap} {w : World} {E : Env} {S : Evs} {c : Ctx} {T : Tmps} {ev : Operand → Value} {v : AV}

theorem undefA_VR : VR β undefA undef := .tuple .nil

theorem builtinA_run (hnf : ∀ t, (E.nf t).den = t.den) {b : Builtin} {ats : Array TypeId} {args : List AV} {vs : List Value} {ty : TypeId} {cs : Array Bool} (hw : WR G β H.get H.next w)
    (h : builtinA P E b ats args H = some (v, H')) (ha : VRs β args vs) : Comes G P β H w v H' ((builtin b ats ty cs vs.toArray).run P w) := by
  cases hb : readsOnly b with
  | true =>
    obtain ⟨rfl, u, h1, h2⟩ := builtinRead_run (ty := ty) (cs := cs) hnf hb hw h ha
    exact .inl ⟨u, w, h1, β, h2, hw, Tran.refl _ _ _ _⟩
  | false =>
    obtain ⟨ats⟩ := ats
    unfold builtinA at h
    split at h <;> try (simp only [readsOnly, reduceCtorEq] at hb; done)
    · rename_i t xt r s x hl
      simp only at hl; subst hl
      cases ha with | cons hs hr =>
      cases hr with | cons hx hr =>
      cases hr
      split at h
      · rename_i k hu
        rename_i ys yx _
        have key : ∃ (β' : Pl) (w' : World) (z : Value), (Builtin.append_ (t :: xt :: r).toArray ty #[ys, yx]).run P w = .ok z w' ∧ VR β' v z ∧ WR G β' H'.get H'.next w' ∧ Tran β H.get H.next w β' H'.get H'.next w' := by
          split at h
          · split at h
            · rename_i hz
              cases h
              exact symZerosA_run (ts := r) (ty := ty) hnf hw hz hu hs hx
            · exact appendZerosA_run (ts := r) (ty := ty) hw h hu hs hx
          · exact appendZerosA_run (ts := r) (ty := ty) hw h hu hs hx
        obtain ⟨β', w', z, k1, k2, k3, k4⟩ := key
        refine .inl ⟨z, w', ?_, β', k2, k3, k4⟩
        simp only [builtin, Sem.run_bind]
        rw [show [_, _].toArray = #[_, _] from rfl, k1]; rfl
      · rename_i d hd hu
        obtain ⟨β', w', z, k1, k2, k3, k4⟩ := appendA_run (ts := r) (ty := ty) hnf hw h hu (fun k hk => hd k hk) hs hx
        refine .inl ⟨z, w', ?_, β', k2, k3, k4⟩
        simp only [builtin, Sem.run_bind]
        rw [show [_, _].toArray = #[_, _] from rfl, k1]; rfl
      · cases h
    · rename_i t r d x hl
      simp only at hl; subst hl
      cases ha with | cons hs hr =>
      cases hr with | cons hx hr =>
      cases hr
      obtain ⟨w', z, k1, k2, k3, k4⟩ := copyA_run (ts := r) (ty := ty) hw h hs hx
      refine .inl ⟨z, w', ?_, β, k2, k3, k4⟩
      simp only [builtin, Sem.run_bind]
      rw [show [_, _].toArray = #[_, _] from rfl, k1]; rfl
    · rename_i t r m k hl
      simp only at hl; subst hl
      cases ha with | cons hs hr =>
      cases hr with | cons hx hr =>
      cases hr
      simp only [Option.map_eq_some_iff, Prod.mk.injEq] at h
      obtain ⟨H1, h1, rfl, rfl⟩ := h
      obtain ⟨w', k1, k3, k4⟩ := deleteA_run (ts := r) (ty := ty) hw h1 hs hx
      refine .inl ⟨.tuple #[], w', ?_, β, undefA_VR, k3, k4⟩
      simp only [builtin, Sem.run_bind]
      rw [show [_, _].toArray = #[_, _] from rfl, k1]; rfl
    · rename_i t r x hl
      simp only at hl; subst hl
      cases ha with | cons hx hr =>
      cases hr
      obtain ⟨w', z, k1, k2, k3, k4⟩ := clearA_run (ts := r) (ty := ty) hw h hx
      refine .inl ⟨z, w', ?_, β, k2, k3, k4⟩
      simp only [builtin, Sem.run_bind]
      rw [show [_].toArray = #[_] from rfl, k1]; rfl
    · rename_i pt r p n hl
      simp only at hl; subst hl
      cases ha with | cons hs hr =>
      cases hr with | cons hx hr =>
      cases hr
      split at h
      · rename_i e hu
        split at h
        · rename_i hbt
          split at h
          · rename_i r1 hr1
            cases h
            obtain ⟨w', z, k1, k2, k3, k4⟩ := unsafeStringA_run (ts := r) (ty := ty) hw hu hbt hr1 hs hx
            refine .inl ⟨z, w', ?_, β, k2, k3, k4⟩
            simp only [builtin, Sem.run_bind]
            rw [show [_, _].toArray = #[_, _] from rfl, k1]; rfl
          · obtain ⟨w', z, k1, k2, k3, k4⟩ := unsafeStringS_run (ts := r) (ty := ty) hnf hw hu hbt h hs hx
            refine .inl ⟨z, w', ?_, β, k2, k3, k4⟩
            simp only [builtin, Sem.run_bind]
            rw [show [_, _].toArray = #[_, _] from rfl, k1]; rfl
        · cases h
      · cases h
    · cases h

theorem comes_skip {m : Sem Unit} {w' : World} (hr : m.run P w = .ok () w') (h3 : WR G β H'.get H'.next w') (h4 : Tran β H.get H.next w β H'.get H'.next w') :
    Comes G P β H w undefA H' ((do m; pure .skip : Sem Next).run P w) :=
  .inr (.inl ⟨w', by simp [hr, Result.andThen], β, undefA_VR, h3, h4⟩)

theorem opA_run (hE : EnvOk P G E) (hS : Sound P G S) {o : Oper} (h : opA P E S c o T H = some (v, H')) (hw : WR G β H.get H.next w) (hρ : OpsR β c T ev o.op.operands) :
    (∀ d, o.op ≠ .defer d) ∧ Comes G P β H w v H' ((execOp ev o).run P w) := by
  cases hc : cls o.op with
  | pure =>
    obtain ⟨rfl, u, h1, h2⟩ := pure_run (w := w) hE.nf hc h hρ
    exact ⟨fun d hd => (by rw [hd] at hc; simp [cls] at hc), .inl ⟨u, w, h1, β, h2, hw, Tran.refl _ _ _ _⟩⟩
  | alloc =>
    obtain ⟨ob, m, rfl, h1, obj, sz, u, h2, h3⟩ := alloc_run (w := w) hE.nf hc h hρ
    refine ⟨fun d hd => (by rw [hd] at hc; simp [cls] at hc), ?_⟩
    have he := Pl.put_ext (β := β) ⟨w.heap.size, 0, sz⟩ (hw.fresh _ (Nat.le_refl _))
    obtain ⟨k1, k2⟩ := h3 (β.put H.next ⟨w.heap.size, 0, sz⟩) he (Pl.put_same β H.next _)
    obtain ⟨j1, j2⟩ := hw.alloc obj sz ob k2
    refine .inl ⟨u, _, by rw [h1, h2]; rfl, _, k1, ?_, ?_⟩
    · rw [AHeap.get_new, AHeap.next_new]; exact j1
    · rw [AHeap.get_new, AHeap.next_new]; exact j2
  | load =>
    refine ⟨fun d hd => (by rw [hd] at hc; simp [cls] at hc), ?_⟩
    by_cases hn : H'.next = H.next
    · obtain ⟨rfl, u, h1, h2⟩ := load_run (w := w) hE.nf hc hn hw h hρ
      exact .inl ⟨u, w, h1, β, h2, hw, Tran.refl _ _ _ _⟩
    · -- the bytes of a text
      obtain ⟨dst, op, type, pos, after, guard⟩ := o
      simp only at hc hρ
      cases op <;> try (simp only [cls, reduceCtorEq] at hc)
      case convert src dst x =>
        simp only [opA] at h
        split at h
        · rename_i y hy
          have hv := hρ x (by simp [Op.operands]) _ hy
          split at h
          · rename_i sd e s hus hud
            split at h
            · rename_i hue
              split at h
              · rename_i hsz
                simp only [Option.some.injEq, Prod.mk.injEq] at h
                obtain ⟨rfl, rfl⟩ := h
                generalize hev : ev x = vx at hv
                generalize hbs : s.nats s.len = nats at *
                generalize hbl : s.len = slen at *
                cases hv with | str sb =>
                subst hbl
                rw [BS.of_nats] at hbs
                subst hbs
                rw [BS.of_len]
                obtain ⟨β', w', z, k1, k2, k3, k4⟩ := strBytes_run (P := P) (s := sb) hw hus hud hue hsz.2
                refine .inl ⟨z, w', ?_, β', k2, k3, k4⟩
                simp only [execOp, Sem.run_bind, hev, k1, Result.andThen_ok, Sem.run_pure]
              · cases h
            · cases h
          · simp only [Option.map_eq_some_iff, Prod.mk.injEq] at h
            obtain ⟨r, hr, rfl, rfl⟩ := h
            exact absurd rfl hn
        · cases h
      all_goals (exfalso; revert hn; simp only [imp_false, Decidable.not_not])
      case load t x =>
        simp only [opA, Option.map_eq_some_iff, Prod.mk.injEq] at h
        obtain ⟨_, _, _, rfl⟩ := h; rfl
      case lookup t x i ok =>
        simp only [opA] at h
        split at h
        · simp only [Option.map_eq_some_iff, Prod.mk.injEq] at h
          obtain ⟨_, _, _, rfl⟩ := h; rfl
        · cases h
      case binOp op t x y _ =>
        simp only [opA] at h
        split at h
        · simp only [Option.map_eq_some_iff, Prod.mk.injEq] at h
          obtain ⟨_, _, _, rfl⟩ := h; rfl
        · cases h
      case slice t x lo hi mx =>
        simp only [opA] at h
        split at h
        · simp only [Option.map_eq_some_iff, Prod.mk.injEq] at h
          obtain ⟨_, _, _, rfl⟩ := h; rfl
        · cases h
      case call q =>
        obtain ⟨callee, args, ats⟩ := q
        have hq : ∃ b, callee = .builtin b ∧ readsOnly b = true := by
          cases callee with
          | builtin b => refine ⟨b, rfl, ?_⟩; cases b <;> simp_all [readsOnly]
          | value f => simp at hc
          | invoke r m => simp at hc
        obtain ⟨b, rfl, hb⟩ := hq
        simp only [opA] at h
        split at h
        · cases h
        · rename_i vs hvs
          have ha := aevals_of (fun x hx => hρ x (by simp [Op.operands, Call.operands]; simpa using hx)) hvs
          obtain ⟨h0, -⟩ := builtinRead_run (P := P) (ty := type) (cs := #[]) hE.nf hb hw h ha
          rw [h0]
      all_goals (first | (simp only [opA, reduceCtorEq] at h; done) | (split at hc <;> first | (cases hc; done) | (rename_i hq; cases hq; done) | (simp_all; done)))
  | effect =>
    obtain ⟨dst, op, type, pos, after, guard⟩ := o
    simp only at hc hρ
    cases op <;> try (simp only [cls, reduceCtorEq] at hc)
    case store t a x =>
      refine ⟨fun d hd => (by cases hd), ?_⟩
      simp only [opA] at h
      split at h
      · rename_i p y hp hy
        simp only [Option.map_eq_some_iff, Prod.mk.injEq] at h
        obtain ⟨H1, h1, rfl, rfl⟩ := h
        obtain ⟨w', k1, k3, k4⟩ := storeA_run hE.nf hw h1 (hρ a (by simp [Op.operands]) _ hp) (hρ x (by simp [Op.operands]) _ hy)
        exact comes_skip k1 k3 k4
      · cases h
    case mapUpdate t m k x =>
      refine ⟨fun d hd => (by cases hd), ?_⟩
      simp only [opA] at h
      split at h
      · rename_i p y z hp hy hz
        simp only [Option.map_eq_some_iff, Prod.mk.injEq] at h
        obtain ⟨H1, h1, rfl, rfl⟩ := h
        split at h1
        · rename_i H2 h2
          cases h1
          obtain ⟨w', k1, k3, k4⟩ := mapUpdateL_run hE.nf hw h2 (hρ m (by simp [Op.operands]) _ hp) (hρ k (by simp [Op.operands]) _ hy) (hρ x (by simp [Op.operands]) _ hz)
          exact comes_skip k1 k3 k4
        · obtain ⟨w', k1, k3, k4⟩ := mapUpdateA_run hw h1 (hρ m (by simp [Op.operands]) _ hp) (hρ k (by simp [Op.operands]) _ hy) (hρ x (by simp [Op.operands]) _ hz)
          exact comes_skip k1 k3 k4
      · cases h
    case insert t m k x =>
      refine ⟨fun d hd => (by cases hd), ?_⟩
      simp only [opA] at h
      split at h
      · rename_i p y z hp hy hz
        simp only [Option.map_eq_some_iff, Prod.mk.injEq] at h
        obtain ⟨H1, h1, rfl, rfl⟩ := h
        split at h1
        · rename_i H2 h2
          cases h1
          obtain ⟨w', k1, k3, k4⟩ := mapUpdateL_run hE.nf hw h2 (hρ m (by simp [Op.operands]) _ hp) (hρ k (by simp [Op.operands]) _ hy) (hρ x (by simp [Op.operands]) _ hz)
          exact comes_skip k1 k3 k4
        · obtain ⟨w', k1, k3, k4⟩ := mapUpdateA_run hw h1 (hρ m (by simp [Op.operands]) _ hp) (hρ k (by simp [Op.operands]) _ hy) (hρ x (by simp [Op.operands]) _ hz)
          exact comes_skip k1 k3 k4
      · cases h
    case mapEntry t m k =>
      refine ⟨fun d hd => (by cases hd), ?_⟩
      simp only [opA] at h
      split at h
      · rename_i p y hp hy
        split at h
        · rename_i r0 h2
          cases h
          obtain ⟨z, w', k1, k2, k3, k4⟩ := mapEntryL_run hE.nf hw h2 (hρ m (by simp [Op.operands]) _ hp) (hρ k (by simp [Op.operands]) _ hy)
          exact .inl ⟨z, w', by simp only [execOp, Sem.run_bind, k1, Result.andThen_ok, Sem.run_pure], β, k2, k3, k4⟩
        · obtain ⟨z, w', k1, k2, k3, k4⟩ := mapEntryA_run hw h (hρ m (by simp [Op.operands]) _ hp) (hρ k (by simp [Op.operands]) _ hy)
          exact .inl ⟨z, w', by simp only [execOp, Sem.run_bind, k1, Result.andThen_ok, Sem.run_pure], β, k2, k3, k4⟩
      · cases h
    case entryStore t m s x =>
      refine ⟨fun d hd => (by cases hd), ?_⟩
      simp only [opA] at h
      split at h
      · rename_i p y z hp hy hz
        simp only [Option.map_eq_some_iff, Prod.mk.injEq] at h
        obtain ⟨H1, h1, rfl, rfl⟩ := h
        split at h1
        · rename_i H2 h2
          cases h1
          obtain ⟨w', k1, k3, k4⟩ := entryStoreL_run (P := P) (t := t) hE.nf hw h2 (hρ m (by simp [Op.operands]) _ hp) (hρ s (by simp [Op.operands]) _ hy) (hρ x (by simp [Op.operands]) _ hz)
          exact comes_skip k1 k3 k4
        obtain ⟨w', k1, k3, k4⟩ := entryStoreA_run (P := P) (t := t) hw h1 (hρ m (by simp [Op.operands]) _ hp) (hρ s (by simp [Op.operands]) _ hy) (hρ x (by simp [Op.operands]) _ hz)
        exact comes_skip k1 k3 k4
      · cases h
    case range t x =>
      refine ⟨fun d hd => (by cases hd), ?_⟩
      simp only [opA] at h
      split at h
      · rename_i v0 hv0
        obtain ⟨β', w', z, k1, k2, k3, k4⟩ := iterA_run (P := P) hw h (hρ x (by simp [Op.operands]) _ hv0)
        exact .inl ⟨z, w', by simp only [execOp, Sem.run_bind, k1, Result.andThen_ok, Sem.run_pure], β', k2, k3, k4⟩
      · cases h
    case next it isString =>
      refine ⟨fun d hd => (by cases hd), ?_⟩
      simp only [opA] at h
      split at h
      · rename_i v0 hv0
        obtain ⟨w', z, k1, k2, k3, k4⟩ := nextA_run (P := P) (ty := type) hw h (hρ it (by simp [Op.operands]) _ hv0)
        exact .inl ⟨z, w', by simp only [execOp, Sem.run_bind, k1, Result.andThen_ok, Sem.run_pure], β, k2, k3, k4⟩
      · cases h
    case entry it =>
      refine ⟨fun d hd => (by cases hd), ?_⟩
      simp only [opA] at h
      split at h
      · rename_i v0 hv0
        simp only [Option.map_eq_some_iff, Prod.mk.injEq] at h
        obtain ⟨r0, h1, rfl, rfl⟩ := h
        obtain ⟨z, k1, k2⟩ := entryA_run (P := P) hw h1 (hρ it (by simp [Op.operands]) _ hv0)
        exact .inl ⟨z, w, by simp only [execOp, Sem.run_bind, k1, Result.andThen_ok, Sem.run_pure], β, k2, hw, Tran.refl _ _ _ _⟩
      · cases h
    case call q =>
      refine ⟨fun d hd => (by cases hd), ?_⟩
      obtain ⟨callee, args, ats⟩ := q
      simp only [opA] at h
      split at h
      · cases h
      · rename_i vs hvs
        have hmem : ∀ x ∈ args.toList, x ∈ (Op.call ⟨callee, args, ats⟩).operands := fun x hx => by
          simp only [Op.operands, Call.operands, Array.mem_append]
          first | exact .inl (by simpa using hx) | exact .inr (by simpa using hx)
        have ha := aevals_of (fun x hx => hρ x (hmem x hx)) hvs
        have hargs : args.map ev = (args.toList.map ev).toArray := by rw [← Array.toList_map, Array.toArray_toList]
        cases callee with
        | value f =>
          simp only at h
          split at h
          · rename_i fv hfv
            have := callValueA_run hE hS h hw (hρ f (by simp [Op.operands, Call.operands]) _ hfv) ha
            have e : (execOp ev { dst := dst, op := .call ⟨.value f, args, ats⟩, type := type, pos := pos, after := after, guard := guard }) = (do let d ← Deferred.ofValue (ev f) (args.map ev); invoke d.target d.args) := rfl
            rw [e, hargs]
            exact this
          · cases h
        | invoke r name =>
          simp only at h
          split at h
          · rename_i rv hrv
            have := callMethodA_run hE hS h hw (hρ r (by simp [Op.operands, Call.operands]) _ hrv) ha
            have e : (execOp ev { dst := dst, op := .call ⟨.invoke r name, args, ats⟩, type := type, pos := pos, after := after, guard := guard }).run P w = (callMethod (ev r) name ((#[ev r] ++ args.map ev).extract 1 (#[ev r] ++ args.map ev).size)).run P w := by
              have e0 : (#[ev r] ++ args.map ev)[0]? = some (ev r) := by rw [Array.getElem?_append_left (by simp)]; rfl
              simp only [execOp, resolve, Sem.run_bind, Sem.run_pure, Result.andThen_ok, invoke, e0]
            have e2 : (#[ev r] ++ args.map ev).extract 1 (#[ev r] ++ args.map ev).size = (args.toList.map ev).toArray := by
              apply Array.ext'
              simp [List.take_of_length_le]
            rw [e, e2]
            exact this
          · cases h
        | builtin b =>
          simp only at h
          have e : ∃ cs, (execOp ev { dst := dst, op := .call ⟨.builtin b, args, ats⟩, type := type, pos := pos, after := after, guard := guard }).run P w = (builtin b ats type cs (args.map ev)).run P w := ⟨_, by
            simp only [execOp, resolve, Sem.run_bind, Sem.run_pure, Result.andThen_ok, invoke]; rfl⟩
          obtain ⟨cs, e⟩ := e
          rw [e, hargs]
          exact builtinA_run hE.nf hw h ha
    all_goals (simp only [opA, reduceCtorEq] at h)

end
end Go.Tc
