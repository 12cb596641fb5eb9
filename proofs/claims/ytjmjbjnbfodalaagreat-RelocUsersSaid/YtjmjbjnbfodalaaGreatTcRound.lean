/- rounds of loops over functions; every operation. -/
import Derived.Test.YtjmjbjnbfodalaaGreatTcSound
set_option linter.unusedSimpArgs false
set_option linter.unusedVariables false
set_option linter.unusedSectionVars false
namespace Go.Tc
variable [Val]

omit [Val] in
theorem assoc_put (l : List (Nat × AV)) (t : Nat) (v : AV) (x : Nat) : assoc (assocPut l t v) x = if x = t then some v else assoc l x := by
  induction l with
  | nil => 
    by_cases e : x = t
    · subst e; simp [assocPut, assoc]
    · have e' : ¬ t = x := fun h => e h.symm
      simp [assocPut, assoc, e, Bool.cond_eq_ite, e']
  | cons p r ih =>
    obtain ⟨k, u⟩ := p
    simp only [assocPut, Bool.cond_eq_ite, Nat.beq_eq]
    by_cases hk : k = t
    · subst hk
      simp only [if_true, assoc, Bool.cond_eq_ite, Nat.beq_eq]
      by_cases e : k = x
      · subst e; simp
      · rw [if_neg e, if_neg e, if_neg (fun h => e h.symm)]
    · simp only [if_neg hk, assoc, Bool.cond_eq_ite, Nat.beq_eq, ih]
      by_cases e : k = x
      · subst e; simp [hk]
      · rw [if_neg e, if_neg e]

omit [Val] in
theorem Tmps.get_put (c : Ctx) (T : Tmps) (t : Nat) (v : AV) (x : Nat) : (T.put c t v).get c x = if x = t then some v else T.get c x := by
  obtain ⟨vars, loc⟩ := T
  unfold Tmps.put Tmps.get
  by_cases hx : x = t
  · subst hx
    cases hm : c.mask.testBit x
    · simp [assoc]
    · simp [assoc_put]
  · cases hm : c.mask.testBit x <;> cases hn : c.mask.testBit t <;> simp [assoc_put, assoc, hx, Bool.cond_eq_ite, Ne.symm hx]

omit [Val] in
theorem Tmps.get_lay {c : Ctx} {T T' : Tmps} {dst : Option Tmp} {v : AV} (h : T.lay c dst v = some T') (x : Nat) : T'.get c x = if dst = some x then some v else T.get c x := by
  unfold Tmps.lay at h
  cases dst with
  | none => simp only [Option.some.injEq] at h; subst h; simp
  | some d =>
    simp only [Bool.cond_eq_ite] at h
    split at h
    · simp only [Option.some.injEq] at h
      subst h
      rw [Tmps.get_put]
      by_cases e : x = d
      · subst e; simp
      · simp [e, Ne.symm e]
    · cases h
omit [Val] in
theorem Tmps.lay_lt {c : Ctx} {T T' : Tmps} {d : Tmp} {v : AV} (h : T.lay c (some d) v = some T') : d < c.n := by
  unfold Tmps.lay at h
  simp only [Bool.cond_eq_ite, Nat.blt_eq] at h
  split at h
  · assumption
  · cases h

omit [Val] in
theorem Tmps.fresh_get {c : Ctx} {T : Tmps} {x : Nat} {v : AV} (h : T.fresh.get c x = some v) : T.get c x = some v := by
  obtain ⟨vars, loc⟩ := T
  simp only [Tmps.fresh, Tmps.get, assoc] at h ⊢
  cases hm : c.mask.testBit x <;> simp_all

theorem TR.fresh {β : Pl} {c : Ctx} {T : Tmps} {tmps : Array Value} (h : TR β c T tmps) : TR β c T.fresh tmps := ⟨h.1, fun t a ht => h.2 t a (Tmps.fresh_get ht)⟩

theorem TR.lay {β : Pl} {c : Ctx} {T T' : Tmps} {a : Act} {dst : Option Tmp} {v : AV} {u : Value} (h : TR β c T a.tmps) (hl : T.lay c dst v = some T') (hv : VR β v u) : TR β c T' (a.put dst u).tmps := by
  cases dst with
  | none => unfold Tmps.lay at hl; simp only [Option.some.injEq] at hl; subst hl; exact h
  | some d =>
    have hd := Tmps.lay_lt hl
    refine ⟨by simp [Act.put, h.1], fun t x ht => ?_⟩
    rw [Tmps.get_lay hl] at ht
    by_cases e : d = t
    · subst e
      simp only [if_true, Option.some.injEq] at ht
      subst ht
      exact ⟨u, by simp [Act.put, h.1, hd], hv⟩
    · rw [if_neg (by simpa using e)] at ht
      obtain ⟨y, h1, h2⟩ := h.2 t x ht
      exact ⟨y, by simp only [Act.put]; rw [Array.getElem?_setIfInBounds_ne e]; exact h1, h2⟩

theorem TR.put {β : Pl} {c : Ctx} {T : Tmps} {tmps : Array Value} {t : Nat} {v : AV} {u : Value} (h : TR β c T tmps) (ht : t < c.n) (hv : VR β v u) : TR β c (T.put c t v) (tmps.setIfInBounds t u) := by
  have hl : T.lay c (some t) v = some (T.put c t v) := by simp [Tmps.lay, Bool.cond_eq_ite, ht]
  exact TR.lay (a := ⟨tmps, []⟩) h hl hv

theorem setParams_TR {β : Pl} {c : Ctx} : ∀ (ps : List Tmp) (vs : List AV) (us : List Value) (T T' : Tmps) (tmps : Array Value), setParams c ps vs T = some T' → VRs β vs us → TR β c T tmps →
    us.length = ps.length ∧ TR β c T' ((ps.zip us).foldl (fun tmps (t, a) => tmps.setIfInBounds t a) tmps)
  | [], [], us, T, T', tmps, h, hv, ht => by
    cases hv; simp only [setParams, Option.some.injEq] at h; subst h; exact ⟨rfl, ht⟩
  | [], _ :: _, us, T, T', tmps, h, hv, ht => by cases h
  | _ :: _, [], us, T, T', tmps, h, hv, ht => by cases h
  | t :: ps, v :: vs, us, T, T', tmps, h, hv, ht => by
    cases hv with | cons hx hs =>
    simp only [setParams, Bool.cond_eq_ite, Nat.blt_eq] at h
    split at h
    · rename_i hlt
      obtain ⟨h1, h2⟩ := setParams_TR ps vs _ _ T' _ h hs (TR.put ht hlt hx)
      exact ⟨by simp [h1], h2⟩
    · cases h

section
variable {P : Program} {G : Nat} {β : Pl} {H H' : AHeap} {w : World} {E : Env} {S : Evs} {v : AV}

theorem loop_at {g : Nat → Option AObj} {n : Nat} (hw : WR G β g n w) {l : Nat} {p : Place} {st : LoopState} {pd : Option Code} {c : Ctx} {T : Tmps} {lc : LRef} {d : Nat}
    (hb : g l = some (.loop ⟨st, pd, c, T, lc, d⟩)) (hp : β l = some p) : ∃ cl : Loop, w.heap[p.c]? = some (.loop cl) ∧ cl.state = st ∧ cl.pending = pd ∧ TR β c T cl.tmps ∧ cl.params = lc.get.params ∧ cl.assign = lc.get.assign ∧ cl.body = lc.get.body ∧
      ∃ q, β d = some q ∧ q.c = cl.defers := by
  obtain ⟨q, hq, ho⟩ := hw.obj _ _ hb
  rw [hp] at hq; cases hq
  exact ho

theorem loop_turn (hw : WR G β H.get H.next w) {l : Nat} {p : Place} {st : LoopState} {pd : Option Code} {c : Ctx} {T : Tmps} {lc : LRef} {d : Nat}
    (hb : H.get l = some (.loop ⟨st, pd, c, T, lc, d⟩)) (hp : β l = some p) {cl : Loop} (hc : w.heap[p.c]? = some (.loop cl)) (st' : LoopState) (pd' : Option Code) :
    WR G β (H.set l (.loop ⟨st', pd', c, T, lc, d⟩)).get (H.set l (.loop ⟨st', pd', c, T, lc, d⟩)).next (w.putObj p.c (.loop { cl with state := st', pending := pd' })) ∧
    Tran β H.get H.next w β (H.set l (.loop ⟨st', pd', c, T, lc, d⟩)).get (H.set l (.loop ⟨st', pd', c, T, lc, d⟩)).next (w.putObj p.c (.loop { cl with state := st', pending := pd' })) := by
  obtain ⟨cl', h1, h2, h3, h4, h5, h6, h7, h8⟩ := loop_at hw hb hp
  rw [hc] at h1; cases h1
  rw [AHeap.get_set, AHeap.next_set]
  have hlt : p.c < w.heap.size := hw.bound l p hp
  refine hw.turn hb rfl hp (by simp) (fun c hc => World.putObj_heap_other hc) rfl rfl rfl ?_
  exact ⟨_, World.putObj_heap_same hlt, rfl, rfl, h4, h5, h6, h7, h8⟩

theorem lcodeA_get (hE : EnvOk P G E) {lc : LRef} {c : LCode} (h : lcodeA E lc = some c) : lc.get = c := by
  cases lc with
  | here c' => cases h; rfl
  | at_ f p => exact hE.code f p c h

theorem roundA_run (hE : EnvOk P G E) (hS : Sound P G S) {l : Nat} {p : Place} {args : List AV} {vs : List Value} (h : roundA P E S l args H = some (v, H')) (hw : WR G β H.get H.next w) (hp : β l = some p) (ha : VRs β args vs) :
    Comes G P β H w v H' ((Instr.yield p.c vs.toArray).run P w) := by
  unfold roundA at h
  split at h
  · rename_i st0 pd0 mask n gl T0 lc d0 hl
    obtain ⟨cl, c1, c2, c3, c4, c5, c6, c7, c8⟩ := loop_at hw hl hp
    split at h
    · cases h
    rename_i params assign body hlc
    rw [lcodeA_get hE hlc] at c5 c6 c7
    dsimp only at c5 c6 c7
    split at h
    · cases h
    · rename_i T hT
      have c4' : TR β ⟨mask, n, P.globals.size⟩ T0 cl.tmps := c4
      obtain ⟨hlen, hTR⟩ := setParams_TR _ _ _ _ _ _ hT ha c4'
      split at h
      · rename_i T1 H1 hasg
        split at h
        · rename_i pd1 k1 t1 b1 d1 hl1
          split at h
          · rename_i ex T2 H2 hbd
            split at h
            · rename_i st2 pd2 k2 t2 b2 d2 hl2
              simp only [Option.some.injEq, Prod.mk.injEq] at h
              obtain ⟨rfl, rfl⟩ := h
              have hy := run_yield (P := P) (args := vs.toArray) c1 (by rw [c5]; simpa using hlen)
              refine .inr (.inr (.inr ⟨_, _, _, _, _, hy, fun m => roundIn_of_wpIn trivial ?_⟩))
              have hfold : ((cl.params.zip vs.toArray).foldl (fun tmps (t, a) => tmps.setIfInBounds t a) cl.tmps) = ((params.toList.zip vs).foldl (fun tmps (t, a) => tmps.setIfInBounds t a) cl.tmps) := by
                rw [c5, ← Array.foldl_toList, Array.toList_zip]
              rw [c6, c7, hfold]
              have q1 := hS.code hasg hE.glob (a := { tmps := (params.toList.zip vs).foldl (fun tmps (t, a) => tmps.setIfInBounds t a) cl.tmps, defers := [] }) (r := some p.c) hTR trivial hw ⟨p, hp, rfl⟩ m
              refine wpIn_mono q1.wpIn ?_
              rintro e a' w' ⟨rfl, β1, t1', m1', w1', r1'⟩
              change ∃ w₂, _
              have hp1 : β1 l = some p := r1'.ext _ _ hp
              obtain ⟨cl1, e1, e2, e3, e4, e5, e6, e7, e8⟩ := loop_at w1' hl1 hp1
              obtain ⟨x1, x2⟩ := loop_turn w1' hl1 hp1 e1 .busy pd1
              have hbr := run_beginRound (P := P) e1 e2
              refine ⟨_, hbr, ?_⟩
              have hmk : a'.defers = [] := by
                cases hd : a'.defers with
                | nil => rfl
                | cons x xs => rw [hd] at m1'; exact m1'.elim
              have hpe : ({ cl1 with state := .busy, pending := pd1 } : Loop) = { cl1 with state := .busy } := by rw [← e3]
              rw [hpe] at x1 x2
              have q2 := hS.code hbd hE.glob (a := a') (r := some p.c) t1' m1' x1 ⟨p, hp1, rfl⟩ m
              refine wpIn_mono q2.wpIn ?_
              rintro e a'' w'' ⟨rfl, β2, t2', m2', w2', r2'⟩
              have hp2 : β2 l = some p := r2'.ext _ _ hp1
              obtain ⟨cl2, f1, -⟩ := loop_at w2' hl2 hp2
              have key : ∀ jump, jump = jumpOf ex → ∃ v' w3, (Instr.endRound p.c jump).run P w'' = .ok v' w3 ∧ RetPost G β H w (.bool (jumpOf ex).isNone) (H2.set l (.loop ⟨if (jumpOf ex).isNone then .ready else .done, jumpOf ex, k2, t2, b2, d2⟩)) (.returned v') w3 := by
                rintro jump rfl
                obtain ⟨y1, y2⟩ := loop_turn w2' hl2 hp2 f1 (if (jumpOf ex).isNone then .ready else .done) (jumpOf ex)
                exact ⟨_, _, run_endRound (jumpOf ex) f1, β2, .bool _, y1, r1'.trans (x2.trans (r2'.trans y2))⟩
              cases ex with
              | normal => exact key none rfl
              | exit id => exact key (some (.exit id)) rfl
              | goto t => exact key (some (.goto t)) rfl
              | ret => exact key (some .ret) rfl
            · cases h
          · cases h
        · cases h
      · cases h
  · cases h

theorem callValueA_run (hE : EnvOk P G E) (hS : Sound P G S) {fv : AV} {args : List AV} {f : Value} {vs : List Value} (h : callValueA P E S fv args H = some (v, H')) (hw : WR G β H.get H.next w) (hf : VR β fv f) (ha : VRs β args vs) :
    Comes G P β H w v H' ((do let d ← Deferred.ofValue f vs.toArray; invoke d.target d.args : Sem Next).run P w) := by
  unfold callValueA at h
  split at h
  · rename_i g first captured
    cases hf with
    | @fn _ f' _ _ x y hF hx hy =>
    cases hF
    simp only [Deferred.ofValue, Sem.run_bind, Sem.run_pure, Result.andThen_ok, invoke]
    have := callFuncA_run hE hS h hw ((hx.append ha).append hy)
    have e : x ++ vs.toArray ++ y = (x.toList ++ vs ++ y.toList).toArray := by simp
    rw [e]; exact this
  · rename_i l
    cases hf with
    | @fn _ f' _ _ x y hF hx hy =>
    cases hF with | yield hp =>
    cases x with | mk x => cases y with | mk y =>
    cases hx; cases hy
    simp only [Deferred.ofValue, Sem.run_bind, Sem.run_pure, Result.andThen_ok, invoke]
    have := roundA_run hE hS h hw hp ha
    simpa using this
  · rename_i name first
    cases hf with
    | @fn _ f' _ _ x y hF hx hy =>
    cases hF
    split at h
    · rename_i r rest hr
      have hall := hx.append ha
      rw [hr] at hall
      simp only [Deferred.ofValue, Sem.run_bind, Sem.run_pure, Result.andThen_ok, invoke]
      generalize hz : x.toList ++ vs = zs at hall
      have e : x ++ vs.toArray = zs.toArray := by rw [← hz]; simp
      rw [e]
      cases hall with
      | @cons _ z _ zr hz1 hz2 =>
      have := callMethodA_run hE hS h hw hz1 hz2
      simpa using this
    · cases h
  · cases h

end
end Go.Tc
