/- What code does to states of unknown data: pieces, one behind the other, loops; a function's contract. -/
import Derived.Test.YtjmjbjnbfodalaaGreatTcInst
set_option linter.unusedSimpArgs false
set_option linter.unusedVariables false
set_option linter.unusedSectionVars false
namespace Go.Tc
section
variable {P : Program} {G : Nat} {E : Env} {V : Val} {c : Ctx} {around : Option Nat} {k0 : Nat}
structure Tri (P : Program) (G : Nat) (V : Val) (c : Ctx) (around : Option Nat) (k0 : Nat) (cd : Code) (σ : St) (Q : Val → AExit → St → Prop) : Prop where
  go_ : ∀ {β : Pl} {a : Act} {w : World} {r : Option Nat}, @Sat V G c σ β a w → AroundR β around r → ∀ n, CodeIn (Fen r) n P cd (fun e a' w' =>
    ∃ V' ex σ' β', Q V' ex σ' ∧ e = toExit ex ∧ @Sat V' G c σ' β' a' w' ∧ (∀ b, b < k0 → β' b = β b) ∧ Fr β σ.heap.get w β' σ'.heap.get w') a w
theorem Tri.mono {cd : Code} {σ : St} {Q Q' : Val → AExit → St → Prop} (h : Tri P G V c around k0 cd σ Q) (hq : ∀ V' ex σ', Q V' ex σ' → Q' V' ex σ') : Tri P G V c around k0 cd σ Q' := by
  refine ⟨?_⟩
  intro β a w r hs hr n
  have := h.go_ hs hr n
  cases cd with
  | loop b => exact loopIn_mono this fun e a' w' ⟨V', ex, σ', β', q, h1⟩ => ⟨V', ex, σ', β', hq _ _ _ q, h1⟩
  | _ => exact wpIn_mono this fun e a' w' ⟨V', ex, σ', β', q, h1⟩ => ⟨V', ex, σ', β', hq _ _ _ q, h1⟩
def AExit.beq : AExit → AExit → Bool
  | .normal, .normal => true
  | .ret, .ret => true
  | .exit a, .exit b => a.beq b
  | .goto a, .goto b => a.beq b
  | _, _ => false
theorem AExit.beq_eq {a b : AExit} (h : AExit.beq a b = true) : a = b := by
  cases a <;> cases b <;> first | rfl | (cases h; done) | (rw [Nat.eq_of_beq_eq_true h])
theorem Fr.refl (β : Pl) (g : Nat → Option AObj) (w : World) : Fr β g w β g w :=
  ⟨Nat.le_refl _, fun _ _ _ => rfl, fun _ h _ => h, fun _ h _ => h, fun _ _ h => h, fun _ _ h => .inl h, rfl, rfl, rfl⟩
def stays (around : Option Nat) (k0 : Nat) : Prop := ∀ l, around = some l → l < k0
theorem AroundR.stay {β β' : Pl} {r : Option Nat} (h : AroundR β around r) (hk : ∀ b, b < k0 → β' b = β b) (hs : stays around k0) : AroundR β' around r := by
  cases around with
  | none => cases r <;> exact h
  | some l => cases r with
    | none => exact h
    | some r => obtain ⟨p, h1, h2⟩ := h; exact ⟨p, by rw [hk l (hs l rfl)]; exact h1, h2⟩
theorem Tri.seq {x y : Code} {σ : St} {Q1 Q : Val → AExit → St → Prop} (hs : stays around k0) (hx : Tri P G V c around k0 x σ Q1) (hy : ∀ V' σ', Q1 V' .normal σ' → Tri P G V' c around k0 y σ' Q) (hne : ∀ V' ex σ', ex ≠ .normal → Q1 V' ex σ' → Q V' ex σ') :
    Tri P G V c around k0 (.seq x y) σ Q := by
  refine ⟨?_⟩
  intro β a w r hS hr n
  refine wpIn_seq (wpIn_mono (hx.go_ hS hr n).wpIn ?_)
  rintro e a' w' ⟨V', ex, σ', β', q1, rfl, q2, q3, q4⟩
  have done : ex ≠ .normal → ∃ V'' ex' σ'' β'', Q V'' ex' σ'' ∧ toExit ex = toExit ex' ∧ @Sat V'' G c σ'' β'' a' w' ∧ (∀ b, b < k0 → β'' b = β b) ∧ Fr β σ.heap.get w β'' σ''.heap.get w' :=
    fun h => ⟨V', ex, σ', β', hne _ _ _ h q1, rfl, q2, q3, q4⟩
  cases ex with
  | normal =>
    refine wpIn_mono ((hy V' σ' q1).go_ q2 (hr.stay q3 hs) n).wpIn ?_
    rintro e a'' w'' ⟨V'', ex', σ'', β'', p1, p2, p3, p4, p5⟩
    exact ⟨V'', ex', σ'', β'', p1, p2, p3, fun b hb => (p4 b hb).trans (q3 b hb), q4.trans p5⟩
  | exit id => exact done (by simp)
  | goto id => exact done (by simp)
  | ret => exact done (by simp)
def outOf (id : Nat) : AExit → AExit
  | .exit j => if j = id then .normal else .exit j
  | e => e
theorem Tri.block {id : Nat} {b : Code} {σ : St} {Q : Val → AExit → St → Prop} (h : Tri P G V c around k0 b σ fun V' ex σ' => Q V' (outOf id ex) σ') : Tri P G V c around k0 (.block id b) σ Q := by
  refine ⟨?_⟩
  intro β a w r hS hr n
  refine wpIn_block (wpIn_mono (h.go_ hS hr n).wpIn ?_)
  rintro e a' w' ⟨V', ex, σ', β', q1, rfl, q2, q3, q4⟩
  cases ex with
  | exit j =>
    simp only [toExit, Exit.inBlock]
    by_cases hj : j = id
    · rw [if_pos hj]
      simp only [outOf, if_pos hj] at q1
      exact ⟨V', .normal, σ', β', q1, rfl, q2, q3, q4⟩
    · rw [if_neg hj]
      simp only [outOf, if_neg hj] at q1
      exact ⟨V', .exit j, σ', β', q1, rfl, q2, q3, q4⟩
  | normal => exact ⟨V', .normal, σ', β', q1, rfl, q2, q3, q4⟩
  | goto id => exact ⟨V', .goto id, σ', β', q1, rfl, q2, q3, q4⟩
  | ret => exact ⟨V', .ret, σ', β', q1, rfl, q2, q3, q4⟩
theorem Tri.cond (hg : c.glob = G) {q : Operand} {x y : Code} {σ : St} {Q : Val → AExit → St → Prop} {t : Tm} {b : Bool} (hq : aeval c σ.tmps q = some (.sy .bool t) ∨ aeval c σ.tmps q = some (.bool b)) (ht : @Tm.den V t = .bool b) (h : Tri P G V c around k0 (if b then x else y) σ Q) : Tri P G V c around k0 (.cond q x y) σ Q := by
  refine ⟨?_⟩
  intro β a w r hS hr n
  have hv : a.eval q = .bool b := by
    rcases hq with hq | hq
    · have := @aeval_VR V G β σ.heap w σ.next c σ.tmps a q _ hS.tr hg hS.wr hq
      cases this with | sy hc =>
      rw [ht] at hc
      generalize a.eval q = v at hc
      cases hc; rfl
    · have := @aeval_VR V G β σ.heap w σ.next c σ.tmps a q _ hS.tr hg hS.wr hq
      generalize a.eval q = v at this
      cases this; rfl
  have := (h.go_ hS hr n).wpIn
  cases b
  · exact wpIn_cond hv this
  · exact wpIn_cond hv this
theorem Tri.loops {α : Type} (I : α → Prop) (μ : α → Nat) (Vof : α → Val) (σof : α → St) {b : Code} {Q : Val → AExit → St → Prop} (hs : stays around k0)
    (hb : ∀ x, I x → Tri P G (Vof x) c around k0 b (σof x) fun V' ex σ' => (ex = .normal ∧ ∃ x', σ' = σof x' ∧ V' = Vof x' ∧ I x' ∧ μ x' < μ x) ∨ (ex ≠ .normal ∧ Q V' ex σ')) :
    ∀ x, I x → Tri P G (Vof x) c around k0 (.loop b) (σof x) Q := by
  have main : ∀ (k : Nat) x, μ x ≤ k → I x → Tri P G (Vof x) c around k0 (.loop b) (σof x) Q := by
    intro k
    induction k with
    | zero =>
      intro x hm hI
      refine ⟨?_⟩
      intro β a w r hS hr n
      refine loopIn_step (wpIn_mono ((hb x hI).go_ hS hr n).wpIn ?_)
      rintro e a' w' ⟨V', ex, σ', β', q1, rfl, q2, q3, q4⟩
      rcases q1 with ⟨-, x', -, -, -, hlt⟩ | ⟨hne, q1⟩
      · omega
      · cases ex with
        | normal => exact absurd rfl hne
        | exit id => exact ⟨V', _, σ', β', q1, rfl, q2, q3, q4⟩
        | goto id => exact ⟨V', _, σ', β', q1, rfl, q2, q3, q4⟩
        | ret => exact ⟨V', _, σ', β', q1, rfl, q2, q3, q4⟩
    | succ k ih =>
      intro x hm hI
      refine ⟨?_⟩
      intro β a w r hS hr n
      refine loopIn_step (wpIn_mono ((hb x hI).go_ hS hr n).wpIn ?_)
      rintro e a' w' ⟨V', ex, σ', β', q1, rfl, q2, q3, q4⟩
      rcases q1 with ⟨rfl, x', rfl, rfl, hI', hlt⟩ | ⟨hne, q1⟩
      · refine loopIn_mono ((ih x' (by omega) hI').go_ q2 (hr.stay q3 hs) n) ?_
        rintro e a'' w'' ⟨V'', ex', σ'', β'', p1, p2, p3, p4, p5⟩
        exact ⟨V'', ex', σ'', β'', p1, p2, p3, fun b hb => (p4 b hb).trans (q3 b hb), q4.trans p5⟩
      · cases ex with
        | normal => exact absurd rfl hne
        | exit id => exact ⟨V', _, σ', β', q1, rfl, q2, q3, q4⟩
        | goto id => exact ⟨V', _, σ', β', q1, rfl, q2, q3, q4⟩
        | ret => exact ⟨V', _, σ', β', q1, rfl, q2, q3, q4⟩
  exact fun x hI => main (μ x) x (Nat.le_refl _) hI
theorem Tri.loop {α : Type} (I : α → Prop) (μ : α → Nat) (Vof : α → Val) {b : Code} {σ : St} {Q : Val → AExit → St → Prop} (hs : stays around k0)
    (hb : ∀ x, I x → Tri P G (Vof x) c around k0 b σ fun V' ex σ' => (ex = .normal ∧ σ' = σ ∧ ∃ x', V' = Vof x' ∧ I x' ∧ μ x' < μ x) ∨ (ex ≠ .normal ∧ Q V' ex σ')) :
    ∀ x, I x → Tri P G (Vof x) c around k0 (.loop b) σ Q :=
  Tri.loops I μ Vof (fun _ => σ) hs fun x hI => Tri.mono (hb x hI) fun V' ex σ' h => h.imp (fun ⟨h1, h2, x', h3, h4, h5⟩ => ⟨h1, x', h2, h3, h4, h5⟩) id
def cxOf (P : Program) (fn : Func) (cd : Code) (args : Nat) : Ctx := ⟨funcMask fn cd args, max args fn.ntmps, P.globals.size⟩
def startSt (x : Fact) : St := ⟨argTmps x.args 0, [], [], x.pre, x.next⟩
def leaveO : List Nat → AHeap → Option AHeap
  | [], H => some H
  | m :: r, H => match H.get m with
    | some (.dfr true) => leaveO r (H.set m (.dfr false))
    | _ => none
section
variable [Val]
theorem leaves_own {n : Nat} {fn : Func} {tmps : Array Value} {R : Ending → World → Prop} {G : Nat} : ∀ (m : List Nat) {β : Pl} {H H2 : AHeap} {w : World} (ds : List Deferred), leaveO m H = some H2 → OwnR β m ds → WR G β H.get H.next w →
    (∀ w2, WR G β H2.get H2.next w2 → Tran β H.get H.next w β H2.get H2.next w2 → ∃ v, (results fn tmps).run P w2 = .ok v w2 ∧ R (.returned v) w2) → LeavesInM Fence.wide n P fn tmps R ds .returning w
  | [], β, H, H2, w, ds, h, hm, hw, hk => by
    cases ds with
    | cons d ds => exact hm.elim
    | nil => cases h; exact hk w hw (Tran.refl _ _ _ _)
  | x :: m, β, H, H2, w, ds, h, hm, hw, hk => by
    cases ds with
    | nil => exact hm.elim
    | cons d ds =>
      obtain ⟨⟨p, hp, rfl⟩, hm⟩ := hm
      simp only [leaveO] at h
      split at h
      · rename_i hb
        obtain ⟨q, hq, ho⟩ := hw.obj _ _ hb
        rw [hp] at hq; cases hq
        have hlt := hw.bound _ _ hp
        obtain ⟨j1, j2⟩ := hw.turn hb rfl hp (w' := w.putObj p.c (.deferred none)) (o' := .dfr false) (by simp) (fun c hc => World.putObj_heap_other hc) rfl rfl rfl (World.putObj_heap_same hlt)
        rw [← AHeap.get_set, ← AHeap.next_set (b := x) (o := .dfr false)] at j1
        refine ⟨by simp, .inl ⟨p.c, _, rfl, run_takeDeferred ho, ?_⟩⟩
        refine leaves_own m ds h hm j1 fun w2 k1 k2 => hk w2 k1 ?_
        rw [AHeap.get_set, AHeap.next_set] at k2
        exact j2.trans k2
      · cases h
end
def endsSo (P : Program) (E : Env) (cx : Ctx) (fn : Func) (x : Fact) (σ : St) : Bool :=
  match leaveO σ.marks σ.heap with
  | some H2 => match resultsA P E cx H2 σ.tmps fn.results.toList with
    | some rs => AV.beq (retOf rs) x.r && liesSo H2 x.objs && σ.next.beq x.next' && x.next.ble x.next' && H2.next.beq x.next' && x.objs.all fun p => x.next.ble p.1 || (x.ahead.get p.1).isSome
    | none => false
  | none => false
theorem Fact.ok_tri {x : Fact} {fn : Func} {cd : Code} (hE : @EnvOk V P G E) (hf : P.funcs[x.f]? = some fn) (hb : fn.body = some cd) {Q : Val → AExit → St → Prop}
    (tri : Tri P G V (cxOf P fn cd x.args.length) none x.next cd (startSt x) Q)
    (hQ : ∀ V' ex σ', Q V' ex σ' → V' = V ∧ (ex = .normal ∨ ex = .ret) ∧ endsSo P E (cxOf P fn cd x.args.length) fn x σ' = true) : @Fact.Ok V P G x := by
  refine ⟨?_⟩
  intro β w vs hw ha
  refine ⟨fun w0 => ?_, fun n => ?_⟩
  · have hn := hE.names x.f fn hf (by simp [hb])
    simp [callFunc, hf, hb, hn]
  · have hT : @TR V β (cxOf P fn cd x.args.length) ⟨argTmps x.args 0, []⟩ (vs.toArray ++ Array.replicate (fn.ntmps - vs.toArray.size) undef) := @argTmps_TR V _ _ _ _ _ _ ha
    refine callsIn_of_wp_marks hf hb trivial ?_
    have hS : @Sat V G (cxOf P fn cd x.args.length) (startSt x) β ⟨vs.toArray ++ Array.replicate (fn.ntmps - vs.toArray.size) undef, []⟩ w := @Sat.mk V _ _ _ _ _ _ hT trivial hw
    refine wpIn_mono (tri.go_ hS (r := none) trivial n).wpIn ?_
    rintro e a' w' ⟨V', ex, σ', β', q1, rfl, q2, q3, q4⟩
    obtain ⟨rfl, hex, hend⟩ := hQ _ _ _ q1
    have fin : LeavesInM Fence.wide n P fn a'.tmps (@RetPost V' G β x.ahead w x.r x.behind) a'.defers .returning w' := by
      unfold endsSo at hend
      split at hend
      · rename_i H2 hl
        split at hend
        · rename_i rs hrs
          simp only [Bool.and_eq_true] at hend
          obtain ⟨⟨⟨⟨⟨e1, e2⟩, e3⟩, e4⟩, e6⟩, e5⟩ := hend
          have e1 := AV.beq_eq _ _ e1
          have e3 := Nat.eq_of_beq_eq_true e3
          have e4 := Nat.le_of_ble_eq_true e4
          have e6 := Nat.eq_of_beq_eq_true e6
          refine @leaves_own P V' _ _ _ _ G _ _ _ _ _ _ hl q2.mks q2.wr fun w2 k1 k2 => ?_
          obtain ⟨u, u1, u2⟩ := @results_run V' P G _ _ _ _ _ hE.nf _ _ _ _ k1 q2.tr hrs
          rw [e1] at u2
          have hbe : ∀ b o, x.behind.get b = some o → H2.get b = some o := by
            intro b o hbo
            rcases graft_get _ _ b o hbo with h | h
            · exact liesSo_get e2 b o h
            · exact nomatch (show (none : Option AObj) = some o from h)
          have hfr : Fr β x.ahead.get w β' H2.get w2 := q4.trans (Fr.of k2)
          have hk1 : @WR V' G β' x.behind.get x.next' w2 := by
            rw [← e6]; exact @WR.less V' G β' _ _ _ _ k1 hbe
          refine ⟨u, u1, β', u2, hk1, ?_⟩
          refine ⟨⟨fun b p hp => ?_, hfr.zone⟩, e4, hfr.size, fun c hc hno => hfr.kept c hc fun ⟨b, o, p, h1, h2, h3, h4⟩ => hno b o p h1 h2 h3 h4, fun b hlt h0 => (q3 b hlt).trans h0, fun b hlt h0 => ?_, fun b o p hbo hp hlt => ?_, hfr.os, hfr.out, hfr.tape, hfr.zn⟩
          · have hlt : b < x.next := by
              by_cases h : b < x.next
              · exact h
              · have := hw.fresh b (Nat.le_of_not_lt h); rw [hp] at this; cases this
            rw [q3 b hlt]; exact hp
          · cases hg : x.behind.get b with
            | none => rfl
            | some o =>
              rcases graft_get _ _ b o hg with h | h
              · have h5 := List.all_eq_true.1 e5 (b, o) h
                simp only [Bool.or_eq_true] at h5
                rcases h5 with h5 | h5
                · have := Nat.le_of_ble_eq_true h5
                  have h6 : b < x.next := hlt
                  omega
                · rw [h0] at h5; cases h5
              · exact nomatch (show (none : Option AObj) = some o from h)
          · cases hwr : o.wr with
            | true =>
              obtain ⟨b0, o0, p0, h1, h2, h3, h4⟩ := hfr.newW p.c ⟨b, o, p, hbe _ _ hbo, hwr, hp, rfl⟩ hlt
              exact ⟨b0, o0, p0, h1, fun _ => h2, h3, h4⟩
            | false =>
              obtain ⟨b0, o0, p0, h1, h2, h3⟩ := hfr.newA p.c ⟨b, o, p, hbe _ _ hbo, hp, rfl⟩ hlt
              exact ⟨b0, o0, p0, h1, (fun h => nomatch h), h2, h3⟩
        · cases hend
      · cases hend
    rcases hex with rfl | rfl
    · exact fin
    · exact fin
end
end Go.Tc
namespace Go.Tc
section
variable {P : Program} {G : Nat} {V : Val}
theorem Tran.of_fr {β β' : Pl} {g g' : Nat → Option AObj} {n n' : Nat} {w w' : World} (hf : ∀ b, n ≤ b → β b = none) (k : ∀ b, b < n → β' b = β b) (f : Fr β g w β' g' w') (hn : n ≤ n') (hd : ∀ b, b < n → g b = none → g' b = none) : Tran β g n w β' g' n' w' := by
  refine ⟨⟨fun b p hp => ?_, f.zone⟩, hn, f.size, fun c hc hno => f.kept c hc fun ⟨b, o, p, h1, h2, h3, h4⟩ => hno b o p h1 h2 h3 h4, fun b hlt h0 => (k b hlt).trans h0, hd, fun b o p hbo hp hlt => ?_, f.os, f.out, f.tape, f.zn⟩
  · have hlt : b < n := by
      by_cases h : b < n
      · exact h
      · have := hf b (Nat.le_of_not_lt h); rw [hp] at this; cases this
    rw [k b hlt]; exact hp
  · cases hwr : o.wr with
    | true =>
      obtain ⟨b0, o0, p0, h1, h2, h3, h4⟩ := f.newW p.c ⟨b, o, p, hbo, hwr, hp, rfl⟩ hlt
      exact ⟨b0, o0, p0, h1, fun _ => h2, h3, h4⟩
    | false =>
      obtain ⟨b0, o0, p0, h1, h2, h3⟩ := f.newA p.c ⟨b, o, p, hbo, hp, rfl⟩ hlt
      exact ⟨b0, o0, p0, h1, (fun h => nomatch h), h2, h3⟩
theorem graft_other {b : Nat} : ∀ (l : List (Nat × AObj)) (t : Tr AObj), (∀ o', (b, o') ∉ l) → (graft l t).get b = t.get b
  | [], _, _ => rfl
  | (x, y) :: r, t, hno => by
    show (graft r (t.put x y)).get b = t.get b
    rw [graft_other r _ fun o' h => hno o' (List.mem_cons_of_mem _ h), Tr.get_put, if_neg]
    rintro rfl
    exact hno y (by simp)
theorem graft_mem {b : Nat} {o : AObj} : ∀ (l : List (Nat × AObj)) (t : Tr AObj), nodupB (l.map fun p => p.1) = true → (b, o) ∈ l → (graft l t).get b = some o
  | (c, q) :: r, t, h, hm => by
    simp only [List.map_cons, nodupB, Bool.and_eq_true, Bool.not_eq_true'] at h
    rcases List.mem_cons.1 hm with e | e
    · cases e
      show (graft r (t.put b o)).get b = some o
      rw [graft_other r _ fun o' hx => ?_, Tr.get_put, if_pos rfl]
      have : inList (r.map fun p => p.1) b = true := inList_iff.2 (List.mem_map.2 ⟨(b, o'), hx, rfl⟩)
      rw [this] at h; cases h.1
    · exact graft_mem r _ h.2 e
def useOf (l : List (Nat × Nat)) (k0 next top xn b : Nat) : Nat :=
  match b.blt xn with
  | true => renOf l k0 next top b
  | false => next + (b - xn)
def objsSo (nf : Tm → Tm) (s : Nat → Tm) (ρ : Nat → Nat) : List (Nat × AObj) → List (Nat × AObj) → Bool
  | [], [] => true
  | (b, o) :: r, (b', o') :: r' => b'.beq (ρ b) && o.able && matchO nf (o.inst s ρ) o' && objsSo nf s ρ r r'
  | _, _ => false
def usesSo (nf : Tm → Tm) (G : Nat) (s : Nat → Tm) (l : List (Nat × Nat)) (x y : Fact) : Bool :=
  x.f.beq y.f && G.ble x.next && x.next.ble x.next' && (y.next + (x.next' - x.next)).ble y.next' && G.ble y.next && keysOk G x.next l &&
  (l.all fun p => p.2.blt y.next) && matchVs nf y.args (AV.insts s (renOf l G y.next (x.next + x.next')) x.args) &&
  objsOk nf s (renOf l G y.next (x.next + x.next')) y.ahead x.next x.pre && nodupB (x.pre.map fun p => renOf l G y.next (x.next + x.next') p.1) &&
  matchV nf (x.r.inst s (useOf l G y.next (x.next + x.next') x.next)) y.r &&
  objsSo nf s (useOf l G y.next (x.next + x.next') x.next) x.objs y.objs && nodupB (x.objs.map fun p => p.1) &&
  (y.objs.all fun p => y.next.ble p.1 || (y.ahead.get p.1).isSome) && (x.objs.all fun p => p.1.blt x.next') && (y.objs.all fun p => p.1.blt y.next')
theorem objsSo_mem {nf : Tm → Tm} {s : Nat → Tm} {ρ : Nat → Nat} : ∀ {l m : List (Nat × AObj)}, objsSo nf s ρ l m = true → ∀ b' o', (b', o') ∈ m → ∃ b o, (b, o) ∈ l ∧ b' = ρ b ∧ o.able = true ∧ matchO nf (o.inst s ρ) o' = true
  | (b, o) :: r, (b1, o1) :: r', h, b', o', hm => by
    simp only [objsSo, Bool.and_eq_true] at h
    obtain ⟨⟨⟨h1, h2⟩, h3⟩, h4⟩ := h
    rcases List.mem_cons.1 hm with e | e
    · cases e; exact ⟨b, o, by simp, Nat.eq_of_beq_eq_true h1, h2, h3⟩
    · obtain ⟨c, q, q1, q2⟩ := objsSo_mem h4 b' o' e
      exact ⟨c, q, List.mem_cons_of_mem _ q1, q2⟩
  | [], [], _, b', o', hm => by cases hm
  | [], _ :: _, h, _, _, _ | _ :: _, [], h, _, _, _ => by cases h
theorem Fact.ok_use {nf : Tm → Tm} (hn : ∀ t, @Tm.den V (nf t) = @Tm.den V t) {s : Nat → Tm} {l : List (Nat × Nat)} {x y : Fact} (hx : @Fact.Ok (V.by s) P G x) (h : usesSo nf G s l x y = true) : @Fact.Ok V P G y := by
  simp only [usesSo, Bool.and_eq_true] at h
  obtain ⟨⟨⟨⟨⟨⟨⟨⟨⟨⟨⟨⟨⟨⟨⟨c1, c2⟩, c3⟩, c4⟩, c5⟩, c6⟩, c7⟩, c8⟩, c9⟩, c10⟩, c11⟩, c12⟩, c13⟩, c14⟩, c15⟩, c16⟩ := h
  have c1 := Nat.eq_of_beq_eq_true c1
  have c2 := Nat.le_of_ble_eq_true c2
  have c3 := Nat.le_of_ble_eq_true c3
  have c4 := Nat.le_of_ble_eq_true c4
  have c5 := Nat.le_of_ble_eq_true c5
  refine ⟨?_⟩
  intro β w vs hw ha
  generalize hρ : renOf l G y.next (x.next + x.next') = ρ at c8 c9 c10
  have low : ∀ b, b < G → ρ b = b := by
    intro b hb
    rw [← hρ]; unfold renOf
    rw [show b.blt G = true from by simpa [Nat.blt_eq] using hb]
  have hi : ∀ b, G ≤ b → (∃ b', asN l b = some b' ∧ ρ b = b' ∧ b' < y.next ∧ b < x.next) ∨ ρ b = y.next + (x.next + x.next') + b := by
    intro b hb
    have : b.blt G = false := by rw [← Bool.not_eq_true, Nat.blt_eq]; omega
    cases hk : asN l b with
    | some b' =>
      have hm := asN_key hk
      have h7 := List.all_eq_true.1 c7 (b, b') hm
      refine .inl ⟨b', rfl, ?_, by simpa [Nat.blt_eq] using h7, (keysOk_get c6 _ _ hm).2⟩
      rw [← hρ]; unfold renOf; rw [this]; simp only [hk]
    | none => right; rw [← hρ]; unfold renOf; rw [this]; simp only [hk]
  have high : ∀ b, x.next ≤ b → y.next ≤ ρ b := by
    intro b hb
    rcases hi b (by omega) with ⟨b', -, -, -, hlt⟩ | e
    · omega
    · omega
  have hfresh : ∀ b, y.next ≤ b → β b = none := hw.fresh
  -- ahead of the call
  have hobj : ∀ b o, x.ahead.get b = some o → o.able = true ∧ b < x.next ∧ ((∃ p, β (ρ b) = some p ∧ @ObjR V β w p (o.inst s ρ)) ∨ (β (ρ b) = none ∧ @AObj.absent V (o.inst s ρ))) ∧ (∀ p, β (ρ b) = some p → ∃ o1, y.ahead.get (ρ b) = some o1 ∧ o1.wr = o.wr) := by
    intro b o hb
    have hm : (b, o) ∈ x.pre := by
      rcases graft_get _ _ b o hb with h | h
      · exact h
      · exact nomatch (show (none : Option AObj) = some o from h)
    obtain ⟨q1, q2, q3⟩ := objsOk_get c9 b o hm
    refine ⟨q1, q2, ?_, ?_⟩
    · rcases q3 with ⟨o1, r1, r2⟩ | ⟨-, r2, r3⟩
      · rcases hw.some_ _ _ r1 with ⟨p, hp, ho⟩ | ⟨hp, -, ho⟩
        · exact .inl ⟨p, hp, @matchO_R V _ _ hn _ _ _ _ r2 ho⟩
        · exact .inr ⟨hp, @matchO_absent V _ hn _ _ r2 ho⟩
      · exact .inr ⟨hfresh _ r2, @noWhere_absent V _ hn _ r3⟩
    · intro p hp
      rcases q3 with ⟨o1, r1, r2⟩ | ⟨-, r2, -⟩
      · exact ⟨o1, r1, by rw [← matchO_wr r2, AObj.inst_wr]⟩
      · rw [hfresh _ r2] at hp; cases hp
  have hmem : ∀ b o, x.ahead.get b = some o → (b, o) ∈ x.pre := by
    intro b o hb
    rcases graft_get _ _ b o hb with h | h
    · exact h
    · exact nomatch (show (none : Option AObj) = some o from h)
  have hwp : @WR (V.by s) G (β.pull ρ) x.ahead.get x.ahead.next w := by
    refine @WR.mk (V.by s) G (β.pull ρ) x.ahead.get x.ahead.next w (fun b hb => hfresh (ρ b) (high b hb)) (fun b p hb => hw.bound (ρ b) p hb) (fun b o hb => ?_) (fun b b' o o' p p' hb hb' hp hp' hc => ?_) (fun i hi => ?_) c2 (fun z ob hz => ⟨(hw.keep z ob hz).1, fun b o p hb hwr hp => ?_⟩)
    · obtain ⟨q1, q2, q3, -⟩ := hobj b o hb
      rcases q3 with ⟨p, hp, ho⟩ | ⟨hp, ho⟩
      · exact .inl ⟨p, hp, ObjR.unren q1 ho⟩
      · exact .inr ⟨hp, q2, AObj.absent_inst.1 ho⟩
    · obtain ⟨o1, r1, -⟩ := (hobj b o hb).2.2.2 p hp
      obtain ⟨o2, r2, -⟩ := (hobj b' o' hb').2.2.2 p' hp'
      exact nodupB_inj c10 (hmem _ _ hb) (hmem _ _ hb') (hw.inj _ _ o1 o2 p p' r1 r2 hp hp' hc)
    · obtain ⟨sz, hs⟩ := hw.glob i hi
      exact ⟨sz, by show β (ρ i) = _; rw [low i (by omega)]; exact hs⟩
    · obtain ⟨o1, r1, r2⟩ := (hobj b o hb).2.2.2 p hp
      exact (hw.keep z ob hz).2 _ o1 p r1 (r2.trans hwr) hp
  have hfr1 : Fr β y.ahead.get w (β.pull ρ) x.ahead.get w := by
    refine ⟨Nat.le_refl _, fun _ _ _ => rfl, fun c ⟨b, o, p, hb, ho, hp, e⟩ _ => ?_, fun c ⟨b, o, p, hb, hp, e⟩ _ => ?_, fun _ _ h => h, fun _ _ h => .inl h, rfl, rfl, rfl⟩
    · obtain ⟨o1, r1, r2⟩ := (hobj b o hb).2.2.2 p hp
      exact ⟨ρ b, o1, p, r1, r2.trans ho, hp, e⟩
    · obtain ⟨o1, r1, r2⟩ := (hobj b o hb).2.2.2 p hp
      exact ⟨ρ b, o1, p, r1, hp, e⟩
  have hap : @VRs (V.by s) (β.pull ρ) x.args vs := VRs.unren _ _ (@matchVs_VRs V _ _ hn _ _ _ c8 ha)
  obtain ⟨h1, h2⟩ := @Fact.Ok.run (V.by s) P G x hx _ _ _ hwp hap
  rw [c1] at h1 h2
  refine ⟨h1, fun k => CallsIn.mono (h2 k) fun e w' he => ?_⟩
  cases e with
  | panicked ch => exact he.elim
  | outgrown => exact he.elim
  | returned u =>
    obtain ⟨βp, k1, k2, k3⟩ := he
    have kfresh := @WR.fresh (V.by s) _ _ _ _ _ k2
    have kbound := @WR.bound (V.by s) _ _ _ _ _ k2
    have ksome := @WR.some_ (V.by s) _ _ _ _ _ k2
    have kinj := @WR.inj (V.by s) _ _ _ _ _ k2
    have kkeep := @WR.keep (V.by s) _ _ _ _ _ k2
    have hsame : ∀ b, b < x.next → βp b = β (ρ b) := by
      intro b hb
      cases hp : β (ρ b) with
      | some p => exact k3.ext b p hp
      | none => exact k3.old b hb hp
    generalize hρ2 : useOf l G y.next (x.next + x.next') x.next = ρ2 at c11 c12
    have r2lo : ∀ b, b < x.next → ρ2 b = ρ b := by
      intro b hb
      rw [← hρ2]; unfold useOf
      rw [show b.blt x.next = true from by simpa [Nat.blt_eq] using hb, ← hρ]
    have r2hi : ∀ b, x.next ≤ b → ρ2 b = y.next + (b - x.next) := by
      intro b hb
      rw [← hρ2]; unfold useOf
      rw [show b.blt x.next = false from by rw [← Bool.not_eq_true, Nat.blt_eq]; omega]
    let β' : Pl := ⟨fun b => if b < y.next then β b else βp (x.next + (b - y.next)), βp.zone⟩
    have b'lo : ∀ b, b < y.next → β' b = β b := fun b hb => if_pos hb
    have b'hi : ∀ b, y.next ≤ b → β' b = βp (x.next + (b - y.next)) := fun b hb => if_neg (by omega)
    -- a name and its other name lie at one place
    have hat : ∀ b, b < x.next' → βp b = β' (ρ2 b) := by
      intro b hb
      by_cases hlt : b < x.next
      · rw [r2lo b hlt, hsame b hlt]
        by_cases hG : b < G
        · rw [low b hG, b'lo b (by omega)]
        · rcases hi b (by omega) with ⟨b', -, e, hb', -⟩ | e
          · rw [e, b'lo b' hb']
          · rw [e, hfresh _ (by omega), b'hi _ (by omega)]
            exact (kfresh _ (show x.next' ≤ _ by omega)).symm
      · rw [r2hi b (by omega), b'hi _ (by omega)]
        congr 1; omega
    have hren : Ren ρ2 βp β' := by
      refine ⟨fun b p hp => ?_, fun _ _ h => h⟩
      have hb : b < x.next' := by
        by_cases h : b < x.next'
        · exact h
        · have := kfresh b (show x.next' ≤ b by omega); rw [hp] at this; cases this
      rw [← hat b hb]; exact hp
    have hyobj : ∀ b' o', y.behind.get b' = some o' → ∃ b o, x.behind.get b = some o ∧ b' = ρ2 b ∧ b < x.next' ∧ o.able = true ∧ matchO nf (o.inst s ρ2) o' = true := by
      intro b' o' hb'
      have hm : (b', o') ∈ y.objs := by
        rcases graft_get _ _ b' o' hb' with h | h
        · exact h
        · exact nomatch (show (none : Option AObj) = some o' from h)
      obtain ⟨b, o, q1, q2, q3, q4⟩ := objsSo_mem c12 b' o' hm
      have := List.all_eq_true.1 c15 (b, o) q1
      exact ⟨b, o, graft_mem _ _ c13 q1, q2, by simpa [Nat.blt_eq] using this, q3, q4⟩
    have hwr' : ∀ {o o' : AObj}, matchO nf (o.inst s ρ2) o' = true → o'.wr = o.wr := fun h => by rw [matchO_wr h, AObj.inst_wr]
    have hfr3 : Fr βp x.behind.get w' β' y.behind.get w' := by
      refine ⟨Nat.le_refl _, fun _ _ _ => rfl, fun c ⟨b', o', p, hb, ho, hp, e⟩ _ => ?_, fun c ⟨b', o', p, hb, hp, e⟩ _ => ?_, fun _ _ h => h, fun _ _ h => .inl h, rfl, rfl, rfl⟩
      · obtain ⟨b, o, q1, rfl, q3, q4, q5⟩ := hyobj b' o' hb
        exact ⟨b, o, p, q1, by rw [← hwr' q5]; exact ho, by rw [hat b q3]; exact hp, e⟩
      · obtain ⟨b, o, q1, rfl, q3, q4, q5⟩ := hyobj b' o' hb
        exact ⟨b, o, p, q1, by rw [hat b q3]; exact hp, e⟩
    have hwy : @WR V G β' y.behind.get y.behind.next w' := by
      refine @WR.mk V G β' y.behind.get y.behind.next w' (fun b hb => ?_) (fun b p hb => ?_) (fun b' o' hb => ?_) (fun b b' o o' p p' hb hb' hp hp' hc => ?_) (fun i hi => ?_) (by show G ≤ y.next'; omega) (fun z ob hz => ⟨(kkeep z ob hz).1, fun b' o' p hb hwr hp => ?_⟩)
      · have hb : y.next' ≤ b := hb
        rw [b'hi b (by omega)]
        exact kfresh _ (show x.next' ≤ _ by omega)
      · by_cases hlt : b < y.next
        · rw [b'lo b hlt] at hb
          exact Nat.lt_of_lt_of_le (hw.bound b p hb) k3.size
        · rw [b'hi b (by omega)] at hb; exact kbound _ p hb
      · obtain ⟨b, o, q1, rfl, q3, q4, q5⟩ := hyobj b' o' hb
        rcases ksome b o q1 with ⟨p, hp, ho⟩ | ⟨hp, hlt, ho⟩
        · exact .inl ⟨p, by rw [← hat b q3]; exact hp, @matchO_R V _ _ hn _ _ _ _ q5 (ObjR.ren hren q4 ho)⟩
        · refine .inr ⟨by rw [← hat b q3]; exact hp, ?_, @matchO_absent V _ hn _ _ q5 (AObj.absent_inst.2 ho)⟩
          show ρ2 b < y.next'
          have h16 := List.all_eq_true.1 c16 (ρ2 b, o') (by
            rcases graft_get _ _ _ _ hb with h | h
            · exact h
            · exact nomatch (show (none : Option AObj) = some o' from h))
          simpa [Nat.blt_eq] using h16
      · obtain ⟨a1, o1, q1, rfl, q3, q4, q5⟩ := hyobj b o hb
        obtain ⟨a2, o2, r1, rfl, r3, r4, r5⟩ := hyobj b' o' hb'
        rw [← hat a1 q3] at hp
        rw [← hat a2 r3] at hp'
        rw [kinj a1 a2 o1 o2 p p' q1 r1 hp hp' hc]
      · obtain ⟨sz, hs⟩ := hw.glob i hi
        exact ⟨sz, by rw [b'lo i (by omega)]; exact hs⟩
      · obtain ⟨b, o, q1, rfl, q3, q4, q5⟩ := hyobj b' o' hb
        rw [← hat b q3] at hp
        exact (kkeep z ob hz).2 b o p q1 (by rw [← hwr' q5]; exact hwr) hp
    refine ⟨β', @matchV_VR V _ _ hn _ _ _ c11 (VR.ren hren k1), hwy, ?_⟩
    refine Tran.of_fr (n := y.next) hfresh b'lo ((hfr1.trans (Fr.of k3)).trans hfr3) (by show y.next ≤ y.next'; omega) fun b hb h0 => ?_
    cases hg : y.behind.get b with
    | none => rfl
    | some o' =>
      have hm : (b, o') ∈ y.objs := by
        rcases graft_get _ _ b o' hg with h | h
        · exact h
        · exact nomatch (show (none : Option AObj) = some o' from h)
      have h14 := List.all_eq_true.1 c14 (b, o') hm
      simp only [Bool.or_eq_true] at h14
      rcases h14 with h | h
      · have := Nat.le_of_ble_eq_true h; omega
      · rw [h0] at h; cases h
def Fact.at_ (x : Fact) (nx : Nat) : Fact := { f := x.f, args := x.args, next := nx, pre := [], r := x.r, objs := [], next' := nx + (x.next' - x.next) }
theorem Fact.ok_at {x : Fact} (hx : ∀ V : Val, @Fact.Ok V P G x) (hp : x.pre = []) (ho : x.objs = []) (h1 : G ≤ x.next) (h2 : x.next ≤ x.next')
    (ha : ∀ ρ, matchVs (fun t => t) x.args (AV.insts (fun i => .v i) ρ x.args) = true) (hr : ∀ ρ, matchV (fun t => t) (x.r.inst (fun i => .v i) ρ) x.r = true) {nx : Nat} (hn : G ≤ nx) : @Fact.Ok V P G (x.at_ nx) := by
  refine Fact.ok_use (nf := fun t => t) (fun _ => rfl) (s := fun i => .v i) (l := []) (hx _) ?_
  have e1 : G.ble x.next = true := Nat.ble_eq_true_of_le h1
  have e2 : x.next.ble x.next' = true := Nat.ble_eq_true_of_le h2
  have e3 : G.ble nx = true := Nat.ble_eq_true_of_le hn
  have e4 : (nx + (x.next' - x.next)).ble (nx + (x.next' - x.next)) = true := Nat.ble_eq_true_of_le (Nat.le_refl _)
  have e5 : x.f.beq x.f = true := Nat.beq_refl _
  simp only [usesSo, Fact.at_, hp, ho, e1, e2, e3, e4, e5, ha, hr, objsOk, objsSo, keysOk, List.map_nil, List.all_nil, nodupB, Bool.and_self]
end
end Go.Tc
