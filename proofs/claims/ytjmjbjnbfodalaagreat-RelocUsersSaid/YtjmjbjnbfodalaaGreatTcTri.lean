/- What code does to states of unknown data: pieces, one behind the other, loops; a function's contract. -/
import Derived.Test.YtjmjbjnbfodalaaGreatTcEnt
set_option linter.unusedSimpArgs false
set_option linter.unusedVariables false
set_option linter.unusedSectionVars false
namespace Go.Tc

section
variable {P : Program} {G : Nat} {E : Env} {V : Val} {c : Ctx} {around : Option Nat} {k0 : Nat}

/-- From a state on, code comes to one of some states (of other data for the unknown, perhaps): names below k0 stay. -/
structure Tri (P : Program) (G : Nat) (V : Val) (c : Ctx) (around : Option Nat) (k0 : Nat) (cd : Code) (σ : St) (Q : Val → AExit → St → Prop) : Prop where
  go_ : ∀ {β : Pl} {a : Act} {w : World} {r : Option Nat}, @Sat V G c σ β a w → AroundR β around r → ∀ n, CodeIn (Fen r) n P cd (fun e a' w' =>
    ∃ V' ex σ' β', Q V' ex σ' ∧ e = toExit ex ∧ @Sat V' G c σ' β' a' w' ∧ (∀ b, b < k0 → β' b = β b) ∧ Fr β σ.heap.get w β' σ'.heap.get w') a w

theorem Tri.mono {cd : Code} {σ : St} {Q Q' : Val → AExit → St → Prop} (h : Tri P G V c around k0 cd σ Q) (hq : ∀ V' ex σ', Q V' ex σ' → Q' V' ex σ') : Tri P G V c around k0 cd σ Q' := by
  refine ⟨?_⟩
  intro β a w r hs hr n
  have := h.go_ hs hr n
  cases cd with
  | loop b => exact loopIn_mono this fun e a' w' ⟨V', ex, σ', β', q, h1⟩ => ⟨V', ex, σ', β', hq _ _ _ q, h1⟩
  | _ => exact wpIn_mono this fun e a' w' ⟨V', ex, σ', β', q, h1⟩ => ⟨V', ex, σ', β', hq _ _ _ q, h1⟩

def AExit.beq : AExit → AExit → Bool
  | .normal, .normal => true
  | .ret, .ret => true
  | .exit a, .exit b => a.beq b
  | .goto a, .goto b => a.beq b
  | _, _ => false
theorem AExit.beq_eq {a b : AExit} (h : AExit.beq a b = true) : a = b := by
  cases a <;> cases b <;> first | rfl | (cases h; done) | (rw [Nat.eq_of_beq_eq_true h])

/-- does the evaluator bring a state by a piece of code to another one? -/
def evTo (P : Program) (E : Env) (n : Nat) (c : Ctx) (around : Option Nat) (k0 : Nat) (cd : Code) (σ : St) (s : Nat → Tm) (l : List (Nat × Nat)) (ex : AExit) (σ' : St) : Bool :=
  match (ev P E n).code c around cd σ.tmps (σ.marks.map .own) σ.heap with
  | some ⟨ex1, T1, m1, H1⟩ => match AExit.beq ex1 ex with
    | true => isStateM E.nf c.glob k0 c s l T1 m1 H1 σ'
    | false => false
  | none => false

theorem Tri.ev (hE : @EnvOk V P G E) (hg : c.glob = G) {n : Nat} {cd : Code} {σ σ' : St} {s : Nat → Tm} {l : List (Nat × Nat)} {ex : AExit} (hk : k0 ≤ σ.next) (h : evTo P E n c around k0 cd σ s l ex σ' = true) :
    Tri P G V c around k0 cd σ fun V' ex' σ'' => V' = V.by s ∧ ex' = ex ∧ σ'' = σ' := by
  unfold evTo at h
  split at h
  · rename_i ex1 T1 m1 H1 hev
    split at h
    · rename_i hx
      have hx := AExit.beq_eq hx
      subst hx
      refine ⟨?_⟩
      intro β a w r hs hr k
      have q := (@ev_right V P G E hE n).code hev hg hs.tr (@OwnR.marks V _ _ _ hs.mks) hs.wr hr k
      have fin : ∀ e a' w', @CodePost V G c β σ.heap w ⟨ex1, T1, m1, H1⟩ e a' w' → ∃ V' ex σ'' β', (V' = V.by s ∧ ex = ex1 ∧ σ'' = σ') ∧ e = toExit ex ∧ @Sat V' G c σ'' β' a' w' ∧ (∀ b, b < k0 → β' b = β b) ∧ Fr β σ.heap.get w β' σ''.heap.get w' := by
        rintro e a' w' ⟨rfl, β1, h1, h2, h3, h4⟩
        rw [hg] at h
        obtain ⟨n1, hn1, h⟩ := isStateM_own h
        have h2 := @MarksR.owns V β1 _ _ _ hn1 h2
        obtain ⟨β', k1, k2, k3⟩ := isState_ok (V := V) hE.nf h h1 h2 h3
        refine ⟨_, _, _, β', ⟨rfl, rfl, rfl⟩, rfl, k1, fun b hb => ?_, (Fr.of h4).trans k3⟩
        rw [k2 b hb]
        cases hp : β b with
        | some p => exact h4.ext _ _ hp
        | none => exact h4.old b (Nat.lt_of_lt_of_le hb hk) hp
      cases cd with
      | loop b => exact loopIn_mono q fin
      | _ => exact wpIn_mono q fin
    · cases h
  · cases h

theorem Fr.refl (β : Pl) (g : Nat → Option AObj) (w : World) : Fr β g w β g w :=
  ⟨Nat.le_refl _, fun _ _ _ => rfl, fun _ h _ => h, fun _ h _ => h, fun _ _ h => h, fun _ _ h => .inl h, rfl, rfl, rfl⟩

/-- the loop within which a round stands bears a name that stays. -/
def stays (around : Option Nat) (k0 : Nat) : Prop := ∀ l, around = some l → l < k0
theorem AroundR.stay {β β' : Pl} {r : Option Nat} (h : AroundR β around r) (hk : ∀ b, b < k0 → β' b = β b) (hs : stays around k0) : AroundR β' around r := by
  cases around with
  | none => cases r <;> exact h
  | some l => cases r with
    | none => exact h
    | some r => obtain ⟨p, h1, h2⟩ := h; exact ⟨p, by rw [hk l (hs l rfl)]; exact h1, h2⟩

theorem Tri.seq {x y : Code} {σ : St} {Q1 Q : Val → AExit → St → Prop} (hs : stays around k0) (hx : Tri P G V c around k0 x σ Q1) (hy : ∀ V' σ', Q1 V' .normal σ' → Tri P G V' c around k0 y σ' Q) (hne : ∀ V' ex σ', ex ≠ .normal → Q1 V' ex σ' → Q V' ex σ') :
    Tri P G V c around k0 (.seq x y) σ Q := by
  refine ⟨?_⟩
  intro β a w r hS hr n
  refine wpIn_seq (wpIn_mono (hx.go_ hS hr n).wpIn ?_)
  rintro e a' w' ⟨V', ex, σ', β', q1, rfl, q2, q3, q4⟩
  have done : ex ≠ .normal → ∃ V'' ex' σ'' β'', Q V'' ex' σ'' ∧ toExit ex = toExit ex' ∧ @Sat V'' G c σ'' β'' a' w' ∧ (∀ b, b < k0 → β'' b = β b) ∧ Fr β σ.heap.get w β'' σ''.heap.get w' :=
    fun h => ⟨V', ex, σ', β', hne _ _ _ h q1, rfl, q2, q3, q4⟩
  cases ex with
  | normal =>
    refine wpIn_mono ((hy V' σ' q1).go_ q2 (hr.stay q3 hs) n).wpIn ?_
    rintro e a'' w'' ⟨V'', ex', σ'', β'', p1, p2, p3, p4, p5⟩
    exact ⟨V'', ex', σ'', β'', p1, p2, p3, fun b hb => (p4 b hb).trans (q3 b hb), q4.trans p5⟩
  | exit id => exact done (by simp)
  | goto id => exact done (by simp)
  | ret => exact done (by simp)

/-- the exit of a block. -/
def outOf (id : Nat) : AExit → AExit
  | .exit j => if j = id then .normal else .exit j
  | e => e
theorem Tri.block {id : Nat} {b : Code} {σ : St} {Q : Val → AExit → St → Prop} (h : Tri P G V c around k0 b σ fun V' ex σ' => Q V' (outOf id ex) σ') : Tri P G V c around k0 (.block id b) σ Q := by
  refine ⟨?_⟩
  intro β a w r hS hr n
  refine wpIn_block (wpIn_mono (h.go_ hS hr n).wpIn ?_)
  rintro e a' w' ⟨V', ex, σ', β', q1, rfl, q2, q3, q4⟩
  cases ex with
  | exit j =>
    simp only [toExit, Exit.inBlock]
    by_cases hj : j = id
    · rw [if_pos hj]
      simp only [outOf, if_pos hj] at q1
      exact ⟨V', .normal, σ', β', q1, rfl, q2, q3, q4⟩
    · rw [if_neg hj]
      simp only [outOf, if_neg hj] at q1
      exact ⟨V', .exit j, σ', β', q1, rfl, q2, q3, q4⟩
  | normal => exact ⟨V', .normal, σ', β', q1, rfl, q2, q3, q4⟩
  | goto id => exact ⟨V', .goto id, σ', β', q1, rfl, q2, q3, q4⟩
  | ret => exact ⟨V', .ret, σ', β', q1, rfl, q2, q3, q4⟩

/-- a test whose outcome is known. -/
theorem Tri.cond (hg : c.glob = G) {q : Operand} {x y : Code} {σ : St} {Q : Val → AExit → St → Prop} {t : Tm} {b : Bool} (hq : aeval c σ.tmps q = some (.sy .bool t) ∨ aeval c σ.tmps q = some (.bool b)) (ht : @Tm.den V t = .bool b) (h : Tri P G V c around k0 (if b then x else y) σ Q) : Tri P G V c around k0 (.cond q x y) σ Q := by
  refine ⟨?_⟩
  intro β a w r hS hr n
  have hv : a.eval q = .bool b := by
    rcases hq with hq | hq
    · have := @aeval_VR V G β σ.heap w σ.next c σ.tmps a q _ hS.tr hg hS.wr hq
      cases this with | sy hc =>
      rw [ht] at hc
      generalize a.eval q = v at hc
      cases hc; rfl
    · have := @aeval_VR V G β σ.heap w σ.next c σ.tmps a q _ hS.tr hg hS.wr hq
      generalize a.eval q = v at this
      cases this; rfl
  have := (h.go_ hS hr n).wpIn
  cases b
  · exact wpIn_cond hv this
  · exact wpIn_cond hv this

/-- **A loop**: from states that come back, with other data, which get less. -/
theorem Tri.loops {α : Type} (I : α → Prop) (μ : α → Nat) (Vof : α → Val) (σof : α → St) {b : Code} {Q : Val → AExit → St → Prop} (hs : stays around k0)
    (hb : ∀ x, I x → Tri P G (Vof x) c around k0 b (σof x) fun V' ex σ' => (ex = .normal ∧ ∃ x', σ' = σof x' ∧ V' = Vof x' ∧ I x' ∧ μ x' < μ x) ∨ (ex ≠ .normal ∧ Q V' ex σ')) :
    ∀ x, I x → Tri P G (Vof x) c around k0 (.loop b) (σof x) Q := by
  have main : ∀ (k : Nat) x, μ x ≤ k → I x → Tri P G (Vof x) c around k0 (.loop b) (σof x) Q := by
    intro k
    induction k with
    | zero =>
      intro x hm hI
      refine ⟨?_⟩
      intro β a w r hS hr n
      refine loopIn_step (wpIn_mono ((hb x hI).go_ hS hr n).wpIn ?_)
      rintro e a' w' ⟨V', ex, σ', β', q1, rfl, q2, q3, q4⟩
      rcases q1 with ⟨-, x', -, -, -, hlt⟩ | ⟨hne, q1⟩
      · omega
      · cases ex with
        | normal => exact absurd rfl hne
        | exit id => exact ⟨V', _, σ', β', q1, rfl, q2, q3, q4⟩
        | goto id => exact ⟨V', _, σ', β', q1, rfl, q2, q3, q4⟩
        | ret => exact ⟨V', _, σ', β', q1, rfl, q2, q3, q4⟩
    | succ k ih =>
      intro x hm hI
      refine ⟨?_⟩
      intro β a w r hS hr n
      refine loopIn_step (wpIn_mono ((hb x hI).go_ hS hr n).wpIn ?_)
      rintro e a' w' ⟨V', ex, σ', β', q1, rfl, q2, q3, q4⟩
      rcases q1 with ⟨rfl, x', rfl, rfl, hI', hlt⟩ | ⟨hne, q1⟩
      · refine loopIn_mono ((ih x' (by omega) hI').go_ q2 (hr.stay q3 hs) n) ?_
        rintro e a'' w'' ⟨V'', ex', σ'', β'', p1, p2, p3, p4, p5⟩
        exact ⟨V'', ex', σ'', β'', p1, p2, p3, fun b hb => (p4 b hb).trans (q3 b hb), q4.trans p5⟩
      · cases ex with
        | normal => exact absurd rfl hne
        | exit id => exact ⟨V', _, σ', β', q1, rfl, q2, q3, q4⟩
        | goto id => exact ⟨V', _, σ', β', q1, rfl, q2, q3, q4⟩
        | ret => exact ⟨V', _, σ', β', q1, rfl, q2, q3, q4⟩
  exact fun x hI => main (μ x) x (Nat.le_refl _) hI

/-- the same, where the state comes back. -/
theorem Tri.loop {α : Type} (I : α → Prop) (μ : α → Nat) (Vof : α → Val) {b : Code} {σ : St} {Q : Val → AExit → St → Prop} (hs : stays around k0)
    (hb : ∀ x, I x → Tri P G (Vof x) c around k0 b σ fun V' ex σ' => (ex = .normal ∧ σ' = σ ∧ ∃ x', V' = Vof x' ∧ I x' ∧ μ x' < μ x) ∨ (ex ≠ .normal ∧ Q V' ex σ')) :
    ∀ x, I x → Tri P G (Vof x) c around k0 (.loop b) σ Q :=
  Tri.loops I μ Vof (fun _ => σ) hs fun x hI => Tri.mono (hb x hI) fun V' ex σ' h => h.imp (fun ⟨h1, h2, x', h3, h4, h5⟩ => ⟨h1, x', h2, h3, h4, h5⟩) id

/-! ### a function's contract -/
/-- what a function's frame is. -/
def cxOf (P : Program) (fn : Func) (cd : Code) (args : Nat) : Ctx := ⟨funcMask fn cd args, max args fn.ntmps, P.globals.size⟩
def startSt (x : Fact) : St := ⟨argTmps x.args 0, [], [], x.pre, x.next⟩
/-- the blocks for deferred calls, shut as the function is left. -/
def leaveO : List Nat → AHeap → Option AHeap
  | [], H => some H
  | m :: r, H => match H.get m with
    | some (.dfr true) => leaveO r (H.set m (.dfr false))
    | _ => none
section
variable [Val]
theorem leaves_own {n : Nat} {fn : Func} {tmps : Array Value} {R : Ending → World → Prop} {G : Nat} : ∀ (m : List Nat) {β : Pl} {H H2 : AHeap} {w : World} (ds : List Deferred), leaveO m H = some H2 → OwnR β m ds → WR G β H.get H.next w →
    (∀ w2, WR G β H2.get H2.next w2 → Tran β H.get H.next w β H2.get H2.next w2 → ∃ v, (results fn tmps).run P w2 = .ok v w2 ∧ R (.returned v) w2) → LeavesInM Fence.wide n P fn tmps R ds .returning w
  | [], β, H, H2, w, ds, h, hm, hw, hk => by
    cases ds with
    | cons d ds => exact hm.elim
    | nil => cases h; exact hk w hw (Tran.refl _ _ _ _)
  | x :: m, β, H, H2, w, ds, h, hm, hw, hk => by
    cases ds with
    | nil => exact hm.elim
    | cons d ds =>
      obtain ⟨⟨p, hp, rfl⟩, hm⟩ := hm
      simp only [leaveO] at h
      split at h
      · rename_i hb
        obtain ⟨q, hq, ho⟩ := hw.obj _ _ hb
        rw [hp] at hq; cases hq
        have hlt := hw.bound _ _ hp
        obtain ⟨j1, j2⟩ := hw.turn hb rfl hp (w' := w.putObj p.c (.deferred none)) (o' := .dfr false) (by simp) (fun c hc => World.putObj_heap_other hc) rfl rfl rfl (World.putObj_heap_same hlt)
        rw [← AHeap.get_set, ← AHeap.next_set (b := x) (o := .dfr false)] at j1
        refine ⟨by simp, .inl ⟨p.c, _, rfl, run_takeDeferred ho, ?_⟩⟩
        refine leaves_own m ds h hm j1 fun w2 k1 k2 => hk w2 k1 ?_
        rw [AHeap.get_set, AHeap.next_set] at k2
        exact j2.trans k2
      · cases h
end

/-- is a state behind a function's body the end that a fact tells? -/
def endsSo (P : Program) (E : Env) (cx : Ctx) (fn : Func) (x : Fact) (σ : St) : Bool :=
  match leaveO σ.marks σ.heap with
  | some H2 => match resultsA P E cx H2 σ.tmps fn.results.toList with
    | some rs => AV.beq (retOf rs) x.r && liesSo H2 x.objs && σ.next.beq x.next' && x.next.ble x.next' && H2.next.beq x.next' && x.objs.all fun p => x.next.ble p.1 || (x.ahead.get p.1).isSome
    | none => false
  | none => false

theorem leaveO_next : ∀ (m : List Nat) {H H2 : AHeap}, leaveO m H = some H2 → H2.next = H.next
  | [], H, H2, h => by cases h; rfl
  | x :: m, H, H2, h => by
    simp only [leaveO] at h
    split at h
    · rw [leaveO_next m h, AHeap.next_set]
    · cases h

theorem Fact.ok_tri {x : Fact} {fn : Func} {cd : Code} (hE : @EnvOk V P G E) (hf : P.funcs[x.f]? = some fn) (hb : fn.body = some cd) {Q : Val → AExit → St → Prop}
    (tri : Tri P G V (cxOf P fn cd x.args.length) none x.next cd (startSt x) Q)
    (hQ : ∀ V' ex σ', Q V' ex σ' → V' = V ∧ (ex = .normal ∨ ex = .ret) ∧ endsSo P E (cxOf P fn cd x.args.length) fn x σ' = true) : @Fact.Ok V P G x := by
  refine ⟨?_⟩
  intro β w vs hw ha
  refine ⟨fun w0 => ?_, fun n => ?_⟩
  · have hn := hE.names x.f fn hf (by simp [hb])
    simp [callFunc, hf, hb, hn]
  · have hT : @TR V β (cxOf P fn cd x.args.length) ⟨argTmps x.args 0, []⟩ (vs.toArray ++ Array.replicate (fn.ntmps - vs.toArray.size) undef) := @argTmps_TR V _ _ _ _ _ _ ha
    refine callsIn_of_wp_marks hf hb trivial ?_
    have hS : @Sat V G (cxOf P fn cd x.args.length) (startSt x) β ⟨vs.toArray ++ Array.replicate (fn.ntmps - vs.toArray.size) undef, []⟩ w := @Sat.mk V _ _ _ _ _ _ hT trivial hw
    refine wpIn_mono (tri.go_ hS (r := none) trivial n).wpIn ?_
    rintro e a' w' ⟨V', ex, σ', β', q1, rfl, q2, q3, q4⟩
    obtain ⟨rfl, hex, hend⟩ := hQ _ _ _ q1
    have fin : LeavesInM Fence.wide n P fn a'.tmps (@RetPost V' G β x.ahead w x.r x.behind) a'.defers .returning w' := by
      unfold endsSo at hend
      split at hend
      · rename_i H2 hl
        split at hend
        · rename_i rs hrs
          simp only [Bool.and_eq_true] at hend
          obtain ⟨⟨⟨⟨⟨e1, e2⟩, e3⟩, e4⟩, e6⟩, e5⟩ := hend
          have e1 := AV.beq_eq _ _ e1
          have e3 := Nat.eq_of_beq_eq_true e3
          have e4 := Nat.le_of_ble_eq_true e4
          have e6 := Nat.eq_of_beq_eq_true e6
          refine @leaves_own P V' _ _ _ _ G _ _ _ _ _ _ hl q2.mks q2.wr fun w2 k1 k2 => ?_
          obtain ⟨u, u1, u2⟩ := @results_run V' P G _ _ _ _ _ hE.nf _ _ _ _ k1 q2.tr hrs
          rw [e1] at u2
          have hbe : ∀ b o, x.behind.get b = some o → H2.get b = some o := by
            intro b o hbo
            rcases graft_get _ _ b o hbo with h | h
            · exact liesSo_get e2 b o h
            · exact nomatch (show (none : Option AObj) = some o from h)
          have hfr : Fr β x.ahead.get w β' H2.get w2 := q4.trans (Fr.of k2)
          have hk1 : @WR V' G β' x.behind.get x.next' w2 := by
            rw [← e6]; exact @WR.less V' G β' _ _ _ _ k1 hbe
          refine ⟨u, u1, β', u2, hk1, ?_⟩
          refine ⟨⟨fun b p hp => ?_, hfr.zone⟩, e4, hfr.size, fun c hc hno => hfr.kept c hc fun ⟨b, o, p, h1, h2, h3, h4⟩ => hno b o p h1 h2 h3 h4, fun b hlt h0 => (q3 b hlt).trans h0, fun b hlt h0 => ?_, fun b o p hbo hp hlt => ?_, hfr.os, hfr.out, hfr.tape, hfr.zn⟩
          · have hlt : b < x.next := by
              by_cases h : b < x.next
              · exact h
              · have := hw.fresh b (Nat.le_of_not_lt h); rw [hp] at this; cases this
            rw [q3 b hlt]; exact hp
          · cases hg : x.behind.get b with
            | none => rfl
            | some o =>
              rcases graft_get _ _ b o hg with h | h
              · have h5 := List.all_eq_true.1 e5 (b, o) h
                simp only [Bool.or_eq_true] at h5
                rcases h5 with h5 | h5
                · have := Nat.le_of_ble_eq_true h5
                  have h6 : b < x.next := hlt
                  omega
                · rw [h0] at h5; cases h5
              · exact nomatch (show (none : Option AObj) = some o from h)
          · cases hwr : o.wr with
            | true =>
              obtain ⟨b0, o0, p0, h1, h2, h3, h4⟩ := hfr.newW p.c ⟨b, o, p, hbe _ _ hbo, hwr, hp, rfl⟩ hlt
              exact ⟨b0, o0, p0, h1, fun _ => h2, h3, h4⟩
            | false =>
              obtain ⟨b0, o0, p0, h1, h2, h3⟩ := hfr.newA p.c ⟨b, o, p, hbe _ _ hbo, hp, rfl⟩ hlt
              exact ⟨b0, o0, p0, h1, (fun h => nomatch h), h2, h3⟩
        · cases hend
      · cases hend
    rcases hex with rfl | rfl
    · exact fin
    · exact fin

end
end Go.Tc
