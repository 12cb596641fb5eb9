/- A contract of the library, as a fact: a call that lays new blocks alone, and answers with data. -/
import Derived.Test.YtjmjbjnbfodalaaGreatTcIce
import Derived.Sort.Grow
import Derived.Deep.Draws
set_option linter.unusedSimpArgs false
set_option linter.unusedVariables false
set_option linter.unusedSectionVars false
namespace Go.Tc
open Go.Sort
section
variable {P : Program} {G : Nat} [Val]
end
end Go.Tc
namespace Go.Tc
def flat : Code → List Code
  | .seq a b => flat a ++ flat b
  | .skip => []
  | c => [c]
def inBlock : Code → Code
  | .block _ b => b
  | _ => .skip
def inLoop : Code → Code
  | .loop b => b
  | _ => .skip
def notLoop : Code → Bool
  | .loop _ => false
  | _ => true
def evFlatA (S : Evs) (c : Ctx) (around : Option Nat) : List Code → Tmps → List Mark → AHeap → Option Res
  | [], T, m, H => some ⟨.normal, T, m, H⟩
  | x :: r, T, m, H => match S.code c around x T m H with
    | some ⟨.normal, T1, m1, H1⟩ => evFlatA S c around r T1 m1 H1
    | o => o
def wpL (F : Fence) (n : Nat) (P : Program) : List Code → (Exit → Act → World → Prop) → Act → World → Prop
  | [], Q => fun a w => Q .normal a w
  | x :: r, Q => x.wpIn F n P fun e a w => match e with
    | .normal => wpL F n P r Q a w
    | e => Q e a w
theorem wpL_mono {F : Fence} {n : Nat} {P : Program} : ∀ {l : List Code} {Q Q' : Exit → Act → World → Prop} {a : Act} {w : World}, wpL F n P l Q a w → (∀ e a w, Q e a w → Q' e a w) → wpL F n P l Q' a w
  | [], _, _, _, _, h, hq => hq _ _ _ h
  | x :: r, Q, Q', a, w, h, hq => wpIn_mono h fun e a' w' h' => by
    cases e with
    | normal => exact wpL_mono (l := r) h' hq
    | _ => exact hq _ _ _ h'
theorem wpL_append {F : Fence} {n : Nat} {P : Program} : ∀ {l m : List Code} {Q : Exit → Act → World → Prop} {a : Act} {w : World}, wpL F n P l (fun e a w => match e with | .normal => wpL F n P m Q a w | e => Q e a w) a w → wpL F n P (l ++ m) Q a w
  | [], _, _, _, _, h => h
  | x :: r, m, Q, a, w, h => wpIn_mono h fun e a' w' h' => by
    cases e with
    | normal => exact wpL_append (l := r) h'
    | _ => exact h'
theorem wpL_split {F : Fence} {n : Nat} {P : Program} : ∀ {l m : List Code} {Q : Exit → Act → World → Prop} {a : Act} {w : World}, wpL F n P (l ++ m) Q a w → wpL F n P l (fun e a w => match e with | .normal => wpL F n P m Q a w | e => Q e a w) a w
  | [], _, _, _, _, h => h
  | x :: r, m, Q, a, w, h => wpIn_mono h fun e a' w' h' => by
    cases e with
    | normal => exact wpL_split (l := r) h'
    | _ => exact h'
theorem wp_of_flat {F : Fence} {n : Nat} {P : Program} : ∀ (cd : Code) {Q : Exit → Act → World → Prop} {a : Act} {w : World}, wpL F n P (flat cd) Q a w → cd.wpIn F n P Q a w := by
  intro cd
  have one : ∀ {x : Code} {Q : Exit → Act → World → Prop} {a : Act} {w : World}, wpL F n P [x] Q a w → x.wpIn F n P Q a w := by
    intro x Q a w h
    refine wpIn_mono h fun e a' w' h' => ?_
    cases e <;> exact h'
  induction cd with
  | seq x y ihx ihy =>
    intro Q a w h
    refine wpIn_seq (ihx ?_)
    refine wpL_mono (wpL_split (l := flat x) (m := flat y) h) fun e a' w' h' => ?_
    cases e with
    | normal => exact ihy h'
    | _ => exact h'
  | skip => intro Q a w h; exact wpIn_skip h
  | _ => intro Q a w h; exact one h
section
variable {P : Program} {G : Nat} {E : Env} {V : Val} {c : Ctx} {around : Option Nat} {k0 : Nat}
theorem evFlat_run {S : Evs} (hS : @Sound V P G S) (hg : c.glob = G) : ∀ (l : List Code) {T : Tmps} {m : List Mark} {H : AHeap} {res : Res}, evFlatA S c around l T m H = some res →
    ∀ {β : Pl} {w : World} {a : Act} {r : Option Nat}, @TR V β c T a.tmps → @MarksR V β m a.defers → @WR V G β H.get H.next w → AroundR β around r → ∀ n, wpL (Fen r) n P l (@CodePost V G c β H w res) a w
  | [], T, m, H, res, h, β, w, a, r, hT, hm, hw, hr, n => by
    cases h; exact ⟨rfl, β, hT, hm, hw, Tran.refl _ _ _ _⟩
  | x :: l, T, m, H, res, h, β, w, a, r, hT, hm, hw, hr, n => by
    simp only [evFlatA] at h
    cases hx : S.code c around x T m H with
    | none => rw [hx] at h; cases h
    | some r1 =>
      obtain ⟨ex, T1, m1, H1⟩ := r1
      rw [hx] at h
      refine wpIn_mono (hS.code hx hg hT hm hw hr n).wpIn ?_
      rintro e a' w' ⟨rfl, β1, q1, q2, q3, q4⟩
      cases ex with
      | normal => exact wpL_mono (evFlat_run hS hg l h q1 q2 q3 (hr.mono q4.ext) n) fun e a'' w'' hp => @CodePost.trans V G β H w c β1 H1 w' res e a'' w'' hp q4
      | exit id => cases h; exact ⟨rfl, β1, q1, q2, q3, q4⟩
      | goto id => cases h; exact ⟨rfl, β1, q1, q2, q3, q4⟩
      | ret => cases h; exact ⟨rfl, β1, q1, q2, q3, q4⟩
structure TriL (P : Program) (G : Nat) (V : Val) (c : Ctx) (around : Option Nat) (k0 : Nat) (l : List Code) (σ : St) (Q : Val → AExit → St → Prop) : Prop where
  go_ : ∀ {β : Pl} {a : Act} {w : World} {r : Option Nat}, @Sat V G c σ β a w → AroundR β around r → ∀ n, wpL (Fen r) n P l (fun e a' w' =>
    ∃ V' ex σ' β', Q V' ex σ' ∧ e = toExit ex ∧ @Sat V' G c σ' β' a' w' ∧ (∀ b, b < k0 → β' b = β b) ∧ Fr β σ.heap.get w β' σ'.heap.get w') a w
theorem Tri.flat {cd : Code} {σ : St} {Q : Val → AExit → St → Prop} (hn : notLoop cd = true) (h : TriL P G V c around k0 (Go.Tc.flat cd) σ Q) : Tri P G V c around k0 cd σ Q := by
  refine ⟨?_⟩
  intro β a w r hS hr n
  have := wp_of_flat cd (h.go_ hS hr n)
  cases cd with
  | loop b => cases hn
  | _ => exact this
theorem TriL.nil {σ : St} {Q : Val → AExit → St → Prop} (h : Q V .normal σ) : TriL P G V c around k0 [] σ Q :=
  ⟨fun {β _ w _} hS _ _ => ⟨V, .normal, σ, β, h, rfl, hS, fun _ _ => rfl, Fr.refl _ _ _⟩⟩
theorem TriL.cons {x : Code} {l : List Code} {σ : St} {Q1 Q : Val → AExit → St → Prop} (hs : stays around k0) (hx : Tri P G V c around k0 x σ Q1) (hy : ∀ V' σ', Q1 V' .normal σ' → TriL P G V' c around k0 l σ' Q) (hne : ∀ V' ex σ', ex ≠ .normal → Q1 V' ex σ' → Q V' ex σ') :
    TriL P G V c around k0 (x :: l) σ Q := by
  refine ⟨?_⟩
  intro β a w r hS hr n
  refine wpIn_mono (hx.go_ hS hr n).wpIn ?_
  rintro e a' w' ⟨V', ex, σ', β', q1, rfl, q2, q3, q4⟩
  have done : ex ≠ .normal → ∃ V'' ex' σ'' β'', Q V'' ex' σ'' ∧ toExit ex = toExit ex' ∧ @Sat V'' G c σ'' β'' a' w' ∧ (∀ b, b < k0 → β'' b = β b) ∧ Fr β σ.heap.get w β'' σ''.heap.get w' :=
    fun h => ⟨V', ex, σ', β', hne _ _ _ h q1, rfl, q2, q3, q4⟩
  cases ex with
  | normal =>
    refine wpL_mono ((hy V' σ' q1).go_ q2 (hr.stay q3 hs) n) ?_
    rintro e a'' w'' ⟨V'', ex', σ'', β'', p1, p2, p3, p4, p5⟩
    exact ⟨V'', ex', σ'', β'', p1, p2, p3, fun b hb => (p4 b hb).trans (q3 b hb), q4.trans p5⟩
  | exit id => exact done (by simp)
  | goto id => exact done (by simp)
  | ret => exact done (by simp)
def evFl (P : Program) (E : Env) (n : Nat) (c : Ctx) (around : Option Nat) (k0 : Nat) (l : List Code) (σ : St) (z : List Ice) (s : Nat → Tm) (ln : List (Nat × Nat)) (ex : AExit) (σ' : St) : Bool :=
  match evFlatA (ev P E n) c around l σ.tmps (σ.marks.map .own) σ.heap with
  | some ⟨ex1, T1, m1, H1⟩ => match AExit.beq ex1 ex with
    | true => match Ice.runs E.nf z T1 H1 with
      | some (T2, H2) => isStateM E.nf c.glob k0 c s ln T2 m1 H2 σ'
      | none => false
    | false => false
  | none => false
theorem TriL.ice (hE : @EnvOk V P G E) (hg : c.glob = G) {n : Nat} {l : List Code} {σ σ' : St} {z : List Ice} {s : Nat → Tm} {ln : List (Nat × Nat)} {ex : AExit} (hk : k0 ≤ σ.next) (h : evFl P E n c around k0 l σ z s ln ex σ' = true) :
    TriL P G V c around k0 l σ fun V' ex' σ'' => V' = V.by s ∧ ex' = ex ∧ σ'' = σ' := by
  unfold evFl at h
  split at h
  · rename_i ex1 T1 m1 H1 hev
    split at h
    · rename_i hx
      have hx := AExit.beq_eq hx
      subst hx
      split at h
      · rename_i T2 H2 hz
        refine ⟨?_⟩
        intro β a w r hs hr k
        have q := evFlat_run (@ev_right V P G E hE n) hg l hev hs.tr (@OwnR.marks V _ _ _ hs.mks) hs.wr hr k
        refine wpL_mono q ?_
        rintro e a' w' ⟨rfl, β1, h1, h2, h3, h4⟩
        rw [hg] at h
        obtain ⟨n1, hn1, h⟩ := isStateM_own h
        have h2 := @MarksR.owns V β1 _ _ _ hn1 h2
        obtain ⟨β2, i1, i2, i3, i4⟩ := @Ice.runs_ok V _ (@EnvOk.nf V P G E hE) _ _ _ _ _ _ _ _ _ _ hz h1 h3
        have h2' : OwnR β2 n1 a'.defers := @OwnR.at V β1 β2 _ (fun b p hb => by show β2.at_ b = some p; rw [i1]; exact hb) _ h2
        obtain ⟨β', k1, k2, k3⟩ := isState_ok (V := V) (@EnvOk.nf V P G E hE) h i2 h2' i3
        refine ⟨_, _, _, β', ⟨rfl, rfl, rfl⟩, rfl, k1, fun b hb => ?_, ((Fr.of h4).trans i4).trans k3⟩
        rw [k2 b hb]
        show β2.at_ b = β.at_ b
        rw [i1]
        cases hp : β b with
        | some p => exact h4.ext _ _ hp
        | none => exact h4.old b (Nat.lt_of_lt_of_le hb hk) hp
      · cases h
    · cases h
  · cases h
theorem TriL.append {l m : List Code} {σ : St} {Q1 Q : Val → AExit → St → Prop} (hs : stays around k0) (hx : TriL P G V c around k0 l σ Q1) (hy : ∀ V' σ', Q1 V' .normal σ' → TriL P G V' c around k0 m σ' Q) (hne : ∀ V' ex σ', ex ≠ .normal → Q1 V' ex σ' → Q V' ex σ') :
    TriL P G V c around k0 (l ++ m) σ Q := by
  refine ⟨?_⟩
  intro β a w r hS hr n
  refine wpL_append (wpL_mono (hx.go_ hS hr n) ?_)
  rintro e a' w' ⟨V', ex, σ', β', q1, rfl, q2, q3, q4⟩
  have done : ex ≠ .normal → ∃ V'' ex' σ'' β'', Q V'' ex' σ'' ∧ toExit ex = toExit ex' ∧ @Sat V'' G c σ'' β'' a' w' ∧ (∀ b, b < k0 → β'' b = β b) ∧ Fr β σ.heap.get w β'' σ''.heap.get w' :=
    fun h => ⟨V', ex, σ', β', hne _ _ _ h q1, rfl, q2, q3, q4⟩
  cases ex with
  | normal =>
    refine wpL_mono ((hy V' σ' q1).go_ q2 (hr.stay q3 hs) n) ?_
    rintro e a'' w'' ⟨V'', ex', σ'', β'', p1, p2, p3, p4, p5⟩
    exact ⟨V'', ex', σ'', β'', p1, p2, p3, fun b hb => (p4 b hb).trans (q3 b hb), q4.trans p5⟩
  | exit id => exact done (by simp)
  | goto id => exact done (by simp)
  | ret => exact done (by simp)
variable {C : FuncId → List Nat → LCode} {ds : List D}
theorem TriL.go (k : Nat) (hE : @EnvOk (valsC C ds) P G E) (hg : c.glob = G) (hs : stays around k0) {tb : List (Tm × Tm)} (ht : @AllEq (valsC C ds) tb) {l : List Code} {σ σ' : St} {z : List Ice} {ts : List Tm} {ln : List (Nat × Nat)} (hk : k0 ≤ σ.next)
    (h : evFl P (E.tab tb) 100000 c around k0 (l.take k) σ z (subs ts) ln .normal σ' = true) {Q : Val → AExit → St → Prop} (hQ : TriL P G (valsC C (ts.map (@Tm.den (valsC C ds)))) c around k0 (l.drop k) σ' Q) : TriL P G (valsC C ds) c around k0 l σ Q := by
  have := TriL.ice (V := valsC C ds) (@EnvOk.tab P G E (valsC C ds) hE tb ht) hg hk h
  rw [← List.take_append_drop k l]
  refine TriL.append hs this ?_ ?_
  · rintro V' σ'' ⟨rfl, -, rfl⟩
    rw [by_subs]; exact hQ
  · rintro V' ex σ'' hne ⟨-, rfl, -⟩
    exact absurd rfl hne
theorem TriL.out (k : Nat) (hE : @EnvOk (valsC C ds) P G E) (hg : c.glob = G) (hs : stays around k0) {tb : List (Tm × Tm)} (ht : @AllEq (valsC C ds) tb) {l : List Code} {σ σ' : St} {z : List Ice} {ts : List Tm} {ln : List (Nat × Nat)} {ex : AExit} (hk : k0 ≤ σ.next)
    (h : evFl P (E.tab tb) 100000 c around k0 (l.take k) σ z (subs ts) ln ex σ' = true) (hne : ex ≠ .normal) {Q : Val → AExit → St → Prop} (hQ : Q (valsC C (ts.map (@Tm.den (valsC C ds)))) ex σ') : TriL P G (valsC C ds) c around k0 l σ Q := by
  have := TriL.ice (V := valsC C ds) (@EnvOk.tab P G E (valsC C ds) hE tb ht) hg hk h
  rw [← List.take_append_drop k l]
  refine TriL.append hs this ?_ ?_
  · rintro V' σ'' ⟨-, h1, -⟩
    exact absurd h1.symm hne
  · rintro V' ex' σ'' _ ⟨rfl, rfl, rfl⟩
    rw [by_subs]; exact hQ
theorem TriL.fin (hE : @EnvOk (valsC C ds) P G E) (hg : c.glob = G) {tb : List (Tm × Tm)} (ht : @AllEq (valsC C ds) tb) {l : List Code} {σ σ' : St} {z : List Ice} {ts : List Tm} {ln : List (Nat × Nat)} {ex : AExit} (hk : k0 ≤ σ.next)
    (h : evFl P (E.tab tb) 100000 c around k0 l σ z (subs ts) ln ex σ' = true) {Q : Val → AExit → St → Prop} (hQ : Q (valsC C (ts.map (@Tm.den (valsC C ds)))) ex σ') : TriL P G (valsC C ds) c around k0 l σ Q := by
  have := TriL.ice (V := valsC C ds) (@EnvOk.tab P G E (valsC C ds) hE tb ht) hg hk h
  refine ⟨fun hS hr n => wpL_mono (this.go_ hS hr n) ?_⟩
  rintro e a' w' ⟨V', ex', σ'', β', ⟨rfl, rfl, rfl⟩, h2, h3, h4, h5⟩
  rw [by_subs] at h3
  exact ⟨_, _, _, β', hQ, h2, h3, h4, h5⟩
theorem TriL.mono {l : List Code} {σ : St} {Q Q' : Val → AExit → St → Prop} (h : TriL P G V c around k0 l σ Q) (hq : ∀ V' ex σ', Q V' ex σ' → Q' V' ex σ') : TriL P G V c around k0 l σ Q' :=
  ⟨fun hS hr n => wpL_mono (h.go_ hS hr n) fun _ _ _ ⟨V', ex, σ', β', q, h1⟩ => ⟨V', ex, σ', β', hq _ _ _ q, h1⟩⟩
end
end Go.Tc
