/- from the evaluator to a call's contract; facts that are computed apart. -/
import Derived.Test.YtjmjbjnbfodalaaGreatTcDraw
import Derived.ChangeFn
set_option linter.unusedSimpArgs false
set_option linter.unusedVariables false
set_option linter.unusedSectionVars false
namespace Go.Tc
variable [Val]

section
variable {P : Program} {G : Nat} {E : Env}

/-- equal entries, blocks. -/
def AEnt.beq : AEnt → AEnt → Bool
  | ⟨k, v, b⟩, ⟨k', v', b'⟩ => match AV.beq k k' with
    | true => match AV.beq v v' with
      | true => b.beq b'
      | false => false
    | false => false
def entsBeq : List AEnt → List AEnt → Bool
  | [], [] => true
  | a :: l, b :: m => match AEnt.beq a b with
    | true => entsBeq l m
    | false => false
  | _, _ => false
/-- equal temporaries, loops whose code is named. -/
def tmpsBeq : List (Nat × AV) → List (Nat × AV) → Bool
  | [], [] => true
  | (t, v) :: l, (u, w) :: m => match t.beq u with
    | true => match AV.beq v w with
      | true => tmpsBeq l m
      | false => false
    | false => false
  | _, _ => false
def natsBeq : List Nat → List Nat → Bool
  | [], [] => true
  | a :: l, b :: m => match a.beq b with
    | true => natsBeq l m
    | false => false
  | _, _ => false
def LRef.beq : LRef → LRef → Bool
  | .at_ f p, .at_ g q => match f.beq g with
    | true => natsBeq p q
    | false => false
  | _, _ => false
def pendBeq : Option Code → Option Code → Bool
  | none, none => true
  | some .ret, some .ret => true
  | some (.exit a), some (.exit b) => a.beq b
  | some (.goto a), some (.goto b) => a.beq b
  | _, _ => false
def Ctx.beq : Ctx → Ctx → Bool
  | ⟨a, b, c⟩, ⟨a', b', c'⟩ => match a.beq a' with
    | true => match b.beq b' with
      | true => c.beq c'
      | false => false
    | false => false
def ALoop.beq : ALoop → ALoop → Bool
  | ⟨s, p, c, ⟨v, l⟩, r, d⟩, ⟨s', p', c', ⟨v', l'⟩, r', d'⟩ => decide (s = s') && pendBeq p p' && Ctx.beq c c' && tmpsBeq v v' && tmpsBeq l l' && LRef.beq r r' && d.beq d'
def AObj.beq : AObj → AObj → Bool
  | .row c e k, .row c' e' k' => match AV.beqs c c' with
    | true => match Nat.beq e e' with
      | true => decide (k = k')
      | false => false
    | false => false
  | .map es cl, .map es' cl' => match entsBeq es es' with
    | true => Nat.beq cl cl'
    | false => false
  | .lrow ks t e k, .lrow ks' t' e' k' => match CK.beqs ks ks' with
    | true => match Tm.beq t t' with
      | true => match Nat.beq e e' with
        | true => decide (k = k')
        | false => false
      | false => false
    | false => false
  | .lmap k v t, .lmap k' v' t' => match CK.beq k k' with
    | true => match CK.beq v v' with
      | true => Tm.beq t t'
      | false => false
    | false => false
  | .loop a, .loop b => ALoop.beq a b
  | _, _ => false
omit [Val] in
theorem AEnt.beq_eq {a b : AEnt} (h : AEnt.beq a b = true) : a = b := by
  cases a; cases b
  simp only [AEnt.beq] at h
  split at h
  · rename_i h1
    split at h
    · rename_i h2
      rw [AV.beq_eq _ _ h1, AV.beq_eq _ _ h2, Nat.eq_of_beq_eq_true h]
    · cases h
  · cases h
omit [Val] in
theorem entsBeq_eq : ∀ {l m : List AEnt}, entsBeq l m = true → l = m
  | [], [], _ => rfl
  | a :: l, b :: m, h => by
    simp only [entsBeq] at h
    split at h
    · rename_i h1
      rw [AEnt.beq_eq h1, entsBeq_eq h]
    · cases h
  | [], _ :: _, h => by cases h
  | _ :: _, [], h => by cases h
omit [Val] in
theorem tmpsBeq_eq : ∀ {l m : List (Nat × AV)}, tmpsBeq l m = true → l = m
  | [], [], _ => rfl
  | (t, v) :: l, (u, w) :: m, h => by
    simp only [tmpsBeq] at h
    split at h
    · rename_i h1
      split at h
      · rename_i h2
        rw [Nat.eq_of_beq_eq_true h1, AV.beq_eq _ _ h2, tmpsBeq_eq h]
      · cases h
    · cases h
  | [], _ :: _, h => by cases h
  | _ :: _, [], h => by cases h
omit [Val] in
theorem natsBeq_eq : ∀ {l m : List Nat}, natsBeq l m = true → l = m
  | [], [], _ => rfl
  | a :: l, b :: m, h => by
    simp only [natsBeq] at h
    split at h
    · rename_i h1; rw [Nat.eq_of_beq_eq_true h1, natsBeq_eq h]
    · cases h
  | [], _ :: _, h => by cases h
  | _ :: _, [], h => by cases h
omit [Val] in
theorem LRef.beq_eq {a b : LRef} (h : LRef.beq a b = true) : a = b := by
  cases a <;> cases b <;> simp only [LRef.beq, Bool.false_eq_true] at h
  split at h
  · rename_i h1; rw [Nat.eq_of_beq_eq_true h1, natsBeq_eq h]
  · cases h
omit [Val] in
theorem pendBeq_eq {a b : Option Code} (h : pendBeq a b = true) : a = b := by
  unfold pendBeq at h
  split at h
  · rfl
  · rfl
  · rw [Nat.eq_of_beq_eq_true h]
  · rw [Nat.eq_of_beq_eq_true h]
  · cases h
omit [Val] in
theorem Ctx.beq_eq {a b : Ctx} (h : Ctx.beq a b = true) : a = b := by
  cases a; cases b
  simp only [Ctx.beq] at h
  split at h
  · rename_i h1
    split at h
    · rename_i h2; rw [Nat.eq_of_beq_eq_true h1, Nat.eq_of_beq_eq_true h2, Nat.eq_of_beq_eq_true h]
    · cases h
  · cases h
omit [Val] in
theorem ALoop.beq_eq {a b : ALoop} (h : ALoop.beq a b = true) : a = b := by
  obtain ⟨s, p, c, ⟨v, l⟩, r, d⟩ := a
  obtain ⟨s', p', c', ⟨v', l'⟩, r', d'⟩ := b
  simp only [ALoop.beq, Bool.and_eq_true, decide_eq_true_eq] at h
  obtain ⟨⟨⟨⟨⟨⟨rfl, h2⟩, h3⟩, h4⟩, h5⟩, h6⟩, h7⟩ := h
  rw [pendBeq_eq h2, Ctx.beq_eq h3, tmpsBeq_eq h4, tmpsBeq_eq h5, LRef.beq_eq h6, Nat.eq_of_beq_eq_true h7]
omit [Val] in
theorem AObj.beq_eq {a b : AObj} (h : AObj.beq a b = true) : a = b := by
  unfold AObj.beq at h
  split at h
  · split at h
    · rename_i h1
      split at h
      · rename_i h2
        rw [AV.beqs_eq _ _ h1, Nat.eq_of_beq_eq_true h2, of_decide_eq_true h]
      · cases h
    · cases h
  · split at h
    · rename_i h1
      rw [entsBeq_eq h1, Nat.eq_of_beq_eq_true h]
    · cases h
  · split at h
    · rename_i h1
      split at h
      · rename_i h2
        split at h
        · rename_i h3
          rw [CK.beqs_eq _ _ h1, Tm.beq_eq _ _ h2, Nat.eq_of_beq_eq_true h3, of_decide_eq_true h]
        · cases h
      · cases h
    · cases h
  · split at h
    · rename_i h1
      split at h
      · rename_i h2
        rw [CK.beq_eq _ _ h1, CK.beq_eq _ _ h2, Tm.beq_eq _ _ h]
      · cases h
    · cases h
  · rw [ALoop.beq_eq h]
  · cases h

/-- a call that is computed apart: of a function, at values, where so many blocks have been laid, beside blocks that lie so; its answer, and the blocks that are of use behind it. -/
structure Fact where
  f : FuncId
  args : List AV
  next : Nat
  pre : List (Nat × AObj)
  r : AV
  objs : List (Nat × AObj)
  next' : Nat

def graft : List (Nat × AObj) → Tr AObj → Tr AObj
  | [], t => t
  | (b, o) :: l, t => graft l (t.put b o)
def wipe : List (Nat × AObj) → Tr AObj → Tr AObj
  | [], t => t
  | (b, _) :: l, t => wipe l (t.del b)

omit [Val] in
theorem graft_get : ∀ (l : List (Nat × AObj)) (t : Tr AObj) (x : Nat) (o : AObj), (graft l t).get x = some o → (x, o) ∈ l ∨ t.get x = some o
  | [], t, x, o, h => .inr h
  | (b, ob) :: l, t, x, o, h => by
    rcases graft_get l _ x o h with h | h
    · exact .inl (by simp [h])
    · rw [Tr.get_put] at h
      split at h
      · rename_i e; cases h; subst e; exact .inl (by simp)
      · exact .inr h
omit [Val] in
theorem wipe_get : ∀ (l : List (Nat × AObj)) (t : Tr AObj) (x : Nat) (o : AObj), (wipe l t).get x = some o → t.get x = some o ∧ ∀ o', (x, o') ∉ l
  | [], t, x, o, h => ⟨h, fun _ h => by cases h⟩
  | (b, ob) :: l, t, x, o, h => by
    obtain ⟨h1, h2⟩ := wipe_get l _ x o h
    rw [Tr.get_del] at h1
    split at h1
    · cases h1
    · rename_i e
      refine ⟨h1, fun o' hm => ?_⟩
      rcases List.mem_cons.1 hm with hm | hm
      · cases hm; exact e rfl
      · exact h2 o' hm

/-- do these blocks lie so? -/
def liesSo (H : AHeap) : List (Nat × AObj) → Bool
  | [] => true
  | (b, o) :: l => match H.get b with
    | some o' => match AObj.beq o' o with
      | true => liesSo H l
      | false => false
    | none => false
omit [Val] in
theorem liesSo_get {H : AHeap} : ∀ {l : List (Nat × AObj)}, liesSo H l = true → ∀ b o, (b, o) ∈ l → H.get b = some o
  | (b, o) :: l, h, b', o', hm => by
    simp only [liesSo] at h
    split at h
    · rename_i o1 h1
      split at h
      · rename_i h2
        rcases List.mem_cons.1 hm with hm | hm
        · cases hm; rw [h1, AObj.beq_eq h2]
        · exact liesSo_get h b' o' hm
      · cases h
    · cases h

def findFact (f : FuncId) (args : List AV) (H : AHeap) : List Fact → Option (AV × AHeap)
  | [] => none
  | x :: l => match x.f.beq f with
    | true => match x.next.beq H.next with
      | true => match AV.beqs x.args args with
        | true => match liesSo H x.pre with
          | true => some (x.r, ⟨graft x.objs (wipe x.pre H.objs), x.next'⟩)
          | false => findFact f args H l
        | false => findFact f args H l
      | false => findFact f args H l
    | false => findFact f args H l

/-- what lies ahead of a fact's call, and behind it. -/
def Fact.ahead (x : Fact) : AHeap := ⟨graft x.pre .leaf, x.next⟩
def Fact.behind (x : Fact) : AHeap := ⟨graft x.objs .leaf, x.next'⟩
/-- what a fact says of the program. -/
structure Fact.Ok (P : Program) (G : Nat) (x : Fact) : Prop where
  run : ∀ {β : Pl} {w : World} {vs : List Value}, WR G β x.ahead.get x.ahead.next w → VRs β x.args vs →
  (∀ w0, (callFunc x.f vs.toArray).run P w0 = .ok (.enter x.f vs.toArray) w0) ∧ ∀ n, CallsIn Fence.wide n P x.f vs.toArray w (RetPost G β x.ahead w x.r x.behind)

omit [Val] in
theorem findFact_mem {f : FuncId} {args : List AV} {H : AHeap} {r : AV × AHeap} : ∀ {l : List Fact}, findFact f args H l = some r → ∃ x ∈ l, x.f = f ∧ x.args = args ∧ x.next = H.next ∧ liesSo H x.pre = true ∧ r = (x.r, ⟨graft x.objs (wipe x.pre H.objs), x.next'⟩)
  | [], h => by cases h
  | x :: l, h => by
    simp only [findFact] at h
    split at h
    · rename_i h1
      split at h
      · rename_i h2
        split at h
        · rename_i h3
          split at h
          · rename_i h4
            cases h
            exact ⟨x, by simp, Nat.eq_of_beq_eq_true h1, AV.beqs_eq _ _ h3, Nat.eq_of_beq_eq_true h2, h4, rfl⟩
          · obtain ⟨y, h3, h4⟩ := findFact_mem h; exact ⟨y, by simp [h3], h4⟩
        · obtain ⟨y, h3, h4⟩ := findFact_mem h; exact ⟨y, by simp [h3], h4⟩
      · obtain ⟨y, h3, h4⟩ := findFact_mem h; exact ⟨y, by simp [h3], h4⟩
    · obtain ⟨y, h3, h4⟩ := findFact_mem h; exact ⟨y, by simp [h3], h4⟩

def Env.know (E : Env) (l : List Fact) : Env := { exts := E.exts, prim := fun f args H => findFact f args H l, nf := E.nf, kinds := E.kinds, code := E.code }

theorem EnvOk.know (hE : EnvOk P G E) {l : List Fact} (hl : ∀ x ∈ l, x.Ok P G) : EnvOk P G (E.know l) := by
  refine ⟨hE.glob, hE.mixed, hE.nf, hE.ext, hE.code, hE.names, ?_⟩
  intro f args H r H' h β w vs hw ha
  obtain ⟨x, hx, rfl, rfl, hnx, hlie, hr⟩ := findFact_mem h
  cases hr
  have g1 : ∀ b o, x.ahead.get b = some o → (b, o) ∈ x.pre := by
    intro b o hb
    rcases graft_get _ _ b o hb with h | h
    · exact h
    · exact nomatch (show (none : Option AObj) = some o from h)
  have s1 : ∀ b o, x.ahead.get b = some o → H.get b = some o := fun b o hb => liesSo_get hlie b o (g1 b o hb)
  have g2 : ∀ b o, (AHeap.mk (wipe x.pre H.objs) x.next).get b = some o → H.get b = some o ∧ ∀ o', (b, o') ∉ x.pre := fun b o hb => wipe_get _ _ b o hb
  have hw0 : WR G β x.ahead.get x.ahead.next w := by
    show WR G β x.ahead.get x.next w
    rw [hnx]
    exact hw.less s1
  obtain ⟨h1, h2⟩ := (hl x hx).run hw0 ha
  refine ⟨h1, fun k => CallsIn.mono (h2 k) fun e w' he => ?_⟩
  cases e with
  | panicked ch => exact he.elim
  | outgrown => exact he.elim
  | returned u =>
    obtain ⟨β1, k1, k2, k3⟩ := he
    have k3' : Tran β x.ahead.get H.next w β1 x.behind.get x.next' w' := by
      have := k3
      change Tran β x.ahead.get x.next w β1 x.behind.get x.next' w' at this
      rwa [hnx] at this
    have k2' : WR G β1 x.behind.get x.next' w' := k2
    have hd : ∀ b o, (AHeap.mk (wipe x.pre H.objs) x.next).get b = some o → x.ahead.get b = none := by
      intro b o hb
      cases hg : x.ahead.get b with
      | none => rfl
      | some o' => exact absurd (g1 b o' hg) ((g2 b o hb).2 o')
    obtain ⟨z1, z2⟩ := hw.frame s1 (fun b o hb => (g2 b o hb).1) hd k3' k2'
    have hsub : ∀ b o, (AHeap.mk (graft x.objs (wipe x.pre H.objs)) x.next').get b = some o → (match (AHeap.mk (wipe x.pre H.objs) x.next).get b with | some o => some o | none => x.behind.get b) = some o := by
      intro b o hb
      cases hg : (AHeap.mk (wipe x.pre H.objs) x.next).get b with
      | none =>
        simp only
        -- what is laid is what lies behind
        have key : ∀ (l : List (Nat × AObj)) (t t' : Tr AObj), (∀ o, t.get b = some o → t'.get b = some o) → (graft l t).get b = some o → (graft l t').get b = some o := by
          intro l
          induction l with
          | nil => intro t t' ht h; exact ht o h
          | cons q l ih =>
            intro t t' ht h
            obtain ⟨b0, o0⟩ := q
            refine ih _ _ (fun o1 h1 => ?_) h
            rw [Tr.get_put] at h1 ⊢
            split at h1
            · rename_i e; rw [if_pos e]; exact h1
            · rename_i e; rw [if_neg e]; exact ht o1 h1
        exact key x.objs (wipe x.pre H.objs) .leaf (fun o1 h1 => by have : (AHeap.mk (wipe x.pre H.objs) x.next).get b = some o1 := h1; rw [hg] at this; cases this) hb
      | some o2 =>
        simp only
        rcases graft_get _ _ b o hb with h | h
        · exfalso
          have hlt : b < H.next := by
            by_cases hl : b < H.next
            · exact hl
            · rcases hw.some_ b o2 (g2 b o2 hg).1 with ⟨p, hp, -⟩ | ⟨-, hlt, -⟩
              · rw [hw.fresh b (Nat.le_of_not_lt hl)] at hp; cases hp
              · exact absurd hlt hl
          have h0 := k3'.dom b hlt (hd b o2 hg)
          -- but something lies there behind
          have key : ∀ (l : List (Nat × AObj)) (t : Tr AObj), ((b, o) ∈ l ∨ (t.get b).isSome = true) → ((graft l t).get b).isSome = true := by
            intro l
            induction l with
            | nil => intro t ht; rcases ht with h | h
                     · cases h
                     · exact h
            | cons q l ih =>
              intro t ht
              obtain ⟨b0, o0⟩ := q
              refine ih _ ?_
              rw [Tr.get_put]
              rcases ht with h | h
              · rcases List.mem_cons.1 h with h | h
                · cases h; right; simp
                · exact .inl h
              · right; split
                · rfl
                · exact h
          have := key x.objs .leaf (.inl h)
          rw [show (graft x.objs .leaf).get b = none from h0] at this; cases this
        · have : (AHeap.mk (wipe x.pre H.objs) x.next).get b = some o := h
          rw [hg] at this; exact this
    refine ⟨β1, k1, ?_, ?_⟩
    · exact z1.less hsub
    · exact z2.less hsub

/-- does a call answer so? -/
def answers (o : Option (AV × AHeap)) (x : Fact) : Bool :=
  match o with
  | some (v, H1) => match AV.beq v x.r with
    | true => match H1.next.beq x.next' with
      | true => liesSo H1 x.objs
      | false => false
    | false => false
  | none => false

theorem Fact.ok_ev (hE : EnvOk P G E) {n : Nat} {x : Fact} {H1 : AHeap} (h : (ev P E n).call x.f x.args x.ahead = some (x.r, H1)) (hn : x.next' = H1.next) (hb : ∀ b o, (b, o) ∈ x.objs → H1.get b = some o) : x.Ok P G := by
  refine ⟨?_⟩
  intro β w vs hw ha
  obtain ⟨h1, h2⟩ := (ev_right hE n).call h hw ha
  refine ⟨h1, fun k => CallsIn.mono (h2 k) fun e w' he => ?_⟩
  cases e with
  | panicked ch => exact he.elim
  | outgrown => exact he.elim
  | returned u =>
    obtain ⟨β1, k1, k2, k3⟩ := he
    have hs : ∀ b o, x.behind.get b = some o → H1.get b = some o := by
      intro b o hbo
      rcases graft_get _ _ b o hbo with h | h
      · exact hb b o h
      · exact nomatch (show (none : Option AObj) = some o from h)
    refine ⟨β1, k1, ?_, ?_⟩
    · show WR G β1 x.behind.get x.next' w'
      rw [hn]; exact k2.less hs
    · show Tran β _ _ w β1 x.behind.get x.next' w'
      rw [hn]; exact k3.less hs

theorem Fact.ok_of (hE : EnvOk P G E) {n : Nat} {x : Fact} (h : answers ((ev P E n).call x.f x.args x.ahead) x = true) : x.Ok P G := by
  unfold answers at h
  split at h
  · rename_i v H1 hev
    split at h
    · rename_i h1
      split at h
      · rename_i h2
        exact Fact.ok_ev hE (by rw [hev, AV.beq_eq _ _ h1]) (Nat.eq_of_beq_eq_true h2).symm (fun b o hb => liesSo_get h b o hb)
      · cases h
    · cases h
  · cases h

/-- cells that are alike, told by how many. -/
def rle : List (Nat × AV) → List AV
  | [] => []
  | (n, v) :: l => List.replicate n v ++ rle l

/-- a heap of the program's variables alone. -/
def Fixed (H : AHeap) : Prop := ∀ b o, H.get b = some o → o.wr = false

/-- **A call's contract, computed**: of a heap that holds the program's variables alone: what lay in memory lies there as it was. -/
theorem calls_of_ev (hE : EnvOk P G E) {n : Nat} {f : FuncId} {args : List AV} {r : AV} {H0 H1 : AHeap} (h : (ev P E n).call f args H0 = some (r, H1)) (hf : Fixed H0) {β : Pl} {w : World} {vs : List Value} (hw : WR G β H0.get H0.next w) (ha : VRs β args vs) :
    Calls P f vs.toArray w fun e w' => ∃ β' u, e = .returned u ∧ VR β' r u ∧ w.heap.size ≤ w'.heap.size ∧ (∀ c, c < w.heap.size → w'.heap[c]? = w.heap[c]?) ∧ w'.os = w.os ∧ w'.output = w.output := by
  obtain ⟨-, h2⟩ := (ev_right hE n).call h hw ha
  refine callsIn_wide.1 (CallsIn.mono (h2 0) fun e w' he => ?_)
  cases e with
  | panicked ch => exact he.elim
  | outgrown => exact he.elim
  | returned u =>
    obtain ⟨β1, k1, k2, k3⟩ := he
    exact ⟨β1, u, rfl, k1, k3.size, fun c hc => k3.kept c hc fun b o p hb ho => (by rw [hf b o hb] at ho; cases ho), k3.os, k3.out⟩

end
end Go.Tc
