/- from the evaluator to a call's contract; facts that are computed apart. -/
import Derived.Test.YtjmjbjnbfodalaaGreatTcDraw
import Derived.ChangeFn
import Derived.OpenShut
import Derived.ProofKit
import Derived.Stop.Joined
import Derived.MakeChecks
set_option linter.unusedSimpArgs false
set_option linter.unusedVariables false
set_option linter.unusedSectionVars false
namespace Go.Tc
variable [Val]
section
variable {P : Program} {G : Nat} {E : Env}
def AEnt.beq : AEnt → AEnt → Bool
  | ⟨k, v, b⟩, ⟨k', v', b'⟩ => match AV.beq k k' with
    | true => match AV.beq v v' with
      | true => b.beq b'
      | false => false
    | false => false
def entsBeq : List AEnt → List AEnt → Bool
  | [], [] => true
  | a :: l, b :: m => match AEnt.beq a b with
    | true => entsBeq l m
    | false => false
  | _, _ => false
def tmpsBeq : List (Nat × AV) → List (Nat × AV) → Bool
  | [], [] => true
  | (t, v) :: l, (u, w) :: m => match t.beq u with
    | true => match AV.beq v w with
      | true => tmpsBeq l m
      | false => false
    | false => false
  | _, _ => false
def natsBeq : List Nat → List Nat → Bool
  | [], [] => true
  | a :: l, b :: m => match a.beq b with
    | true => natsBeq l m
    | false => false
  | _, _ => false
def LRef.beq : LRef → LRef → Bool
  | .at_ f p, .at_ g q => match f.beq g with
    | true => natsBeq p q
    | false => false
  | _, _ => false
def pendBeq : Option Code → Option Code → Bool
  | none, none => true
  | some .ret, some .ret => true
  | some (.exit a), some (.exit b) => a.beq b
  | some (.goto a), some (.goto b) => a.beq b
  | _, _ => false
def Ctx.beq : Ctx → Ctx → Bool
  | ⟨a, b, c⟩, ⟨a', b', c'⟩ => match a.beq a' with
    | true => match b.beq b' with
      | true => c.beq c'
      | false => false
    | false => false
def ALoop.beq : ALoop → ALoop → Bool
  | ⟨s, p, c, ⟨v, l⟩, r, d⟩, ⟨s', p', c', ⟨v', l'⟩, r', d'⟩ => decide (s = s') && pendBeq p p' && Ctx.beq c c' && tmpsBeq v v' && tmpsBeq l l' && LRef.beq r r' && d.beq d'
def AObj.beq : AObj → AObj → Bool
  | .row c e k, .row c' e' k' => match AV.beqs c c' with
    | true => match Nat.beq e e' with
      | true => decide (k = k')
      | false => false
    | false => false
  | .map es cl, .map es' cl' => match entsBeq es es' with
    | true => Nat.beq cl cl'
    | false => false
  | .lrow ks t e k, .lrow ks' t' e' k' => match CK.beqs ks ks' with
    | true => match Tm.beq t t' with
      | true => match Nat.beq e e' with
        | true => decide (k = k')
        | false => false
      | false => false
    | false => false
  | .lmap k v t, .lmap k' v' t' => match CK.beq k k' with
    | true => match CK.beq v v' with
      | true => Tm.beq t t'
      | false => false
    | false => false
  | .loop a, .loop b => ALoop.beq a b
  | _, _ => false
omit [Val] in
theorem AEnt.beq_eq {a b : AEnt} (h : AEnt.beq a b = true) : a = b := by
  cases a; cases b
  simp only [AEnt.beq] at h
  split at h
  · rename_i h1
    split at h
    · rename_i h2
      rw [AV.beq_eq _ _ h1, AV.beq_eq _ _ h2, Nat.eq_of_beq_eq_true h]
    · cases h
  · cases h
omit [Val] in
theorem entsBeq_eq : ∀ {l m : List AEnt}, entsBeq l m = true → l = m
  | [], [], _ => rfl
  | a :: l, b :: m, h => by
    simp only [entsBeq] at h
    split at h
    · rename_i h1
      rw [AEnt.beq_eq h1, entsBeq_eq h]
    · cases h
  | [], _ :: _, h => by cases h
  | _ :: _, [], h => by cases h
omit [Val] in
theorem tmpsBeq_eq : ∀ {l m : List (Nat × AV)}, tmpsBeq l m = true → l = m
  | [], [], _ => rfl
  | (t, v) :: l, (u, w) :: m, h => by
    simp only [tmpsBeq] at h
    split at h
    · rename_i h1
      split at h
      · rename_i h2
        rw [Nat.eq_of_beq_eq_true h1, AV.beq_eq _ _ h2, tmpsBeq_eq h]
      · cases h
    · cases h
  | [], _ :: _, h => by cases h
  | _ :: _, [], h => by cases h
omit [Val] in
theorem natsBeq_eq : ∀ {l m : List Nat}, natsBeq l m = true → l = m
  | [], [], _ => rfl
  | a :: l, b :: m, h => by
    simp only [natsBeq] at h
    split at h
    · rename_i h1; rw [Nat.eq_of_beq_eq_true h1, natsBeq_eq h]
    · cases h
  | [], _ :: _, h => by cases h
  | _ :: _, [], h => by cases h
omit [Val] in
theorem LRef.beq_eq {a b : LRef} (h : LRef.beq a b = true) : a = b := by
  cases a <;> cases b <;> simp only [LRef.beq, Bool.false_eq_true] at h
  split at h
  · rename_i h1; rw [Nat.eq_of_beq_eq_true h1, natsBeq_eq h]
  · cases h
omit [Val] in
theorem pendBeq_eq {a b : Option Code} (h : pendBeq a b = true) : a = b := by
  unfold pendBeq at h
  split at h
  · rfl
  · rfl
  · rw [Nat.eq_of_beq_eq_true h]
  · rw [Nat.eq_of_beq_eq_true h]
  · cases h
omit [Val] in
theorem Ctx.beq_eq {a b : Ctx} (h : Ctx.beq a b = true) : a = b := by
  cases a; cases b
  simp only [Ctx.beq] at h
  split at h
  · rename_i h1
    split at h
    · rename_i h2; rw [Nat.eq_of_beq_eq_true h1, Nat.eq_of_beq_eq_true h2, Nat.eq_of_beq_eq_true h]
    · cases h
  · cases h
omit [Val] in
theorem ALoop.beq_eq {a b : ALoop} (h : ALoop.beq a b = true) : a = b := by
  obtain ⟨s, p, c, ⟨v, l⟩, r, d⟩ := a
  obtain ⟨s', p', c', ⟨v', l'⟩, r', d'⟩ := b
  simp only [ALoop.beq, Bool.and_eq_true, decide_eq_true_eq] at h
  obtain ⟨⟨⟨⟨⟨⟨rfl, h2⟩, h3⟩, h4⟩, h5⟩, h6⟩, h7⟩ := h
  rw [pendBeq_eq h2, Ctx.beq_eq h3, tmpsBeq_eq h4, tmpsBeq_eq h5, LRef.beq_eq h6, Nat.eq_of_beq_eq_true h7]
omit [Val] in
theorem AObj.beq_eq {a b : AObj} (h : AObj.beq a b = true) : a = b := by
  unfold AObj.beq at h
  split at h
  · split at h
    · rename_i h1
      split at h
      · rename_i h2
        rw [AV.beqs_eq _ _ h1, Nat.eq_of_beq_eq_true h2, of_decide_eq_true h]
      · cases h
    · cases h
  · split at h
    · rename_i h1
      rw [entsBeq_eq h1, Nat.eq_of_beq_eq_true h]
    · cases h
  · split at h
    · rename_i h1
      split at h
      · rename_i h2
        split at h
        · rename_i h3
          rw [CK.beqs_eq _ _ h1, Tm.beq_eq _ _ h2, Nat.eq_of_beq_eq_true h3, of_decide_eq_true h]
        · cases h
      · cases h
    · cases h
  · split at h
    · rename_i h1
      split at h
      · rename_i h2
        rw [CK.beq_eq _ _ h1, CK.beq_eq _ _ h2, Tm.beq_eq _ _ h]
      · cases h
    · cases h
  · rw [ALoop.beq_eq h]
  · cases h
structure Fact where
  f : FuncId
  args : List AV
  next : Nat
  pre : List (Nat × AObj)
  r : AV
  objs : List (Nat × AObj)
  next' : Nat
def graft : List (Nat × AObj) → Tr AObj → Tr AObj
  | [], t => t
  | (b, o) :: l, t => graft l (t.put b o)
def wipe : List (Nat × AObj) → Tr AObj → Tr AObj
  | [], t => t
  | (b, _) :: l, t => wipe l (t.del b)
omit [Val] in
theorem graft_get : ∀ (l : List (Nat × AObj)) (t : Tr AObj) (x : Nat) (o : AObj), (graft l t).get x = some o → (x, o) ∈ l ∨ t.get x = some o
  | [], t, x, o, h => .inr h
  | (b, ob) :: l, t, x, o, h => by
    rcases graft_get l _ x o h with h | h
    · exact .inl (by simp [h])
    · rw [Tr.get_put] at h
      split at h
      · rename_i e; cases h; subst e; exact .inl (by simp)
      · exact .inr h
omit [Val] in
theorem wipe_get : ∀ (l : List (Nat × AObj)) (t : Tr AObj) (x : Nat) (o : AObj), (wipe l t).get x = some o → t.get x = some o ∧ ∀ o', (x, o') ∉ l
  | [], t, x, o, h => ⟨h, fun _ h => by cases h⟩
  | (b, ob) :: l, t, x, o, h => by
    obtain ⟨h1, h2⟩ := wipe_get l _ x o h
    rw [Tr.get_del] at h1
    split at h1
    · cases h1
    · rename_i e
      refine ⟨h1, fun o' hm => ?_⟩
      rcases List.mem_cons.1 hm with hm | hm
      · cases hm; exact e rfl
      · exact h2 o' hm
def liesSo (H : AHeap) : List (Nat × AObj) → Bool
  | [] => true
  | (b, o) :: l => match H.get b with
    | some o' => match AObj.beq o' o with
      | true => liesSo H l
      | false => false
    | none => false
omit [Val] in
theorem liesSo_get {H : AHeap} : ∀ {l : List (Nat × AObj)}, liesSo H l = true → ∀ b o, (b, o) ∈ l → H.get b = some o
  | (b, o) :: l, h, b', o', hm => by
    simp only [liesSo] at h
    split at h
    · rename_i o1 h1
      split at h
      · rename_i h2
        rcases List.mem_cons.1 hm with hm | hm
        · cases hm; rw [h1, AObj.beq_eq h2]
        · exact liesSo_get h b' o' hm
      · cases h
    · cases h
def findFact (f : FuncId) (args : List AV) (H : AHeap) : List Fact → Option (AV × AHeap)
  | [] => none
  | x :: l => match x.f.beq f with
    | true => match x.next.beq H.next with
      | true => match AV.beqs x.args args with
        | true => match liesSo H x.pre with
          | true => some (x.r, ⟨graft x.objs (wipe x.pre H.objs), x.next'⟩)
          | false => findFact f args H l
        | false => findFact f args H l
      | false => findFact f args H l
    | false => findFact f args H l
def Fact.ahead (x : Fact) : AHeap := ⟨graft x.pre .leaf, x.next⟩
def Fact.behind (x : Fact) : AHeap := ⟨graft x.objs .leaf, x.next'⟩
structure Fact.Ok (P : Program) (G : Nat) (x : Fact) : Prop where
  run : ∀ {β : Pl} {w : World} {vs : List Value}, WR G β x.ahead.get x.ahead.next w → VRs β x.args vs →
  (∀ w0, (callFunc x.f vs.toArray).run P w0 = .ok (.enter x.f vs.toArray) w0) ∧ ∀ n, CallsIn Fence.wide n P x.f vs.toArray w (RetPost G β x.ahead w x.r x.behind)
omit [Val] in
theorem findFact_mem {f : FuncId} {args : List AV} {H : AHeap} {r : AV × AHeap} : ∀ {l : List Fact}, findFact f args H l = some r → ∃ x ∈ l, x.f = f ∧ x.args = args ∧ x.next = H.next ∧ liesSo H x.pre = true ∧ r = (x.r, ⟨graft x.objs (wipe x.pre H.objs), x.next'⟩)
  | [], h => by cases h
  | x :: l, h => by
    simp only [findFact] at h
    split at h
    · rename_i h1
      split at h
      · rename_i h2
        split at h
        · rename_i h3
          split at h
          · rename_i h4
            cases h
            exact ⟨x, by simp, Nat.eq_of_beq_eq_true h1, AV.beqs_eq _ _ h3, Nat.eq_of_beq_eq_true h2, h4, rfl⟩
          · obtain ⟨y, h3, h4⟩ := findFact_mem h; exact ⟨y, by simp [h3], h4⟩
        · obtain ⟨y, h3, h4⟩ := findFact_mem h; exact ⟨y, by simp [h3], h4⟩
      · obtain ⟨y, h3, h4⟩ := findFact_mem h; exact ⟨y, by simp [h3], h4⟩
    · obtain ⟨y, h3, h4⟩ := findFact_mem h; exact ⟨y, by simp [h3], h4⟩
def Env.know (E : Env) (l : List Fact) : Env := { exts := E.exts, prim := fun f args H => findFact f args H l, nf := E.nf, kinds := E.kinds, code := E.code }
theorem EnvOk.know (hE : EnvOk P G E) {l : List Fact} (hl : ∀ x ∈ l, x.Ok P G) : EnvOk P G (E.know l) := by
  refine ⟨hE.glob, hE.mixed, hE.nf, hE.ext, hE.code, hE.names, ?_⟩
  intro f args H r H' h β w vs hw ha
  obtain ⟨x, hx, rfl, rfl, hnx, hlie, hr⟩ := findFact_mem h
  cases hr
  have g1 : ∀ b o, x.ahead.get b = some o → (b, o) ∈ x.pre := by
    intro b o hb
    rcases graft_get _ _ b o hb with h | h
    · exact h
    · exact nomatch (show (none : Option AObj) = some o from h)
  have s1 : ∀ b o, x.ahead.get b = some o → H.get b = some o := fun b o hb => liesSo_get hlie b o (g1 b o hb)
  have g2 : ∀ b o, (AHeap.mk (wipe x.pre H.objs) x.next).get b = some o → H.get b = some o ∧ ∀ o', (b, o') ∉ x.pre := fun b o hb => wipe_get _ _ b o hb
  have hw0 : WR G β x.ahead.get x.ahead.next w := by
    show WR G β x.ahead.get x.next w
    rw [hnx]
    exact hw.less s1
  obtain ⟨h1, h2⟩ := (hl x hx).run hw0 ha
  refine ⟨h1, fun k => CallsIn.mono (h2 k) fun e w' he => ?_⟩
  cases e with
  | panicked ch => exact he.elim
  | outgrown => exact he.elim
  | returned u =>
    obtain ⟨β1, k1, k2, k3⟩ := he
    have k3' : Tran β x.ahead.get H.next w β1 x.behind.get x.next' w' := by
      have := k3
      change Tran β x.ahead.get x.next w β1 x.behind.get x.next' w' at this
      rwa [hnx] at this
    have k2' : WR G β1 x.behind.get x.next' w' := k2
    have hd : ∀ b o, (AHeap.mk (wipe x.pre H.objs) x.next).get b = some o → x.ahead.get b = none := by
      intro b o hb
      cases hg : x.ahead.get b with
      | none => rfl
      | some o' => exact absurd (g1 b o' hg) ((g2 b o hb).2 o')
    obtain ⟨z1, z2⟩ := hw.frame s1 (fun b o hb => (g2 b o hb).1) hd k3' k2'
    have hsub : ∀ b o, (AHeap.mk (graft x.objs (wipe x.pre H.objs)) x.next').get b = some o → (match (AHeap.mk (wipe x.pre H.objs) x.next).get b with | some o => some o | none => x.behind.get b) = some o := by
      intro b o hb
      cases hg : (AHeap.mk (wipe x.pre H.objs) x.next).get b with
      | none =>
        simp only
        -- what is laid is what lies behind
        have key : ∀ (l : List (Nat × AObj)) (t t' : Tr AObj), (∀ o, t.get b = some o → t'.get b = some o) → (graft l t).get b = some o → (graft l t').get b = some o := by
          intro l
          induction l with
          | nil => intro t t' ht h; exact ht o h
          | cons q l ih =>
            intro t t' ht h
            obtain ⟨b0, o0⟩ := q
            refine ih _ _ (fun o1 h1 => ?_) h
            rw [Tr.get_put] at h1 ⊢
            split at h1
            · rename_i e; rw [if_pos e]; exact h1
            · rename_i e; rw [if_neg e]; exact ht o1 h1
        exact key x.objs (wipe x.pre H.objs) .leaf (fun o1 h1 => by have : (AHeap.mk (wipe x.pre H.objs) x.next).get b = some o1 := h1; rw [hg] at this; cases this) hb
      | some o2 =>
        simp only
        rcases graft_get _ _ b o hb with h | h
        · exfalso
          have hlt : b < H.next := by
            by_cases hl : b < H.next
            · exact hl
            · rcases hw.some_ b o2 (g2 b o2 hg).1 with ⟨p, hp, -⟩ | ⟨-, hlt, -⟩
              · rw [hw.fresh b (Nat.le_of_not_lt hl)] at hp; cases hp
              · exact absurd hlt hl
          have h0 := k3'.dom b hlt (hd b o2 hg)
          -- but something lies there behind
          have key : ∀ (l : List (Nat × AObj)) (t : Tr AObj), ((b, o) ∈ l ∨ (t.get b).isSome = true) → ((graft l t).get b).isSome = true := by
            intro l
            induction l with
            | nil => intro t ht; rcases ht with h | h
                     · cases h
                     · exact h
            | cons q l ih =>
              intro t ht
              obtain ⟨b0, o0⟩ := q
              refine ih _ ?_
              rw [Tr.get_put]
              rcases ht with h | h
              · rcases List.mem_cons.1 h with h | h
                · cases h; right; simp
                · exact .inl h
              · right; split
                · rfl
                · exact h
          have := key x.objs .leaf (.inl h)
          rw [show (graft x.objs .leaf).get b = none from h0] at this; cases this
        · have : (AHeap.mk (wipe x.pre H.objs) x.next).get b = some o := h
          rw [hg] at this; exact this
    refine ⟨β1, k1, ?_, ?_⟩
    · exact z1.less hsub
    · exact z2.less hsub
def answers (o : Option (AV × AHeap)) (x : Fact) : Bool :=
  match o with
  | some (v, H1) => match AV.beq v x.r with
    | true => match H1.next.beq x.next' with
      | true => liesSo H1 x.objs
      | false => false
    | false => false
  | none => false
theorem Fact.ok_ev (hE : EnvOk P G E) {n : Nat} {x : Fact} {H1 : AHeap} (h : (ev P E n).call x.f x.args x.ahead = some (x.r, H1)) (hn : x.next' = H1.next) (hb : ∀ b o, (b, o) ∈ x.objs → H1.get b = some o) : x.Ok P G := by
  refine ⟨?_⟩
  intro β w vs hw ha
  obtain ⟨h1, h2⟩ := (ev_right hE n).call h hw ha
  refine ⟨h1, fun k => CallsIn.mono (h2 k) fun e w' he => ?_⟩
  cases e with
  | panicked ch => exact he.elim
  | outgrown => exact he.elim
  | returned u =>
    obtain ⟨β1, k1, k2, k3⟩ := he
    have hs : ∀ b o, x.behind.get b = some o → H1.get b = some o := by
      intro b o hbo
      rcases graft_get _ _ b o hbo with h | h
      · exact hb b o h
      · exact nomatch (show (none : Option AObj) = some o from h)
    refine ⟨β1, k1, ?_, ?_⟩
    · show WR G β1 x.behind.get x.next' w'
      rw [hn]; exact k2.less hs
    · show Tran β _ _ w β1 x.behind.get x.next' w'
      rw [hn]; exact k3.less hs
theorem Fact.ok_of (hE : EnvOk P G E) {n : Nat} {x : Fact} (h : answers ((ev P E n).call x.f x.args x.ahead) x = true) : x.Ok P G := by
  unfold answers at h
  split at h
  · rename_i v H1 hev
    split at h
    · rename_i h1
      split at h
      · rename_i h2
        exact Fact.ok_ev hE (by rw [hev, AV.beq_eq _ _ h1]) (Nat.eq_of_beq_eq_true h2).symm (fun b o hb => liesSo_get h b o hb)
      · cases h
    · cases h
  · cases h
def rle : List (Nat × AV) → List AV
  | [] => []
  | (n, v) :: l => List.replicate n v ++ rle l
def Fixed (H : AHeap) : Prop := ∀ b o, H.get b = some o → o.wr = false
end
end Go.Tc
namespace Go.Tc
variable [Val]
def globRows : List (Nat × List AV × TypeId) → List (Nat × AObj)
  | [] => []
  | (i, c, t) :: l => (i, .row c t .glob) :: globRows l
omit [Val] in
theorem globRows_mem : ∀ {l : List (Nat × List AV × TypeId)} {b : Nat} {o : AObj}, (b, o) ∈ globRows l → ∃ c t, (b, c, t) ∈ l ∧ o = .row c t .glob
  | (i, c, t) :: l, b, o, h => by
    rcases List.mem_cons.1 h with h | h
    · cases h; exact ⟨c, t, by simp, rfl⟩
    · obtain ⟨c', t', h1, h2⟩ := globRows_mem h; exact ⟨c', t', by simp [h1], h2⟩
def startHeap (G : Nat) (l : List (Nat × List AV × TypeId)) : AHeap := ⟨graft (globRows l) .leaf, G⟩
def startPl (G : Nat) (w : World) : Pl := ⟨fun i =>
  if i < G then some ⟨i, 0, match w.heap[i]? with | some (.cells cc _ _) => cc.size | _ => 0⟩ else none, fun c => w.heap[c]?⟩
omit [Val] in
theorem startHeap_fixed (G : Nat) (l : List (Nat × List AV × TypeId)) : Fixed (startHeap G l) := by
  intro b o hb
  rcases graft_get _ _ b o hb with h | h
  · obtain ⟨c, t, -, rfl⟩ := globRows_mem h; rfl
  · exact nomatch (show (none : Option AObj) = some o from h)
theorem WR.start {G : Nat} {w : World} {l : List (Nat × List AV × TypeId)} (hG : G ≤ w.heap.size)
    (hl : ∀ i c t, (i, c, t) ∈ l → i < G ∧ ∃ cc lo hi, w.heap[i]? = some (.cells cc t (lo, hi)) ∧ VRs (startPl G w) c cc.toList) :
    WR G (startPl G w) (startHeap G l).get (startHeap G l).next w := by
  refine ⟨fun b hb => ?_, fun b p hb => ?_, fun b o hb => ?_, fun b b' o o' p p' _ _ hp hp' hc => ?_, fun i hi => ?_, Nat.le_refl _, fun c x hx => ⟨hx, fun b ob p hb hwr => ?_⟩⟩
  · have : ¬ b < G := Nat.not_lt.2 hb
    simp [startPl, this]
  · simp only [startPl] at hb
    split at hb
    · cases hb; simp only; omega
    · cases hb
  · rcases graft_get _ _ b o hb with h | h
    · obtain ⟨c, t, hm, rfl⟩ := globRows_mem h
      obtain ⟨h1, cc, lo, hi, h2, h3⟩ := hl b c t hm
      have hlen : c.length = cc.size := by rw [VRs.length h3]; simp
      refine .inl ⟨⟨b, 0, cc.size⟩, by simp [startPl, h1, h2], cc, lo, hi, h2, rfl, by simp; omega, ?_, rfl⟩
      simp only [List.drop_zero]
      rw [List.take_of_length_le (by simp; omega)]
      exact h3
    · exact nomatch (show (none : Option AObj) = some o from h)
  · simp only [startPl] at hp hp'
    split at hp
    · split at hp'
      · cases hp; cases hp'; simpa using hc
      · cases hp'
    · cases hp
  · exact ⟨match w.heap[i]? with | some (.cells cc _ _) => cc.size | _ => 0, if_pos hi⟩
  · rcases graft_get _ _ b ob hb with h | h
    · obtain ⟨c, t, hm, rfl⟩ := globRows_mem h
      cases hwr
    · exact nomatch (show (none : Option AObj) = some ob from h)
section
variable {H : Type} {enc : TypeId × Value → H} {P : Program} {w : World} {base : Nat} {spare : Nat → Bool} {held : Bool} {fuel : Nat} {t : TypeId} {cs : List Value}
end
section
variable {H : Type} {enc : TypeId × Value → H} {P : Program} {w : World} {base : Nat} {spare : Nat → Bool} {held : Bool} {fuel : Nat} {t : TypeId} {cs : List Value}
end
omit [Val] in
theorem keptBut_of_kept {w w' : World} {may : MemPlace → Prop} (ho : w'.os = w.os) (hout : w'.output = w.output) (hk : ∀ c, c < w.heap.size → w'.heap[c]? = w.heap[c]?) : w.keptBut w' may := by
  refine ⟨ho, hout, fun i hi => ?_⟩
  rw [hk i hi]
  cases hx : w.heap[i]? with
  | none => rfl
  | some o =>
    cases o with
    | cells c t fr => exact ⟨rfl, rfl, rfl, fun _ _ => rfl⟩
    | map es cl => exact .inr ⟨rfl, rfl⟩
    | _ => rfl
end Go.Tc
namespace Go.Tc
variable [Val]
section
variable {H : Type} {enc : TypeId × Value → H}
omit [Val] in
theorem handed_shaped {a : Assume} {C : Checked} {os : Os} {f : FuncId} {fn : Func} {s : ChangeSpec} {conds : List PathCond} {apart fresh handsOn again : Bool}
    (own : ownKnob C.prog.godebug = none) (started : os.Started) (noInit : C.prog.inits.idxOf? f = none) (hfn : C.prog.funcs[f]? = some fn)
    (witness : ∃ (w : World) (tape : Tape) (i : Input), w.os = os ∧ (w.forCall tape i).Shaped C.prog ∧ i.vars = [] ∧ Input.okWide C.prog (w.forCall tape i) .any w.heap.size f i ∧
      s.pre6 enc C.prog fn conds apart (w.forCall tape i).memory i.args ∧ a.holds C.prog (lone (Frame.enter C.prog f i.args .normal) [] (w.forCall tape i)))
    (contract : ∀ (W : World) (base : Nat) (args : Array Value) (ds gs : List (DataW H)) (before : List MemPlace), W.ShapedOpen C.prog →
      (∀ (j : Nat) t v, fn.params[j]? = some t → args[j]? = some v → Value.okWide C.prog W .any base t v) →
      DataW.Whole enc C.prog fn.params.toList s.vars apart W args.toList ds gs before →
      Calls C.prog f args W fun e W' => ∃ v, e = .returned v ∧ s.post enc C.prog fn apart fresh handsOn again W args v W') :
    ReturnsInHanded a C os f .any (s.pre6 enc C.prog fn conds apart) (s.post enc C.prog fn apart fresh handsOn again) := by
  refine returnsInHanded_of_calls own started noInit witness ?_
  intro w tape i _ hsh _ hok hpre _
  obtain ⟨_, _, _, fn', hfn', _, _, _, _, hval⟩ := hok
  have e : fn' = fn := Option.some.inj (hfn'.symm.trans hfn)
  subst e
  obtain ⟨⟨ds, gs, before, hw, -⟩, -⟩ := hpre
  have hw' := DataW.Whole.of_heap (w' := w.forCall tape i) (by rfl) hw
  refine (contract (w.forCall tape i) w.heap.size i.args ds gs before hsh hval hw').mono fun e W' ⟨v, he, hp⟩ => ?_
  subst he
  exact ChangeSpec.post_blind hp
end
omit [Val] in
theorem ShapedOpen.lies {P : Program} {w : World} (h : w.ShapedOpen P) {g : Nat} (hg : (decide (g < P.globals.size) && (((begin P (fun _ _ => 0) default).world.heap[g]?).bind Obj.row?).isSome) = true) : g < w.heap.size := by
  rw [Bool.and_eq_true, decide_eq_true_eq] at hg
  obtain ⟨h1, h2⟩ := hg
  obtain ⟨⟨zero, t⟩, hz⟩ := Option.isSome_iff_exists.1 h2
  obtain ⟨cs, hcs, -⟩ := h.1 g zero t h1 hz
  by_cases hl : g < w.heap.size
  · exact hl
  · rw [Array.getElem?_eq_none (by omega)] at hcs; cases hcs
omit [Val] in
theorem and_i {a b : Bool} (h : a = true) (k : b = true) : (a && b) = true := by rw [h, k]; rfl
omit [Val] in
theorem joinedFacts_of {P : Program} {f : FuncId} {fn : Func} {s : ChangeSpec} {c : OpenClaim}
    (prog : (laidOutB P && mapsRowed P && (P.stops == []) && (P.stopKnobs == []) && P.stopsHeard && P.mayEnter) = true)
    (plain : (c.plainKeys == P.plainKeys) = true) (lift : (c.lifted == P.liftsFinal) = true) (make : (P.make == some c.make) = true)
    (place : (c.inPlace == P.inPlace f) = true) (unf : (c.unfollowed == P.unfollowed f) = true) (rec : (c.recurses == P.recurses f) = true) (named : (c.named == P.varsNamed f) = true)
    (a : (c.wf (OpenSpec.ofChange s) && fn.params.all (P.readableRec ·) && namedTie P c.named s.vars && (c.stops == []) && (c.knobs == [])) = true)
    (b : ((c.maps == (fn.params.toList ++ s.plain.varTypes P).any (P.mapsRec ·)) && (c.ifaces == (fn.params.toList ++ s.plain.varTypes P).any (P.ifacesRec ·)) && (c.mapsOut == P.mapsAmong fn.resultTypes.toList) &&
      (c.loops == (fn.params.toList ++ s.plain.varTypes P).any (P.loopsFrom ·)) && (c.wideKeys == (fn.params.toList ++ s.plain.varTypes P ++ fn.resultTypes.toList).any (P.wideKeysFrom ·))) = true)
    (d : (s.vars.all (P.varReadable ·) && fn.resultTypes.all (fun t => P.readableRec t && decide (t < P.types.size)) && (c.ifacesOut == fn.resultTypes.toList.any (P.ifacesRec ·)) && (c.loopsOut == fn.resultTypes.toList.any (P.loopsFrom ·)) && c.shortTexts.isNone) = true)
    (e : ((c.kinds == (if c.domain.isEmpty then [] else fn.params.toList.map fun t => match P.underlying t with | some (.int k) => some k | _ => none)) && (c.pinned == c.pinnedBy) &&
      (c.veiled == (fn.params.toList ++ s.plain.varTypes P ++ fn.resultTypes.toList).any (P.veiledRec ·)) && c.veiledFits P fn.params.toList (fn.params.toList ++ s.plain.varTypes P ++ fn.resultTypes.toList)) = true) :
    joinedFacts P f fn s c = true := by
  simp only [Bool.and_eq_true] at prog a b d e
  obtain ⟨⟨⟨⟨⟨p1, p2⟩, p3⟩, p4⟩, p5⟩, p6⟩ := prog
  obtain ⟨⟨⟨⟨a1, a2⟩, a3⟩, a4⟩, a5⟩ := a
  obtain ⟨⟨⟨⟨b1, b2⟩, b3⟩, b4⟩, b5⟩ := b
  obtain ⟨⟨⟨⟨d1, d2⟩, d3⟩, d4⟩, d5⟩ := d
  obtain ⟨⟨⟨e1, e2⟩, e3⟩, e4⟩ := e
  exact and_i (and_i (and_i (and_i (and_i (and_i (and_i (and_i (and_i (and_i (and_i (and_i (and_i (and_i (and_i (and_i (and_i (and_i (and_i (and_i (and_i (and_i (and_i (and_i (and_i (and_i (and_i (and_i (and_i (and_i (and_i a1 p1) p2) a2) a3) a4) p3) a5) p4) place) unf) rec) named) b1) b2) b3) b4) b5) d1) d2) d3) d4) plain) d5) p5) p6) lift) make) e1) e2) e3) e4
end Go.Tc
