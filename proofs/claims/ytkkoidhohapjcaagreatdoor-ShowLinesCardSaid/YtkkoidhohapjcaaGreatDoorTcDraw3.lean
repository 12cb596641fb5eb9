/- regions that draw their order: every order does what the text's order does. -/
import Derived.Test.YtkkoidhohapjcaaGreatDoorTcDraw2
set_option linter.unusedSimpArgs false
set_option linter.unusedVariables false
set_option linter.unusedSectionVars false
namespace Go.Tc
variable [Val]

omit [Val] in
/-! ### worlds -/
theorem Tran.trans' {β β' β'' : Pl} {g g' g'' : Nat → Option AObj} {m m' n' n'' : Nat} {w w' w'' : World} (h : Tran β g m w β' g' n' w') (k : Tran β' g' m' w' β'' g'' n'' w'') (hm : m ≤ m') (hn : m ≤ n'') : Tran β g m w β'' g'' n'' w'' := by
  refine ⟨h.ext.trans k.ext, hn, Nat.le_trans h.size k.size, ?_, fun b hb h0 => k.old b (Nat.lt_of_lt_of_le hb hm) (h.old b hb h0), fun b hb h0 => k.dom b (Nat.lt_of_lt_of_le hb hm) (h.dom b hb h0), ?_, k.os.trans h.os, k.out.trans h.out, k.tape.trans h.tape, fun c x hx => ?_⟩
  · intro c hc hno
    rw [k.kept c (Nat.lt_of_lt_of_le hc h.size) ?_, h.kept c hc hno]
    intro b o p hb ho hp e
    obtain ⟨b0, o0, p0, h1, h2, h3, h4⟩ := h.new b o p hb hp (by omega)
    exact hno b0 o0 p0 h1 (h2 ho) h3 (h4.trans e)
  · intro b o p hb hp hlt
    obtain ⟨b0, o0, p0, h1, h2, h3, h4⟩ := k.new b o p hb hp (Nat.lt_of_lt_of_le hlt h.size)
    obtain ⟨b1, o1, p1, k1, k2, k3, k4⟩ := h.new b0 o0 p0 h1 h3 (by omega)
    exact ⟨b1, o1, p1, k1, fun e => k2 (h2 e), k3, by omega⟩
  · rcases k.zn c x hx with h0 | h0 | ⟨b, o, p, q1, q2, q3, q4⟩
    · exact h.zn c x h0
    · exact .inr (.inl (Nat.le_trans h.size h0))
    · by_cases hlt : c < w.heap.size
      · obtain ⟨b1, o1, p1, k1, k2, k3, k4⟩ := h.new b o p q1 q3 (by omega)
        exact .inr (.inr ⟨b1, o1, p1, k1, k2 q2, k3, by omega⟩)
      · exact .inr (.inl (by omega))

theorem WR.allocAt {G : Nat} {β : Pl} {g : Nat → Option AObj} {n : Nat} {w : World} (h : WR G β g n w) {b : Nat} (hb : β b = none) (hbn : b < n) (ob : Obj) (sz : Nat) (o : AObj)
    (ho : ObjR (β.put b ⟨w.heap.size, 0, sz⟩) (w.alloc ob) ⟨w.heap.size, 0, sz⟩ o) {m : Nat} (hm : m ≤ b) :
    WR G (β.put b ⟨w.heap.size, 0, sz⟩) (fun x => if x = b then some o else g x) n (w.alloc ob) ∧ Tran β g m w (β.put b ⟨w.heap.size, 0, sz⟩) (fun x => if x = b then some o else g x) n (w.alloc ob) := by
  have he := Pl.put_ext (β := β) ⟨w.heap.size, 0, sz⟩ hb
  have hold : ∀ c, c < w.heap.size → (w.alloc ob).heap[c]? = w.heap[c]? := by
    intro c hc
    show (w.heap.push ob)[c]? = _
    rw [Array.getElem?_push, if_neg (by omega)]
  have hput : ∀ x, x ≠ b → (β.put b ⟨w.heap.size, 0, sz⟩) x = β x := fun x hx => if_neg hx
  refine ⟨⟨fun x hx => ?_, fun x p hx => ?_, fun x ox hx => ?_, fun x y ox oy p q hx hy hp hq hc => ?_, fun i hi => ?_, h.gn, fun c x hx => ?_⟩, ⟨he, by omega, by simp, fun c hc _ => hold c hc, fun x hx h0 => ?_, fun x hx h0 => ?_, fun x ox p hx hp hlt => ?_, rfl, rfl, rfl, fun _ _ h => .inl h⟩⟩
  · rw [hput x (by omega)]; exact h.fresh x hx
  · by_cases e : x = b
    · subst e; rw [Pl.put_same] at hx; cases hx; simp
    · rw [hput x e] at hx; have := h.bound x p hx; simp; omega
  · by_cases e : x = b
    · subst e; simp only [if_true, Option.some.injEq] at hx; exact .inl ⟨_, Pl.put_same _ _ _, hx ▸ ho⟩
    · simp only [if_neg e] at hx
      rcases h.some_ x ox hx with ⟨p, h1, h2⟩ | ⟨h1, h2, h3⟩
      · exact .inl ⟨p, he _ _ h1, h2.mono he (hold _ (h.bound x p h1))⟩
      · exact .inr ⟨by rw [hput x e]; exact h1, h2, h3⟩
  · by_cases ex : x = b <;> by_cases ey : y = b
    · rw [ex, ey]
    · rw [ex, Pl.put_same] at hp; cases hp
      rw [hput y ey] at hq
      have := h.bound y q hq; simp only at hc; omega
    · rw [ey, Pl.put_same] at hq; cases hq
      rw [hput x ex] at hp
      have := h.bound x p hp; simp only at hc; omega
    · simp only [if_neg ex] at hx; simp only [if_neg ey] at hy
      rw [hput x ex] at hp; rw [hput y ey] at hq
      exact h.inj x y ox oy p q hx hy hp hq hc
  · obtain ⟨s, hs⟩ := h.glob i hi; exact ⟨s, he _ _ hs⟩
  · obtain ⟨z1, z2⟩ := h.keep c x hx
    have hlt := (Array.getElem?_eq_some_iff.1 z1).1
    refine ⟨(hold c hlt).trans z1, fun y oy q hy hyw hq => ?_⟩
    by_cases e : y = b
    · subst e; rw [Pl.put_same] at hq; cases hq; exact fun h => by simp only at h; omega
    · simp only [if_neg e] at hy; rw [hput y e] at hq; exact z2 y oy q hy hyw hq
  · rw [hput x (by omega)]; exact h0
  · rw [if_neg (by omega)]; exact h0
  · by_cases e : x = b
    · subst e; rw [Pl.put_same] at hp; cases hp; simp at hlt
    · simp only [if_neg e] at hx; rw [hput x e] at hp
      exact ⟨x, ox, p, hx, fun h => h, hp, rfl⟩

theorem WR.frame {G : Nat} {β β' : Pl} {g g1 g2 g1' : Nat → Option AObj} {n n' : Nat} {w w' : World} (h : WR G β g n w) (h1 : ∀ x o, g1 x = some o → g x = some o) (h2 : ∀ x o, g2 x = some o → g x = some o) (hd : ∀ x o, g2 x = some o → g1 x = none)
    (t : Tran β g1 n w β' g1' n' w') (k : WR G β' g1' n' w') :
    WR G β' (fun x => match g2 x with | some o => some o | none => g1' x) n' w' ∧ Tran β g n w β' (fun x => match g2 x with | some o => some o | none => g1' x) n' w' := by
  have hkept : ∀ x o p, g2 x = some o → β x = some p → w'.heap[p.c]? = w.heap[p.c]? := fun x o p hx hp =>
    t.kept p.c (h.bound x p hp) fun b ob q hb _ hq hc => by
      have := h.inj b x ob o q p (h1 b ob hb) (h2 x o hx) hq hp hc
      subst this
      rw [hd b o hx] at hb; cases hb
  have hold : ∀ x o p, g2 x = some o → β' x = some p → β x = some p := fun x o p hx hp => by
    rcases h.some_ x o (h2 x o hx) with ⟨q, hq, -⟩ | ⟨h0, hlt, -⟩
    · rw [t.ext _ _ hq] at hp; cases hp; exact hq
    · rw [t.old x hlt h0] at hp; cases hp
  have hcross : ∀ x o p y oy q, g2 x = some o → β' x = some p → g1' y = some oy → β' y = some q → p.c ≠ q.c := by
    intro x o p y oy q hx hp hy hq hc
    have hp0 := hold x o p hx hp
    obtain ⟨b0, o0, p0, q1, q2, q3, q4⟩ := t.new y oy q hy hq (by rw [← hc]; exact h.bound x p hp0)
    have := h.inj b0 x o0 o p0 p (h1 _ _ q1) (h2 _ _ hx) q3 hp0 (by omega)
    subst this
    rw [hd _ _ hx] at q1; cases q1
  refine ⟨⟨k.fresh, k.bound, fun x ox hx => ?_, fun x y ox oy p q hx hy hp hq hc => ?_, k.glob, k.gn, fun c x hx => ?_⟩, ⟨t.ext, t.next, t.size, fun c hc hno => ?_, t.old, fun x hx h0 => ?_, fun x ox p hx hp hlt => ?_, t.os, t.out, t.tape, fun c x hx => (t.zn c x hx).imp id (Or.imp id fun ⟨b, o, p, q1, q2, q3, q4⟩ => ⟨b, o, p, h1 _ _ q1, q2, q3, q4⟩)⟩⟩
  · cases hg : g2 x with
    | some o =>
      simp only [hg, Option.some.injEq] at hx; subst hx
      rcases h.some_ x o (h2 x o hg) with ⟨p, q1, q2⟩ | ⟨q1, q2, q3⟩
      · exact .inl ⟨p, t.ext _ _ q1, q2.mono t.ext (hkept x o p hg q1)⟩
      · exact .inr ⟨t.old x q2 q1, by have := t.next; omega, q3⟩
    | none =>
      simp only [hg] at hx
      exact k.some_ x ox hx
  · cases e1 : g2 x with
    | some o1 =>
      cases e2 : g2 y with
      | some o2 => exact h.inj x y o1 o2 p q (h2 _ _ e1) (h2 _ _ e2) (hold _ _ _ e1 hp) (hold _ _ _ e2 hq) hc
      | none => simp only [e2] at hy; exact absurd hc (hcross x o1 p y oy q e1 hp hy hq)
    | none =>
      simp only [e1] at hx
      cases e2 : g2 y with
      | some o2 => exact absurd hc.symm (hcross y o2 q x ox p e2 hq hx hp)
      | none => simp only [e2] at hy; exact k.inj x y ox oy p q hx hy hp hq hc
  · obtain ⟨z1, z2⟩ := k.keep c x hx
    refine ⟨z1, fun y oy q hy hyw hq hc => ?_⟩
    cases hg : g2 y with
    | some o =>
      simp only [hg, Option.some.injEq] at hy; subst hy
      have hq0 := hold y o q hg hq
      rcases t.zn c x hx with hz | hz | ⟨b, ob, p, q1, q2, q3, q4⟩
      · exact (h.keep c x hz).2 y o q (h2 _ _ hg) hyw hq0 hc
      · have := h.bound y q hq0; omega
      · have := h.inj b y ob o p q (h1 _ _ q1) (h2 _ _ hg) q3 hq0 (by omega)
        subst this
        rw [hd _ _ hg] at q1; cases q1
    | none => simp only [hg] at hy; exact z2 y oy q hy hyw hq hc
  · exact t.kept c hc fun b o p hb => hno b o p (h1 b o hb)
  · cases hg : g2 x with
    | some o => rw [h2 _ _ hg] at h0; cases h0
    | none =>
      refine t.dom x hx ?_
      cases hx1 : g1 x with
      | none => rfl
      | some o => rw [h1 _ _ hx1] at h0; cases h0
  · cases hg : g2 x with
    | some o =>
      simp only [hg, Option.some.injEq] at hx; subst hx
      exact ⟨x, o, p, h2 _ _ hg, fun h => h, hold _ _ _ hg hp, rfl⟩
    | none =>
      simp only [hg] at hx
      obtain ⟨b0, o0, p0, q1, q2, q3, q4⟩ := t.new x ox p hx hp hlt
      exact ⟨b0, o0, p0, h1 _ _ q1, q2, q3, q4⟩

theorem WR.room {G : Nat} {β : Pl} {g : Nat → Option AObj} {n m : Nat} {w : World} (h : WR G β g n w) (hm : n ≤ m) : WR G β g m w :=
  ⟨fun b hb => h.fresh b (by omega), h.bound, fun b o hb => (h.some_ b o hb).imp id fun ⟨h1, h2, h3⟩ => ⟨h1, by omega, h3⟩, h.inj, h.glob, by have := h.gn; omega, h.keep⟩

/-! ### orders -/
section
variable {P : Program} {G : Nat} {E : Env} {S : Evs} {c : Ctx} {ops : Array Oper} {n0 : Nat} {st : Nat → DSt}

structure DInv (P : Program) (G : Nat) (E : Env) (S : Evs) (c : Ctx) (ops : Array Oper) (n0 : Nat) (st : Nat → DSt) (β0 : Pl) (g0 : Nat → Option AObj) (w0 : World) (listed : Array Bool) (j : Nat) (β : Pl) (g : Nat → Option AObj) (n : Nat) (a : Act) (w : World) : Prop where
  wr : WR G β g n w
  tran : Tran β0 g0 n0 w0 β g n w
  lsz : listed.size = ops.size
  size : a.tmps.size = c.n
  closed : ∀ i k, listed[i]? = some true → Bef ops i k → listed[k]? = some true
  effs : ∀ k, k < ops.size → isEff ops k = true → (listed[k]? = some true ↔ ne ops k < j)
  jle : j ≤ ne ops ops.size
  nle : n0 + ops.size ≤ n
  ver : ∃ H, (st ops.size).vers[j]? = some H ∧ H.next = n ∧ (∀ x o, H.get x = some o → g x = some o) ∧ (∀ a, a < ops.size → ¬ AbsE c ops st a j → H.get (n0 + a) = none)
  pen : ∀ a o, listed[a]? = some true → Al P E S c ops n0 st a o → ¬ AbsE c ops st a j → g (n0 + a) = some o
  non : ∀ a, a < ops.size → listed[a]? ≠ some true → β (n0 + a) = none
  tin : ∀ (i : Nat) (o : Oper) (d : Tmp), listed[i]? = some true → ops[i]? = some o → o.dst = some d → ∀ v, (st (i + 1)).T.get c d = some v → ∃ u, a.tmps[d]? = some u ∧ VR β v u
  tout : ∀ (d : Tmp), (∀ (i : Nat) (o : Oper), listed[i]? = some true → ops[i]? = some o → o.dst ≠ some d) → ∀ v, (st 0).T.get c d = some v → ∃ u, a.tmps[d]? = some u ∧ VR β v u

omit [Val] in
theorem put_get_ne {a : Act} {dst : Option Tmp} {u : Value} {d : Tmp} (h : dst ≠ some d) : (a.put dst u).tmps[d]? = a.tmps[d]? := by
  cases dst with
  | none => rfl
  | some x => simp only [Act.put]; rw [Array.getElem?_setIfInBounds_ne (by intro e; exact h (by rw [e]))]
omit [Val] in
theorem put_size (a : Act) (dst : Option Tmp) (u : Value) : (a.put dst u).tmps.size = a.tmps.size := by cases dst <;> simp [Act.put]

omit [Val] in
theorem wp_value {F : Option Nat} {m : Nat} {o : Oper} {a : Act} {w w' : World} {u : Value} {K : Act → World → Prop} {Q : Exit → Act → World → Prop} (hd : ∀ d, o.op ≠ .defer d) (h : (execOp a.eval o).run P w = .ok (.value u) w') (hK : K (a.put o.dst u) w') : o.wpIn (Fen F) m P a w K Q := by
  refine ⟨fun f _ => Fen_fn F f, ?_⟩
  rw [Oper.semAt_eq _ _ _ hd, h]
  exact hK

omit [Val] in
theorem cls_defer {o : Oper} {k : Cls} (hc : cls o.op = k) (hk : k ≠ .effect) : ∀ d, o.op ≠ .defer d := fun d hd => by rw [hd] at hc; simp [cls] at hc; exact hk hc.symm

theorem aeval_of {β : Pl} {g : Nat → Option AObj} {n : Nat} {w : World} {T : Tmps} {a : Act} {x : Operand} {v : AV} (hT : ∀ t, x = .tmp t → ∀ v, T.get c t = some v → ∃ u, a.tmps[t]? = some u ∧ VR β v u) (hg : c.glob = G) (hw : WR G β g n w) (h : aeval c T x = some v) : VR β v (a.eval x) := by
  cases x with
  | tmp t =>
    obtain ⟨u, h1, h2⟩ := hT t rfl v h
    simp only [Act.eval, Array.getD_eq_getD_getElem?, h1, Option.getD_some]
    exact h2
  | const u => exact ofValue_VR u v h
  | global i =>
    simp only [aeval, Bool.cond_eq_ite, Nat.blt_eq] at h
    split at h
    · rename_i hlt
      cases h
      obtain ⟨sz, hs⟩ := hw.glob i (hg ▸ hlt)
      exact .ptr 0 hs
    · cases h
  | func f => cases h; exact .fn (.func f) .nil .nil

variable {β0 : Pl} {g0 : Nat → Option AObj} {w0 : World} {listed : Array Bool} {j : Nat} {β : Pl} {g : Nat → Option AObj} {n : Nat} {a : Act} {w : World}

/-- what an operation reads, where it comes up. -/
theorem DInv.reads (tr : Trace P E S c ops n0 st) (hI : DInv P G E S c ops n0 st β0 g0 w0 listed j β g n a w) {i : Nat} {o : Oper} (ho : ops[i]? = some o) (hun : listed[i]? ≠ some true) (hb : ∀ k, Bef ops i k → listed[k]? = some true) :
    ∀ d, d ∈ readsOf ops o → ∀ v, (st i).T.get c d = some v → ∃ u, a.tmps[d]? = some u ∧ VR β v u := by
  intro d hd v hv
  have hi : i < ops.size := (Array.getElem?_eq_some_iff.1 ho).1
  by_cases hex : ∃ (k : Nat) (u : Oper), ops[k]? = some u ∧ u.dst = some d
  · obtain ⟨k, u, hk, hkd⟩ := hex
    have hks : k < ops.size := (Array.getElem?_eq_some_iff.1 hk).1
    -- no other operation lays d
    have uniq : ∀ (k' : Nat) (u' : Oper), ops[k']? = some u' → u'.dst = some d → k' = k := fun k' u' hk' hd' => by
      by_cases e : k = k'
      · exact e.symm
      · exact absurd hd' (tr.ok.dst k u d hk hkd k' u' hk' e).1
    have early : i ≤ k → listed[k]? ≠ some true → ∃ u, a.tmps[d]? = some u ∧ VR β v u := by
      intro hik hkl
      refine hI.tout d (fun i' o' h1 h2 h3 => ?_) v ?_
      · have := uniq i' o' h2 h3; subst this; exact hkl h1
      · have := tr.T_same (d := d) i 0 (by omega) (fun k' o' _ h2 h3 h4 => by have := uniq k' o' h3 h4; omega)
        rw [Nat.zero_add] at this
        rw [← this]; exact hv
    by_cases hki : k = i
    · subst hki; exact early (Nat.le_refl _) hun
    · rcases (tr.ok.dst k u d hk hkd i o ho hki).2 with h | h | h
      · exact absurd hd h
      · have hlt := Bef.lt tr.ok i h
        refine hI.tin k u d (hb k h) hk hkd v ?_
        have := tr.T_same (d := d) (i - (k + 1)) (k + 1) (by omega) (fun k' o' h1 h2 h3 h4 => by have := uniq k' o' h3 h4; omega)
        rw [show k + 1 + (i - (k + 1)) = i from by omega] at this
        rw [← this]; exact hv
      · have hlt := Bef.lt tr.ok k h
        exact early (by omega) fun hl => hun (hI.closed k i hl h)
  · refine hI.tout d (fun i' o' h1 h2 h3 => hex ⟨i', o', h2, h3⟩) v ?_
    have := tr.T_same (d := d) i 0 (by omega) (fun k' o' _ h2 h3 h4 => hex ⟨k', o', h3, h4⟩)
    rw [Nat.zero_add] at this
    rw [← this]; exact hv

omit [Val] in
theorem listed_set {i k : Nat} (hi : i < listed.size) : (listed.setIfInBounds i true)[k]? = some true ↔ k = i ∨ listed[k]? = some true := by
  by_cases e : i = k
  · subst e; simp [hi]
  · rw [Array.getElem?_setIfInBounds_ne e]
    constructor
    · exact .inr
    · rintro (h | h)
      · exact absurd h.symm e
      · exact h

/-- on by one operation. -/
theorem DInv.adv (tr : Trace P E S c ops n0 st) (hI : DInv P G E S c ops n0 st β0 g0 w0 listed j β g n a w) {i : Nat} {o : Oper} {v : AV} {u : Value} (ho : ops[i]? = some o) (hb : ∀ k, Bef ops i k → listed[k]? = some true) (hl : (st i).T.lay c o.dst v = some (st (i + 1)).T)
    {j' : Nat} {β' : Pl} {g' : Nat → Option AObj} {n' : Nat} {w' : World} (he : Ext β β') (hv : VR β' v u) (wr : WR G β' g' n' w') (tran : Tran β0 g0 n0 w0 β' g' n' w')
    (effs : ∀ k, k < ops.size → isEff ops k = true → (k = i ∨ listed[k]? = some true ↔ ne ops k < j')) (jle : j' ≤ ne ops ops.size) (nle : n0 + ops.size ≤ n')
    (ver : ∃ H, (st ops.size).vers[j']? = some H ∧ H.next = n' ∧ (∀ x o, H.get x = some o → g' x = some o) ∧ (∀ a, a < ops.size → ¬ AbsE c ops st a j' → H.get (n0 + a) = none))
    (pen : ∀ a o, a = i ∨ listed[a]? = some true → Al P E S c ops n0 st a o → ¬ AbsE c ops st a j' → g' (n0 + a) = some o)
    (non : ∀ a, a < ops.size → a ≠ i → listed[a]? ≠ some true → β' (n0 + a) = none) :
    DInv P G E S c ops n0 st β0 g0 w0 (listed.setIfInBounds i true) j' β' g' n' (a.put o.dst u) w' := by
  have hi : i < ops.size := (Array.getElem?_eq_some_iff.1 ho).1
  have hil : i < listed.size := by rw [hI.lsz]; exact hi
  have hset : ∀ k, (listed.setIfInBounds i true)[k]? = some true ↔ k = i ∨ listed[k]? = some true := fun k => listed_set hil
  refine ⟨wr, tran, by simp [hI.lsz], by rw [put_size, hI.size], fun x k hx hk => ?_, fun k hk hke => by rw [hset]; exact effs k hk hke, jle, nle, ver, fun x ox hx => pen x ox ((hset x).1 hx), fun x hx hxl => ?_, fun k ok d hk hok hd v' hv' => ?_, fun d hd v' hv' => ?_⟩
  · rw [hset] at hx ⊢
    rcases hx with rfl | hx
    · exact .inr (hb k hk)
    · exact .inr (hI.closed x k hx hk)
  · rw [ne_eq, hset, not_or] at hxl
    exact non x hx hxl.1 hxl.2
  · rw [hset] at hk
    by_cases e : k = i
    · subst e
      rw [ho] at hok; cases hok
      rw [Tmps.get_lay hl, if_pos hd] at hv'
      cases hv'
      rw [hd] at hl
      have hlt := Tmps.lay_lt hl
      exact ⟨u, by rw [hd]; simp [Act.put, hI.size, hlt], hv⟩
    · have hne : o.dst ≠ some d := (tr.ok.dst k ok d hok hd i o ho e).1
      obtain ⟨y, h1, h2⟩ := hI.tin k ok d (hk.resolve_left e) hok hd v' hv'
      exact ⟨y, by rw [put_get_ne hne]; exact h1, h2.mono he⟩
  · have hne : o.dst ≠ some d := hd i o ((hset i).2 (.inl rfl)) ho
    obtain ⟨y, h1, h2⟩ := hI.tout d (fun k ok h1 h2 => hd k ok ((hset k).2 (.inr h1)) h2) v' hv'
    exact ⟨y, by rw [put_get_ne hne]; exact h1, h2.mono he⟩

end
end Go.Tc
