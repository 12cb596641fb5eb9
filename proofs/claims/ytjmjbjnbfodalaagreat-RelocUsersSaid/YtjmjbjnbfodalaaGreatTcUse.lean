/- A contract of unknown data, used at a call: other data, other names. -/
import Derived.Test.YtjmjbjnbfodalaaGreatTcTri
set_option linter.unusedSimpArgs false
set_option linter.unusedVariables false
set_option linter.unusedSectionVars false
namespace Go.Tc

section
variable {P : Program} {G : Nat} {V : Val}

theorem Tran.of_fr {β β' : Pl} {g g' : Nat → Option AObj} {n n' : Nat} {w w' : World} (hf : ∀ b, n ≤ b → β b = none) (k : ∀ b, b < n → β' b = β b) (f : Fr β g w β' g' w') (hn : n ≤ n') (hd : ∀ b, b < n → g b = none → g' b = none) : Tran β g n w β' g' n' w' := by
  refine ⟨⟨fun b p hp => ?_, f.zone⟩, hn, f.size, fun c hc hno => f.kept c hc fun ⟨b, o, p, h1, h2, h3, h4⟩ => hno b o p h1 h2 h3 h4, fun b hlt h0 => (k b hlt).trans h0, hd, fun b o p hbo hp hlt => ?_, f.os, f.out, f.tape, f.zn⟩
  · have hlt : b < n := by
      by_cases h : b < n
      · exact h
      · have := hf b (Nat.le_of_not_lt h); rw [hp] at this; cases this
    rw [k b hlt]; exact hp
  · cases hwr : o.wr with
    | true =>
      obtain ⟨b0, o0, p0, h1, h2, h3, h4⟩ := f.newW p.c ⟨b, o, p, hbo, hwr, hp, rfl⟩ hlt
      exact ⟨b0, o0, p0, h1, fun _ => h2, h3, h4⟩
    | false =>
      obtain ⟨b0, o0, p0, h1, h2, h3⟩ := f.newA p.c ⟨b, o, p, hbo, hp, rfl⟩ hlt
      exact ⟨b0, o0, p0, h1, (fun h => nomatch h), h2, h3⟩

theorem graft_other {b : Nat} : ∀ (l : List (Nat × AObj)) (t : Tr AObj), (∀ o', (b, o') ∉ l) → (graft l t).get b = t.get b
  | [], _, _ => rfl
  | (x, y) :: r, t, hno => by
    show (graft r (t.put x y)).get b = t.get b
    rw [graft_other r _ fun o' h => hno o' (List.mem_cons_of_mem _ h), Tr.get_put, if_neg]
    rintro rfl
    exact hno y (by simp)
theorem graft_mem {b : Nat} {o : AObj} : ∀ (l : List (Nat × AObj)) (t : Tr AObj), nodupB (l.map fun p => p.1) = true → (b, o) ∈ l → (graft l t).get b = some o
  | (c, q) :: r, t, h, hm => by
    simp only [List.map_cons, nodupB, Bool.and_eq_true, Bool.not_eq_true'] at h
    rcases List.mem_cons.1 hm with e | e
    · cases e
      show (graft r (t.put b o)).get b = some o
      rw [graft_other r _ fun o' hx => ?_, Tr.get_put, if_pos rfl]
      have : inList (r.map fun p => p.1) b = true := inList_iff.2 (List.mem_map.2 ⟨(b, o'), hx, rfl⟩)
      rw [this] at h; cases h.1
    · exact graft_mem r _ h.2 e

/-- names behind a call: those ahead of it as the list says, the new ones from the caller's next on. -/
def useOf (l : List (Nat × Nat)) (k0 next top xn b : Nat) : Nat :=
  match b.blt xn with
  | true => renOf l k0 next top b
  | false => next + (b - xn)

def objsSo (nf : Tm → Tm) (s : Nat → Tm) (ρ : Nat → Nat) : List (Nat × AObj) → List (Nat × AObj) → Bool
  | [], [] => true
  | (b, o) :: r, (b', o') :: r' => b'.beq (ρ b) && o.able && matchO nf (o.inst s ρ) o' && objsSo nf s ρ r r'
  | _, _ => false
/-- is the second fact the first one, with other names, and other data for the unknown? -/
def usesSo (nf : Tm → Tm) (G : Nat) (s : Nat → Tm) (l : List (Nat × Nat)) (x y : Fact) : Bool :=
  x.f.beq y.f && G.ble x.next && x.next.ble x.next' && y.next'.beq (y.next + (x.next' - x.next)) && G.ble y.next && keysOk G x.next l &&
  (l.all fun p => p.2.blt y.next) && matchVs nf y.args (AV.insts s (renOf l G y.next (x.next + x.next')) x.args) &&
  objsOk nf s (renOf l G y.next (x.next + x.next')) y.ahead x.next x.pre && nodupB (x.pre.map fun p => renOf l G y.next (x.next + x.next') p.1) &&
  matchV nf (x.r.inst s (useOf l G y.next (x.next + x.next') x.next)) y.r &&
  objsSo nf s (useOf l G y.next (x.next + x.next') x.next) x.objs y.objs && nodupB (x.objs.map fun p => p.1) &&
  (y.objs.all fun p => y.next.ble p.1 || (y.ahead.get p.1).isSome) && (x.objs.all fun p => p.1.blt x.next') && (y.objs.all fun p => p.1.blt y.next')

theorem objsSo_mem {nf : Tm → Tm} {s : Nat → Tm} {ρ : Nat → Nat} : ∀ {l m : List (Nat × AObj)}, objsSo nf s ρ l m = true → ∀ b' o', (b', o') ∈ m → ∃ b o, (b, o) ∈ l ∧ b' = ρ b ∧ o.able = true ∧ matchO nf (o.inst s ρ) o' = true
  | (b, o) :: r, (b1, o1) :: r', h, b', o', hm => by
    simp only [objsSo, Bool.and_eq_true] at h
    obtain ⟨⟨⟨h1, h2⟩, h3⟩, h4⟩ := h
    rcases List.mem_cons.1 hm with e | e
    · cases e; exact ⟨b, o, by simp, Nat.eq_of_beq_eq_true h1, h2, h3⟩
    · obtain ⟨c, q, q1, q2⟩ := objsSo_mem h4 b' o' e
      exact ⟨c, q, List.mem_cons_of_mem _ q1, q2⟩
  | [], [], _, b', o', hm => by cases hm
  | [], _ :: _, h, _, _, _ | _ :: _, [], h, _, _, _ => by cases h

/-- **A contract, used.** -/
theorem Fact.ok_use {nf : Tm → Tm} (hn : ∀ t, @Tm.den V (nf t) = @Tm.den V t) {s : Nat → Tm} {l : List (Nat × Nat)} {x y : Fact} (hx : @Fact.Ok (V.by s) P G x) (h : usesSo nf G s l x y = true) : @Fact.Ok V P G y := by
  simp only [usesSo, Bool.and_eq_true] at h
  obtain ⟨⟨⟨⟨⟨⟨⟨⟨⟨⟨⟨⟨⟨⟨⟨c1, c2⟩, c3⟩, c4⟩, c5⟩, c6⟩, c7⟩, c8⟩, c9⟩, c10⟩, c11⟩, c12⟩, c13⟩, c14⟩, c15⟩, c16⟩ := h
  have c1 := Nat.eq_of_beq_eq_true c1
  have c2 := Nat.le_of_ble_eq_true c2
  have c3 := Nat.le_of_ble_eq_true c3
  have c4 := Nat.eq_of_beq_eq_true c4
  have c5 := Nat.le_of_ble_eq_true c5
  refine ⟨?_⟩
  intro β w vs hw ha
  generalize hρ : renOf l G y.next (x.next + x.next') = ρ at c8 c9 c10
  have low : ∀ b, b < G → ρ b = b := by
    intro b hb
    rw [← hρ]; unfold renOf
    rw [show b.blt G = true from by simpa [Nat.blt_eq] using hb]
  have hi : ∀ b, G ≤ b → (∃ b', asN l b = some b' ∧ ρ b = b' ∧ b' < y.next ∧ b < x.next) ∨ ρ b = y.next + (x.next + x.next') + b := by
    intro b hb
    have : b.blt G = false := by rw [← Bool.not_eq_true, Nat.blt_eq]; omega
    cases hk : asN l b with
    | some b' =>
      have hm := asN_key hk
      have h7 := List.all_eq_true.1 c7 (b, b') hm
      refine .inl ⟨b', rfl, ?_, by simpa [Nat.blt_eq] using h7, (keysOk_get c6 _ _ hm).2⟩
      rw [← hρ]; unfold renOf; rw [this]; simp only [hk]
    | none => right; rw [← hρ]; unfold renOf; rw [this]; simp only [hk]
  have high : ∀ b, x.next ≤ b → y.next ≤ ρ b := by
    intro b hb
    rcases hi b (by omega) with ⟨b', -, -, -, hlt⟩ | e
    · omega
    · omega
  have hfresh : ∀ b, y.next ≤ b → β b = none := hw.fresh
  -- ahead of the call
  have hobj : ∀ b o, x.ahead.get b = some o → o.able = true ∧ b < x.next ∧ ((∃ p, β (ρ b) = some p ∧ @ObjR V β w p (o.inst s ρ)) ∨ (β (ρ b) = none ∧ @AObj.absent V (o.inst s ρ))) ∧ (∀ p, β (ρ b) = some p → ∃ o1, y.ahead.get (ρ b) = some o1 ∧ o1.wr = o.wr) := by
    intro b o hb
    have hm : (b, o) ∈ x.pre := by
      rcases graft_get _ _ b o hb with h | h
      · exact h
      · exact nomatch (show (none : Option AObj) = some o from h)
    obtain ⟨q1, q2, q3⟩ := objsOk_get c9 b o hm
    refine ⟨q1, q2, ?_, ?_⟩
    · rcases q3 with ⟨o1, r1, r2⟩ | ⟨-, r2, r3⟩
      · rcases hw.some_ _ _ r1 with ⟨p, hp, ho⟩ | ⟨hp, -, ho⟩
        · exact .inl ⟨p, hp, @matchO_R V _ _ hn _ _ _ _ r2 ho⟩
        · exact .inr ⟨hp, @matchO_absent V _ hn _ _ r2 ho⟩
      · exact .inr ⟨hfresh _ r2, @noWhere_absent V _ hn _ r3⟩
    · intro p hp
      rcases q3 with ⟨o1, r1, r2⟩ | ⟨-, r2, -⟩
      · exact ⟨o1, r1, by rw [← matchO_wr r2, AObj.inst_wr]⟩
      · rw [hfresh _ r2] at hp; cases hp
  have hmem : ∀ b o, x.ahead.get b = some o → (b, o) ∈ x.pre := by
    intro b o hb
    rcases graft_get _ _ b o hb with h | h
    · exact h
    · exact nomatch (show (none : Option AObj) = some o from h)
  have hwp : @WR (V.by s) G (β.pull ρ) x.ahead.get x.ahead.next w := by
    refine @WR.mk (V.by s) G (β.pull ρ) x.ahead.get x.ahead.next w (fun b hb => hfresh (ρ b) (high b hb)) (fun b p hb => hw.bound (ρ b) p hb) (fun b o hb => ?_) (fun b b' o o' p p' hb hb' hp hp' hc => ?_) (fun i hi => ?_) c2 (fun z ob hz => ⟨(hw.keep z ob hz).1, fun b o p hb hwr hp => ?_⟩)
    · obtain ⟨q1, q2, q3, -⟩ := hobj b o hb
      rcases q3 with ⟨p, hp, ho⟩ | ⟨hp, ho⟩
      · exact .inl ⟨p, hp, ObjR.unren q1 ho⟩
      · exact .inr ⟨hp, q2, AObj.absent_inst.1 ho⟩
    · obtain ⟨o1, r1, -⟩ := (hobj b o hb).2.2.2 p hp
      obtain ⟨o2, r2, -⟩ := (hobj b' o' hb').2.2.2 p' hp'
      exact nodupB_inj c10 (hmem _ _ hb) (hmem _ _ hb') (hw.inj _ _ o1 o2 p p' r1 r2 hp hp' hc)
    · obtain ⟨sz, hs⟩ := hw.glob i hi
      exact ⟨sz, by show β (ρ i) = _; rw [low i (by omega)]; exact hs⟩
    · obtain ⟨o1, r1, r2⟩ := (hobj b o hb).2.2.2 p hp
      exact (hw.keep z ob hz).2 _ o1 p r1 (r2.trans hwr) hp
  have hfr1 : Fr β y.ahead.get w (β.pull ρ) x.ahead.get w := by
    refine ⟨Nat.le_refl _, fun _ _ _ => rfl, fun c ⟨b, o, p, hb, ho, hp, e⟩ _ => ?_, fun c ⟨b, o, p, hb, hp, e⟩ _ => ?_, fun _ _ h => h, fun _ _ h => .inl h, rfl, rfl, rfl⟩
    · obtain ⟨o1, r1, r2⟩ := (hobj b o hb).2.2.2 p hp
      exact ⟨ρ b, o1, p, r1, r2.trans ho, hp, e⟩
    · obtain ⟨o1, r1, r2⟩ := (hobj b o hb).2.2.2 p hp
      exact ⟨ρ b, o1, p, r1, hp, e⟩
  have hap : @VRs (V.by s) (β.pull ρ) x.args vs := VRs.unren _ _ (@matchVs_VRs V _ _ hn _ _ _ c8 ha)
  obtain ⟨h1, h2⟩ := @Fact.Ok.run (V.by s) P G x hx _ _ _ hwp hap
  rw [c1] at h1 h2
  refine ⟨h1, fun k => CallsIn.mono (h2 k) fun e w' he => ?_⟩
  cases e with
  | panicked ch => exact he.elim
  | outgrown => exact he.elim
  | returned u =>
    obtain ⟨βp, k1, k2, k3⟩ := he
    have kfresh := @WR.fresh (V.by s) _ _ _ _ _ k2
    have kbound := @WR.bound (V.by s) _ _ _ _ _ k2
    have ksome := @WR.some_ (V.by s) _ _ _ _ _ k2
    have kinj := @WR.inj (V.by s) _ _ _ _ _ k2
    have kkeep := @WR.keep (V.by s) _ _ _ _ _ k2
    have hsame : ∀ b, b < x.next → βp b = β (ρ b) := by
      intro b hb
      cases hp : β (ρ b) with
      | some p => exact k3.ext b p hp
      | none => exact k3.old b hb hp
    generalize hρ2 : useOf l G y.next (x.next + x.next') x.next = ρ2 at c11 c12
    have r2lo : ∀ b, b < x.next → ρ2 b = ρ b := by
      intro b hb
      rw [← hρ2]; unfold useOf
      rw [show b.blt x.next = true from by simpa [Nat.blt_eq] using hb, ← hρ]
    have r2hi : ∀ b, x.next ≤ b → ρ2 b = y.next + (b - x.next) := by
      intro b hb
      rw [← hρ2]; unfold useOf
      rw [show b.blt x.next = false from by rw [← Bool.not_eq_true, Nat.blt_eq]; omega]
    let β' : Pl := ⟨fun b => if b < y.next then β b else βp (x.next + (b - y.next)), βp.zone⟩
    have b'lo : ∀ b, b < y.next → β' b = β b := fun b hb => if_pos hb
    have b'hi : ∀ b, y.next ≤ b → β' b = βp (x.next + (b - y.next)) := fun b hb => if_neg (by omega)
    -- a name and its other name lie at one place
    have hat : ∀ b, b < x.next' → βp b = β' (ρ2 b) := by
      intro b hb
      by_cases hlt : b < x.next
      · rw [r2lo b hlt, hsame b hlt]
        by_cases hG : b < G
        · rw [low b hG, b'lo b (by omega)]
        · rcases hi b (by omega) with ⟨b', -, e, hb', -⟩ | e
          · rw [e, b'lo b' hb']
          · rw [e, hfresh _ (by omega), b'hi _ (by omega)]
            exact (kfresh _ (show x.next' ≤ _ by omega)).symm
      · rw [r2hi b (by omega), b'hi _ (by omega)]
        congr 1; omega
    have hren : Ren ρ2 βp β' := by
      refine ⟨fun b p hp => ?_, fun _ _ h => h⟩
      have hb : b < x.next' := by
        by_cases h : b < x.next'
        · exact h
        · have := kfresh b (show x.next' ≤ b by omega); rw [hp] at this; cases this
      rw [← hat b hb]; exact hp
    have hyobj : ∀ b' o', y.behind.get b' = some o' → ∃ b o, x.behind.get b = some o ∧ b' = ρ2 b ∧ b < x.next' ∧ o.able = true ∧ matchO nf (o.inst s ρ2) o' = true := by
      intro b' o' hb'
      have hm : (b', o') ∈ y.objs := by
        rcases graft_get _ _ b' o' hb' with h | h
        · exact h
        · exact nomatch (show (none : Option AObj) = some o' from h)
      obtain ⟨b, o, q1, q2, q3, q4⟩ := objsSo_mem c12 b' o' hm
      have := List.all_eq_true.1 c15 (b, o) q1
      exact ⟨b, o, graft_mem _ _ c13 q1, q2, by simpa [Nat.blt_eq] using this, q3, q4⟩
    have hwr' : ∀ {o o' : AObj}, matchO nf (o.inst s ρ2) o' = true → o'.wr = o.wr := fun h => by rw [matchO_wr h, AObj.inst_wr]
    have hfr3 : Fr βp x.behind.get w' β' y.behind.get w' := by
      refine ⟨Nat.le_refl _, fun _ _ _ => rfl, fun c ⟨b', o', p, hb, ho, hp, e⟩ _ => ?_, fun c ⟨b', o', p, hb, hp, e⟩ _ => ?_, fun _ _ h => h, fun _ _ h => .inl h, rfl, rfl, rfl⟩
      · obtain ⟨b, o, q1, rfl, q3, q4, q5⟩ := hyobj b' o' hb
        exact ⟨b, o, p, q1, by rw [← hwr' q5]; exact ho, by rw [hat b q3]; exact hp, e⟩
      · obtain ⟨b, o, q1, rfl, q3, q4, q5⟩ := hyobj b' o' hb
        exact ⟨b, o, p, q1, by rw [hat b q3]; exact hp, e⟩
    have hwy : @WR V G β' y.behind.get y.behind.next w' := by
      refine @WR.mk V G β' y.behind.get y.behind.next w' (fun b hb => ?_) (fun b p hb => ?_) (fun b' o' hb => ?_) (fun b b' o o' p p' hb hb' hp hp' hc => ?_) (fun i hi => ?_) (by show G ≤ y.next'; omega) (fun z ob hz => ⟨(kkeep z ob hz).1, fun b' o' p hb hwr hp => ?_⟩)
      · have hb : y.next' ≤ b := hb
        rw [b'hi b (by omega)]
        exact kfresh _ (show x.next' ≤ _ by omega)
      · by_cases hlt : b < y.next
        · rw [b'lo b hlt] at hb
          exact Nat.lt_of_lt_of_le (hw.bound b p hb) k3.size
        · rw [b'hi b (by omega)] at hb; exact kbound _ p hb
      · obtain ⟨b, o, q1, rfl, q3, q4, q5⟩ := hyobj b' o' hb
        rcases ksome b o q1 with ⟨p, hp, ho⟩ | ⟨hp, hlt, ho⟩
        · exact .inl ⟨p, by rw [← hat b q3]; exact hp, @matchO_R V _ _ hn _ _ _ _ q5 (ObjR.ren hren q4 ho)⟩
        · refine .inr ⟨by rw [← hat b q3]; exact hp, ?_, @matchO_absent V _ hn _ _ q5 (AObj.absent_inst.2 ho)⟩
          show ρ2 b < y.next'
          have h16 := List.all_eq_true.1 c16 (ρ2 b, o') (by
            rcases graft_get _ _ _ _ hb with h | h
            · exact h
            · exact nomatch (show (none : Option AObj) = some o' from h))
          simpa [Nat.blt_eq] using h16
      · obtain ⟨a1, o1, q1, rfl, q3, q4, q5⟩ := hyobj b o hb
        obtain ⟨a2, o2, r1, rfl, r3, r4, r5⟩ := hyobj b' o' hb'
        rw [← hat a1 q3] at hp
        rw [← hat a2 r3] at hp'
        rw [kinj a1 a2 o1 o2 p p' q1 r1 hp hp' hc]
      · obtain ⟨sz, hs⟩ := hw.glob i hi
        exact ⟨sz, by rw [b'lo i (by omega)]; exact hs⟩
      · obtain ⟨b, o, q1, rfl, q3, q4, q5⟩ := hyobj b' o' hb
        rw [← hat b q3] at hp
        exact (kkeep z ob hz).2 b o p q1 (by rw [← hwr' q5]; exact hwr) hp
    refine ⟨β', @matchV_VR V _ _ hn _ _ _ c11 (VR.ren hren k1), hwy, ?_⟩
    refine Tran.of_fr (n := y.next) hfresh b'lo ((hfr1.trans (Fr.of k3)).trans hfr3) (by show y.next ≤ y.next'; omega) fun b hb h0 => ?_
    cases hg : y.behind.get b with
    | none => rfl
    | some o' =>
      have hm : (b, o') ∈ y.objs := by
        rcases graft_get _ _ b o' hg with h | h
        · exact h
        · exact nomatch (show (none : Option AObj) = some o' from h)
      have h14 := List.all_eq_true.1 c14 (b, o') hm
      simp only [Bool.or_eq_true] at h14
      rcases h14 with h | h
      · have := Nat.le_of_ble_eq_true h; omega
      · rw [h0] at h; cases h

end
end Go.Tc
