/- the run of a drawn region in its text's order. -/
import Derived.Test.YtkkoidhohapjcaaGreatDoorTcDraw
set_option linter.unusedSimpArgs false
set_option linter.unusedVariables false
set_option linter.unusedSectionVars false
namespace Go.Tc
variable [Val]

section
variable {P : Program} {E : Env} {S : Evs} {c : Ctx} {ops : Array Oper} {n0 : Nat}

/-- one step of the run in the text's order. -/
inductive StepIs (P : Program) (E : Env) (S : Evs) (c : Ctx) (ops : Array Oper) (n0 i : Nat) (s s' : DSt) (o : Oper) (v : AV) : Prop
  | off (hw : wantedA c ops s.T o = some false) (hv : v = undefA) (h1 : s'.H = s.H) (h2 : s'.pend = s.pend) (h3 : s'.loads = s.loads) (h4 : s'.vers = if cls o.op = .effect then s.vers ++ [s.H] else s.vers)
  | pure (hw : wantedA c ops s.T o = some true) (hc : cls o.op = .pure) (H1 : AHeap) (hv : opA P E S c o s.T s.H = some (v, H1)) (h1 : s'.H = s.H) (h2 : s'.pend = s.pend) (h3 : s'.loads = s.loads) (h4 : s'.vers = s.vers)
  | fresh (hw : wantedA c ops s.T o = some true) (hc : cls o.op = .load) (Hs : AHeap) (hf : freshOf c ops (Region.before ops) n0 i o s.T s.pend = some Hs) (hv : loadedA P E S c o s.T Hs = some v) (h1 : s'.H = s.H) (h2 : s'.pend = s.pend) (h3 : s'.loads = s.loads) (h4 : s'.vers = s.vers)
  | load (hw : wantedA c ops s.T o = some true) (hc : cls o.op = .load) (hv : loadedA P E S c o s.T s.H = some v) (h1 : s'.H = s.H) (h2 : s'.pend = s.pend)
      (h3 : s'.loads = (winLo ops (Region.before ops) i, winHi ops (Region.before ops) i, (fun H => loadedA P E S c o s.T H), v) :: s.loads) (h4 : s'.vers = s.vers)
  | alloc (hw : wantedA c ops s.T o = some true) (hc : cls o.op = .alloc) (ob : AObj) (hv : allocA P E S c o s.T (n0 + i) = some (v, ob)) (h1 : s'.H = s.H) (h2 : s'.pend = s.pend ++ [(i, ob)]) (h3 : s'.loads = s.loads) (h4 : s'.vers = s.vers)
  | effect (hw : wantedA c ops s.T o = some true) (hc : cls o.op = .effect) (H1 : AHeap) (ha : absorb ((Region.before ops).getD i 0) n0 s.pend s.H = (s'.pend, H1)) (hv : opA P E S c o s.T H1 = some (v, s'.H)) (h3 : s'.loads = s.loads) (h4 : s'.vers = s.vers ++ [s'.H])

omit [Val] in
theorem drawStep_spec {i : Nat} {s s' : DSt} (h : drawStep P E S c ops (Region.before ops) n0 i s = some s') : ∃ o v, ops[i]? = some o ∧ s.T.lay c o.dst v = some s'.T ∧ StepIs P E S c ops n0 i s s' o v := by
  obtain ⟨T, H, pend, vers, loads⟩ := s
  unfold drawStep at h
  simp only at h
  split at h
  · cases h
  · rename_i o ho
    split at h
    · cases h
    · rename_i hw
      split at h
      · rename_i hc
        split at h
        · rename_i v H1 hv
          split at h
          · rename_i T' hl; cases h; exact ⟨o, v, ho, hl, .pure hw hc H1 hv rfl rfl rfl rfl⟩
          · cases h
        · cases h
      · rename_i hc
        split at h
        · rename_i Hs hf
          split at h
          · rename_i v hv
            split at h
            · rename_i T' hl; cases h; exact ⟨o, v, ho, hl, .fresh hw hc Hs hf hv rfl rfl rfl rfl⟩
            · cases h
          · cases h
        · split at h
          · rename_i v hv
            split at h
            · rename_i T' hl; cases h; exact ⟨o, v, ho, hl, .load hw hc hv rfl rfl rfl rfl⟩
            · cases h
          · cases h
      · rename_i hc
        split at h
        · rename_i v ob hv
          split at h
          · rename_i T' hl; cases h; exact ⟨o, v, ho, hl, .alloc hw hc ob hv rfl rfl rfl rfl⟩
          · cases h
        · cases h
      · rename_i hc
        split at h
        · rename_i v H' hv
          split at h
          · rename_i T' hl; cases h; exact ⟨o, v, ho, hl, .effect hw hc _ rfl hv rfl rfl⟩
          · cases h
        · cases h
    · rename_i hw
      split at h
      · rename_i T' hl; cases h
        refine ⟨o, undefA, ho, hl, .off hw rfl rfl rfl rfl ?_⟩
        cases hc : cls o.op <;> simp
      · cases h

structure Trace (P : Program) (E : Env) (S : Evs) (c : Ctx) (ops : Array Oper) (n0 : Nat) (st : Nat → DSt) : Prop where
  ok : DrawOk ops
  step : ∀ i, i < ops.size → ∃ o v, ops[i]? = some o ∧ (st i).T.lay c o.dst v = some (st (i + 1)).T ∧ StepIs P E S c ops n0 i (st i) (st (i + 1)) o v
  pend0 : (st 0).pend = []
  vers0 : (st 0).vers = [(st 0).H]
  stays : (st ops.size).loads.all (loadStays (st ops.size).vers) = true

omit [Val] in
theorem trace_of {bef : Array Nat} : ∀ (m k : Nat) (s s' : DSt), drawSteps P E S c ops bef n0 (List.range' k m) s = some s' → ∃ st : Nat → DSt, st k = s ∧ st (k + m) = s' ∧ ∀ i, k ≤ i → i < k + m → drawStep P E S c ops bef n0 i (st i) = some (st (i + 1))
  | 0, k, s, s', h => by cases h; exact ⟨fun _ => s, rfl, rfl, fun i h1 h2 => by omega⟩
  | m + 1, k, s, s', h => by
    rw [show List.range' k (m + 1) = k :: List.range' (k + 1) m from rfl] at h
    simp only [drawSteps] at h
    split at h
    · rename_i s1 hs
      obtain ⟨st, h1, h2, h3⟩ := trace_of m (k + 1) s1 s' h
      refine ⟨fun i => if i = k then s else st i, by simp, ?_, fun i hi hk => ?_⟩
      · simp only; rw [if_neg (by omega), ← h2]; congr 1; omega
      · simp only
        by_cases e : i = k
        · subst e; rw [if_pos rfl, if_neg (by omega), h1]; exact hs
        · rw [if_neg e, if_neg (by omega)]; exact h3 i (by omega) (by omega)
    · cases h

variable {st : Nat → DSt} (tr : Trace P E S c ops n0 st)
include tr

omit tr in
omit [Val] in
theorem effOf {i : Nat} {o : Oper} (ho : ops[i]? = some o) : isEff ops i = true ↔ cls o.op = .effect := by
  simp [isEff, ho]

omit [Val] in
/-- heaps, behind each effect. -/
theorem Trace.vers_step {i : Nat} (hi : i < ops.size) : if isEff ops i = true then (st (i + 1)).vers = (st i).vers ++ [(st (i + 1)).H] else (st (i + 1)).vers = (st i).vers ∧ (st (i + 1)).H = (st i).H := by
  obtain ⟨o, v, ho, -, hs⟩ := tr.step i hi
  have he := effOf ho
  by_cases h : isEff ops i = true
  · rw [if_pos h]
    have hc := he.1 h
    cases hs with
    | off hw hv h1 h2 h3 h4 => rw [h4, if_pos hc, h1]
    | pure _ hc' => rw [hc] at hc'; cases hc'
    | fresh _ hc' => rw [hc] at hc'; cases hc'
    | load _ hc' => rw [hc] at hc'; cases hc'
    | alloc _ hc' => rw [hc] at hc'; cases hc'
    | effect _ _ _ _ _ _ h4 => exact h4
  · rw [if_neg h]
    have hc : cls o.op ≠ .effect := fun e => h (he.2 e)
    cases hs with
    | off hw hv h1 h2 h3 h4 => rw [h4, if_neg hc]; exact ⟨rfl, h1⟩
    | pure _ _ _ _ h1 _ _ h4 => exact ⟨h4, h1⟩
    | fresh _ _ _ _ _ h1 _ _ h4 => exact ⟨h4, h1⟩
    | load _ _ _ h1 _ _ h4 => exact ⟨h4, h1⟩
    | alloc _ _ _ _ h1 _ _ h4 => exact ⟨h4, h1⟩
    | effect _ hc' => exact absurd hc' hc

omit [Val] in
theorem Trace.vers_at : ∀ i, i ≤ ops.size → (st i).vers.length = ne ops i + 1 ∧ (st i).vers[ne ops i]? = some (st i).H
  | 0, _ => by rw [tr.vers0]; simp [ne]
  | i + 1, hi => by
    obtain ⟨h1, h2⟩ := Trace.vers_at i (by omega)
    have hs := tr.vers_step (show i < ops.size by omega)
    rw [ne_succ]
    by_cases he : isEff ops i = true
    · rw [if_pos he] at hs ⊢
      rw [hs]
      refine ⟨by simp [h1], ?_⟩
      rw [List.getElem?_append_right (by omega)]
      simp [h1]
    · rw [if_neg he] at hs ⊢
      rw [hs.1, hs.2]
      exact ⟨h1, h2⟩

omit [Val] in
theorem Trace.vers_grow : ∀ (d i : Nat), i + d ≤ ops.size → ∀ (m : Nat) (x : AHeap), (st i).vers[m]? = some x → (st (i + d)).vers[m]? = some x
  | 0, i, _, m, x, h => h
  | d + 1, i, hi, m, x, h => by
    have hs := tr.vers_step (show i < ops.size by omega)
    rw [show i + (d + 1) = (i + 1) + d from by omega]
    refine Trace.vers_grow d (i + 1) (by omega) m x ?_
    by_cases he : isEff ops i = true
    · rw [if_pos he] at hs
      rw [hs, List.getElem?_append_left (List.getElem?_eq_some_iff.1 h).1]
      exact h
    · rw [if_neg he] at hs; rw [hs.1]; exact h

omit [Val] in
/-- the heap behind j effects. -/
theorem Trace.ver {i : Nat} (hi : i ≤ ops.size) : (st ops.size).vers[ne ops i]? = some (st i).H := by
  have := tr.vers_grow (ops.size - i) i (by omega) _ _ (tr.vers_at i hi).2
  rwa [show i + (ops.size - i) = ops.size from by omega] at this

omit [Val] in
theorem Trace.loads_grow : ∀ d i, i + d ≤ ops.size → ∀ x, x ∈ (st i).loads → x ∈ (st (i + d)).loads
  | 0, i, _, x, h => h
  | d + 1, i, hi, x, h => by
    obtain ⟨o, v, ho, -, hs⟩ := tr.step i (by omega)
    rw [show i + (d + 1) = (i + 1) + d from by omega]
    refine Trace.loads_grow d (i + 1) (by omega) x ?_
    cases hs with
    | off _ _ _ _ h3 => rw [h3]; exact h
    | pure _ _ _ _ _ _ h3 => rw [h3]; exact h
    | fresh _ _ _ _ _ _ _ h3 => rw [h3]; exact h
    | load _ _ _ _ _ h3 => rw [h3]; exact List.mem_cons_of_mem _ h
    | alloc _ _ _ _ _ _ h3 => rw [h3]; exact h
    | effect _ _ _ _ _ h3 => rw [h3]; exact h

omit [Val] in
/-! ### temporaries -/
theorem Trace.T_step {i : Nat} (hi : i < ops.size) {o : Oper} (ho : ops[i]? = some o) : ∃ v, ∀ d, (st (i + 1)).T.get c d = if o.dst = some d then some v else (st i).T.get c d := by
  obtain ⟨o', v, ho', hl, -⟩ := tr.step i hi
  rw [ho] at ho'; cases ho'
  exact ⟨v, fun d => Tmps.get_lay hl d⟩

theorem Trace.T_same {d : Tmp} : ∀ m i, i + m ≤ ops.size → (∀ k o, i ≤ k → k < i + m → ops[k]? = some o → o.dst ≠ some d) → (st (i + m)).T.get c d = (st i).T.get c d
  | 0, i, _, _ => rfl
  | m + 1, i, hi, h => by
    have ho : ops[i]? = some ops[i] := Array.getElem?_eq_getElem (by omega)
    obtain ⟨v, hv⟩ := tr.T_step (show i < ops.size by omega) ho
    rw [show i + (m + 1) = (i + 1) + m from by omega, Trace.T_same m (i + 1) (by omega) (fun k o h1 h2 => h k o (by omega) (by omega)), hv d, if_neg (h i _ (Nat.le_refl _) (by omega) ho)]

/-! ### blocks that wait -/
def Wd (c : Ctx) (ops : Array Oper) (st : Nat → DSt) (k : Nat) : Prop := ∃ o, ops[k]? = some o ∧ wantedA c ops (st k).T o = some true
def Al (P : Program) (E : Env) (S : Evs) (c : Ctx) (ops : Array Oper) (n0 : Nat) (st : Nat → DSt) (a : Nat) (ob : AObj) : Prop :=
  ∃ o v, ops[a]? = some o ∧ cls o.op = .alloc ∧ wantedA c ops (st a).T o = some true ∧ allocA P E S c o (st a).T (n0 + a) = some (v, ob)
/-- an effect among the first j has got block a. -/
def AbsE (c : Ctx) (ops : Array Oper) (st : Nat → DSt) (a j : Nat) : Prop := ∃ k, k < ops.size ∧ isEff ops k = true ∧ ne ops k < j ∧ Wd c ops st k ∧ Bef ops k a

omit tr in
omit [Val] in
theorem Al.inj {a : Nat} {x y : AObj} (h : Al P E S c ops n0 st a x) (k : Al P E S c ops n0 st a y) : x = y := by
  obtain ⟨o, v, h1, -, -, h2⟩ := h
  obtain ⟨o', v', k1, -, -, k2⟩ := k
  rw [h1] at k1; cases k1
  rw [h2] at k2; cases k2; rfl

theorem Trace.pend_at : ∀ i, i ≤ ops.size → ∀ a ob, (a, ob) ∈ (st i).pend ↔ a < i ∧ Al P E S c ops n0 st a ob ∧ ¬ AbsE c ops st a (ne ops i)
  | 0, _, a, ob => by rw [tr.pend0]; simp
  | i + 1, hi, a, ob => by
    have ih := Trace.pend_at i (by omega) a ob
    obtain ⟨o, v, ho, -, hs⟩ := tr.step i (by omega)
    have he := effOf ho
    -- steps that neither make nor get a block
    have plain : (st (i + 1)).pend = (st i).pend → (∀ ob, ¬ Al P E S c ops n0 st i ob) → (isEff ops i = true → ¬ Wd c ops st i) → ((a, ob) ∈ (st (i + 1)).pend ↔ a < i + 1 ∧ Al P E S c ops n0 st a ob ∧ ¬ AbsE c ops st a (ne ops (i + 1))) := by
      intro h1 h2 h3
      rw [h1, ih]
      have habs : AbsE c ops st a (ne ops (i + 1)) ↔ AbsE c ops st a (ne ops i) := by
        constructor
        · rintro ⟨k, k1, k2, k3, k4, k5⟩
          refine ⟨k, k1, k2, ?_, k4, k5⟩
          rw [← ne_lt k2] at k3 ⊢
          rcases Nat.lt_succ_iff_lt_or_eq.1 k3 with h | h
          · exact h
          · subst h; exact absurd k4 (h3 k2)
        · rintro ⟨k, k1, k2, k3, k4, k5⟩
          exact ⟨k, k1, k2, Nat.lt_of_lt_of_le k3 (ne_mono _ (by omega)), k4, k5⟩
      rw [habs]
      constructor
      · rintro ⟨q1, q2, q3⟩; exact ⟨by omega, q2, q3⟩
      · rintro ⟨q1, q2, q3⟩
        refine ⟨?_, q2, q3⟩
        rcases Nat.lt_succ_iff_lt_or_eq.1 q1 with h | h
        · exact h
        · subst h; exact absurd q2 (h2 ob)
    have noAl : cls o.op ≠ .alloc → ∀ ob, ¬ Al P E S c ops n0 st i ob := by
      rintro hc ob ⟨o', v', k1, k2, -, -⟩
      rw [ho] at k1; cases k1; exact hc k2
    have noEff : cls o.op ≠ .effect → isEff ops i = true → ¬ Wd c ops st i := fun hc h => absurd (he.1 h) hc
    cases hs with
    | off hw hv h1 h2 h3 h4 =>
      refine plain h2 ?_ ?_
      · rintro ob ⟨o', v', k1, -, k3, -⟩
        rw [ho] at k1; cases k1; rw [hw] at k3; cases k3
      · rintro - ⟨o', k1, k3⟩
        rw [ho] at k1; cases k1; rw [hw] at k3; cases k3
    | pure _ hc _ _ _ h2 => exact plain h2 (noAl (by rw [hc]; simp)) (noEff (by rw [hc]; simp))
    | fresh _ hc _ _ _ _ h2 => exact plain h2 (noAl (by rw [hc]; simp)) (noEff (by rw [hc]; simp))
    | load _ hc _ _ h2 => exact plain h2 (noAl (by rw [hc]; simp)) (noEff (by rw [hc]; simp))
    | alloc hw hc ob' hv h1 h2 =>
      have hne : ne ops (i + 1) = ne ops i := by
        rw [ne_succ, if_neg (by rw [he, hc]; simp)]; rfl
      have hAl : Al P E S c ops n0 st i ob' := ⟨o, v, ho, hc, hw, hv⟩
      rw [h2, hne]
      simp only [List.mem_append, List.mem_singleton, Prod.mk.injEq, ih]
      constructor
      · rintro (⟨q1, q2, q3⟩ | ⟨rfl, rfl⟩)
        · exact ⟨by omega, q2, q3⟩
        · refine ⟨by omega, hAl, ?_⟩
          rintro ⟨k, k1, k2, k3, k4, k5⟩
          have := (ne_lt k2).2 k3
          have := Bef.lt tr.ok k k5
          omega
      · rintro ⟨q1, q2, q3⟩
        rcases Nat.lt_succ_iff_lt_or_eq.1 q1 with h | h
        · exact .inl ⟨h, q2, q3⟩
        · subst h; exact .inr ⟨rfl, q2.inj hAl⟩
    | effect hw hc H1 ha hv h3 h4 =>
      have heff := he.2 hc
      have hsp := (absorb_spec (bef := (Region.before ops).getD i 0) (n0 := n0) (st i).pend (st i).H).1 a ob
      rw [ha] at hsp
      simp only at hsp
      rw [hsp, ih]
      have habs : AbsE c ops st a (ne ops (i + 1)) ↔ AbsE c ops st a (ne ops i) ∨ Bef ops i a := by
        constructor
        · rintro ⟨k, k1, k2, k3, k4, k5⟩
          rw [← ne_lt k2] at k3
          rcases Nat.lt_succ_iff_lt_or_eq.1 k3 with h | h
          · exact .inl ⟨k, k1, k2, (ne_lt k2).1 h, k4, k5⟩
          · subst h; exact .inr k5
        · rintro (⟨k, k1, k2, k3, k4, k5⟩ | k5)
          · exact ⟨k, k1, k2, Nat.lt_of_lt_of_le k3 (ne_mono _ (by omega)), k4, k5⟩
          · exact ⟨i, by omega, heff, (ne_lt heff).1 (by omega), ⟨o, ho, hw⟩, k5⟩
      rw [habs]
      have hai : Al P E S c ops n0 st a ob → a ≠ i := by
        rintro ⟨o', v', k1, k2, -, -⟩ rfl
        rw [ho] at k1; cases k1; rw [hc] at k2; cases k2
      constructor
      · rintro ⟨⟨q1, q2, q3⟩, q4⟩
        refine ⟨by omega, q2, ?_⟩
        rintro (h | h)
        · exact q3 h
        · rw [show ((Region.before ops).getD i 0).testBit a = true from h] at q4; cases q4
      · rintro ⟨q1, q2, q3⟩
        have := hai q2
        exact ⟨⟨by omega, q2, fun h => q3 (.inl h)⟩, by
          cases hb : ((Region.before ops).getD i 0).testBit a with
          | false => rfl
          | true => exact absurd (.inr hb) q3⟩

end
end Go.Tc
