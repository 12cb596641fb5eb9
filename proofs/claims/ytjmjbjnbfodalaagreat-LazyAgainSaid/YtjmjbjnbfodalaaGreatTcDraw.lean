/- regions that draw their order: what lies ahead of what; the run in the text's order. -/
import Derived.Test.YtjmjbjnbfodalaaGreatTcRegion
import Derived.OrdersIn
set_option linter.unusedSimpArgs false
set_option linter.unusedVariables false
set_option linter.unusedSectionVars false
namespace Go.Tc
variable [Val]
def befStep (acc : Array Nat) (o : Oper) : Array Nat := acc.push (o.after.foldl (fun s e => if Region.binds .any e then s ||| 2 ^ e.on ||| acc.getD e.on 0 else s) 0)
omit [Val] in
theorem before_def (ops : Array Oper) : Region.before ops = ops.toList.foldl befStep #[] := by
  unfold Region.before; rw [← Array.foldl_toList]; rfl
omit [Val] in
theorem befStep_fold : ∀ (l : List Oper) (acc : Array Nat), (∀ k, k < acc.size → (l.foldl befStep acc).getD k 0 = acc.getD k 0) ∧
    (∀ k, acc.size + l.length ≤ k → (l.foldl befStep acc).getD k 0 = 0) ∧
    ∀ m o, l[m]? = some o → ∃ acc' : Array Nat, (l.foldl befStep acc).getD (acc.size + m) 0 = o.after.foldl (fun s e => if Region.binds .any e then s ||| 2 ^ e.on ||| acc'.getD e.on 0 else s) 0 ∧
      ∀ k, acc'.getD k 0 = (l.foldl befStep acc).getD k 0 ∨ acc'.getD k 0 = 0
  | [], acc => by
    refine ⟨fun k _ => rfl, fun k hk => ?_, fun m o h => by simp at h⟩
    simp only [List.foldl_nil, List.length_nil, Nat.add_zero] at hk ⊢
    simp [Array.getD_eq_getD_getElem?, Array.getElem?_eq_none hk]
  | o :: l, acc => by
    obtain ⟨h1, h2, h3⟩ := befStep_fold l (befStep acc o)
    have hsz : (befStep acc o).size = acc.size + 1 := by simp [befStep]
    have hpre : ∀ k, k < acc.size → (l.foldl befStep (befStep acc o)).getD k 0 = acc.getD k 0 := fun k hk => by
      rw [h1 k (by omega)]
      simp only [befStep, Array.getD_eq_getD_getElem?]
      rw [Array.getElem?_push, if_neg (by omega)]
    refine ⟨hpre, fun k hk => h2 k (by rw [hsz]; simp only [List.length_cons] at hk; omega), fun m o' hm => ?_⟩
    cases m with
    | zero =>
      simp only [List.getElem?_cons_zero, Option.some.injEq] at hm
      subst hm
      refine ⟨acc, ?_, fun k => ?_⟩
      · simp only [List.foldl_cons, Nat.add_zero]
        rw [h1 _ (by omega)]
        simp only [befStep, Array.getD_eq_getD_getElem?]
        rw [Array.getElem?_push, if_pos rfl]; rfl
      · by_cases hk : k < acc.size
        · exact .inl (hpre k hk).symm
        · exact .inr (by simp [Array.getD_eq_getD_getElem?, Array.getElem?_eq_none (Nat.le_of_not_lt hk)])
    | succ m =>
      obtain ⟨acc', q1, q2⟩ := h3 m o' (by simpa using hm)
      refine ⟨acc', ?_, q2⟩
      rw [← q1, hsz]
      simp only [List.foldl_cons]
      congr 1; omega
omit [Val] in
theorem fold_bit (f : Edge → Nat) (j : Nat) : ∀ (l : List Edge) (s : Nat), (l.foldl (fun s e => if Region.binds .any e then s ||| 2 ^ e.on ||| f e else s) s).testBit j = true →
    s.testBit j = true ∨ ∃ e ∈ l, Region.binds .any e = true ∧ (e.on = j ∨ (f e).testBit j = true)
  | [], s, h => .inl h
  | e :: l, s, h => by
    rw [List.foldl_cons] at h
    rcases fold_bit f j l _ h with h1 | ⟨e', h1, h2⟩
    · split at h1
      · rename_i hb
        simp only [Nat.testBit_or, Bool.or_eq_true, Nat.testBit_two_pow, decide_eq_true_eq] at h1
        rcases h1 with (h1 | h1) | h1
        · exact .inl h1
        · exact .inr ⟨e, by simp, hb, .inl h1⟩
        · exact .inr ⟨e, by simp, hb, .inr h1⟩
      · exact .inl h1
    · exact .inr ⟨e', by simp [h1], h2⟩
abbrev Bef (ops : Array Oper) (i j : Nat) : Prop := ((Region.before ops).getD i 0).testBit j = true
omit [Val] in
theorem before_bit {ops : Array Oper} {i j : Nat} (h : Bef ops i j) : ∃ o e, ops[i]? = some o ∧ e ∈ o.after ∧ Region.binds .any e = true ∧ (e.on = j ∨ Bef ops e.on j) := by
  unfold Bef at h
  rw [before_def] at h
  obtain ⟨-, h2, h3⟩ := befStep_fold ops.toList #[]
  cases ho : ops[i]? with
  | none =>
    have hi : ops.size ≤ i := by simpa using ho
    rw [h2 i (by simpa using hi)] at h
    simp at h
  | some o =>
    obtain ⟨acc', q1, q2⟩ := h3 i o (by simpa using ho)
    simp only [List.size_toArray, List.length_nil, Nat.zero_add] at q1
    rw [q1, ← Array.foldl_toList] at h
    rcases fold_bit (fun e => acc'.getD e.on 0) j _ _ h with h0 | ⟨e, he, hb, h0⟩
    · simp at h0
    · refine ⟨o, e, rfl, by simpa using he, hb, h0.imp id fun h0 => ?_⟩
      unfold Bef
      rw [before_def]
      rcases q2 e.on with hq | hq
      · rw [← hq]; exact h0
      · rw [hq] at h0; simp at h0
def isEff (ops : Array Oper) (k : Nat) : Bool := match ops[k]? with | some o => cls o.op == .effect | none => false
omit [Val] in
theorem effectsOf_def (ops : Array Oper) : effectsOf ops = (List.range ops.size).filter (isEff ops) := rfl
structure DrawOk (ops : Array Oper) : Prop where
  chain : chained (Region.before ops) (effectsOf ops) = true
  edge : ∀ i o, ops[i]? = some o → ∀ e ∈ o.after, Region.binds .any e = true → e.on < i
  dst : ∀ i o d, ops[i]? = some o → o.dst = some d → ∀ j u, ops[j]? = some u → i ≠ j → u.dst ≠ some d ∧ (d ∉ readsOf ops u ∨ Bef ops j i ∨ Bef ops i j)
omit [Val] in
theorem drawOk_spec {ops : Array Oper} (h : drawOk ops = true) : DrawOk ops := by
  unfold drawOk at h
  simp only [Bool.and_eq_true, List.all_eq_true] at h
  obtain ⟨h1, h2⟩ := h
  have lt : ∀ {i : Nat} {o : Oper}, ops[i]? = some o → i ∈ List.range ops.size := fun ho => List.mem_range.2 (Array.getElem?_eq_some_iff.1 ho).1
  refine ⟨h1, fun i o ho e he hb => ?_, fun i o d ho hd j u hu hij => ?_⟩
  · have := h2 i (lt ho)
    simp only [ho, Bool.and_eq_true] at this
    have := this.1.1
    rw [Array.all_eq_true_iff_forall_mem] at this
    have := this e he
    simpa [hb] using this
  · have := h2 i (lt ho)
    simp only [ho, hd, Bool.and_eq_true] at this
    have := this.1.2
    rw [List.all_eq_true] at this
    have := this j (lt hu)
    simp only [hu, Bool.or_eq_true, beq_iff_eq, Bool.and_eq_true, bne_iff_ne, ne_eq, Bool.not_eq_true'] at this
    rcases this with h | ⟨h, h'⟩
    · exact absurd h hij
    · refine ⟨h, ?_⟩
      rcases h' with (h' | h') | h'
      · left; intro hm; rw [List.contains_iff_mem.2 hm] at h'; cases h'
      · exact .inr (.inl h')
      · exact .inr (.inr h')
omit [Val] in
theorem Bef.lt {ops : Array Oper} (hok : DrawOk ops) : ∀ (i : Nat) {j : Nat}, Bef ops i j → j < i := by
  intro i
  induction i using Nat.strongRecOn with
  | _ i ih =>
    intro j h
    obtain ⟨o, e, ho, he, hb, h⟩ := before_bit h
    have := hok.edge i o ho e he hb
    rcases h with rfl | h
    · exact this
    · exact Nat.lt_trans (ih _ this h) this
def ne (ops : Array Oper) (i : Nat) : Nat := ((List.range i).filter (isEff ops)).length
omit [Val] in
theorem ne_succ (ops : Array Oper) (i : Nat) : ne ops (i + 1) = ne ops i + if isEff ops i then 1 else 0 := by
  unfold ne
  rw [List.range_succ, List.filter_append, List.length_append]
  cases h : isEff ops i <;> simp [h]
omit [Val] in
theorem ne_mono (ops : Array Oper) {i k : Nat} (h : i ≤ k) : ne ops i ≤ ne ops k := by
  induction h with
  | refl => exact Nat.le_refl _
  | step _ ih => rw [ne_succ]; omega
omit [Val] in
theorem ne_lt {ops : Array Oper} {k i : Nat} (he : isEff ops k = true) : k < i ↔ ne ops k < ne ops i := by
  constructor
  · intro h
    have h1 := ne_mono ops (show k + 1 ≤ i from h)
    rw [ne_succ, he] at h1
    simp at h1; omega
  · intro h
    by_cases hk : k < i
    · exact hk
    · have := ne_mono ops (Nat.le_of_not_lt hk); omega
omit [Val] in
theorem eff_at {ops : Array Oper} {k : Nat} (hk : k < ops.size) (he : isEff ops k = true) : (effectsOf ops)[ne ops k]? = some k := by
  rw [effectsOf_def]
  have : List.range ops.size = List.range k ++ (k :: (List.range' (k + 1) (ops.size - k - 1))) := by
    have h1 : (k :: List.range' (k + 1) (ops.size - k - 1)) = List.range' k (ops.size - k) := by
      rw [show ops.size - k = (ops.size - k - 1) + 1 from by omega]; rfl
    have h2 : List.range' 0 k ++ List.range' (0 + k) (ops.size - k) = List.range' 0 (k + (ops.size - k)) := List.range'_append_1
    rw [List.range_eq_range', List.range_eq_range', h1]
    rw [Nat.zero_add, show k + (ops.size - k) = ops.size from by omega] at h2
    exact h2.symm
  rw [this, List.filter_append, List.filter_cons_of_pos he]
  rw [List.getElem?_append_right (by unfold ne; omega)]
  simp [ne]
omit [Val] in
theorem eff_mem {ops : Array Oper} {k : Nat} (h : k ∈ effectsOf ops) : k < ops.size ∧ isEff ops k = true := by
  rw [effectsOf_def, List.mem_filter, List.mem_range] at h; exact h
omit [Val] in
theorem eff_index {ops : Array Oper} {k m : Nat} (h : (effectsOf ops)[m]? = some k) : k < ops.size ∧ isEff ops k = true ∧ ne ops k = m := by
  have hm := eff_mem (List.mem_of_getElem? h)
  refine ⟨hm.1, hm.2, ?_⟩
  have h1 := eff_at hm.1 hm.2
  have hlt : ne ops k < (effectsOf ops).length := (List.getElem?_eq_some_iff.1 h1).1
  have hnd : (effectsOf ops).Nodup := by
    rw [effectsOf_def]
    exact List.nodup_range.filter _
  exact (List.getElem?_inj hlt hnd).1 (h1.trans h.symm)
omit [Val] in
theorem chained_get {bef : Array Nat} : ∀ {l : List Nat} {m a b : Nat}, chained bef l = true → l[m]? = some a → l[m + 1]? = some b → (bef.getD b 0).testBit a = true
  | [], _, _, _, _, h, _ => by simp at h
  | [_], m, _, _, _, _, h => by simp at h
  | x :: y :: r, 0, a, b, hc, h, h' => by
    simp only [List.getElem?_cons_zero, List.getElem?_cons_succ, Option.some.injEq] at h h'
    subst h; subst h'
    simp only [chained, Bool.and_eq_true] at hc
    exact hc.1
  | x :: y :: r, m + 1, a, b, hc, h, h' => by
    simp only [chained, Bool.and_eq_true] at hc
    exact chained_get hc.2 (by simpa using h) (by simpa using h')
omit [Val] in
theorem ne_all (ops : Array Oper) : ne ops ops.size = (effectsOf ops).length := rfl
omit [Val] in
theorem absorb_spec {bef n0 : Nat} : ∀ (pend : List (Nat × AObj)) (H : AHeap), (∀ a ob, (a, ob) ∈ (absorb bef n0 pend H).1 ↔ (a, ob) ∈ pend ∧ bef.testBit a = false) ∧ (absorb bef n0 pend H).2.next = H.next ∧
    (∀ x o, (absorb bef n0 pend H).2.get x = some o → (∃ a, x = n0 + a ∧ (a, o) ∈ pend ∧ bef.testBit a = true) ∨ H.get x = some o)
  | [], H => by simp [absorb]
  | (i, ob) :: r, H => by
    cases hb : bef.testBit i with
    | true =>
      obtain ⟨h1, h2, h3⟩ := absorb_spec r (H.set (n0 + i) ob)
      simp only [absorb, hb]
      refine ⟨fun a o => ?_, by rw [h2, AHeap.next_set], fun x o h => ?_⟩
      · rw [h1]
        constructor
        · rintro ⟨q1, q2⟩; exact ⟨by simp [q1], q2⟩
        · rintro ⟨q1, q2⟩
          rcases List.mem_cons.1 q1 with q | q
          · cases q; rw [hb] at q2; cases q2
          · exact ⟨q, q2⟩
      · rcases h3 x o h with ⟨a, q1, q2, q3⟩ | q
        · exact .inl ⟨a, q1, by simp [q2], q3⟩
        · rw [AHeap.get_set] at q
          simp only at q
          split at q
          · rename_i hx; cases q; exact .inl ⟨i, hx, by simp, hb⟩
          · exact .inr q
    | false =>
      obtain ⟨h1, h2, h3⟩ := absorb_spec r H
      simp only [absorb, hb]
      refine ⟨fun a o => ?_, h2, fun x o h => ?_⟩
      · simp only [List.mem_cons, h1]
        constructor
        · rintro (q | ⟨q1, q2⟩)
          · cases q; exact ⟨.inl rfl, hb⟩
          · exact ⟨.inr q1, q2⟩
        · rintro ⟨q | q, q2⟩
          · exact .inl q
          · exact .inr ⟨q, q2⟩
      · rcases h3 x o h with ⟨a, q1, q2, q3⟩ | q
        · exact .inl ⟨a, q1, by simp [q2], q3⟩
        · exact .inr q
omit [Val] in
theorem settle_spec {n0 : Nat} : ∀ (pend : List (Nat × AObj)) (H : AHeap), (settle n0 pend H).next = H.next ∧ ∀ x o, (settle n0 pend H).get x = some o → (∃ a, x = n0 + a ∧ (a, o) ∈ pend) ∨ H.get x = some o
  | [], H => by simp [settle]
  | (i, ob) :: r, H => by
    obtain ⟨h2, h3⟩ := settle_spec r (H.set (n0 + i) ob)
    simp only [settle]
    refine ⟨by rw [h2, AHeap.next_set], fun x o h => ?_⟩
    rcases h3 x o h with ⟨a, q1, q2⟩ | q
    · exact .inl ⟨a, q1, by simp [q2]⟩
    · rw [AHeap.get_set] at q
      simp only at q
      split at q
      · rename_i hx; cases q; exact .inl ⟨i, hx, by simp⟩
      · exact .inr q
end Go.Tc
namespace Go.Tc
variable [Val]
section
variable {P : Program} {E : Env} {S : Evs} {c : Ctx} {ops : Array Oper} {n0 : Nat}
inductive StepIs (P : Program) (E : Env) (S : Evs) (c : Ctx) (ops : Array Oper) (n0 i : Nat) (s s' : DSt) (o : Oper) (v : AV) : Prop
  | off (hw : wantedA c ops s.T o = some false) (hv : v = undefA) (h1 : s'.H = s.H) (h2 : s'.pend = s.pend) (h3 : s'.loads = s.loads) (h4 : s'.vers = if cls o.op = .effect then s.vers ++ [s.H] else s.vers)
  | pure (hw : wantedA c ops s.T o = some true) (hc : cls o.op = .pure) (H1 : AHeap) (hv : opA P E S c o s.T s.H = some (v, H1)) (h1 : s'.H = s.H) (h2 : s'.pend = s.pend) (h3 : s'.loads = s.loads) (h4 : s'.vers = s.vers)
  | fresh (hw : wantedA c ops s.T o = some true) (hc : cls o.op = .load) (Hs : AHeap) (hf : freshOf c ops (Region.before ops) n0 i o s.T s.pend = some Hs) (hv : loadedA P E S c o s.T Hs = some v) (h1 : s'.H = s.H) (h2 : s'.pend = s.pend) (h3 : s'.loads = s.loads) (h4 : s'.vers = s.vers)
  | load (hw : wantedA c ops s.T o = some true) (hc : cls o.op = .load) (hv : loadedA P E S c o s.T s.H = some v) (h1 : s'.H = s.H) (h2 : s'.pend = s.pend)
      (h3 : s'.loads = (winLo ops (Region.before ops) i, winHi ops (Region.before ops) i, (fun H => loadedA P E S c o s.T H), v) :: s.loads) (h4 : s'.vers = s.vers)
  | alloc (hw : wantedA c ops s.T o = some true) (hc : cls o.op = .alloc) (ob : AObj) (hv : allocA P E S c o s.T (n0 + i) = some (v, ob)) (h1 : s'.H = s.H) (h2 : s'.pend = s.pend ++ [(i, ob)]) (h3 : s'.loads = s.loads) (h4 : s'.vers = s.vers)
  | effect (hw : wantedA c ops s.T o = some true) (hc : cls o.op = .effect) (H1 : AHeap) (ha : absorb ((Region.before ops).getD i 0) n0 s.pend s.H = (s'.pend, H1)) (hv : opA P E S c o s.T H1 = some (v, s'.H)) (h3 : s'.loads = s.loads) (h4 : s'.vers = s.vers ++ [s'.H])
omit [Val] in
theorem drawStep_spec {i : Nat} {s s' : DSt} (h : drawStep P E S c ops (Region.before ops) n0 i s = some s') : ∃ o v, ops[i]? = some o ∧ s.T.lay c o.dst v = some s'.T ∧ StepIs P E S c ops n0 i s s' o v := by
  obtain ⟨T, H, pend, vers, loads⟩ := s
  unfold drawStep at h
  simp only at h
  split at h
  · cases h
  · rename_i o ho
    split at h
    · cases h
    · rename_i hw
      split at h
      · rename_i hc
        split at h
        · rename_i v H1 hv
          split at h
          · rename_i T' hl; cases h; exact ⟨o, v, ho, hl, .pure hw hc H1 hv rfl rfl rfl rfl⟩
          · cases h
        · cases h
      · rename_i hc
        split at h
        · rename_i Hs hf
          split at h
          · rename_i v hv
            split at h
            · rename_i T' hl; cases h; exact ⟨o, v, ho, hl, .fresh hw hc Hs hf hv rfl rfl rfl rfl⟩
            · cases h
          · cases h
        · split at h
          · rename_i v hv
            split at h
            · rename_i T' hl; cases h; exact ⟨o, v, ho, hl, .load hw hc hv rfl rfl rfl rfl⟩
            · cases h
          · cases h
      · rename_i hc
        split at h
        · rename_i v ob hv
          split at h
          · rename_i T' hl; cases h; exact ⟨o, v, ho, hl, .alloc hw hc ob hv rfl rfl rfl rfl⟩
          · cases h
        · cases h
      · rename_i hc
        split at h
        · rename_i v H' hv
          split at h
          · rename_i T' hl; cases h; exact ⟨o, v, ho, hl, .effect hw hc _ rfl hv rfl rfl⟩
          · cases h
        · cases h
    · rename_i hw
      split at h
      · rename_i T' hl; cases h
        refine ⟨o, undefA, ho, hl, .off hw rfl rfl rfl rfl ?_⟩
        cases hc : cls o.op <;> simp
      · cases h
structure Trace (P : Program) (E : Env) (S : Evs) (c : Ctx) (ops : Array Oper) (n0 : Nat) (st : Nat → DSt) : Prop where
  ok : DrawOk ops
  step : ∀ i, i < ops.size → ∃ o v, ops[i]? = some o ∧ (st i).T.lay c o.dst v = some (st (i + 1)).T ∧ StepIs P E S c ops n0 i (st i) (st (i + 1)) o v
  pend0 : (st 0).pend = []
  vers0 : (st 0).vers = [(st 0).H]
  stays : (st ops.size).loads.all (loadStays (st ops.size).vers) = true
omit [Val] in
theorem trace_of {bef : Array Nat} : ∀ (m k : Nat) (s s' : DSt), drawSteps P E S c ops bef n0 (List.range' k m) s = some s' → ∃ st : Nat → DSt, st k = s ∧ st (k + m) = s' ∧ ∀ i, k ≤ i → i < k + m → drawStep P E S c ops bef n0 i (st i) = some (st (i + 1))
  | 0, k, s, s', h => by cases h; exact ⟨fun _ => s, rfl, rfl, fun i h1 h2 => by omega⟩
  | m + 1, k, s, s', h => by
    rw [show List.range' k (m + 1) = k :: List.range' (k + 1) m from rfl] at h
    simp only [drawSteps] at h
    split at h
    · rename_i s1 hs
      obtain ⟨st, h1, h2, h3⟩ := trace_of m (k + 1) s1 s' h
      refine ⟨fun i => if i = k then s else st i, by simp, ?_, fun i hi hk => ?_⟩
      · simp only; rw [if_neg (by omega), ← h2]; congr 1; omega
      · simp only
        by_cases e : i = k
        · subst e; rw [if_pos rfl, if_neg (by omega), h1]; exact hs
        · rw [if_neg e, if_neg (by omega)]; exact h3 i (by omega) (by omega)
    · cases h
variable {st : Nat → DSt} (tr : Trace P E S c ops n0 st)
include tr
omit tr in
omit [Val] in
theorem effOf {i : Nat} {o : Oper} (ho : ops[i]? = some o) : isEff ops i = true ↔ cls o.op = .effect := by
  simp [isEff, ho]
omit [Val] in
theorem Trace.vers_step {i : Nat} (hi : i < ops.size) : if isEff ops i = true then (st (i + 1)).vers = (st i).vers ++ [(st (i + 1)).H] else (st (i + 1)).vers = (st i).vers ∧ (st (i + 1)).H = (st i).H := by
  obtain ⟨o, v, ho, -, hs⟩ := tr.step i hi
  have he := effOf ho
  by_cases h : isEff ops i = true
  · rw [if_pos h]
    have hc := he.1 h
    cases hs with
    | off hw hv h1 h2 h3 h4 => rw [h4, if_pos hc, h1]
    | pure _ hc' => rw [hc] at hc'; cases hc'
    | fresh _ hc' => rw [hc] at hc'; cases hc'
    | load _ hc' => rw [hc] at hc'; cases hc'
    | alloc _ hc' => rw [hc] at hc'; cases hc'
    | effect _ _ _ _ _ _ h4 => exact h4
  · rw [if_neg h]
    have hc : cls o.op ≠ .effect := fun e => h (he.2 e)
    cases hs with
    | off hw hv h1 h2 h3 h4 => rw [h4, if_neg hc]; exact ⟨rfl, h1⟩
    | pure _ _ _ _ h1 _ _ h4 => exact ⟨h4, h1⟩
    | fresh _ _ _ _ _ h1 _ _ h4 => exact ⟨h4, h1⟩
    | load _ _ _ h1 _ _ h4 => exact ⟨h4, h1⟩
    | alloc _ _ _ _ h1 _ _ h4 => exact ⟨h4, h1⟩
    | effect _ hc' => exact absurd hc' hc
omit [Val] in
theorem Trace.vers_at : ∀ i, i ≤ ops.size → (st i).vers.length = ne ops i + 1 ∧ (st i).vers[ne ops i]? = some (st i).H
  | 0, _ => by rw [tr.vers0]; simp [ne]
  | i + 1, hi => by
    obtain ⟨h1, h2⟩ := Trace.vers_at i (by omega)
    have hs := tr.vers_step (show i < ops.size by omega)
    rw [ne_succ]
    by_cases he : isEff ops i = true
    · rw [if_pos he] at hs ⊢
      rw [hs]
      refine ⟨by simp [h1], ?_⟩
      rw [List.getElem?_append_right (by omega)]
      simp [h1]
    · rw [if_neg he] at hs ⊢
      rw [hs.1, hs.2]
      exact ⟨h1, h2⟩
omit [Val] in
theorem Trace.vers_grow : ∀ (d i : Nat), i + d ≤ ops.size → ∀ (m : Nat) (x : AHeap), (st i).vers[m]? = some x → (st (i + d)).vers[m]? = some x
  | 0, i, _, m, x, h => h
  | d + 1, i, hi, m, x, h => by
    have hs := tr.vers_step (show i < ops.size by omega)
    rw [show i + (d + 1) = (i + 1) + d from by omega]
    refine Trace.vers_grow d (i + 1) (by omega) m x ?_
    by_cases he : isEff ops i = true
    · rw [if_pos he] at hs
      rw [hs, List.getElem?_append_left (List.getElem?_eq_some_iff.1 h).1]
      exact h
    · rw [if_neg he] at hs; rw [hs.1]; exact h
omit [Val] in
theorem Trace.ver {i : Nat} (hi : i ≤ ops.size) : (st ops.size).vers[ne ops i]? = some (st i).H := by
  have := tr.vers_grow (ops.size - i) i (by omega) _ _ (tr.vers_at i hi).2
  rwa [show i + (ops.size - i) = ops.size from by omega] at this
omit [Val] in
theorem Trace.loads_grow : ∀ d i, i + d ≤ ops.size → ∀ x, x ∈ (st i).loads → x ∈ (st (i + d)).loads
  | 0, i, _, x, h => h
  | d + 1, i, hi, x, h => by
    obtain ⟨o, v, ho, -, hs⟩ := tr.step i (by omega)
    rw [show i + (d + 1) = (i + 1) + d from by omega]
    refine Trace.loads_grow d (i + 1) (by omega) x ?_
    cases hs with
    | off _ _ _ _ h3 => rw [h3]; exact h
    | pure _ _ _ _ _ _ h3 => rw [h3]; exact h
    | fresh _ _ _ _ _ _ _ h3 => rw [h3]; exact h
    | load _ _ _ _ _ h3 => rw [h3]; exact List.mem_cons_of_mem _ h
    | alloc _ _ _ _ _ _ h3 => rw [h3]; exact h
    | effect _ _ _ _ _ h3 => rw [h3]; exact h
omit [Val] in
theorem Trace.T_step {i : Nat} (hi : i < ops.size) {o : Oper} (ho : ops[i]? = some o) : ∃ v, ∀ d, (st (i + 1)).T.get c d = if o.dst = some d then some v else (st i).T.get c d := by
  obtain ⟨o', v, ho', hl, -⟩ := tr.step i hi
  rw [ho] at ho'; cases ho'
  exact ⟨v, fun d => Tmps.get_lay hl d⟩
theorem Trace.T_same {d : Tmp} : ∀ m i, i + m ≤ ops.size → (∀ k o, i ≤ k → k < i + m → ops[k]? = some o → o.dst ≠ some d) → (st (i + m)).T.get c d = (st i).T.get c d
  | 0, i, _, _ => rfl
  | m + 1, i, hi, h => by
    have ho : ops[i]? = some ops[i] := Array.getElem?_eq_getElem (by omega)
    obtain ⟨v, hv⟩ := tr.T_step (show i < ops.size by omega) ho
    rw [show i + (m + 1) = (i + 1) + m from by omega, Trace.T_same m (i + 1) (by omega) (fun k o h1 h2 => h k o (by omega) (by omega)), hv d, if_neg (h i _ (Nat.le_refl _) (by omega) ho)]
def Wd (c : Ctx) (ops : Array Oper) (st : Nat → DSt) (k : Nat) : Prop := ∃ o, ops[k]? = some o ∧ wantedA c ops (st k).T o = some true
def Al (P : Program) (E : Env) (S : Evs) (c : Ctx) (ops : Array Oper) (n0 : Nat) (st : Nat → DSt) (a : Nat) (ob : AObj) : Prop :=
  ∃ o v, ops[a]? = some o ∧ cls o.op = .alloc ∧ wantedA c ops (st a).T o = some true ∧ allocA P E S c o (st a).T (n0 + a) = some (v, ob)
def AbsE (c : Ctx) (ops : Array Oper) (st : Nat → DSt) (a j : Nat) : Prop := ∃ k, k < ops.size ∧ isEff ops k = true ∧ ne ops k < j ∧ Wd c ops st k ∧ Bef ops k a
omit tr in
omit [Val] in
theorem Al.inj {a : Nat} {x y : AObj} (h : Al P E S c ops n0 st a x) (k : Al P E S c ops n0 st a y) : x = y := by
  obtain ⟨o, v, h1, -, -, h2⟩ := h
  obtain ⟨o', v', k1, -, -, k2⟩ := k
  rw [h1] at k1; cases k1
  rw [h2] at k2; cases k2; rfl
theorem Trace.pend_at : ∀ i, i ≤ ops.size → ∀ a ob, (a, ob) ∈ (st i).pend ↔ a < i ∧ Al P E S c ops n0 st a ob ∧ ¬ AbsE c ops st a (ne ops i)
  | 0, _, a, ob => by rw [tr.pend0]; simp
  | i + 1, hi, a, ob => by
    have ih := Trace.pend_at i (by omega) a ob
    obtain ⟨o, v, ho, -, hs⟩ := tr.step i (by omega)
    have he := effOf ho
    -- steps that neither make nor get a block
    have plain : (st (i + 1)).pend = (st i).pend → (∀ ob, ¬ Al P E S c ops n0 st i ob) → (isEff ops i = true → ¬ Wd c ops st i) → ((a, ob) ∈ (st (i + 1)).pend ↔ a < i + 1 ∧ Al P E S c ops n0 st a ob ∧ ¬ AbsE c ops st a (ne ops (i + 1))) := by
      intro h1 h2 h3
      rw [h1, ih]
      have habs : AbsE c ops st a (ne ops (i + 1)) ↔ AbsE c ops st a (ne ops i) := by
        constructor
        · rintro ⟨k, k1, k2, k3, k4, k5⟩
          refine ⟨k, k1, k2, ?_, k4, k5⟩
          rw [← ne_lt k2] at k3 ⊢
          rcases Nat.lt_succ_iff_lt_or_eq.1 k3 with h | h
          · exact h
          · subst h; exact absurd k4 (h3 k2)
        · rintro ⟨k, k1, k2, k3, k4, k5⟩
          exact ⟨k, k1, k2, Nat.lt_of_lt_of_le k3 (ne_mono _ (by omega)), k4, k5⟩
      rw [habs]
      constructor
      · rintro ⟨q1, q2, q3⟩; exact ⟨by omega, q2, q3⟩
      · rintro ⟨q1, q2, q3⟩
        refine ⟨?_, q2, q3⟩
        rcases Nat.lt_succ_iff_lt_or_eq.1 q1 with h | h
        · exact h
        · subst h; exact absurd q2 (h2 ob)
    have noAl : cls o.op ≠ .alloc → ∀ ob, ¬ Al P E S c ops n0 st i ob := by
      rintro hc ob ⟨o', v', k1, k2, -, -⟩
      rw [ho] at k1; cases k1; exact hc k2
    have noEff : cls o.op ≠ .effect → isEff ops i = true → ¬ Wd c ops st i := fun hc h => absurd (he.1 h) hc
    cases hs with
    | off hw hv h1 h2 h3 h4 =>
      refine plain h2 ?_ ?_
      · rintro ob ⟨o', v', k1, -, k3, -⟩
        rw [ho] at k1; cases k1; rw [hw] at k3; cases k3
      · rintro - ⟨o', k1, k3⟩
        rw [ho] at k1; cases k1; rw [hw] at k3; cases k3
    | pure _ hc _ _ _ h2 => exact plain h2 (noAl (by rw [hc]; simp)) (noEff (by rw [hc]; simp))
    | fresh _ hc _ _ _ _ h2 => exact plain h2 (noAl (by rw [hc]; simp)) (noEff (by rw [hc]; simp))
    | load _ hc _ _ h2 => exact plain h2 (noAl (by rw [hc]; simp)) (noEff (by rw [hc]; simp))
    | alloc hw hc ob' hv h1 h2 =>
      have hne : ne ops (i + 1) = ne ops i := by
        rw [ne_succ, if_neg (by rw [he, hc]; simp)]; rfl
      have hAl : Al P E S c ops n0 st i ob' := ⟨o, v, ho, hc, hw, hv⟩
      rw [h2, hne]
      simp only [List.mem_append, List.mem_singleton, Prod.mk.injEq, ih]
      constructor
      · rintro (⟨q1, q2, q3⟩ | ⟨rfl, rfl⟩)
        · exact ⟨by omega, q2, q3⟩
        · refine ⟨by omega, hAl, ?_⟩
          rintro ⟨k, k1, k2, k3, k4, k5⟩
          have := (ne_lt k2).2 k3
          have := Bef.lt tr.ok k k5
          omega
      · rintro ⟨q1, q2, q3⟩
        rcases Nat.lt_succ_iff_lt_or_eq.1 q1 with h | h
        · exact .inl ⟨h, q2, q3⟩
        · subst h; exact .inr ⟨rfl, q2.inj hAl⟩
    | effect hw hc H1 ha hv h3 h4 =>
      have heff := he.2 hc
      have hsp := (absorb_spec (bef := (Region.before ops).getD i 0) (n0 := n0) (st i).pend (st i).H).1 a ob
      rw [ha] at hsp
      simp only at hsp
      rw [hsp, ih]
      have habs : AbsE c ops st a (ne ops (i + 1)) ↔ AbsE c ops st a (ne ops i) ∨ Bef ops i a := by
        constructor
        · rintro ⟨k, k1, k2, k3, k4, k5⟩
          rw [← ne_lt k2] at k3
          rcases Nat.lt_succ_iff_lt_or_eq.1 k3 with h | h
          · exact .inl ⟨k, k1, k2, (ne_lt k2).1 h, k4, k5⟩
          · subst h; exact .inr k5
        · rintro (⟨k, k1, k2, k3, k4, k5⟩ | k5)
          · exact ⟨k, k1, k2, Nat.lt_of_lt_of_le k3 (ne_mono _ (by omega)), k4, k5⟩
          · exact ⟨i, by omega, heff, (ne_lt heff).1 (by omega), ⟨o, ho, hw⟩, k5⟩
      rw [habs]
      have hai : Al P E S c ops n0 st a ob → a ≠ i := by
        rintro ⟨o', v', k1, k2, -, -⟩ rfl
        rw [ho] at k1; cases k1; rw [hc] at k2; cases k2
      constructor
      · rintro ⟨⟨q1, q2, q3⟩, q4⟩
        refine ⟨by omega, q2, ?_⟩
        rintro (h | h)
        · exact q3 h
        · rw [show ((Region.before ops).getD i 0).testBit a = true from h] at q4; cases q4
      · rintro ⟨q1, q2, q3⟩
        have := hai q2
        exact ⟨⟨by omega, q2, fun h => q3 (.inl h)⟩, by
          cases hb : ((Region.before ops).getD i 0).testBit a with
          | false => rfl
          | true => exact absurd (.inr hb) q3⟩
end
end Go.Tc
namespace Go.Tc
variable [Val]
omit [Val] in
theorem Tran.trans' {β β' β'' : Pl} {g g' g'' : Nat → Option AObj} {m m' n' n'' : Nat} {w w' w'' : World} (h : Tran β g m w β' g' n' w') (k : Tran β' g' m' w' β'' g'' n'' w'') (hm : m ≤ m') (hn : m ≤ n'') : Tran β g m w β'' g'' n'' w'' := by
  refine ⟨h.ext.trans k.ext, hn, Nat.le_trans h.size k.size, ?_, fun b hb h0 => k.old b (Nat.lt_of_lt_of_le hb hm) (h.old b hb h0), fun b hb h0 => k.dom b (Nat.lt_of_lt_of_le hb hm) (h.dom b hb h0), ?_, k.os.trans h.os, k.out.trans h.out, k.tape.trans h.tape, fun c x hx => ?_⟩
  · intro c hc hno
    rw [k.kept c (Nat.lt_of_lt_of_le hc h.size) ?_, h.kept c hc hno]
    intro b o p hb ho hp e
    obtain ⟨b0, o0, p0, h1, h2, h3, h4⟩ := h.new b o p hb hp (by omega)
    exact hno b0 o0 p0 h1 (h2 ho) h3 (h4.trans e)
  · intro b o p hb hp hlt
    obtain ⟨b0, o0, p0, h1, h2, h3, h4⟩ := k.new b o p hb hp (Nat.lt_of_lt_of_le hlt h.size)
    obtain ⟨b1, o1, p1, k1, k2, k3, k4⟩ := h.new b0 o0 p0 h1 h3 (by omega)
    exact ⟨b1, o1, p1, k1, fun e => k2 (h2 e), k3, by omega⟩
  · rcases k.zn c x hx with h0 | h0 | ⟨b, o, p, q1, q2, q3, q4⟩
    · exact h.zn c x h0
    · exact .inr (.inl (Nat.le_trans h.size h0))
    · by_cases hlt : c < w.heap.size
      · obtain ⟨b1, o1, p1, k1, k2, k3, k4⟩ := h.new b o p q1 q3 (by omega)
        exact .inr (.inr ⟨b1, o1, p1, k1, k2 q2, k3, by omega⟩)
      · exact .inr (.inl (by omega))
theorem WR.allocAt {G : Nat} {β : Pl} {g : Nat → Option AObj} {n : Nat} {w : World} (h : WR G β g n w) {b : Nat} (hb : β b = none) (hbn : b < n) (ob : Obj) (sz : Nat) (o : AObj)
    (ho : ObjR (β.put b ⟨w.heap.size, 0, sz⟩) (w.alloc ob) ⟨w.heap.size, 0, sz⟩ o) {m : Nat} (hm : m ≤ b) :
    WR G (β.put b ⟨w.heap.size, 0, sz⟩) (fun x => if x = b then some o else g x) n (w.alloc ob) ∧ Tran β g m w (β.put b ⟨w.heap.size, 0, sz⟩) (fun x => if x = b then some o else g x) n (w.alloc ob) := by
  have he := Pl.put_ext (β := β) ⟨w.heap.size, 0, sz⟩ hb
  have hold : ∀ c, c < w.heap.size → (w.alloc ob).heap[c]? = w.heap[c]? := by
    intro c hc
    show (w.heap.push ob)[c]? = _
    rw [Array.getElem?_push, if_neg (by omega)]
  have hput : ∀ x, x ≠ b → (β.put b ⟨w.heap.size, 0, sz⟩) x = β x := fun x hx => if_neg hx
  refine ⟨⟨fun x hx => ?_, fun x p hx => ?_, fun x ox hx => ?_, fun x y ox oy p q hx hy hp hq hc => ?_, fun i hi => ?_, h.gn, fun c x hx => ?_⟩, ⟨he, by omega, by simp, fun c hc _ => hold c hc, fun x hx h0 => ?_, fun x hx h0 => ?_, fun x ox p hx hp hlt => ?_, rfl, rfl, rfl, fun _ _ h => .inl h⟩⟩
  · rw [hput x (by omega)]; exact h.fresh x hx
  · by_cases e : x = b
    · subst e; rw [Pl.put_same] at hx; cases hx; simp
    · rw [hput x e] at hx; have := h.bound x p hx; simp; omega
  · by_cases e : x = b
    · subst e; simp only [if_true, Option.some.injEq] at hx; exact .inl ⟨_, Pl.put_same _ _ _, hx ▸ ho⟩
    · simp only [if_neg e] at hx
      rcases h.some_ x ox hx with ⟨p, h1, h2⟩ | ⟨h1, h2, h3⟩
      · exact .inl ⟨p, he _ _ h1, h2.mono he (hold _ (h.bound x p h1))⟩
      · exact .inr ⟨by rw [hput x e]; exact h1, h2, h3⟩
  · by_cases ex : x = b <;> by_cases ey : y = b
    · rw [ex, ey]
    · rw [ex, Pl.put_same] at hp; cases hp
      rw [hput y ey] at hq
      have := h.bound y q hq; simp only at hc; omega
    · rw [ey, Pl.put_same] at hq; cases hq
      rw [hput x ex] at hp
      have := h.bound x p hp; simp only at hc; omega
    · simp only [if_neg ex] at hx; simp only [if_neg ey] at hy
      rw [hput x ex] at hp; rw [hput y ey] at hq
      exact h.inj x y ox oy p q hx hy hp hq hc
  · obtain ⟨s, hs⟩ := h.glob i hi; exact ⟨s, he _ _ hs⟩
  · obtain ⟨z1, z2⟩ := h.keep c x hx
    have hlt := (Array.getElem?_eq_some_iff.1 z1).1
    refine ⟨(hold c hlt).trans z1, fun y oy q hy hyw hq => ?_⟩
    by_cases e : y = b
    · subst e; rw [Pl.put_same] at hq; cases hq; exact fun h => by simp only at h; omega
    · simp only [if_neg e] at hy; rw [hput y e] at hq; exact z2 y oy q hy hyw hq
  · rw [hput x (by omega)]; exact h0
  · rw [if_neg (by omega)]; exact h0
  · by_cases e : x = b
    · subst e; rw [Pl.put_same] at hp; cases hp; simp at hlt
    · simp only [if_neg e] at hx; rw [hput x e] at hp
      exact ⟨x, ox, p, hx, fun h => h, hp, rfl⟩
theorem WR.frame {G : Nat} {β β' : Pl} {g g1 g2 g1' : Nat → Option AObj} {n n' : Nat} {w w' : World} (h : WR G β g n w) (h1 : ∀ x o, g1 x = some o → g x = some o) (h2 : ∀ x o, g2 x = some o → g x = some o) (hd : ∀ x o, g2 x = some o → g1 x = none)
    (t : Tran β g1 n w β' g1' n' w') (k : WR G β' g1' n' w') :
    WR G β' (fun x => match g2 x with | some o => some o | none => g1' x) n' w' ∧ Tran β g n w β' (fun x => match g2 x with | some o => some o | none => g1' x) n' w' := by
  have hkept : ∀ x o p, g2 x = some o → β x = some p → w'.heap[p.c]? = w.heap[p.c]? := fun x o p hx hp =>
    t.kept p.c (h.bound x p hp) fun b ob q hb _ hq hc => by
      have := h.inj b x ob o q p (h1 b ob hb) (h2 x o hx) hq hp hc
      subst this
      rw [hd b o hx] at hb; cases hb
  have hold : ∀ x o p, g2 x = some o → β' x = some p → β x = some p := fun x o p hx hp => by
    rcases h.some_ x o (h2 x o hx) with ⟨q, hq, -⟩ | ⟨h0, hlt, -⟩
    · rw [t.ext _ _ hq] at hp; cases hp; exact hq
    · rw [t.old x hlt h0] at hp; cases hp
  have hcross : ∀ x o p y oy q, g2 x = some o → β' x = some p → g1' y = some oy → β' y = some q → p.c ≠ q.c := by
    intro x o p y oy q hx hp hy hq hc
    have hp0 := hold x o p hx hp
    obtain ⟨b0, o0, p0, q1, q2, q3, q4⟩ := t.new y oy q hy hq (by rw [← hc]; exact h.bound x p hp0)
    have := h.inj b0 x o0 o p0 p (h1 _ _ q1) (h2 _ _ hx) q3 hp0 (by omega)
    subst this
    rw [hd _ _ hx] at q1; cases q1
  refine ⟨⟨k.fresh, k.bound, fun x ox hx => ?_, fun x y ox oy p q hx hy hp hq hc => ?_, k.glob, k.gn, fun c x hx => ?_⟩, ⟨t.ext, t.next, t.size, fun c hc hno => ?_, t.old, fun x hx h0 => ?_, fun x ox p hx hp hlt => ?_, t.os, t.out, t.tape, fun c x hx => (t.zn c x hx).imp id (Or.imp id fun ⟨b, o, p, q1, q2, q3, q4⟩ => ⟨b, o, p, h1 _ _ q1, q2, q3, q4⟩)⟩⟩
  · cases hg : g2 x with
    | some o =>
      simp only [hg, Option.some.injEq] at hx; subst hx
      rcases h.some_ x o (h2 x o hg) with ⟨p, q1, q2⟩ | ⟨q1, q2, q3⟩
      · exact .inl ⟨p, t.ext _ _ q1, q2.mono t.ext (hkept x o p hg q1)⟩
      · exact .inr ⟨t.old x q2 q1, by have := t.next; omega, q3⟩
    | none =>
      simp only [hg] at hx
      exact k.some_ x ox hx
  · cases e1 : g2 x with
    | some o1 =>
      cases e2 : g2 y with
      | some o2 => exact h.inj x y o1 o2 p q (h2 _ _ e1) (h2 _ _ e2) (hold _ _ _ e1 hp) (hold _ _ _ e2 hq) hc
      | none => simp only [e2] at hy; exact absurd hc (hcross x o1 p y oy q e1 hp hy hq)
    | none =>
      simp only [e1] at hx
      cases e2 : g2 y with
      | some o2 => exact absurd hc.symm (hcross y o2 q x ox p e2 hq hx hp)
      | none => simp only [e2] at hy; exact k.inj x y ox oy p q hx hy hp hq hc
  · obtain ⟨z1, z2⟩ := k.keep c x hx
    refine ⟨z1, fun y oy q hy hyw hq hc => ?_⟩
    cases hg : g2 y with
    | some o =>
      simp only [hg, Option.some.injEq] at hy; subst hy
      have hq0 := hold y o q hg hq
      rcases t.zn c x hx with hz | hz | ⟨b, ob, p, q1, q2, q3, q4⟩
      · exact (h.keep c x hz).2 y o q (h2 _ _ hg) hyw hq0 hc
      · have := h.bound y q hq0; omega
      · have := h.inj b y ob o p q (h1 _ _ q1) (h2 _ _ hg) q3 hq0 (by omega)
        subst this
        rw [hd _ _ hg] at q1; cases q1
    | none => simp only [hg] at hy; exact z2 y oy q hy hyw hq hc
  · exact t.kept c hc fun b o p hb => hno b o p (h1 b o hb)
  · cases hg : g2 x with
    | some o => rw [h2 _ _ hg] at h0; cases h0
    | none =>
      refine t.dom x hx ?_
      cases hx1 : g1 x with
      | none => rfl
      | some o => rw [h1 _ _ hx1] at h0; cases h0
  · cases hg : g2 x with
    | some o =>
      simp only [hg, Option.some.injEq] at hx; subst hx
      exact ⟨x, o, p, h2 _ _ hg, fun h => h, hold _ _ _ hg hp, rfl⟩
    | none =>
      simp only [hg] at hx
      obtain ⟨b0, o0, p0, q1, q2, q3, q4⟩ := t.new x ox p hx hp hlt
      exact ⟨b0, o0, p0, h1 _ _ q1, q2, q3, q4⟩
theorem WR.room {G : Nat} {β : Pl} {g : Nat → Option AObj} {n m : Nat} {w : World} (h : WR G β g n w) (hm : n ≤ m) : WR G β g m w :=
  ⟨fun b hb => h.fresh b (by omega), h.bound, fun b o hb => (h.some_ b o hb).imp id fun ⟨h1, h2, h3⟩ => ⟨h1, by omega, h3⟩, h.inj, h.glob, by have := h.gn; omega, h.keep⟩
section
variable {P : Program} {G : Nat} {E : Env} {S : Evs} {c : Ctx} {ops : Array Oper} {n0 : Nat} {st : Nat → DSt}
structure DInv (P : Program) (G : Nat) (E : Env) (S : Evs) (c : Ctx) (ops : Array Oper) (n0 : Nat) (st : Nat → DSt) (β0 : Pl) (g0 : Nat → Option AObj) (w0 : World) (listed : Array Bool) (j : Nat) (β : Pl) (g : Nat → Option AObj) (n : Nat) (a : Act) (w : World) : Prop where
  wr : WR G β g n w
  tran : Tran β0 g0 n0 w0 β g n w
  lsz : listed.size = ops.size
  size : a.tmps.size = c.n
  closed : ∀ i k, listed[i]? = some true → Bef ops i k → listed[k]? = some true
  effs : ∀ k, k < ops.size → isEff ops k = true → (listed[k]? = some true ↔ ne ops k < j)
  jle : j ≤ ne ops ops.size
  nle : n0 + ops.size ≤ n
  ver : ∃ H, (st ops.size).vers[j]? = some H ∧ H.next = n ∧ (∀ x o, H.get x = some o → g x = some o) ∧ (∀ a, a < ops.size → ¬ AbsE c ops st a j → H.get (n0 + a) = none)
  pen : ∀ a o, listed[a]? = some true → Al P E S c ops n0 st a o → ¬ AbsE c ops st a j → g (n0 + a) = some o
  non : ∀ a, a < ops.size → listed[a]? ≠ some true → β (n0 + a) = none
  tin : ∀ (i : Nat) (o : Oper) (d : Tmp), listed[i]? = some true → ops[i]? = some o → o.dst = some d → ∀ v, (st (i + 1)).T.get c d = some v → ∃ u, a.tmps[d]? = some u ∧ VR β v u
  tout : ∀ (d : Tmp), (∀ (i : Nat) (o : Oper), listed[i]? = some true → ops[i]? = some o → o.dst ≠ some d) → ∀ v, (st 0).T.get c d = some v → ∃ u, a.tmps[d]? = some u ∧ VR β v u
omit [Val] in
theorem put_get_ne {a : Act} {dst : Option Tmp} {u : Value} {d : Tmp} (h : dst ≠ some d) : (a.put dst u).tmps[d]? = a.tmps[d]? := by
  cases dst with
  | none => rfl
  | some x => simp only [Act.put]; rw [Array.getElem?_setIfInBounds_ne (by intro e; exact h (by rw [e]))]
omit [Val] in
theorem put_size (a : Act) (dst : Option Tmp) (u : Value) : (a.put dst u).tmps.size = a.tmps.size := by cases dst <;> simp [Act.put]
omit [Val] in
theorem wp_value {F : Option Nat} {m : Nat} {o : Oper} {a : Act} {w w' : World} {u : Value} {K : Act → World → Prop} {Q : Exit → Act → World → Prop} (hd : ∀ d, o.op ≠ .defer d) (h : (execOp a.eval o).run P w = .ok (.value u) w') (hK : K (a.put o.dst u) w') : o.wpIn (Fen F) m P a w K Q := by
  refine ⟨fun f _ => Fen_fn F f, ?_⟩
  rw [Oper.semAt_eq _ _ _ hd, h]
  exact hK
omit [Val] in
theorem cls_defer {o : Oper} {k : Cls} (hc : cls o.op = k) (hk : k ≠ .effect) : ∀ d, o.op ≠ .defer d := fun d hd => by rw [hd] at hc; simp [cls] at hc; exact hk hc.symm
theorem aeval_of {β : Pl} {g : Nat → Option AObj} {n : Nat} {w : World} {T : Tmps} {a : Act} {x : Operand} {v : AV} (hT : ∀ t, x = .tmp t → ∀ v, T.get c t = some v → ∃ u, a.tmps[t]? = some u ∧ VR β v u) (hg : c.glob = G) (hw : WR G β g n w) (h : aeval c T x = some v) : VR β v (a.eval x) := by
  cases x with
  | tmp t =>
    obtain ⟨u, h1, h2⟩ := hT t rfl v h
    simp only [Act.eval, Array.getD_eq_getD_getElem?, h1, Option.getD_some]
    exact h2
  | const u => exact ofValue_VR u v h
  | global i =>
    simp only [aeval, Bool.cond_eq_ite, Nat.blt_eq] at h
    split at h
    · rename_i hlt
      cases h
      obtain ⟨sz, hs⟩ := hw.glob i (hg ▸ hlt)
      exact .ptr 0 hs
    · cases h
  | func f => cases h; exact .fn (.func f) .nil .nil
variable {β0 : Pl} {g0 : Nat → Option AObj} {w0 : World} {listed : Array Bool} {j : Nat} {β : Pl} {g : Nat → Option AObj} {n : Nat} {a : Act} {w : World}
theorem DInv.reads (tr : Trace P E S c ops n0 st) (hI : DInv P G E S c ops n0 st β0 g0 w0 listed j β g n a w) {i : Nat} {o : Oper} (ho : ops[i]? = some o) (hun : listed[i]? ≠ some true) (hb : ∀ k, Bef ops i k → listed[k]? = some true) :
    ∀ d, d ∈ readsOf ops o → ∀ v, (st i).T.get c d = some v → ∃ u, a.tmps[d]? = some u ∧ VR β v u := by
  intro d hd v hv
  have hi : i < ops.size := (Array.getElem?_eq_some_iff.1 ho).1
  by_cases hex : ∃ (k : Nat) (u : Oper), ops[k]? = some u ∧ u.dst = some d
  · obtain ⟨k, u, hk, hkd⟩ := hex
    have hks : k < ops.size := (Array.getElem?_eq_some_iff.1 hk).1
    -- no other operation lays d
    have uniq : ∀ (k' : Nat) (u' : Oper), ops[k']? = some u' → u'.dst = some d → k' = k := fun k' u' hk' hd' => by
      by_cases e : k = k'
      · exact e.symm
      · exact absurd hd' (tr.ok.dst k u d hk hkd k' u' hk' e).1
    have early : i ≤ k → listed[k]? ≠ some true → ∃ u, a.tmps[d]? = some u ∧ VR β v u := by
      intro hik hkl
      refine hI.tout d (fun i' o' h1 h2 h3 => ?_) v ?_
      · have := uniq i' o' h2 h3; subst this; exact hkl h1
      · have := tr.T_same (d := d) i 0 (by omega) (fun k' o' _ h2 h3 h4 => by have := uniq k' o' h3 h4; omega)
        rw [Nat.zero_add] at this
        rw [← this]; exact hv
    by_cases hki : k = i
    · subst hki; exact early (Nat.le_refl _) hun
    · rcases (tr.ok.dst k u d hk hkd i o ho hki).2 with h | h | h
      · exact absurd hd h
      · have hlt := Bef.lt tr.ok i h
        refine hI.tin k u d (hb k h) hk hkd v ?_
        have := tr.T_same (d := d) (i - (k + 1)) (k + 1) (by omega) (fun k' o' h1 h2 h3 h4 => by have := uniq k' o' h3 h4; omega)
        rw [show k + 1 + (i - (k + 1)) = i from by omega] at this
        rw [← this]; exact hv
      · have hlt := Bef.lt tr.ok k h
        exact early (by omega) fun hl => hun (hI.closed k i hl h)
  · refine hI.tout d (fun i' o' h1 h2 h3 => hex ⟨i', o', h2, h3⟩) v ?_
    have := tr.T_same (d := d) i 0 (by omega) (fun k' o' _ h2 h3 h4 => hex ⟨k', o', h3, h4⟩)
    rw [Nat.zero_add] at this
    rw [← this]; exact hv
omit [Val] in
theorem listed_set {i k : Nat} (hi : i < listed.size) : (listed.setIfInBounds i true)[k]? = some true ↔ k = i ∨ listed[k]? = some true := by
  by_cases e : i = k
  · subst e; simp [hi]
  · rw [Array.getElem?_setIfInBounds_ne e]
    constructor
    · exact .inr
    · rintro (h | h)
      · exact absurd h.symm e
      · exact h
theorem DInv.adv (tr : Trace P E S c ops n0 st) (hI : DInv P G E S c ops n0 st β0 g0 w0 listed j β g n a w) {i : Nat} {o : Oper} {v : AV} {u : Value} (ho : ops[i]? = some o) (hb : ∀ k, Bef ops i k → listed[k]? = some true) (hl : (st i).T.lay c o.dst v = some (st (i + 1)).T)
    {j' : Nat} {β' : Pl} {g' : Nat → Option AObj} {n' : Nat} {w' : World} (he : Ext β β') (hv : VR β' v u) (wr : WR G β' g' n' w') (tran : Tran β0 g0 n0 w0 β' g' n' w')
    (effs : ∀ k, k < ops.size → isEff ops k = true → (k = i ∨ listed[k]? = some true ↔ ne ops k < j')) (jle : j' ≤ ne ops ops.size) (nle : n0 + ops.size ≤ n')
    (ver : ∃ H, (st ops.size).vers[j']? = some H ∧ H.next = n' ∧ (∀ x o, H.get x = some o → g' x = some o) ∧ (∀ a, a < ops.size → ¬ AbsE c ops st a j' → H.get (n0 + a) = none))
    (pen : ∀ a o, a = i ∨ listed[a]? = some true → Al P E S c ops n0 st a o → ¬ AbsE c ops st a j' → g' (n0 + a) = some o)
    (non : ∀ a, a < ops.size → a ≠ i → listed[a]? ≠ some true → β' (n0 + a) = none) :
    DInv P G E S c ops n0 st β0 g0 w0 (listed.setIfInBounds i true) j' β' g' n' (a.put o.dst u) w' := by
  have hi : i < ops.size := (Array.getElem?_eq_some_iff.1 ho).1
  have hil : i < listed.size := by rw [hI.lsz]; exact hi
  have hset : ∀ k, (listed.setIfInBounds i true)[k]? = some true ↔ k = i ∨ listed[k]? = some true := fun k => listed_set hil
  refine ⟨wr, tran, by simp [hI.lsz], by rw [put_size, hI.size], fun x k hx hk => ?_, fun k hk hke => by rw [hset]; exact effs k hk hke, jle, nle, ver, fun x ox hx => pen x ox ((hset x).1 hx), fun x hx hxl => ?_, fun k ok d hk hok hd v' hv' => ?_, fun d hd v' hv' => ?_⟩
  · rw [hset] at hx ⊢
    rcases hx with rfl | hx
    · exact .inr (hb k hk)
    · exact .inr (hI.closed x k hx hk)
  · rw [ne_eq, hset, not_or] at hxl
    exact non x hx hxl.1 hxl.2
  · rw [hset] at hk
    by_cases e : k = i
    · subst e
      rw [ho] at hok; cases hok
      rw [Tmps.get_lay hl, if_pos hd] at hv'
      cases hv'
      rw [hd] at hl
      have hlt := Tmps.lay_lt hl
      exact ⟨u, by rw [hd]; simp [Act.put, hI.size, hlt], hv⟩
    · have hne : o.dst ≠ some d := (tr.ok.dst k ok d hok hd i o ho e).1
      obtain ⟨y, h1, h2⟩ := hI.tin k ok d (hk.resolve_left e) hok hd v' hv'
      exact ⟨y, by rw [put_get_ne hne]; exact h1, h2.mono he⟩
  · have hne : o.dst ≠ some d := hd i o ((hset i).2 (.inl rfl)) ho
    obtain ⟨y, h1, h2⟩ := hI.tout d (fun k ok h1 h2 => hd k ok ((hset k).2 (.inr h1)) h2) v' hv'
    exact ⟨y, by rw [put_get_ne hne]; exact h1, h2.mono he⟩
end
end Go.Tc
namespace Go.Tc
variable [Val]
omit [Val] in
theorem filter_le {p : Nat → Bool} : ∀ {es : List Nat} {j : Nat}, (∀ (m k : Nat), es[m]? = some k → p k = true → m < j) → (es.filter p).length ≤ j
  | [], j, _ => by simp
  | x :: r, j, h => by
    by_cases hx : p x = true
    · have h0 := h 0 x rfl hx
      obtain ⟨j, rfl⟩ : ∃ j', j = j' + 1 := ⟨j - 1, by omega⟩
      have := filter_le (es := r) (j := j) fun m k hm hk => by have := h (m + 1) k (by simpa using hm) hk; omega
      rw [List.filter_cons_of_pos hx]; simp; exact this
    · have := filter_le (es := r) (j := j) fun m k hm hk => by have := h (m + 1) k (by simpa using hm) hk; omega
      rw [List.filter_cons_of_neg hx]; exact this
omit [Val] in
theorem le_filter {p : Nat → Bool} : ∀ {es : List Nat} {j : Nat}, j ≤ es.length → (∀ (m k : Nat), es[m]? = some k → m < j → p k = true) → j ≤ (es.filter p).length
  | [], j, hj, _ => by simpa using hj
  | x :: r, 0, _, _ => by omega
  | x :: r, j + 1, hj, h => by
    have hx := h 0 x rfl (by omega)
    have := le_filter (es := r) (j := j) (by simpa using hj) fun m k hm hk => h (m + 1) k (by simpa using hm) (by omega)
    rw [List.filter_cons_of_pos hx]; simp; exact this
section
variable {P : Program} {G : Nat} {E : Env} {S : Evs} {c : Ctx} {ops : Array Oper} {n0 : Nat} {st : Nat → DSt}
variable {β0 : Pl} {g0 : Nat → Option AObj} {w0 : World} {listed : Array Bool} {j : Nat} {β : Pl} {g : Nat → Option AObj} {n : Nat} {a : Act} {w : World}
theorem DInv.notAbs (hI : DInv P G E S c ops n0 st β0 g0 w0 listed j β g n a w) {i : Nat} (hun : listed[i]? ≠ some true) : ¬ AbsE c ops st i j := by
  rintro ⟨k, k1, k2, k3, -, k5⟩
  exact hun (hI.closed k i ((hI.effs k k1 k2).2 k3) k5)
theorem DInv.turn (tr : Trace P E S c ops n0 st) (hI : DInv P G E S c ops n0 st β0 g0 w0 listed j β g n a w) {i : Nat} (hi : i < ops.size) (he : isEff ops i = true) (hun : listed[i]? ≠ some true) (hb : ∀ k, Bef ops i k → listed[k]? = some true) : ne ops i = j := by
  have h1 : ¬ ne ops i < j := fun h => hun ((hI.effs i hi he).2 h)
  by_cases h2 : ne ops i = j
  · exact h2
  · exfalso
    have hat := eff_at hi he
    have hlen := (List.getElem?_eq_some_iff.1 hat).1
    have hm : (effectsOf ops)[ne ops i - 1]? = some ((effectsOf ops)[ne ops i - 1]'(by omega)) := List.getElem?_eq_getElem (by omega)
    obtain ⟨k1, k2, k3⟩ := eff_index hm
    have hc := chained_get tr.ok.chain hm (by rw [show ne ops i - 1 + 1 = ne ops i from by omega]; exact hat)
    have := (hI.effs _ k1 k2).1 (hb _ hc)
    omega
theorem DInv.step (hE : EnvOk P G E) (hS : Sound P G S) (hg : c.glob = G) (tr : Trace P E S c ops n0 st) (hI : DInv P G E S c ops n0 st β0 g0 w0 listed j β g n a w) {i : Nat} (hr : i ∈ Region.ready .any ops listed)
    {r : Option Nat} {m : Nat} {K : Act → World → Prop} {Q : Exit → Act → World → Prop}
    (hK : ∀ j' β' g' n' a' w', DInv P G E S c ops n0 st β0 g0 w0 (listed.setIfInBounds i true) j' β' g' n' a' w' → a'.defers = a.defers → K a' w') : wpOpIn (Fen r) m P ops Q i K a w := by
  obtain ⟨hun0, o, ho, hed⟩ := mem_ready.1 hr
  have hi : i < ops.size := (Array.getElem?_eq_some_iff.1 ho).1
  have hun : listed[i]? ≠ some true := fun h => by
    rw [Array.getD_eq_getD_getElem?, h] at hun0; cases hun0
  have hb : ∀ k, Bef ops i k → listed[k]? = some true := by
    intro k hk
    obtain ⟨o', e, ho', he, hbd, h⟩ := before_bit hk
    rw [ho] at ho'; cases ho'
    have hl : listed[e.on]? = some true := by
      have := hed e he hbd
      rw [Array.getD_eq_getD_getElem?] at this
      cases hx : listed[e.on]? with
      | none => rw [hx] at this; cases this
      | some b => rw [hx] at this; simp only [Option.getD_some] at this; rw [this]
    rcases h with rfl | h
    · exact hl
    · exact hI.closed _ _ hl h
  obtain ⟨o', v, ho', hl, hs⟩ := tr.step i hi
  rw [ho] at ho'; cases ho'
  have hrd := hI.reads tr ho hun hb
  have hρ : OpsR β c (st i).T a.eval o.op.operands := fun x hx v hv => aeval_of (fun t ht v hv => hrd t (by
    unfold readsOf
    refine List.mem_append_left _ (List.mem_filterMap.2 ⟨x, by simpa using hx, by rw [ht]⟩)) v hv) hg hI.wr hv
  have hwd : ∀ b, wantedA c ops (st i).T o = some b → Region.wanted o (yielded ops a.tmps) = b := fun b h => wanted_of h fun gd want d hgd hdd v hv => hrd d (by
    unfold readsOf
    refine List.mem_append_right _ ?_
    simp only [hgd, hdd]; simp) v hv
  have hnab := hI.notAbs hun
  have heo := effOf ho
  unfold Go.wpOpIn
  simp only [ho]
  have dead : ∀ {b : Bool}, Region.wanted o (yielded ops a.tmps) = b → (if b = true then Oper.wpIn (Fen r) m P o a w K Q else (∀ f, o.about P w a.eval = some f → (Fen r).fn f) ∧ K (a.put o.dst undef) w) →
      (if Region.wanted o (yielded ops a.tmps) = true then Oper.wpIn (Fen r) m P o a w K Q else (∀ f, o.about P w a.eval = some f → (Fen r).fn f) ∧ K (a.put o.dst undef) w) := fun h1 h2 => by rw [h1]; exact h2
  have same : ∀ u, VR β v u → isEff ops i ≠ true → (∀ ob, ¬ Al P E S c ops n0 st i ob) → K (a.put o.dst u) w := by
    intro u hv hne hna
    refine hK j β g n _ w (hI.adv tr ho hb hl (Ext.refl β) hv hI.wr hI.tran (fun k hk hke => ?_) hI.jle hI.nle hI.ver (fun x ox hx hal => ?_) (fun x hx _ hxl => hI.non x hx hxl)) (put_defers _ _ _)
    · rw [← hI.effs k hk hke]
      constructor
      · rintro (h | h)
        · subst h; exact absurd hke hne
        · exact h
      · exact .inr
    · rcases hx with rfl | hx
      · exact absurd hal (hna ox)
      · exact hI.pen x ox hx hal
  have noAl : cls o.op ≠ .alloc → ∀ ob, ¬ Al P E S c ops n0 st i ob := by
    rintro hc ob ⟨o', v', k1, k2, -, -⟩
    rw [ho] at k1; cases k1; exact hc k2
  obtain ⟨HV, hv1, hv2, hv3, hv4⟩ := hI.ver
  cases hs with
  | off hw hv h1 h2 h3 h4 =>
    subst hv
    refine dead (hwd _ hw) ?_
    simp only [Bool.false_eq_true, if_false]
    refine ⟨fun f _ => Fen_fn r f, ?_⟩
    have hna : ∀ ob, ¬ Al P E S c ops n0 st i ob := by
      rintro ob ⟨o', v', k1, -, k3, -⟩
      rw [ho] at k1; cases k1; rw [hw] at k3; cases k3
    by_cases he : isEff ops i = true
    · have hj := hI.turn tr hi he hun hb
      have hne : ne ops (i + 1) = j + 1 := by rw [ne_succ, if_pos he, hj]
      have hH : HV = (st i).H := by
        have := tr.ver (show i ≤ ops.size by omega)
        rw [hj, hv1] at this; cases this; rfl
      have habs : ∀ x, AbsE c ops st x (j + 1) → AbsE c ops st x j := by
        rintro x ⟨k, k1, k2, k3, k4, k5⟩
        refine ⟨k, k1, k2, ?_, k4, k5⟩
        rcases Nat.lt_succ_iff_lt_or_eq.1 k3 with h | h
        · exact h
        · exfalso
          have hki : k = i := by
            have e1 := eff_at k1 k2
            have e2 := eff_at hi he
            rw [h, ← hj, e2] at e1; cases e1; rfl
          subst hki
          obtain ⟨o', q1, q2⟩ := k4
          rw [ho] at q1; cases q1; rw [hw] at q2; cases q2
      refine hK (j + 1) β g n _ w (hI.adv tr ho hb hl (Ext.refl β) undefA_VR hI.wr hI.tran (fun k hk hke => ?_) ?_ hI.nle ⟨HV, ?_, hv2, hv3, fun x hx hab => hv4 x hx fun h => hab ?_⟩ (fun x ox hx hal hab => ?_) (fun x hx _ hxl => hI.non x hx hxl)) (put_defers _ _ _)
      · have := hI.effs k hk hke
        constructor
        · rintro (h | h)
          · subst h; omega
          · have := this.1 h; omega
        · intro h
          rcases Nat.lt_succ_iff_lt_or_eq.1 h with h | h
          · exact .inr (this.2 h)
          · left
            have e1 := eff_at hk hke
            have e2 := eff_at hi he
            rw [h, ← hj, e2] at e1; cases e1; rfl
      · have := ne_mono ops (show i + 1 ≤ ops.size by omega); omega
      · have := tr.ver (show i + 1 ≤ ops.size by omega)
        rw [hne, h1] at this; rw [hH]; exact this
      · obtain ⟨k, k1, k2, k3, k4, k5⟩ := h
        exact ⟨k, k1, k2, by omega, k4, k5⟩
      · rcases hx with rfl | hx
        · exact absurd hal (hna ox)
        · refine hI.pen x ox hx hal fun h => hab ?_
          obtain ⟨k, k1, k2, k3, k4, k5⟩ := h
          exact ⟨k, k1, k2, by omega, k4, k5⟩
    · exact same undef undefA_VR he hna
  | pure hw hc H1 hv h1 h2 h3 h4 =>
    refine dead (hwd _ hw) ?_
    simp only [if_true]
    obtain ⟨-, u, k1, k2⟩ := pure_run (w := w) hE.nf hc hv hρ
    exact wp_value (cls_defer hc (by simp)) k1 (same u k2 (by rw [ne_eq, heo, hc]; simp) (noAl (by rw [hc]; simp)))
  | fresh hw hc Hs hf hv h1 h2 h3 h4 =>
    refine dead (hwd _ hw) ?_
    simp only [if_true]
    have hsub : WR G β Hs.get n w := by
      refine hI.wr.less fun x ox hx => ?_
      unfold freshOf at hf
      split at hf
      · rename_i sr ds xo hop
        split at hf
        · rename_i b off len cap hxv
          split at hf
          · cases hf
          · split at hf
            · rename_i j0 ob hfind
              split at hf
              · rename_i hall
                cases hf
                have hx' : x = b ∧ ox = ob := by
                  have := Tr.get_put (Tr.leaf : Tr AObj) b x ob
                  change (Tr.leaf.put b ob).get x = some ox at hx
                  rw [this] at hx
                  split at hx
                  · rename_i e; cases hx; exact ⟨e, rfl⟩
                  · cases hx
                obtain ⟨rfl, rfl⟩ := hx'
                have hmem := List.mem_of_find?_eq_some hfind
                have hkey := List.find?_some hfind
                simp only [beq_iff_eq] at hkey
                subst hkey
                obtain ⟨q1, q2, q3⟩ := (tr.pend_at i (by omega) j0 ox).1 hmem
                have hj0 : j0 < ops.size := by omega
                have hvr := hρ xo (by rw [hop]; simp [Op.operands]) _ hxv
                have hpl : ∃ p, β (n0 + j0) = some p := by
                  generalize a.eval xo = vx at hvr
                  cases hvr with
                  | slice _ _ hp => exact ⟨_, hp⟩
                obtain ⟨p, hp⟩ := hpl
                have hlj : listed[j0]? = some true := by
                  by_cases h : listed[j0]? = some true
                  · exact h
                  · rw [hI.non j0 hj0 h] at hp; cases hp
                refine hI.pen j0 ox hlj q2 ?_
                rintro ⟨k, k1, k2, k3, -, k5⟩
                rw [List.all_eq_true] at hall
                have := hall k (List.mem_of_getElem? (eff_at k1 k2))
                rw [show ((Region.before ops).getD k 0).testBit j0 = true from k5] at this
                simp only [Bool.not_true, Bool.false_or] at this
                exact hun (hI.closed k i ((hI.effs k k1 k2).2 k3) this)
              · cases hf
            · cases hf
        · cases hf
      · cases hf
    unfold loadedA at hv
    split at hv
    · rename_i v1 H1 hop
      split at hv
      · rename_i hnx
        cases hv
        obtain ⟨-, u, k1, k2⟩ := load_run (w := w) hE.nf hc (Nat.eq_of_beq_eq_true hnx) hsub hop hρ
        exact wp_value (cls_defer hc (by simp)) k1 (same u k2 (by rw [ne_eq, heo, hc]; simp) (noAl (by rw [hc]; simp)))
      · cases hv
    · cases hv
  | load hw hc hv h1 h2 h3 h4 =>
    refine dead (hwd _ hw) ?_
    simp only [if_true]
    -- the value that is read is the same behind j effects
    have hst := tr.stays
    rw [List.all_eq_true] at hst
    have hin := tr.loads_grow (ops.size - (i + 1)) (i + 1) (by omega) _ (by rw [h3]; exact List.mem_cons_self)
    rw [show i + 1 + (ops.size - (i + 1)) = ops.size from by omega] at hin
    have hst := hst _ hin
    have hlo : winLo ops (Region.before ops) i ≤ j := filter_le fun x k hk hp => by
      obtain ⟨q1, q2, q3⟩ := eff_index hk
      have := (hI.effs k q1 q2).1 (hb k hp); omega
    have hhi : j ≤ winHi ops (Region.before ops) i := le_filter (by rw [← ne_all]; exact hI.jle) fun x k hk hx => by
      obtain ⟨q1, q2, q3⟩ := eff_index hk
      have hkl := (hI.effs k q1 q2).2 (by omega)
      cases hbt : ((Region.before ops).getD k 0).testBit i with
      | false => rfl
      | true => exact absurd (hI.closed k i hkl hbt) hun
    unfold loadStays at hst
    rw [List.all_eq_true] at hst
    have hmemV : HV ∈ ((st ops.size).vers.drop (winLo ops (Region.before ops) i)).take (winHi ops (Region.before ops) i - winLo ops (Region.before ops) i + 1) := by
      refine List.mem_of_getElem? (i := j - winLo ops (Region.before ops) i) ?_
      rw [List.getElem?_take_of_lt (by omega), List.getElem?_drop, show winLo ops (Region.before ops) i + (j - winLo ops (Region.before ops) i) = j from by omega]
      exact hv1
    have hq := hst HV hmemV
    simp only at hq
    split at hq
    · rename_i wv hlv
      have hveq : wv = v := AV.beq_eq wv v hq
      subst hveq
      unfold loadedA at hlv
      split at hlv
      · rename_i v1 H1 hop
        split at hlv
        · rename_i hnx
          cases hlv
          obtain ⟨-, u, k1, k2⟩ := load_run (w := w) hE.nf hc (Nat.eq_of_beq_eq_true hnx) (hI.wr.less hv3) hop hρ
          exact wp_value (cls_defer hc (by simp)) k1 (same u k2 (by rw [ne_eq, heo, hc]; simp) (noAl (by rw [hc]; simp)))
        · cases hlv
      · cases hlv
    · cases hq
  | alloc hw hc ob hv h1 h2 h3 h4 =>
    refine dead (hwd _ hw) ?_
    simp only [if_true]
    have hAl : Al P E S c ops n0 st i ob := ⟨o, v, ho, hc, hw, hv⟩
    have hne : isEff ops i ≠ true := by rw [ne_eq, heo, hc]; simp
    unfold allocA at hv
    split at hv
    · rename_i v1 H1 hop
      split at hv
      · rename_i ob1 hget
        cases hv
        obtain ⟨ob', mm, rfl, hrun, obj, sz, u, k1, k2⟩ := alloc_run (w := w) hE.nf hc hop hρ
        have hob : ob = ob' := by
          rw [AHeap.get_new] at hget
          simp only [if_true, Option.some.injEq] at hget
          exact hget.symm
        subst hob
        have hbn := hI.non i hi hun
        have hnl := hI.nle
        obtain ⟨z1, z2⟩ := k2 (β.put (n0 + i) ⟨w.heap.size, 0, sz⟩) (Pl.put_ext _ hbn) (Pl.put_same _ _ _)
        obtain ⟨y1, y2⟩ := hI.wr.allocAt hbn (show n0 + i < n by omega) obj sz ob z2 (m := n0) (by omega)
        refine wp_value (cls_defer hc (by simp)) (by rw [hrun, k1]; rfl) ?_
        refine hK j _ _ n _ _ (hI.adv tr ho hb hl (Pl.put_ext _ hbn) z1 y1 (hI.tran.trans' y2 (Nat.le_refl _) (by omega)) (fun k hk hke => ?_) hI.jle hnl ⟨HV, hv1, hv2, fun x ox hx => ?_, hv4⟩ (fun x ox hx hal hab => ?_) (fun x hx hxi hxl => ?_)) (put_defers _ _ _)
        · rw [← hI.effs k hk hke]
          constructor
          · rintro (h | h)
            · subst h; exact absurd hke hne
            · exact h
          · exact .inr
        · have hx0 : x ≠ n0 + i := fun e => by rw [e, hv4 i hi hnab] at hx; cases hx
          rw [if_neg hx0]; exact hv3 x ox hx
        · rcases hx with rfl | hx
          · rw [if_pos rfl, hal.inj hAl]
          · have hxi : x ≠ i := fun e => by rw [e] at hx; exact hun hx
            rw [if_neg (by omega)]; exact hI.pen x ox hx hal hab
        · show (if n0 + x = n0 + i then _ else β (n0 + x)) = none
          rw [if_neg (by omega)]; exact hI.non x hx hxl
      · cases hv
    · cases hv
  | effect hw hc H1 ha hv h3 h4 =>
    refine dead (hwd _ hw) ?_
    simp only [if_true]
    have he := heo.2 hc
    have hj := hI.turn tr hi he hun hb
    have hne : ne ops (i + 1) = j + 1 := by rw [ne_succ, if_pos he, hj]
    have hH : HV = (st i).H := by
      have := tr.ver (show i ≤ ops.size by omega)
      rw [hj, hv1] at this; cases this; rfl
    subst hH
    have hWd : Wd c ops st i := ⟨o, ho, hw⟩
    obtain ⟨-, s2, s3⟩ := absorb_spec (bef := (Region.before ops).getD i 0) (n0 := n0) (st i).pend (st i).H
    rw [ha] at s2 s3
    simp only at s2 s3
    have up : ∀ x, AbsE c ops st x j → AbsE c ops st x (j + 1) := fun x ⟨k, k1, k2, k3, k4, k5⟩ => ⟨k, k1, k2, by omega, k4, k5⟩
    have hit : ∀ x, Bef ops i x → AbsE c ops st x (j + 1) := fun x hx => ⟨i, hi, he, by omega, hWd, hx⟩
    have hg1 : ∀ x ox, H1.get x = some ox → g x = some ox := by
      intro x ox hx
      rcases s3 x ox hx with ⟨b, rfl, q2, q3⟩ | q
      · obtain ⟨p1, p2, p3⟩ := (tr.pend_at i (by omega) b ox).1 q2
        rw [hj] at p3
        exact hI.pen b ox (hb b q3) p2 p3
      · exact hv3 x ox q
    have hfree : ∀ x, x < ops.size → ¬ AbsE c ops st x (j + 1) → H1.get (n0 + x) = none := by
      intro x hx hab
      cases hq : H1.get (n0 + x) with
      | none => rfl
      | some ox =>
        exfalso
        rcases s3 _ ox hq with ⟨b, hbx, q2, q3⟩ | q
        · have : x = b := by omega
          subst this; exact hab (hit x q3)
        · rw [hv4 x hx fun h => hab (up x h)] at q; cases q
    have hn1 : H1.next = n := s2.trans hv2
    have hwr1 : WR G β H1.get H1.next w := by rw [hn1]; exact hI.wr.less hg1
    obtain ⟨hd, hcm⟩ := opA_run (ev := a.eval) hE hS hv hwr1 hρ
    refine does_of (G := G) (β := β) (H := H1) (H' := (st (i + 1)).H) (v := v) hd hcm K Q ?_
    rintro u w1 ⟨β1, y1, y2, y3⟩
    classical
    let g2 : Nat → Option AObj := fun x => if ∃ b, x = n0 + b ∧ b < ops.size ∧ listed[b]? = some true ∧ (∃ ob, Al P E S c ops n0 st b ob) ∧ ¬ AbsE c ops st b (j + 1) then g x else none
    have g2sub : ∀ x ox, g2 x = some ox → g x = some ox := by
      intro x ox hx
      simp only [g2] at hx
      split at hx
      · exact hx
      · cases hx
    have g2at : ∀ x ox, g2 x = some ox → ∃ b, x = n0 + b ∧ b < ops.size ∧ ¬ AbsE c ops st b (j + 1) := by
      intro x ox hx
      simp only [g2] at hx
      split at hx
      · rename_i h; obtain ⟨b, q1, q2, -, -, q5⟩ := h; exact ⟨b, q1, q2, q5⟩
      · cases hx
    obtain ⟨z1, z2⟩ := hI.wr.frame hg1 g2sub (fun x ox hx => by obtain ⟨b, rfl, q2, q3⟩ := g2at x ox hx; exact hfree b q2 q3) (hn1 ▸ y3) y2
    have hnl := hI.nle
    have hnx : n ≤ (st (i + 1)).H.next := z2.next
    have hdom : ∀ x, x < ops.size → ¬ AbsE c ops st x (j + 1) → (st (i + 1)).H.get (n0 + x) = none := fun x hx hab => y3.dom _ (by omega) (hfree x hx hab)
    refine hK (j + 1) β1 _ _ _ w1 (hI.adv tr ho hb hl y3.ext y1 z1 (hI.tran.trans' z2 (by omega) (by omega)) (fun k hk hke => ?_) ?_ (by omega) ⟨(st (i + 1)).H, ?_, rfl, fun x ox hx => ?_, hdom⟩ (fun x ox hx hal hab => ?_) (fun x hx hxi hxl => ?_)) (put_defers _ _ _)
    · have := hI.effs k hk hke
      constructor
      · rintro (h | h)
        · subst h; omega
        · have := this.1 h; omega
      · intro h
        rcases Nat.lt_succ_iff_lt_or_eq.1 h with h | h
        · exact .inr (this.2 h)
        · left
          have e1 := eff_at hk hke
          have e2 := eff_at hi he
          rw [h, ← hj, e2] at e1; cases e1; rfl
    · have := ne_mono ops (show i + 1 ≤ ops.size by omega); omega
    · have := tr.ver (show i + 1 ≤ ops.size by omega)
      rw [hne] at this; exact this
    · cases hq : g2 x with
      | none => simp only; exact hx
      | some oy =>
        exfalso
        obtain ⟨b, rfl, q2, q3⟩ := g2at x oy hq
        rw [hdom b q2 q3] at hx; cases hx
    · have hxl : listed[x]? = some true := by
        rcases hx with rfl | hx
        · obtain ⟨o', v', q1, q2, -⟩ := hal
          rw [ho] at q1; cases q1; rw [hc] at q2; cases q2
        · exact hx
      have hxs : x < ops.size := by
        obtain ⟨o', v', q1, -⟩ := hal
        exact (Array.getElem?_eq_some_iff.1 q1).1
      have hgx := hI.pen x ox hxl hal fun h => hab (up x h)
      have : g2 (n0 + x) = some ox := by
        simp only [g2]
        rw [if_pos ⟨x, rfl, hxs, hxl, ⟨ox, hal⟩, hab⟩]; exact hgx
      simp only [this]
    · exact y3.old _ (by omega) (hI.non x hx hxl)
theorem DInv.done (tr : Trace P E S c ops n0 st) (hI : DInv P G E S c ops n0 st β0 g0 w0 listed j β g n a w) (hr : Region.ready .any ops listed = []) :
    TR β c (st ops.size).T a.tmps ∧ WR G β (settle n0 (st ops.size).pend (st ops.size).H).get (settle n0 (st ops.size).pend (st ops.size).H).next w ∧
    Tran β0 g0 n0 w0 β (settle n0 (st ops.size).pend (st ops.size).H).get (settle n0 (st ops.size).pend (st ops.size).H).next w := by
  have all : ∀ i, i < ops.size → listed[i]? = some true := by
    intro i
    induction i using Nat.strongRecOn with
    | _ i ih =>
      intro hi
      by_cases h : listed[i]? = some true
      · exact h
      · exfalso
        have ho : ops[i]? = some ops[i] := Array.getElem?_eq_getElem hi
        have : i ∈ Region.ready .any ops listed := by
          refine mem_ready.2 ⟨?_, ops[i], ho, fun e he hb => ?_⟩
          · have hl : i < listed.size := by rw [hI.lsz]; exact hi
            rw [Array.getElem?_eq_getElem hl] at h
            rw [Array.getD_eq_getD_getElem?, Array.getElem?_eq_getElem hl]
            simpa using h
          · have hlt := tr.ok.edge i _ ho e he hb
            rw [Array.getD_eq_getD_getElem?, ih e.on hlt (by omega)]; rfl
        rw [hr] at this; cases this
  have hj : j = ne ops ops.size := by
    have h1 := hI.jle
    by_cases h : j = ne ops ops.size
    · exact h
    · exfalso
      have hlt : j < (effectsOf ops).length := by rw [← ne_all]; omega
      obtain ⟨k1, k2, k3⟩ := eff_index (List.getElem?_eq_getElem hlt)
      have := (hI.effs _ k1 k2).1 (all _ k1)
      omega
  subst hj
  obtain ⟨HV, hv1, hv2, hv3, hv4⟩ := hI.ver
  have hH : HV = (st ops.size).H := by
    have := tr.ver (Nat.le_refl ops.size)
    rw [hv1] at this; cases this; rfl
  subst hH
  obtain ⟨s1, s2⟩ := settle_spec (n0 := n0) (st ops.size).pend (st ops.size).H
  have hsub : ∀ x o, (settle n0 (st ops.size).pend (st ops.size).H).get x = some o → g x = some o := by
    intro x o hx
    rcases s2 x o hx with ⟨b, rfl, hb⟩ | h
    · obtain ⟨p1, p2, p3⟩ := (tr.pend_at ops.size (Nat.le_refl _) b o).1 hb
      exact hI.pen b o (all b p1) p2 p3
    · exact hv3 x o h
  rw [s1, hv2]
  refine ⟨⟨hI.size, fun d v hv => ?_⟩, hI.wr.less hsub, hI.tran.less hsub⟩
  by_cases hex : ∃ (k : Nat) (u : Oper), ops[k]? = some u ∧ u.dst = some d
  · obtain ⟨k, u, hk, hkd⟩ := hex
    have hks : k < ops.size := (Array.getElem?_eq_some_iff.1 hk).1
    refine hI.tin k u d (all k hks) hk hkd v ?_
    have := tr.T_same (d := d) (ops.size - (k + 1)) (k + 1) (by omega) (fun k' o' h1 h2 h3 h4 => (tr.ok.dst k u d hk hkd k' o' h3 (by omega)).1 h4)
    rw [show k + 1 + (ops.size - (k + 1)) = ops.size from by omega] at this
    rw [← this]; exact hv
  · refine hI.tout d (fun i o _ h2 h3 => hex ⟨i, o, h2, h3⟩) v ?_
    have := tr.T_same (d := d) ops.size 0 (by omega) (fun k' o' _ h2 h3 h4 => hex ⟨k', o', h3, h4⟩)
    rw [Nat.zero_add] at this
    rw [← this]; exact hv
theorem draw_any (hE : EnvOk P G E) (hS : Sound P G S) (hg : c.glob = G) (tr : Trace P E S c ops n0 st) {r : Option Nat} {m : Nat} {Q : Exit → Act → World → Prop} {df : List Deferred}
    (hQ : ∀ β a w, a.defers = df → TR β c (st ops.size).T a.tmps → WR G β (settle n0 (st ops.size).pend (st ops.size).H).get (settle n0 (st ops.size).pend (st ops.size).H).next w →
      Tran β0 g0 n0 w0 β (settle n0 (st ops.size).pend (st ops.size).H).get (settle n0 (st ops.size).pend (st ops.size).H).next w → Q .normal a w) :
    ∀ (fuel : Nat) (listed : Array Bool) (j : Nat) (β : Pl) (g : Nat → Option AObj) (n : Nat) (a : Act) (w : World), DInv P G E S c ops n0 st β0 g0 w0 listed j β g n a w → listed.toList.count false ≤ fuel → a.defers = df → wpAnyIn (Fen r) m P .any ops Q fuel listed a w := by
  have fin : ∀ (listed : Array Bool) (j : Nat) (β : Pl) (g : Nat → Option AObj) (n : Nat) (a : Act) (w : World), DInv P G E S c ops n0 st β0 g0 w0 listed j β g n a w → a.defers = df → Region.ready .any ops listed = [] → Q .normal a w := by
    intro listed j β g n a w hI hd hr
    obtain ⟨h1, h2, h3⟩ := hI.done tr hr
    exact hQ β a w hd h1 h2 h3
  intro fuel
  induction fuel with
  | zero =>
    intro listed j β g n a w hI hc hd
    have hr : Region.ready .any ops listed = [] := by
      cases hx : Region.ready .any ops listed with
      | nil => rfl
      | cons i l =>
        exfalso
        have hm : i ∈ Region.ready .any ops listed := by rw [hx]; simp
        obtain ⟨hun, o, ho, -⟩ := mem_ready.1 hm
        have hi : i < listed.size := by rw [hI.lsz]; exact (Array.getElem?_eq_some_iff.1 ho).1
        rw [Array.getD_eq_getD_getElem?, Array.getElem?_eq_getElem hi] at hun
        simp only [Option.getD_some] at hun
        have : false ∈ listed.toList := by rw [← hun]; simp
        have := List.count_pos_iff.2 this
        omega
    exact ⟨hr, fin listed j β g n a w hI hd hr⟩
  | succ fuel ih =>
    intro listed j β g n a w hI hc hd
    refine ⟨fun hr => fin listed j β g n a w hI hd hr, fun i hi => ?_⟩
    refine hI.step hE hS hg tr hi fun j' β' g' n' a' w' hI' hd' => ih _ j' β' g' n' a' w' hI' ?_ (hd'.trans hd)
    obtain ⟨hun, o, ho, -⟩ := mem_ready.1 hi
    have hil : i < listed.size := by rw [hI.lsz]; exact (Array.getElem?_eq_some_iff.1 ho).1
    rw [Array.getD_eq_getD_getElem?, Array.getElem?_eq_getElem hil] at hun
    simp only [Option.getD_some] at hun
    rw [Array.toList_setIfInBounds, List.count_set (by simpa using hil)]
    have hm : false ∈ listed.toList := by rw [← hun]; simp
    have := List.count_pos_iff.2 hm
    have hget : listed.toList[i]'(by simpa using hil) = false := by simpa using hun
    rw [hget]
    simp only [beq_self_eq_true, if_true, show (true == false) = false from rfl, Bool.false_eq_true, if_false]
    omega
theorem draw_run (hE : EnvOk P G E) (hS : Sound P G S) : DrawRun P G E S := by
  intro c ops T T' H H' h hg β a w hT hw id m r
  unfold drawA at h
  split at h
  · cases h
  · rename_i hok
    obtain ⟨objs, n0⟩ := H
    simp only at h
    split at h
    · rename_i T1 H1 pend vers loads hds
      split at h
      · rename_i hst
        cases h
        rw [List.range_eq_range'] at hds
        obtain ⟨st, t1, t2, t3⟩ := trace_of _ _ _ _ hds
        rw [Nat.zero_add] at t2
        have tr : Trace P E S c ops n0 st := ⟨drawOk_spec hok, fun i hi => drawStep_spec (t3 i (Nat.zero_le _) (by omega)), by rw [t1], by rw [t1], by rw [t2]; exact hst⟩
        refine wpIn_region_any hE.mixed ?_
        have hI : DInv P G E S c ops n0 st β (AHeap.mk objs n0).get w (Array.replicate ops.size false) 0 β (AHeap.mk objs n0).get (n0 + ops.size) a w.drew := by
          have hno : ∀ i, (Array.replicate ops.size false)[i]? ≠ some true := fun i h => by
            rw [Array.getElem?_replicate] at h
            split at h <;> cases h
          refine ⟨hw.drew.room (Nat.le_add_right _ _), { (Tran.drew (β := β) (g := (AHeap.mk objs n0).get) (n := n0) (w := w)) with next := Nat.le_add_right _ _ }, by simp, hT.1, fun i k h => absurd h (hno i), fun k _ _ => ⟨fun h => absurd h (hno k), fun h => by omega⟩, Nat.zero_le _, Nat.le_refl _, ⟨⟨objs, n0 + ops.size⟩, ?_, rfl, fun x o hx => hx, fun b hb _ => ?_⟩, fun b o h => absurd h (hno b), fun b hb _ => hw.fresh _ (Nat.le_add_right _ _), fun i o d h => absurd h (hno i), fun d _ v hv => ?_⟩
          · have := tr.ver (Nat.zero_le ops.size)
            rw [t1] at this; exact this
          · cases hq : (AHeap.mk objs (n0 + ops.size)).get (n0 + b) with
            | none => rfl
            | some o =>
              rcases hw.some_ (n0 + b) o hq with ⟨p, hp, -⟩ | ⟨-, hlt, -⟩
              · rw [hw.fresh _ (Nat.le_add_right _ _)] at hp; cases hp
              · exact absurd (show n0 + b < n0 from hlt) (by omega)
          · rw [t1] at hv; exact hT.2 d v hv
        refine draw_any hE hS hg tr (β0 := β) (g0 := (AHeap.mk objs n0).get) (w0 := w) (df := a.defers) (fun β' a' w' hd q1 q2 q3 => ?_) ops.size _ 0 β _ _ a _ hI (by simp) rfl
        rw [t2] at q1 q2 q3
        exact ⟨rfl, hd, β', q1, q2, q3⟩
      · cases h
    · cases h
theorem ev_right (hE : EnvOk P G E) (n : Nat) : Sound P G (ev P E n) := ev_sound hE (fun _ hS => draw_run hE hS) n
end
end Go.Tc
