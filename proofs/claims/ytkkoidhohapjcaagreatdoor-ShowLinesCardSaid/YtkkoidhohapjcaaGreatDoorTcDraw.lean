/- regions that draw their order: what lies ahead of what; the run in the text's order. -/
import Derived.Test.YtkkoidhohapjcaaGreatDoorTcRegion
import Derived.OrdersIn
set_option linter.unusedSimpArgs false
set_option linter.unusedVariables false
set_option linter.unusedSectionVars false
namespace Go.Tc
variable [Val]

/-! ### what lies ahead of what -/
def befStep (acc : Array Nat) (o : Oper) : Array Nat := acc.push (o.after.foldl (fun s e => if Region.binds .any e then s ||| 2 ^ e.on ||| acc.getD e.on 0 else s) 0)
omit [Val] in
theorem before_def (ops : Array Oper) : Region.before ops = ops.toList.foldl befStep #[] := by
  unfold Region.before; rw [← Array.foldl_toList]; rfl

omit [Val] in
theorem befStep_fold : ∀ (l : List Oper) (acc : Array Nat), (∀ k, k < acc.size → (l.foldl befStep acc).getD k 0 = acc.getD k 0) ∧
    (∀ k, acc.size + l.length ≤ k → (l.foldl befStep acc).getD k 0 = 0) ∧
    ∀ m o, l[m]? = some o → ∃ acc' : Array Nat, (l.foldl befStep acc).getD (acc.size + m) 0 = o.after.foldl (fun s e => if Region.binds .any e then s ||| 2 ^ e.on ||| acc'.getD e.on 0 else s) 0 ∧
      ∀ k, acc'.getD k 0 = (l.foldl befStep acc).getD k 0 ∨ acc'.getD k 0 = 0
  | [], acc => by
    refine ⟨fun k _ => rfl, fun k hk => ?_, fun m o h => by simp at h⟩
    simp only [List.foldl_nil, List.length_nil, Nat.add_zero] at hk ⊢
    simp [Array.getD_eq_getD_getElem?, Array.getElem?_eq_none hk]
  | o :: l, acc => by
    obtain ⟨h1, h2, h3⟩ := befStep_fold l (befStep acc o)
    have hsz : (befStep acc o).size = acc.size + 1 := by simp [befStep]
    have hpre : ∀ k, k < acc.size → (l.foldl befStep (befStep acc o)).getD k 0 = acc.getD k 0 := fun k hk => by
      rw [h1 k (by omega)]
      simp only [befStep, Array.getD_eq_getD_getElem?]
      rw [Array.getElem?_push, if_neg (by omega)]
    refine ⟨hpre, fun k hk => h2 k (by rw [hsz]; simp only [List.length_cons] at hk; omega), fun m o' hm => ?_⟩
    cases m with
    | zero =>
      simp only [List.getElem?_cons_zero, Option.some.injEq] at hm
      subst hm
      refine ⟨acc, ?_, fun k => ?_⟩
      · simp only [List.foldl_cons, Nat.add_zero]
        rw [h1 _ (by omega)]
        simp only [befStep, Array.getD_eq_getD_getElem?]
        rw [Array.getElem?_push, if_pos rfl]; rfl
      · by_cases hk : k < acc.size
        · exact .inl (hpre k hk).symm
        · exact .inr (by simp [Array.getD_eq_getD_getElem?, Array.getElem?_eq_none (Nat.le_of_not_lt hk)])
    | succ m =>
      obtain ⟨acc', q1, q2⟩ := h3 m o' (by simpa using hm)
      refine ⟨acc', ?_, q2⟩
      rw [← q1, hsz]
      simp only [List.foldl_cons]
      congr 1; omega

omit [Val] in
theorem fold_bit (f : Edge → Nat) (j : Nat) : ∀ (l : List Edge) (s : Nat), (l.foldl (fun s e => if Region.binds .any e then s ||| 2 ^ e.on ||| f e else s) s).testBit j = true →
    s.testBit j = true ∨ ∃ e ∈ l, Region.binds .any e = true ∧ (e.on = j ∨ (f e).testBit j = true)
  | [], s, h => .inl h
  | e :: l, s, h => by
    rw [List.foldl_cons] at h
    rcases fold_bit f j l _ h with h1 | ⟨e', h1, h2⟩
    · split at h1
      · rename_i hb
        simp only [Nat.testBit_or, Bool.or_eq_true, Nat.testBit_two_pow, decide_eq_true_eq] at h1
        rcases h1 with (h1 | h1) | h1
        · exact .inl h1
        · exact .inr ⟨e, by simp, hb, .inl h1⟩
        · exact .inr ⟨e, by simp, hb, .inr h1⟩
      · exact .inl h1
    · exact .inr ⟨e', by simp [h1], h2⟩

abbrev Bef (ops : Array Oper) (i j : Nat) : Prop := ((Region.before ops).getD i 0).testBit j = true

omit [Val] in
theorem before_bit {ops : Array Oper} {i j : Nat} (h : Bef ops i j) : ∃ o e, ops[i]? = some o ∧ e ∈ o.after ∧ Region.binds .any e = true ∧ (e.on = j ∨ Bef ops e.on j) := by
  unfold Bef at h
  rw [before_def] at h
  obtain ⟨-, h2, h3⟩ := befStep_fold ops.toList #[]
  cases ho : ops[i]? with
  | none =>
    have hi : ops.size ≤ i := by simpa using ho
    rw [h2 i (by simpa using hi)] at h
    simp at h
  | some o =>
    obtain ⟨acc', q1, q2⟩ := h3 i o (by simpa using ho)
    simp only [List.size_toArray, List.length_nil, Nat.zero_add] at q1
    rw [q1, ← Array.foldl_toList] at h
    rcases fold_bit (fun e => acc'.getD e.on 0) j _ _ h with h0 | ⟨e, he, hb, h0⟩
    · simp at h0
    · refine ⟨o, e, rfl, by simpa using he, hb, h0.imp id fun h0 => ?_⟩
      unfold Bef
      rw [before_def]
      rcases q2 e.on with hq | hq
      · rw [← hq]; exact h0
      · rw [hq] at h0; simp at h0

/-! ### the check -/
def isEff (ops : Array Oper) (k : Nat) : Bool := match ops[k]? with | some o => cls o.op == .effect | none => false
omit [Val] in
theorem effectsOf_def (ops : Array Oper) : effectsOf ops = (List.range ops.size).filter (isEff ops) := rfl

structure DrawOk (ops : Array Oper) : Prop where
  chain : chained (Region.before ops) (effectsOf ops) = true
  edge : ∀ i o, ops[i]? = some o → ∀ e ∈ o.after, Region.binds .any e = true → e.on < i
  dst : ∀ i o d, ops[i]? = some o → o.dst = some d → ∀ j u, ops[j]? = some u → i ≠ j → u.dst ≠ some d ∧ (d ∉ readsOf ops u ∨ Bef ops j i ∨ Bef ops i j)

omit [Val] in
theorem drawOk_spec {ops : Array Oper} (h : drawOk ops = true) : DrawOk ops := by
  unfold drawOk at h
  simp only [Bool.and_eq_true, List.all_eq_true] at h
  obtain ⟨h1, h2⟩ := h
  have lt : ∀ {i : Nat} {o : Oper}, ops[i]? = some o → i ∈ List.range ops.size := fun ho => List.mem_range.2 (Array.getElem?_eq_some_iff.1 ho).1
  refine ⟨h1, fun i o ho e he hb => ?_, fun i o d ho hd j u hu hij => ?_⟩
  · have := h2 i (lt ho)
    simp only [ho, Bool.and_eq_true] at this
    have := this.1.1
    rw [Array.all_eq_true_iff_forall_mem] at this
    have := this e he
    simpa [hb] using this
  · have := h2 i (lt ho)
    simp only [ho, hd, Bool.and_eq_true] at this
    have := this.1.2
    rw [List.all_eq_true] at this
    have := this j (lt hu)
    simp only [hu, Bool.or_eq_true, beq_iff_eq, Bool.and_eq_true, bne_iff_ne, ne_eq, Bool.not_eq_true'] at this
    rcases this with h | ⟨h, h'⟩
    · exact absurd h hij
    · refine ⟨h, ?_⟩
      rcases h' with (h' | h') | h'
      · left; intro hm; rw [List.contains_iff_mem.2 hm] at h'; cases h'
      · exact .inr (.inl h')
      · exact .inr (.inr h')

omit [Val] in
theorem Bef.lt {ops : Array Oper} (hok : DrawOk ops) : ∀ (i : Nat) {j : Nat}, Bef ops i j → j < i := by
  intro i
  induction i using Nat.strongRecOn with
  | _ i ih =>
    intro j h
    obtain ⟨o, e, ho, he, hb, h⟩ := before_bit h
    have := hok.edge i o ho e he hb
    rcases h with rfl | h
    · exact this
    · exact Nat.lt_trans (ih _ this h) this

/-! ### effects, counted -/
def ne (ops : Array Oper) (i : Nat) : Nat := ((List.range i).filter (isEff ops)).length
omit [Val] in
theorem ne_succ (ops : Array Oper) (i : Nat) : ne ops (i + 1) = ne ops i + if isEff ops i then 1 else 0 := by
  unfold ne
  rw [List.range_succ, List.filter_append, List.length_append]
  cases h : isEff ops i <;> simp [h]
omit [Val] in
theorem ne_mono (ops : Array Oper) {i k : Nat} (h : i ≤ k) : ne ops i ≤ ne ops k := by
  induction h with
  | refl => exact Nat.le_refl _
  | step _ ih => rw [ne_succ]; omega
omit [Val] in
theorem ne_lt {ops : Array Oper} {k i : Nat} (he : isEff ops k = true) : k < i ↔ ne ops k < ne ops i := by
  constructor
  · intro h
    have h1 := ne_mono ops (show k + 1 ≤ i from h)
    rw [ne_succ, he] at h1
    simp at h1; omega
  · intro h
    by_cases hk : k < i
    · exact hk
    · have := ne_mono ops (Nat.le_of_not_lt hk); omega
omit [Val] in
theorem eff_at {ops : Array Oper} {k : Nat} (hk : k < ops.size) (he : isEff ops k = true) : (effectsOf ops)[ne ops k]? = some k := by
  rw [effectsOf_def]
  have : List.range ops.size = List.range k ++ (k :: (List.range' (k + 1) (ops.size - k - 1))) := by
    have h1 : (k :: List.range' (k + 1) (ops.size - k - 1)) = List.range' k (ops.size - k) := by
      rw [show ops.size - k = (ops.size - k - 1) + 1 from by omega]; rfl
    have h2 : List.range' 0 k ++ List.range' (0 + k) (ops.size - k) = List.range' 0 (k + (ops.size - k)) := List.range'_append_1
    rw [List.range_eq_range', List.range_eq_range', h1]
    rw [Nat.zero_add, show k + (ops.size - k) = ops.size from by omega] at h2
    exact h2.symm
  rw [this, List.filter_append, List.filter_cons_of_pos he]
  rw [List.getElem?_append_right (by unfold ne; omega)]
  simp [ne]
omit [Val] in
theorem eff_mem {ops : Array Oper} {k : Nat} (h : k ∈ effectsOf ops) : k < ops.size ∧ isEff ops k = true := by
  rw [effectsOf_def, List.mem_filter, List.mem_range] at h; exact h
omit [Val] in
theorem eff_index {ops : Array Oper} {k m : Nat} (h : (effectsOf ops)[m]? = some k) : k < ops.size ∧ isEff ops k = true ∧ ne ops k = m := by
  have hm := eff_mem (List.mem_of_getElem? h)
  refine ⟨hm.1, hm.2, ?_⟩
  have h1 := eff_at hm.1 hm.2
  have hlt : ne ops k < (effectsOf ops).length := (List.getElem?_eq_some_iff.1 h1).1
  have hnd : (effectsOf ops).Nodup := by
    rw [effectsOf_def]
    exact List.nodup_range.filter _
  exact (List.getElem?_inj hlt hnd).1 (h1.trans h.symm)
omit [Val] in
theorem chained_get {bef : Array Nat} : ∀ {l : List Nat} {m a b : Nat}, chained bef l = true → l[m]? = some a → l[m + 1]? = some b → (bef.getD b 0).testBit a = true
  | [], _, _, _, _, h, _ => by simp at h
  | [_], m, _, _, _, _, h => by simp at h
  | x :: y :: r, 0, a, b, hc, h, h' => by
    simp only [List.getElem?_cons_zero, List.getElem?_cons_succ, Option.some.injEq] at h h'
    subst h; subst h'
    simp only [chained, Bool.and_eq_true] at hc
    exact hc.1
  | x :: y :: r, m + 1, a, b, hc, h, h' => by
    simp only [chained, Bool.and_eq_true] at hc
    exact chained_get hc.2 (by simpa using h) (by simpa using h')

omit [Val] in
theorem ne_all (ops : Array Oper) : ne ops ops.size = (effectsOf ops).length := rfl

omit [Val] in
/-! ### absorbing -/
theorem absorb_spec {bef n0 : Nat} : ∀ (pend : List (Nat × AObj)) (H : AHeap), (∀ a ob, (a, ob) ∈ (absorb bef n0 pend H).1 ↔ (a, ob) ∈ pend ∧ bef.testBit a = false) ∧ (absorb bef n0 pend H).2.next = H.next ∧
    (∀ x o, (absorb bef n0 pend H).2.get x = some o → (∃ a, x = n0 + a ∧ (a, o) ∈ pend ∧ bef.testBit a = true) ∨ H.get x = some o)
  | [], H => by simp [absorb]
  | (i, ob) :: r, H => by
    cases hb : bef.testBit i with
    | true =>
      obtain ⟨h1, h2, h3⟩ := absorb_spec r (H.set (n0 + i) ob)
      simp only [absorb, hb]
      refine ⟨fun a o => ?_, by rw [h2, AHeap.next_set], fun x o h => ?_⟩
      · rw [h1]
        constructor
        · rintro ⟨q1, q2⟩; exact ⟨by simp [q1], q2⟩
        · rintro ⟨q1, q2⟩
          rcases List.mem_cons.1 q1 with q | q
          · cases q; rw [hb] at q2; cases q2
          · exact ⟨q, q2⟩
      · rcases h3 x o h with ⟨a, q1, q2, q3⟩ | q
        · exact .inl ⟨a, q1, by simp [q2], q3⟩
        · rw [AHeap.get_set] at q
          simp only at q
          split at q
          · rename_i hx; cases q; exact .inl ⟨i, hx, by simp, hb⟩
          · exact .inr q
    | false =>
      obtain ⟨h1, h2, h3⟩ := absorb_spec r H
      simp only [absorb, hb]
      refine ⟨fun a o => ?_, h2, fun x o h => ?_⟩
      · simp only [List.mem_cons, h1]
        constructor
        · rintro (q | ⟨q1, q2⟩)
          · cases q; exact ⟨.inl rfl, hb⟩
          · exact ⟨.inr q1, q2⟩
        · rintro ⟨q | q, q2⟩
          · exact .inl q
          · exact .inr ⟨q, q2⟩
      · rcases h3 x o h with ⟨a, q1, q2, q3⟩ | q
        · exact .inl ⟨a, q1, by simp [q2], q3⟩
        · exact .inr q

omit [Val] in
theorem settle_spec {n0 : Nat} : ∀ (pend : List (Nat × AObj)) (H : AHeap), (settle n0 pend H).next = H.next ∧ ∀ x o, (settle n0 pend H).get x = some o → (∃ a, x = n0 + a ∧ (a, o) ∈ pend) ∨ H.get x = some o
  | [], H => by simp [settle]
  | (i, ob) :: r, H => by
    obtain ⟨h2, h3⟩ := settle_spec r (H.set (n0 + i) ob)
    simp only [settle]
    refine ⟨by rw [h2, AHeap.next_set], fun x o h => ?_⟩
    rcases h3 x o h with ⟨a, q1, q2⟩ | q
    · exact .inl ⟨a, q1, by simp [q2]⟩
    · rw [AHeap.get_set] at q
      simp only at q
      split at q
      · rename_i hx; cases q; exact .inl ⟨i, hx, by simp⟩
      · exact .inr q

end Go.Tc
