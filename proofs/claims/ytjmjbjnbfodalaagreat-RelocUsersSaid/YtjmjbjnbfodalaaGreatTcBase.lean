/- Plain lemmas on trees, texts and lists that the evaluator's soundness leans on. -/
import Derived.Test.YtjmjbjnbfodalaaGreatTcDefs
import Derived.Laws.Strings
set_option linter.unusedSimpArgs false
set_option linter.unusedVariables false
set_option linter.unusedSectionVars false
namespace Go.Tc

/-! ### trees -/
section tr
variable {α : Type}
theorem Tr.get_set : ∀ (f : Nat) (t : Tr α) (n m : Nat) (v : Option α), n < f → (Tr.set f t n v).get m = if m = n then v else t.get m := by
  intro f
  induction f with
  | zero => intro t n m v h; omega
  | succ f ih =>
    intro t n m v h
    cases t with
    | leaf =>
      simp only [Tr.set]
      by_cases h0 : n = 0
      · subst h0
        simp only [if_true, Tr.get]
        by_cases hm : m = 0
        · simp [hm]
        · simp [hm]
      · rw [if_neg h0]
        by_cases h1 : n % 2 = 1
        · rw [if_pos h1]
          simp only [Tr.get]
          by_cases hm : m = 0
          · rw [if_pos hm, if_neg (by omega)]
          · rw [if_neg hm]
            by_cases hm1 : m % 2 = 1
            · rw [if_pos hm1, ih _ _ _ _ (by omega)]
              by_cases e : m = n
              · subst e; simp
              · rw [if_neg e, if_neg (by omega)]; simp [Tr.get]
            · rw [if_neg hm1, if_neg (by omega)]
        · rw [if_neg h1]
          simp only [Tr.get]
          by_cases hm : m = 0
          · rw [if_pos hm, if_neg (by omega)]
          · rw [if_neg hm]
            by_cases hm1 : m % 2 = 1
            · rw [if_pos hm1, if_neg (by omega)]
            · rw [if_neg hm1, ih _ _ _ _ (by omega)]
              by_cases e : m = n
              · subst e; simp
              · rw [if_neg e, if_neg (by omega)]; simp [Tr.get]
    | node l w r =>
      simp only [Tr.set]
      by_cases h0 : n = 0
      · subst h0
        simp only [if_true, Tr.get]
        by_cases hm : m = 0
        · simp [hm]
        · simp [hm]
      · rw [if_neg h0]
        by_cases h1 : n % 2 = 1
        · rw [if_pos h1]
          simp only [Tr.get]
          by_cases hm : m = 0
          · rw [if_pos hm, if_neg (by omega), if_pos hm]
          · rw [if_neg hm, if_neg hm]
            by_cases hm1 : m % 2 = 1
            · rw [if_pos hm1, if_pos hm1, ih _ _ _ _ (by omega)]
              by_cases e : m = n
              · subst e; simp
              · rw [if_neg e, if_neg (by omega)]
            · rw [if_neg hm1, if_neg hm1, if_neg (by omega)]
        · rw [if_neg h1]
          simp only [Tr.get]
          by_cases hm : m = 0
          · rw [if_pos hm, if_neg (by omega), if_pos hm]
          · rw [if_neg hm, if_neg hm]
            by_cases hm1 : m % 2 = 1
            · rw [if_pos hm1, if_pos hm1, if_neg (by omega)]
            · rw [if_neg hm1, if_neg hm1, ih _ _ _ _ (by omega)]
              by_cases e : m = n
              · subst e; simp
              · rw [if_neg e, if_neg (by omega)]

theorem Tr.get_put (t : Tr α) (n m : Nat) (v : α) : (t.put n v).get m = if m = n then some v else t.get m := Tr.get_set _ _ _ _ _ (by omega)
theorem Tr.get_del (t : Tr α) (n m : Nat) : (t.del n).get m = if m = n then none else t.get m := Tr.get_set _ _ _ _ _ (by omega)

mutual
theorem evens_get : ∀ (l : List α) (i : Nat), (evens l)[i]? = l[2 * i]?
  | [], i => by simp [evens]
  | a :: r, 0 => by simp [evens]
  | a :: r, i + 1 => by
    show (odds r)[i]? = (a :: r)[2 * (i + 1)]?
    rw [odds_get r i, show 2 * (i + 1) = (2 * i + 1) + 1 from by omega, List.getElem?_cons_succ]
theorem odds_get : ∀ (l : List α) (i : Nat), (odds l)[i]? = l[2 * i + 1]?
  | [], i => by simp [odds]
  | a :: r, i => by
    show (evens r)[i]? = (a :: r)[2 * i + 1]?
    rw [evens_get r i, List.getElem?_cons_succ]
end

theorem Tr.get_ofList : ∀ (f : Nat) (l : List α) (i : Nat) (a : α), (Tr.ofList f l).get i = some a → l[i]? = some a := by
  intro f
  induction f with
  | zero => intro l i a h; simp [Tr.ofList, Tr.get] at h
  | succ f ih =>
    intro l i a h
    cases l with
    | nil => simp [Tr.ofList, Tr.get] at h
    | cons x r =>
      simp only [Tr.ofList, Tr.get] at h
      by_cases h0 : i = 0
      · subst h0; simpa using h
      · rw [if_neg h0] at h
        obtain ⟨j, rfl⟩ : ∃ j, i = j + 1 := ⟨i - 1, by omega⟩
        rw [List.getElem?_cons_succ]
        by_cases h1 : (j + 1) % 2 = 1
        · rw [if_pos h1] at h
          have := ih _ _ _ h
          rw [evens_get] at this
          rwa [show 2 * ((j + 1) / 2) = j from by omega] at this
        · rw [if_neg h1] at h
          have := ih _ _ _ h
          rw [odds_get] at this
          rwa [show 2 * ((j + 1) / 2 - 1) + 1 = j from by omega] at this
end tr

/-! ### tables -/
theorem infoT_info {P : Program} {t : TypeId} {i : TypeInfo} (h : infoT P t = some i) : P.info? t = some i := by
  have := Tr.get_ofList _ _ _ _ h
  rw [Array.getElem?_toList] at this
  have hlt : t < P.types.size := (Array.getElem?_eq_some_iff.1 this).1
  simp only [Tables.info?, if_pos hlt, this]
theorem undT_und {P : Program} {t : TypeId} {d : TypeDesc} (h : undT P t = some d) : P.underlying t = some d := by
  unfold undT at h
  unfold Program.underlying
  cases hi : infoT P t with
  | none => simp [hi] at h
  | some i =>
    rw [infoT_info hi]
    rw [hi] at h
    obtain ⟨desc, s1, s2, s3, s4, s5, s6, s7, s8, s9⟩ := i
    cases desc with
    | named nm u =>
      simp only at h ⊢
      cases hu : infoT P u with
      | none => simp [hu] at h
      | some j => rw [infoT_info hu]; rwa [hu] at h
    | _ => exact h
theorem fnsOf_funcs {P : Program} {f : FuncId} {fn : Func} (h : (fnsOf P).get f = some fn) : P.funcs[f]? = some fn := by
  have := Tr.get_ofList _ _ _ _ h
  simpa using this
theorem sizeT_info {P : Program} {t n : Nat} (h : sizeT P t = some n) : ∃ i, P.info? t = some i ∧ i.size = n := by
  unfold sizeT at h
  cases hi : infoT P t with
  | none => simp [hi] at h
  | some i => exact ⟨i, infoT_info hi, by simpa [hi] using h⟩

/-! ### texts -/

end Go.Tc
