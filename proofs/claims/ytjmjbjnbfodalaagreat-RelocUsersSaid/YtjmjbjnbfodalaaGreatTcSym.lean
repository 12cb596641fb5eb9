/- Unknown data as values and as cells: plain lemmas. -/
import Derived.Test.YtjmjbjnbfodalaaGreatTcRel
set_option linter.unusedSimpArgs false
set_option linter.unusedVariables false
set_option linter.unusedSectionVars false
namespace Go.Tc
variable [Val]

section
variable {β : Pl}

omit [Val] in
theorem CellR.one {Z : Nat → Option Obj} {k : CK} {d : D} {v : Value} (h : CellR Z k d v) : v.oneCell' = true := by
  cases h <;> rfl

omit [Val] in
theorem CellR.cells {Z : Nat → Option Obj} {k : CK} {d : D} {v : Value} (h : CellR Z k d v) : v.cells.toList = [v] := by
  cases h <;> rfl

omit [Val] in
theorem CellR.notBad {Z : Nat → Option Obj} {k : CK} {v : Value} (h : CellR Z k .bad v) : False := by
  generalize hd : D.bad = d at h
  cases h <;> cases hd

theorem ofTm_iff {k : CK} {t : Tm} {v : Value} : VR β (ofTm k t) v ↔ CellR β.zone k t.den v := by
  unfold ofTm
  split
  · constructor
    · intro h; cases h; exact .int _ _
    · intro h
      generalize hd : (Tm.int _).den = d at h
      cases h; cases hd; exact .int _ _
  · constructor
    · intro h; cases h; exact .bool _
    · intro h
      generalize hd : (Tm.bool _).den = d at h
      cases h; cases hd; exact .bool _
  · constructor
    · intro h; cases h; exact .str _
    · intro h
      generalize hd : (Tm.str _).den = d at h
      cases h; cases hd; exact .str _
  · constructor
    · intro h; cases h with | sy h => exact h
    · intro h; exact .sy h

omit [Val] in
theorem CellR.intI {Z : Nat → Option Obj} {k : IntKind} {d : D} {v : Value} (h : CellR Z (.int k) d v) : ∃ n, d = .int n ∧ v = .int k n := by
  cases h; exact ⟨_, rfl, rfl⟩
omit [Val] in
theorem CellR.boolI {Z : Nat → Option Obj} {d : D} {v : Value} (h : CellR Z .bool d v) : ∃ b, d = .bool b ∧ v = .bool b := by
  cases h; exact ⟨_, rfl, rfl⟩
omit [Val] in
theorem CellR.strI {Z : Nat → Option Obj} {d : D} {v : Value} (h : CellR Z .str d v) : ∃ s, d = .str (BS.of s) ∧ v = .string s := by
  cases h; exact ⟨_, rfl, rfl⟩
theorem ofTm_int {k : IntKind} {t : Tm} {n : Int} (e : t.den = .int n) : VR β (ofTm (.int k) t) (.int k n) := by
  rw [ofTm_iff, e]; exact .int _ _
theorem ofTm_bool {t : Tm} {b : Bool} (e : t.den = .bool b) : VR β (ofTm .bool t) (.bool b) := by
  rw [ofTm_iff, e]; exact .bool _
theorem ofTm_str {t : Tm} {s : ByteArray} (e : t.den = .str (BS.of s)) : VR β (ofTm .str t) (.string s) := by
  rw [ofTm_iff, e]; exact .str _
theorem intTm_VR {a : AV} {k : IntKind} {t : Tm} {v : Value} (h : intTm a = some (k, t)) (hv : VR β a v) : ∃ n, t.den = .int n ∧ v = .int k n := by
  unfold intTm at h
  split at h
  · cases h; cases hv; exact ⟨_, rfl, rfl⟩
  · cases h; cases hv with | sy hv => exact hv.intI
  · cases h
theorem strTm_VR {a : AV} {t : Tm} {v : Value} (h : strTm a = some t) (hv : VR β a v) : ∃ s, t.den = .str (BS.of s) ∧ v = .string s := by
  unfold strTm at h
  split at h
  · cases h; cases hv; exact ⟨_, rfl, rfl⟩
  · cases h; cases hv with | sy hv => exact hv.strI
  · cases h
theorem boolTm_VR {a : AV} {t : Tm} {v : Value} (h : boolTm a = some t) (hv : VR β a v) : ∃ b, t.den = .bool b ∧ v = .bool b := by
  unfold boolTm at h
  split at h
  · cases h; cases hv; exact ⟨_, rfl, rfl⟩
  · cases h; cases hv with | sy hv => exact hv.boolI
  · cases h

theorem ofTm_congr {k : CK} {a b : Tm} {v : Value} (h : VR β (ofTm k a) v) (e : a.den = b.den) : VR β (ofTm k b) v := by
  rw [ofTm_iff] at h ⊢; rw [← e]; exact h

theorem tmOf_cell {k : CK} {a : AV} {t : Tm} {v : Value} (h : tmOf k a = some t) (hv : VR β a v) : CellR β.zone k t.den v := by
  unfold tmOf at h
  split at h
  · cases hv
    rename_i k j n
    cases e : (k == j)
    · rw [e] at h; cases h
    · rw [e] at h; simp only [cond_true, Option.some.injEq] at h; subst h
      rw [beq_iff_eq] at e; subst e
      exact .int _ _
  · cases hv; cases h; exact .bool _
  · cases hv; cases h; exact .str _
  · cases hv; cases h; exact .nil _
  · cases hv; cases h; exact .rnil _
  · rename_i c t'
    cases hv with | sy hv =>
    cases e : CK.beq k c
    · rw [e] at h; cases h
    · rw [e] at h; simp only [cond_true, Option.some.injEq] at h; subst h
      rw [CK.beq_eq k c e]; exact hv
  · cases h

theorem derefA_VR {nf : Tm → Tm} (hn : ∀ t, (nf t).den = t.den) {a : AV} {v : Value} (h : VR β a v) : VR β (derefA nf a) v := by
  unfold derefA
  split
  · rename_i ks t
    split
    · rename_i hr
      cases h with | sy hc =>
      generalize hd : t.den = d at hc
      cases hc with
      | rnil =>
        have hl : (mkT nf .len [t]).den = .int 0 := by rw [mkT_den hn]; simp [Tm.dens, hd, TOp.den]
        have := inRangeT_den hn hr (a := 0) (b := 0) rfl hl
        omega
      | ref hi => 
        rename_i b o c
        have := VR.iptr (β := β) (t := t) (ti := .int 0) (i := 0) 0 (by rw [hd]; exact hi) rfl (by omega)
        simpa using this
    · exact h
  · exact h

theorem VRs.of_getG {a : List AV} {v : List Value} (hl : a.length = v.length) (h : ∀ (i : Nat) (x : AV), a[i]? = some x → ∃ y, v[i]? = some y ∧ VR β x y) : VRs β a v := by
  induction a generalizing v with
  | nil => cases v with
    | nil => exact .nil
    | cons _ _ => simp at hl
  | cons x xs ih =>
    cases v with
    | nil => simp at hl
    | cons y ys =>
      obtain ⟨z, h1, h2⟩ := h 0 x rfl
      simp only [List.getElem?_cons_zero, Option.some.injEq] at h1
      subst h1
      exact .cons h2 (ih (by simpa using hl) fun i x hx => by simpa using h (i + 1) x (by simpa using hx))

/-! ### cells of an element -/
omit [Val] in
theorem eltCells_len (nf : Tm → Tm) (ks : List CK) (t : Tm) : ∀ (l : List CK) (j : Nat), (eltCells nf ks t l j).length = l.length
  | [], _ => rfl
  | k :: r, j => by simp [eltCells, eltCells_len nf ks t r (j + 1)]
omit [Val] in
theorem eltCells_drop (nf : Tm → Tm) (ks : List CK) (t : Tm) : ∀ (a : Nat) (l : List CK) (j : Nat), (eltCells nf ks t l j).drop a = eltCells nf ks t (l.drop a) (j + a)
  | 0, _, _ => rfl
  | a + 1, [], _ => by simp [eltCells]
  | a + 1, k :: r, j => by
    simp only [eltCells, List.drop_succ_cons]
    rw [eltCells_drop nf ks t a r (j + 1), show j + 1 + a = j + (a + 1) from by omega]
omit [Val] in
theorem eltCells_take (nf : Tm → Tm) (ks : List CK) (t : Tm) : ∀ (a : Nat) (l : List CK) (j : Nat), (eltCells nf ks t l j).take a = eltCells nf ks t (l.take a) j
  | 0, _, _ => rfl
  | a + 1, [], _ => by simp [eltCells]
  | a + 1, k :: r, j => by simp only [eltCells, List.take_succ_cons, eltCells_take nf ks t a r (j + 1)]
omit [Val] in
theorem eltCells_get (nf : Tm → Tm) (ks : List CK) (t : Tm) : ∀ (l : List CK) (j i : Nat) (x : AV), (eltCells nf ks t l j)[i]? = some x → ∃ k, l[i]? = some k ∧ x = ofTm k (eltTm nf ks t (j + i))
  | [], _, _, _, h => by simp [eltCells] at h
  | k :: r, j, 0, x, h => by
    simp only [eltCells, List.getElem?_cons_zero, Option.some.injEq] at h
    exact ⟨k, rfl, h.symm⟩
  | k :: r, j, i + 1, x, h => by
    simp only [eltCells, List.getElem?_cons_succ] at h
    obtain ⟨k', h1, h2⟩ := eltCells_get nf ks t r (j + 1) i x h
    exact ⟨k', by simpa using h1, by rw [h2, show j + 1 + i = j + (i + 1) from by omega]⟩
theorem eltCells_congr {nf nf' : Tm → Tm} (hn : ∀ t, (nf t).den = t.den) (hn' : ∀ t, (nf' t).den = t.den) {ks : List CK} {s t : Tm} (e : s.den = t.den) : ∀ {l : List CK} {j : Nat} {vs : List Value}, VRs β (eltCells nf ks s l j) vs → VRs β (eltCells nf' ks t l j) vs
  | [], _, _, h => by cases h; exact .nil
  | k :: r, j, _, h => by
    simp only [eltCells] at h ⊢
    cases h with | cons h hs =>
    exact .cons (ofTm_congr h (by rw [eltTm_den hn, eltTm_den hn', e])) (eltCells_congr hn hn' e hs)
omit [Val] in
theorem eltCells_one (nf : Tm → Tm) (ks : List CK) (t : Tm) : ∀ (l : List CK) (j : Nat), (eltCells nf ks t l j).all (·.one) = true
  | [], _ => rfl
  | k :: r, j => by
    simp only [eltCells, List.all_cons, eltCells_one nf ks t r (j + 1), Bool.and_true]
    unfold ofTm; split <;> rfl

omit [Val] in
theorem expandL_succ (ks : List CK) (t : Tm) (n : Nat) : expandL ks t (n + 1) = expandL ks t n ++ eltCells id ks (.op .nth [t, .int (n : Int)]) ks 0 := by
  simp [expandL, List.range_succ, List.flatMap_append]
omit [Val] in
theorem expandL_len (ks : List CK) (t : Tm) : ∀ n, (expandL ks t n).length = n * ks.length
  | 0 => by simp [expandL]
  | n + 1 => by rw [expandL_succ, List.length_append, expandL_len ks t n, eltCells_len, Nat.add_mul, Nat.one_mul]
omit [Val] in
theorem expandL_part (ks : List CK) (t : Tm) {j m : Nat} (hm : j + m ≤ ks.length) : ∀ {n i : Nat}, i < n → ((expandL ks t n).drop (i * ks.length + j)).take m = eltCells id ks (.op .nth [t, .int (i : Int)]) ((ks.drop j).take m) j
  | 0, _, h => by omega
  | n + 1, i, h => by
    rw [expandL_succ]
    by_cases e : i < n
    · have hl := expandL_len ks t n
      have : (i + 1) * ks.length ≤ n * ks.length := Nat.mul_le_mul_right _ e
      rw [Nat.add_mul, Nat.one_mul] at this
      rw [List.drop_append_of_le_length (by omega), List.take_append_of_le_length (by rw [List.length_drop]; omega)]
      exact expandL_part ks t hm e
    · have e : i = n := by omega
      subst e
      rw [List.drop_append, List.drop_of_length_le (by rw [expandL_len]; omega), List.nil_append, expandL_len, Nat.add_sub_cancel_left, eltCells_drop, eltCells_take, Nat.zero_add]
theorem expandL_congr {ks : List CK} {s t : Tm} (e : s.den = t.den) : ∀ {n : Nat} {vs : List Value}, VRs β (expandL ks s n) vs → VRs β (expandL ks t n) vs := by
  intro n
  induction n with
  | zero => intro vs h; simpa [expandL] using h
  | succ n ih =>
    intro vs h
    rw [expandL_succ] at h ⊢
    have hl := h.length
    rw [List.length_append] at hl
    have h1 := h.take (expandL ks s n).length
    have h2 := h.drop (expandL ks s n).length
    rw [List.take_left] at h1
    rw [List.drop_left] at h2
    have := (ih h1).append (eltCells_congr (nf' := id) (t := .op .nth [t, .int (n : Int)]) (fun _ => rfl) (fun _ => rfl) (by simp only [Tm.den, Tm.dens, e]) h2)
    rwa [List.take_append_drop] at this
omit [Val] in
theorem expandL_one (ks : List CK) (t : Tm) : ∀ n, (expandL ks t n).all (·.one) = true
  | 0 => by simp [expandL]
  | n + 1 => by rw [expandL_succ, List.all_append, expandL_one ks t n, eltCells_one]; rfl

/-- what an element's cell is. -/
theorem nth_den (t : Tm) {L : List D} (h : t.den = .list L) (i : Nat) : (Tm.op .nth [t, .int (i : Int)]).den = L.getD i .bad := by
  simp only [Tm.den, Tm.dens, h, TOp.den, Int.toNat_natCast]

/-- cells that are an element's parts. -/
theorem eltCells_of {Z : Nat → Option Obj} (hZ : β.zone = Z) {nf : Tm → Tm} (hn : ∀ t, (nf t).den = t.den) {ks : List CK} {t : Tm} : ∀ {l : List CK} {j : Nat} {vs : List Value}, l.length = vs.length →
    (∀ (i : Nat) (k : CK) (v : Value), l[i]? = some k → vs[i]? = some v → CellR Z k (eltFld ks t.den (j + i)) v) → VRs β (eltCells nf ks t l j) vs := by
  intro l j vs hl h
  refine VRs.of_getG (by rw [eltCells_len, hl]) fun i x hx => ?_
  obtain ⟨k, h1, rfl⟩ := eltCells_get nf ks t l j i x hx
  have hlt : i < vs.length := by rw [← hl]; exact (List.getElem?_eq_some_iff.1 h1).1
  refine ⟨vs[i], List.getElem?_eq_getElem hlt, ?_⟩
  rw [ofTm_iff, eltTm_den hn, hZ]
  exact h i k _ h1 (List.getElem?_eq_getElem hlt)

omit [Val] in
theorem lrowOf_get {H : AHeap} {b : Nat} {ks : List CK} {c : Tm} {e : TypeId} {k : RK} (h : lrowOf H b = some (ks, c, e, k)) : H.get b = some (.lrow ks c e k) := by
  unfold lrowOf at h
  split at h
  · rename_i ks' c' e' k' hg
    simp only [Option.some.injEq, Prod.mk.injEq] at h
    obtain ⟨rfl, rfl, rfl, rfl⟩ := h
    exact hg
  · cases h

end
end Go.Tc
