/- Unknown data as values and as cells: plain lemmas. -/
import Derived.Test.YtjmjbjnbfodalaaGreatTcBase
import Derived.Laws.CopyRow
import Derived.Laws.Entries
import Derived.Laws.StructEq
set_option linter.unusedSimpArgs false
set_option linter.unusedVariables false
set_option linter.unusedSectionVars false
namespace Go.Tc
variable [Val]
section
variable {β : Pl}
omit [Val] in
theorem LCap.beq_eq (a b : LCap) (h : LCap.beq a b = true) : a = b := by
  cases a <;> cases b <;> first | rfl | (cases h; done) | (rw [Tm.beq_eq _ _ h])
omit [Val] in
mutual
theorem AV.beq_eq : ∀ (a b : AV), AV.beq a b = true → a = b
  | .bool a, b, h => by cases b <;> simp_all [AV.beq]
  | .int k a, b, h => by cases b <;> simp_all [AV.beq]
  | .str a, b, h => by
    cases b <;> simp_all [AV.beq]
    exact (BS.eq_iff _ _).1 h
  | .nilPtr, b, h => by cases b <;> simp_all [AV.beq]
  | .ptr a o, b, h => by cases b <;> simp_all [AV.beq]
  | .nilSlice, b, h => by cases b <;> simp_all [AV.beq]
  | .slice a o l c, b, h => by cases b <;> simp_all [AV.beq]
  | .nilMap, b, h => by cases b <;> simp_all [AV.beq]
  | .map a, b, h => by cases b <;> simp_all [AV.beq]
  | .fn f x y, b, h => by
    cases b <;> try (simp [AV.beq] at h; done)
    rename_i g u v
    simp only [AV.beq, Bool.and_eq_true, decide_eq_true_eq] at h
    rw [h.1.1, AV.beqs_eq x u h.1.2, AV.beqs_eq y v h.2]
  | .nilFn, b, h => by cases b <;> simp_all [AV.beq]
  | .iface t v, b, h => by
    cases b <;> try (simp [AV.beq] at h; done)
    rename_i u x
    simp only [AV.beq, Bool.and_eq_true, beq_iff_eq] at h
    rw [h.1, AV.beq_eq v x h.2]
  | .nilIface, b, h => by cases b <;> simp_all [AV.beq]
  | .agg l, b, h => by
    cases b <;> try (simp [AV.beq] at h; done)
    rename_i m
    simp only [AV.beq] at h
    rw [AV.beqs_eq l m h]
  | .tuple l, b, h => by
    cases b <;> try (simp [AV.beq] at h; done)
    rename_i m
    simp only [AV.beq] at h
    rw [AV.beqs_eq l m h]
  | .junk, b, h => by cases b <;> simp_all [AV.beq]
  | .esl, b, h => by cases b <;> simp_all [AV.beq]
  | .rng k l h', b, h => by cases b <;> simp_all [AV.beq]
  | .strU n, b, h => by cases b <;> simp_all [AV.beq]
  | .boolU, b, h => by cases b <;> simp_all [AV.beq]
  | .sy c t, b, h => by
    cases b <;> try (simp [AV.beq] at h; done)
    simp only [AV.beq, Bool.and_eq_true] at h
    rw [CK.beq_eq _ _ h.1, Tm.beq_eq _ _ h.2]
  | .lsl a e l n c, b, h => by
    cases b <;> try (simp [AV.beq] at h; done)
    simp only [AV.beq, Bool.and_eq_true, beq_iff_eq] at h
    obtain ⟨⟨⟨⟨rfl, rfl⟩, h1⟩, h2⟩, h3⟩ := h
    rw [Tm.beq_eq _ _ h1, Tm.beq_eq _ _ h2, LCap.beq_eq _ _ h3]
  | .eptr a e i j, b, h => by
    cases b <;> try (simp [AV.beq] at h; done)
    simp only [AV.beq, Bool.and_eq_true, beq_iff_eq] at h
    obtain ⟨⟨⟨rfl, rfl⟩, h1⟩, rfl⟩ := h
    rw [Tm.beq_eq _ _ h1]
  | .iptr a t i j, b, h => by
    cases b <;> try (simp [AV.beq] at h; done)
    simp only [AV.beq, Bool.and_eq_true, beq_iff_eq] at h
    obtain ⟨⟨⟨h1, h2⟩, h3⟩, rfl⟩ := h
    rw [CK.beqs_eq _ _ h1, Tm.beq_eq _ _ h2, Tm.beq_eq _ _ h3]
theorem AV.beqs_eq : ∀ (a b : List AV), AV.beqs a b = true → a = b
  | [], b, h => by cases b <;> simp_all [AV.beqs]
  | x :: xs, b, h => by
    cases b with
    | nil => simp [AV.beqs] at h
    | cons y ys =>
      simp only [AV.beqs, Bool.and_eq_true] at h
      rw [AV.beq_eq x y h.1, AV.beqs_eq xs ys h.2]
end
omit [Val] in
theorem CellR.one {Z : Nat → Option Obj} {k : CK} {d : D} {v : Value} (h : CellR Z k d v) : v.oneCell' = true := by
  cases h <;> rfl
omit [Val] in
theorem CellR.cells {Z : Nat → Option Obj} {k : CK} {d : D} {v : Value} (h : CellR Z k d v) : v.cells.toList = [v] := by
  cases h <;> rfl
omit [Val] in
theorem CellR.notBad {Z : Nat → Option Obj} {k : CK} {v : Value} (h : CellR Z k .bad v) : False := by
  generalize hd : D.bad = d at h
  cases h <;> cases hd
theorem ofTm_iff {k : CK} {t : Tm} {v : Value} : VR β (ofTm k t) v ↔ CellR β.zone k t.den v := by
  unfold ofTm
  split
  · constructor
    · intro h; cases h; exact .int _ _
    · intro h
      generalize hd : (Tm.int _).den = d at h
      cases h; cases hd; exact .int _ _
  · constructor
    · intro h; cases h; exact .bool _
    · intro h
      generalize hd : (Tm.bool _).den = d at h
      cases h; cases hd; exact .bool _
  · constructor
    · intro h; cases h; exact .str _
    · intro h
      generalize hd : (Tm.str _).den = d at h
      cases h; cases hd; exact .str _
  · constructor
    · intro h; cases h with | sy h => exact h
    · intro h; exact .sy h
omit [Val] in
theorem CellR.intI {Z : Nat → Option Obj} {k : IntKind} {d : D} {v : Value} (h : CellR Z (.int k) d v) : ∃ n, d = .int n ∧ v = .int k n := by
  cases h; exact ⟨_, rfl, rfl⟩
omit [Val] in
theorem CellR.boolI {Z : Nat → Option Obj} {d : D} {v : Value} (h : CellR Z .bool d v) : ∃ b, d = .bool b ∧ v = .bool b := by
  cases h; exact ⟨_, rfl, rfl⟩
omit [Val] in
theorem CellR.strI {Z : Nat → Option Obj} {d : D} {v : Value} (h : CellR Z .str d v) : ∃ s, d = .str (BS.of s) ∧ v = .string s := by
  cases h; exact ⟨_, rfl, rfl⟩
theorem ofTm_int {k : IntKind} {t : Tm} {n : Int} (e : t.den = .int n) : VR β (ofTm (.int k) t) (.int k n) := by
  rw [ofTm_iff, e]; exact .int _ _
theorem ofTm_bool {t : Tm} {b : Bool} (e : t.den = .bool b) : VR β (ofTm .bool t) (.bool b) := by
  rw [ofTm_iff, e]; exact .bool _
theorem ofTm_str {t : Tm} {s : ByteArray} (e : t.den = .str (BS.of s)) : VR β (ofTm .str t) (.string s) := by
  rw [ofTm_iff, e]; exact .str _
theorem intTm_VR {a : AV} {k : IntKind} {t : Tm} {v : Value} (h : intTm a = some (k, t)) (hv : VR β a v) : ∃ n, t.den = .int n ∧ v = .int k n := by
  unfold intTm at h
  split at h
  · cases h; cases hv; exact ⟨_, rfl, rfl⟩
  · cases h; cases hv with | sy hv => exact hv.intI
  · cases h
theorem strTm_VR {a : AV} {t : Tm} {v : Value} (h : strTm a = some t) (hv : VR β a v) : ∃ s, t.den = .str (BS.of s) ∧ v = .string s := by
  unfold strTm at h
  split at h
  · cases h; cases hv; exact ⟨_, rfl, rfl⟩
  · cases h; cases hv with | sy hv => exact hv.strI
  · cases h
theorem boolTm_VR {a : AV} {t : Tm} {v : Value} (h : boolTm a = some t) (hv : VR β a v) : ∃ b, t.den = .bool b ∧ v = .bool b := by
  unfold boolTm at h
  split at h
  · cases h; cases hv; exact ⟨_, rfl, rfl⟩
  · cases h; cases hv with | sy hv => exact hv.boolI
  · cases h
theorem ofTm_congr {k : CK} {a b : Tm} {v : Value} (h : VR β (ofTm k a) v) (e : a.den = b.den) : VR β (ofTm k b) v := by
  rw [ofTm_iff] at h ⊢; rw [← e]; exact h
theorem tmOf_cell {k : CK} {a : AV} {t : Tm} {v : Value} (h : tmOf k a = some t) (hv : VR β a v) : CellR β.zone k t.den v := by
  unfold tmOf at h
  split at h
  · cases hv
    rename_i k j n
    cases e : (k == j)
    · rw [e] at h; cases h
    · rw [e] at h; simp only [cond_true, Option.some.injEq] at h; subst h
      rw [beq_iff_eq] at e; subst e
      exact .int _ _
  · cases hv; cases h; exact .bool _
  · cases hv; cases h; exact .str _
  · cases hv; cases h; exact .nil _
  · cases hv; cases h; exact .rnil _
  · rename_i c t'
    cases hv with | sy hv =>
    cases e : CK.beq k c
    · rw [e] at h; cases h
    · rw [e] at h; simp only [cond_true, Option.some.injEq] at h; subst h
      rw [CK.beq_eq k c e]; exact hv
  · cases h
theorem derefA_VR {nf : Tm → Tm} (hn : ∀ t, (nf t).den = t.den) {a : AV} {v : Value} (h : VR β a v) : VR β (derefA nf a) v := by
  unfold derefA
  split
  · rename_i ks t
    split
    · rename_i hr
      cases h with | sy hc =>
      generalize hd : t.den = d at hc
      cases hc with
      | rnil =>
        have hl : (mkT nf .len [t]).den = .int 0 := by rw [mkT_den hn]; simp [Tm.dens, hd, TOp.den]
        have := inRangeT_den hn hr (a := 0) (b := 0) rfl hl
        omega
      | ref hi => 
        rename_i b o c
        have := VR.iptr (β := β) (t := t) (ti := .int 0) (i := 0) 0 (by rw [hd]; exact hi) rfl (by omega)
        simpa using this
    · exact h
  · exact h
theorem VRs.of_getG {a : List AV} {v : List Value} (hl : a.length = v.length) (h : ∀ (i : Nat) (x : AV), a[i]? = some x → ∃ y, v[i]? = some y ∧ VR β x y) : VRs β a v := by
  induction a generalizing v with
  | nil => cases v with
    | nil => exact .nil
    | cons _ _ => simp at hl
  | cons x xs ih =>
    cases v with
    | nil => simp at hl
    | cons y ys =>
      obtain ⟨z, h1, h2⟩ := h 0 x rfl
      simp only [List.getElem?_cons_zero, Option.some.injEq] at h1
      subst h1
      exact .cons h2 (ih (by simpa using hl) fun i x hx => by simpa using h (i + 1) x (by simpa using hx))
omit [Val] in
theorem eltCells_len (nf : Tm → Tm) (ks : List CK) (t : Tm) : ∀ (l : List CK) (j : Nat), (eltCells nf ks t l j).length = l.length
  | [], _ => rfl
  | k :: r, j => by simp [eltCells, eltCells_len nf ks t r (j + 1)]
omit [Val] in
theorem eltCells_drop (nf : Tm → Tm) (ks : List CK) (t : Tm) : ∀ (a : Nat) (l : List CK) (j : Nat), (eltCells nf ks t l j).drop a = eltCells nf ks t (l.drop a) (j + a)
  | 0, _, _ => rfl
  | a + 1, [], _ => by simp [eltCells]
  | a + 1, k :: r, j => by
    simp only [eltCells, List.drop_succ_cons]
    rw [eltCells_drop nf ks t a r (j + 1), show j + 1 + a = j + (a + 1) from by omega]
omit [Val] in
theorem eltCells_take (nf : Tm → Tm) (ks : List CK) (t : Tm) : ∀ (a : Nat) (l : List CK) (j : Nat), (eltCells nf ks t l j).take a = eltCells nf ks t (l.take a) j
  | 0, _, _ => rfl
  | a + 1, [], _ => by simp [eltCells]
  | a + 1, k :: r, j => by simp only [eltCells, List.take_succ_cons, eltCells_take nf ks t a r (j + 1)]
omit [Val] in
theorem eltCells_get (nf : Tm → Tm) (ks : List CK) (t : Tm) : ∀ (l : List CK) (j i : Nat) (x : AV), (eltCells nf ks t l j)[i]? = some x → ∃ k, l[i]? = some k ∧ x = ofTm k (eltTm nf ks t (j + i))
  | [], _, _, _, h => by simp [eltCells] at h
  | k :: r, j, 0, x, h => by
    simp only [eltCells, List.getElem?_cons_zero, Option.some.injEq] at h
    exact ⟨k, rfl, h.symm⟩
  | k :: r, j, i + 1, x, h => by
    simp only [eltCells, List.getElem?_cons_succ] at h
    obtain ⟨k', h1, h2⟩ := eltCells_get nf ks t r (j + 1) i x h
    exact ⟨k', by simpa using h1, by rw [h2, show j + 1 + i = j + (i + 1) from by omega]⟩
theorem eltCells_congr {nf nf' : Tm → Tm} (hn : ∀ t, (nf t).den = t.den) (hn' : ∀ t, (nf' t).den = t.den) {ks : List CK} {s t : Tm} (e : s.den = t.den) : ∀ {l : List CK} {j : Nat} {vs : List Value}, VRs β (eltCells nf ks s l j) vs → VRs β (eltCells nf' ks t l j) vs
  | [], _, _, h => by cases h; exact .nil
  | k :: r, j, _, h => by
    simp only [eltCells] at h ⊢
    cases h with | cons h hs =>
    exact .cons (ofTm_congr h (by rw [eltTm_den hn, eltTm_den hn', e])) (eltCells_congr hn hn' e hs)
omit [Val] in
theorem eltCells_one (nf : Tm → Tm) (ks : List CK) (t : Tm) : ∀ (l : List CK) (j : Nat), (eltCells nf ks t l j).all (·.one) = true
  | [], _ => rfl
  | k :: r, j => by
    simp only [eltCells, List.all_cons, eltCells_one nf ks t r (j + 1), Bool.and_true]
    unfold ofTm; split <;> rfl
omit [Val] in
theorem expandL_succ (ks : List CK) (t : Tm) (n : Nat) : expandL ks t (n + 1) = expandL ks t n ++ eltCells id ks (.op .nth [t, .int (n : Int)]) ks 0 := by
  simp [expandL, List.range_succ, List.flatMap_append]
omit [Val] in
theorem expandL_len (ks : List CK) (t : Tm) : ∀ n, (expandL ks t n).length = n * ks.length
  | 0 => by simp [expandL]
  | n + 1 => by rw [expandL_succ, List.length_append, expandL_len ks t n, eltCells_len, Nat.add_mul, Nat.one_mul]
omit [Val] in
theorem expandL_part (ks : List CK) (t : Tm) {j m : Nat} (hm : j + m ≤ ks.length) : ∀ {n i : Nat}, i < n → ((expandL ks t n).drop (i * ks.length + j)).take m = eltCells id ks (.op .nth [t, .int (i : Int)]) ((ks.drop j).take m) j
  | 0, _, h => by omega
  | n + 1, i, h => by
    rw [expandL_succ]
    by_cases e : i < n
    · have hl := expandL_len ks t n
      have : (i + 1) * ks.length ≤ n * ks.length := Nat.mul_le_mul_right _ e
      rw [Nat.add_mul, Nat.one_mul] at this
      rw [List.drop_append_of_le_length (by omega), List.take_append_of_le_length (by rw [List.length_drop]; omega)]
      exact expandL_part ks t hm e
    · have e : i = n := by omega
      subst e
      rw [List.drop_append, List.drop_of_length_le (by rw [expandL_len]; omega), List.nil_append, expandL_len, Nat.add_sub_cancel_left, eltCells_drop, eltCells_take, Nat.zero_add]
theorem expandL_congr {ks : List CK} {s t : Tm} (e : s.den = t.den) : ∀ {n : Nat} {vs : List Value}, VRs β (expandL ks s n) vs → VRs β (expandL ks t n) vs := by
  intro n
  induction n with
  | zero => intro vs h; simpa [expandL] using h
  | succ n ih =>
    intro vs h
    rw [expandL_succ] at h ⊢
    have hl := h.length
    rw [List.length_append] at hl
    have h1 := h.take (expandL ks s n).length
    have h2 := h.drop (expandL ks s n).length
    rw [List.take_left] at h1
    rw [List.drop_left] at h2
    have := (ih h1).append (eltCells_congr (nf' := id) (t := .op .nth [t, .int (n : Int)]) (fun _ => rfl) (fun _ => rfl) (by simp only [Tm.den, Tm.dens, e]) h2)
    rwa [List.take_append_drop] at this
omit [Val] in
theorem expandL_one (ks : List CK) (t : Tm) : ∀ n, (expandL ks t n).all (·.one) = true
  | 0 => by simp [expandL]
  | n + 1 => by rw [expandL_succ, List.all_append, expandL_one ks t n, eltCells_one]; rfl
theorem nth_den (t : Tm) {L : List D} (h : t.den = .list L) (i : Nat) : (Tm.op .nth [t, .int (i : Int)]).den = L.getD i .bad := by
  simp only [Tm.den, Tm.dens, h, TOp.den, Int.toNat_natCast]
theorem eltCells_of {Z : Nat → Option Obj} (hZ : β.zone = Z) {nf : Tm → Tm} (hn : ∀ t, (nf t).den = t.den) {ks : List CK} {t : Tm} : ∀ {l : List CK} {j : Nat} {vs : List Value}, l.length = vs.length →
    (∀ (i : Nat) (k : CK) (v : Value), l[i]? = some k → vs[i]? = some v → CellR Z k (eltFld ks t.den (j + i)) v) → VRs β (eltCells nf ks t l j) vs := by
  intro l j vs hl h
  refine VRs.of_getG (by rw [eltCells_len, hl]) fun i x hx => ?_
  obtain ⟨k, h1, rfl⟩ := eltCells_get nf ks t l j i x hx
  have hlt : i < vs.length := by rw [← hl]; exact (List.getElem?_eq_some_iff.1 h1).1
  refine ⟨vs[i], List.getElem?_eq_getElem hlt, ?_⟩
  rw [ofTm_iff, eltTm_den hn, hZ]
  exact h i k _ h1 (List.getElem?_eq_getElem hlt)
omit [Val] in
theorem lrowOf_get {H : AHeap} {b : Nat} {ks : List CK} {c : Tm} {e : TypeId} {k : RK} (h : lrowOf H b = some (ks, c, e, k)) : H.get b = some (.lrow ks c e k) := by
  unfold lrowOf at h
  split at h
  · rename_i ks' c' e' k' hg
    simp only [Option.some.injEq, Prod.mk.injEq] at h
    obtain ⟨rfl, rfl, rfl, rfl⟩ := h
    exact hg
  · cases h
end
end Go.Tc
namespace Go.Tc
variable [Val]
omit [Val] in
theorem addr_add (c o n : Nat) : (⟨c, o, none⟩ : Addr).add n = ⟨c, o + n, none⟩ := by
  unfold Addr.add; split <;> simp_all
section
variable {P : Program} {G : Nat} {β : Pl} {H : AHeap} {w : World}
omit [Val] in
theorem rowOf_get {b : Nat} {c : List AV} {e : TypeId} {k : RK} (h : rowOf H b = some (c, e, k)) : H.get b = some (.row c e k) := by
  unfold rowOf at h
  split at h
  · rename_i c' e' k' hg
    simp only [Option.some.injEq, Prod.mk.injEq] at h
    obtain ⟨rfl, rfl, rfl⟩ := h
    exact hg
  · cases h
omit [Val] in
theorem mapOf_get {b : Nat} {es : List AEnt} {c : Nat} (h : mapOf H b = some (es, c)) : H.get b = some (.map es c) := by
  unfold mapOf at h
  split at h
  · rename_i es' c' hg
    simp only [Option.some.injEq, Prod.mk.injEq] at h
    obtain ⟨rfl, rfl⟩ := h
    exact hg
  · cases h
theorem row_at {n b : Nat} {c : List AV} {e : TypeId} {k : RK} (hw : WR G β H.get n w) (h : rowOf H b = some (c, e, k)) :
    ∃ p cc lo hi, β b = some p ∧ w.heap[p.c]? = some (.cells cc e (lo, hi)) ∧ cc.size = p.size ∧ p.base + c.length ≤ p.size ∧ VRs β c ((cc.toList.drop p.base).take c.length) ∧ KindR p c.length lo hi k := by
  obtain ⟨p, hp, cc, lo, hi, h1, h2, h3, h4, h5⟩ := hw.obj b _ (rowOf_get h)
  exact ⟨p, cc, lo, hi, hp, h1, h2, h3, h4, h5⟩
theorem rowR_load {p : Place} {c : List AV} {e : TypeId} {k : RK} {off n : Nat} (hr : RowR β w p c e k) (hl : off + n ≤ c.length) :
    ∃ vs, vs.length = n ∧ (loadCells ⟨p.c, p.base + off, none⟩ n).run P w = .ok vs.toArray w ∧ VRs β ((c.drop off).take n) vs := by
  obtain ⟨cc, lo, hi, h1, h2, h3, h4, -⟩ := hr
  have hv := (h4.drop off).take n
  rw [List.drop_take, List.take_take, List.drop_drop, Nat.min_eq_left (by omega)] at hv
  have hlen : ((cc.toList.drop (p.base + off)).take n).length = n := by
    have : cc.toList.length = p.size := by simpa using h2
    simp; omega
  refine ⟨(cc.toList.drop (p.base + off)).take n, hlen, ?_, hv⟩
  have := run_loadCells_list (P := P) w ⟨p.c, p.base + off, none⟩ ((cc.toList.drop (p.base + off)).take n) (fun j v hj => by
    rw [addr_add]
    have hjn : j < n := by
      have := (List.getElem?_eq_some_iff.1 hj).1
      omega
    rw [List.getElem?_take_of_lt hjn, List.getElem?_drop] at hj
    simp only [World.cell?, h1]
    simpa using hj)
  rwa [hlen] at this
theorem loadN_run {m b off n : Nat} {l : List AV} (hw : WR G β H.get m w) (h : loadN H b off n = some l) :
    ∃ p vs, β b = some p ∧ vs.length = n ∧ (loadCells ⟨p.c, p.base + off, none⟩ n).run P w = .ok vs.toArray w ∧ VRs β l vs := by
  unfold loadN at h
  split at h
  · rename_i c e k hr
    obtain ⟨p, hp, ho⟩ := hw.obj b _ (rowOf_get hr)
    obtain ⟨rfl, hl⟩ := takeN_take _ _ _ h
    rw [List.length_drop] at hl
    by_cases h0 : n = 0
    · subst h0
      exact ⟨p, [], hp, rfl, rfl, by simpa using VRs.nil⟩
    · obtain ⟨vs, k1, k2, k3⟩ := rowR_load (P := P) (off := off) (n := n) ho (by omega)
      exact ⟨p, vs, hp, k1, k2, k3⟩
  · cases h
omit [Val] in
theorem isAggT_run {t : TypeId} {b : Bool} (h : isAggT P t = some b) : (isAgg t).run P w = .ok b w := by
  unfold isAggT at h
  split at h <;> try cases h
  · rename_i hu; simp [isAgg, run_underlying (undT_und hu)]
  · rename_i hu; simp [isAgg, run_underlying (undT_und hu)]
  · rename_i d hns hna hu
    have := run_underlying (undT_und hu) w
    cases d <;> first | (simp [isAgg, this]; done) | exact absurd rfl (hns _) | exact absurd rfl (hna _ _)
omit [Val] in
theorem sizeT_run {t n : Nat} (h : sizeT P t = some n) : (sizeOf t).run P w = .ok n w := by
  obtain ⟨i, hi, rfl⟩ := sizeT_info h
  simp [sizeOf, typeInfo, hi]
omit [Val] in
theorem bytesT_run {t n : Nat} (h : bytesT P t = some n) : ∃ i, (typeInfo t).run P w = .ok i w ∧ i.bytes = n := by
  unfold bytesT at h
  cases hi : infoT P t with
  | none => simp [hi] at h
  | some i => exact ⟨i, by simp [typeInfo, infoT_info hi], by simpa [hi] using h⟩
mutual
theorem ofValue_VR {β : Pl} : ∀ (v : Value) (a : AV), ofValue v = some a → VR β a v
  | .bool b, a, h => by simp [ofValue] at h; subst h; exact .bool b
  | .int k n, a, h => by simp [ofValue] at h; subst h; exact .int k n
  | .float _ _, a, h => by simp [ofValue] at h
  | .complex _ _ _, a, h => by simp [ofValue] at h
  | .string s, a, h => by simp [ofValue] at h; subst h; exact .str s
  | .pointer none, a, h => by simp [ofValue] at h; subst h; exact .nilPtr
  | .pointer (some _), a, h => by simp [ofValue] at h
  | .slice none l c, a, h => by
    cases l <;> cases c <;> simp [ofValue] at h
    subst h; exact .nilSlice
  | .slice (some _) _ _, a, h => by simp [ofValue] at h
  | .map none, a, h => by simp [ofValue] at h; subst h; exact .nilMap
  | .map (some _), a, h => by simp [ofValue] at h
  | .chan _, a, h => by simp [ofValue] at h
  | .func _ _ _, a, h => by simp [ofValue] at h
  | .nilFunc, a, h => by simp [ofValue] at h; subst h; exact .nilFn
  | .iface _ _, a, h => by simp [ofValue] at h
  | .nilIface, a, h => by simp [ofValue] at h; subst h; exact .nilIface
  | .agg cs, a, h => by
    simp only [ofValue, Option.map_eq_some_iff] at h
    obtain ⟨l, hl, rfl⟩ := h
    exact .agg (ofArr_VRs cs l hl)
  | .tuple cs, a, h => by
    simp only [ofValue, Option.map_eq_some_iff] at h
    obtain ⟨l, hl, rfl⟩ := h
    exact .tuple (ofArr_VRs cs l hl)
theorem ofArr_VRs {β : Pl} : ∀ (cs : Array Value) (l : List AV), ofArr cs = some l → VRs β l cs.toList
  | ⟨vs⟩, l, h => ofVals_VRs vs l h
theorem ofVals_VRs {β : Pl} : ∀ (vs : List Value) (l : List AV), ofVals vs = some l → VRs β l vs
  | [], l, h => by simp [ofVals] at h; subst h; exact .nil
  | v :: r, l, h => by
    simp only [ofVals] at h
    cases hv : ofValue v with
    | none => simp [hv] at h
    | some a =>
      cases hr : ofVals r with
      | none => simp [hv, hr] at h
      | some b =>
        simp [hv, hr] at h
        subst h
        exact .cons (ofValue_VR v a hv) (ofVals_VRs r b hr)
end
theorem zeroT_run {t : TypeId} {z : AV} (h : zeroT P t = some z) : ∃ v, (zeroValue t).run P w = .ok v w ∧ VR β z v := by
  unfold zeroT at h
  cases hi : infoT P t with
  | none => simp [hi] at h
  | some i =>
    cases hz : i.zero with
    | none => simp [hi, hz] at h
    | some v =>
      simp [hi, hz] at h
      exact ⟨v, by simp [zeroValue, typeInfo, infoT_info hi, hz], ofValue_VR v z h⟩
theorem VR.cells {β : Pl} {a : AV} {v : Value} (h : VR β a v) : VRs β a.cells v.cells.toList := by
  cases h with
  | agg h => exact h
  | bool b => exact .cons (.bool b) .nil
  | int k n => exact .cons (.int k n) .nil
  | str s => exact .cons (.str s) .nil
  | nilPtr => exact .cons .nilPtr .nil
  | ptr o h => exact .cons (.ptr o h) .nil
  | nilSlice => exact .cons .nilSlice .nil
  | slice o l h hc hl => exact .cons (.slice o l h hc hl) .nil
  | nilMap => exact .cons .nilMap .nil
  | map h => exact .cons (.map h) .nil
  | fn h hx hy => exact .cons (.fn h hx hy) .nil
  | nilFn => exact .cons .nilFn .nil
  | iface t h => exact .cons (.iface t h) .nil
  | nilIface => exact .cons .nilIface .nil
  | tuple h => exact .cons (.tuple h) .nil
  | junk n h => exact .cons (.junk n h) .nil
  | esl a c => exact .cons (.esl a c) .nil
  | rng k h1 h2 => exact .cons (.rng k h1 h2) .nil
  | strU s => exact .cons (.strU s) .nil
  | boolU b => exact .cons (.boolU b) .nil
  | sy h => rw [h.cells]; exact .cons (.sy h) .nil
  | lsl hl hn h hc hle => exact .cons (.lsl hl hn h hc hle) .nil
  | lsl0 hl hn => exact .cons (.lsl0 hl hn) .nil
  | lslE a c hl hn hc => exact .cons (.lslE a c hl hn hc) .nil
  | eptr j hi h => exact .cons (.eptr j hi h) .nil
  | iptr j h hi hlt => exact .cons (.iptr j h hi hlt) .nil
theorem VR.one {β : Pl} {a : AV} {v : Value} (h : VR β a v) (h1 : a.one = true) : v.oneCell' = true := by
  cases h <;> first
    | (rename_i h; exact h.one)
    | simp_all [AV.one, Value.oneCell']
theorem VRs.one {β : Pl} {a : List AV} {v : List Value} (h : VRs β a v) (h1 : a.all (·.one) = true) : ∀ x ∈ v, x.oneCell' = true := by
  induction a generalizing v with
  | nil => cases h; simp
  | cons x xs ih =>
    cases h with
    | cons h hs =>
      simp only [List.all_cons, Bool.and_eq_true] at h1
      intro y hy
      rcases List.mem_cons.1 hy with rfl | hy
      · exact h.one h1.1
      · exact ih hs h1.2 y hy
theorem wholeA_run {t : TypeId} {cells : Nat → Option (List AV)} {a : AV} {ad : Addr} (hc : ∀ n l, cells n = some l → ∃ vs : List Value, (loadCells ad n).run P w = .ok vs.toArray w ∧ VRs β l vs) (h : wholeA P t cells = some a) :
    ∃ u, (Instr.loadAt t (.pointer (some ad))).run P w = .ok u w ∧ VR β a u := by
  unfold wholeA at h
  split at h
  · rename_i ht
    split at h
    · rename_i n hn
      rw [Option.map_eq_some_iff] at h
      obtain ⟨l, hl, rfl⟩ := h
      obtain ⟨vs, hrun, hvs⟩ := hc n l hl
      refine ⟨.agg vs.toArray, ?_, .agg (by simpa using hvs)⟩
      simp [Instr.loadAt, Instr.sureAddr, loadVar, isAggT_run ht, sizeT_run hn, hrun]
    · cases h
  · rename_i ht
    split at h
    · rename_i y hl
      cases h
      obtain ⟨vs, hrun, hvs⟩ := hc 1 _ hl
      cases hvs with
      | cons hv hs => cases hs with
        | nil =>
        rename_i u
        refine ⟨u, ?_, hv⟩
        have hadd : ad.add 0 = ad := by unfold Addr.add; split <;> simp_all
        have hload : (load ad).run P w = .ok u w := by
          simp only [loadCells, loadCellsFrom, Sem.run_bind, hadd] at hrun
          cases hr : (load ad).run P w with
          | halt x y => rw [hr] at hrun; cases hrun
          | ok y w1 =>
            rw [hr] at hrun
            simp only [Result.andThen_ok, Sem.run_pure, Result.ok.injEq] at hrun
            obtain ⟨h1, rfl⟩ := hrun
            have : y = u := by simpa using congrArg (fun a : Array Value => a.toList) h1
            subst this
            rfl
        simp only [Instr.loadAt, Instr.sureAddr, loadVar, Sem.run_bind, Sem.run_pure, Result.andThen_ok, isAggT_run ht]
        simpa using hload
    · cases h
  · cases h
theorem len_den {nf : Tm → Tm} (hn : ∀ t, (nf t).den = t.den) {c : Tm} {L : List D} (h : c.den = .list L) : (mkT nf .len [c]).den = .int L.length := by
  rw [mkT_den hn]; simp only [Tm.dens, h, TOp.den]
theorem nthT_den {nf : Tm → Tm} (hn : ∀ t, (nf t).den = t.den) {c i : Tm} {L : List D} {k : Nat} (h : c.den = .list L) (hi : i.den = .int (k : Int)) : (mkT nf .nth [c, i]).den = L.getD k .bad := by
  rw [mkT_den hn]; simp only [Tm.dens, h, hi, TOp.den, Int.toNat_natCast]
theorem eltPart_row {nf : Tm → Tm} (hn : ∀ t, (nf t).den = t.den) {p : Place} {ks : List CK} {c ti : Tm} {e : TypeId} {k : RK} {L : List D} {i j n : Nat} {l : List AV} (hL : c.den = .list L) (hr : RowR β w p (expandL ks c L.length) e k)
    (hi : ti.den = .int (i : Int)) (hlt : i < L.length) (h : eltPart nf ks (mkT nf .nth [c, ti]) j n = some l) :
    ∃ vs : List Value, (loadCells ⟨p.c, p.base + (i * ks.length + j), none⟩ n).run P w = .ok vs.toArray w ∧ VRs β l vs := by
  unfold eltPart at h
  cases hb : (j + n).ble ks.length
  · rw [hb] at h; cases h
  · rw [hb] at h
    simp only [cond_true, Option.some.injEq] at h
    subst h
    have hle : j + n ≤ ks.length := Nat.le_of_ble_eq_true hb
    have hx : (i + 1) * ks.length ≤ L.length * ks.length := Nat.mul_le_mul_right _ hlt
    rw [Nat.add_mul, Nat.one_mul] at hx
    obtain ⟨vs, -, h2, h3⟩ := rowR_load (P := P) (off := i * ks.length + j) (n := n) hr (by rw [expandL_len]; omega)
    refine ⟨vs, h2, ?_⟩
    rw [expandL_part ks c hle hlt] at h3
    exact eltCells_congr (fun _ => rfl) hn (by rw [nthT_den hn hL hi, nth_den c hL]) h3
theorem eltPart_isl {nf : Tm → Tm} (hn : ∀ t, (nf t).den = t.den) {m : Nat} (hw : WR G β H.get m w) {ks : List CK} {c ti : Tm} {i j n b o len cap : Nat} {l : List AV} (hc : CellR β.zone (.isl ks) c.den (.slice (some ⟨b, o, none⟩) len cap))
    (hi : ti.den = .int (i : Int)) (hlt : i < len) (h : eltPart nf ks (mkT nf .nth [c, ti]) j n = some l) :
    ∃ vs : List Value, (loadCells ⟨b, o + (i * ks.length + j), none⟩ n).run P w = .ok vs.toArray w ∧ VRs β l vs := by
  unfold eltPart at h
  cases hb : (j + n).ble ks.length
  · rw [hb] at h; cases h
  · rw [hb] at h
    simp only [cond_true, Option.some.injEq] at h
    subst h
    have hle : j + n ≤ ks.length := Nat.le_of_ble_eq_true hb
    generalize hd : c.den = d at hc
    cases hc with
    | none => omega
    | @isl _ L _ _ _ _ cc T fz vals hz hn' hcap hk hv hr =>
    obtain ⟨hz1, -⟩ := hw.keep _ _ hz
    refine ⟨(List.range n).map fun a => vals i (j + a), ?_, ?_⟩
    · have := run_loadCells_list (P := P) w ⟨b, o + (i * ks.length + j), none⟩ ((List.range n).map fun a => vals i (j + a)) (fun a v ha => by
        rw [addr_add]
        have hlt' := (List.getElem?_eq_some_iff.1 ha).1
        simp only [List.length_map, List.length_range] at hlt'
        simp only [List.getElem?_map, List.getElem?_range hlt', Option.map_some, Option.some.injEq] at ha
        subst ha
        simp only [World.cell?, hz1]
        have hv1 := hv i (j + a) hlt (by omega)
        rwa [show o + i * ks.length + (j + a) = o + (i * ks.length + j) + a from by omega] at hv1)
      simpa using this
    · refine eltCells_of rfl hn (by simp; omega) fun a k v h1 h2 => ?_
      have ha : a < n := by
        have := (List.getElem?_eq_some_iff.1 h2).1
        simpa using this
      simp only [List.getElem?_map, List.getElem?_range ha, Option.map_some, Option.some.injEq] at h2
      subst h2
      rw [List.getElem?_take_of_lt ha, List.getElem?_drop] at h1
      rw [nthT_den hn hd hi]
      have := hr i (j + a) hlt (by omega)
      rwa [show ks.getD (j + a) .bool = k from by rw [List.getD_eq_getElem?_getD, h1]; rfl] at this
omit [Val] in
theorem everyN_get (es : Nat) : ∀ (k : Nat) (l : List AV) (a : Nat) (x : AV), l[a * es]? = some x → a < k → (everyN es k l)[a]? = some x
  | 0, l, a, x, _, h => by omega
  | k + 1, [], a, x, hx, h => by simp at hx
  | k + 1, y :: r, 0, x, hx, h => by
    simp only [Nat.zero_mul, List.getElem?_cons_zero] at hx
    simpa [everyN] using hx
  | k + 1, y :: r, a + 1, x, hx, h => by
    simp only [everyN, List.getElem?_cons_succ]
    apply everyN_get es k _ a x _ (by omega)
    rw [List.getElem?_drop]
    rwa [show es + a * es = (a + 1) * es from by rw [Nat.add_mul]; omega]
theorem tmsK_get {ck : CK} : ∀ {vs : List AV} {l : List Tm} {a : Nat} {x : AV}, tmsK ck vs = some l → vs[a]? = some x → ∃ t, l[a]? = some t ∧ tmOf ck x = some t
  | [], l, a, x, _, h => by simp at h
  | v :: vs, l, a, x, h, hx => by
    simp only [tmsK] at h
    split at h
    · rename_i t ht
      split at h
      · rename_i r hr
        cases h
        cases a with
        | zero => simp at hx; subst hx; exact ⟨t, rfl, ht⟩
        | succ a =>
          obtain ⟨u, h1, h2⟩ := tmsK_get (a := a) hr (by simpa using hx)
          exact ⟨u, by simpa using h1, h2⟩
      · cases h
    · cases h
theorem colA_VR {nf : Tm → Tm} (hn : ∀ t, (nf t).den = t.den) {i : Tm} {a : Nat} (hi : i.den = .int (a : Int)) {col : List AV} {r x : AV} {v : Value} (h : colA nf i col = some r) (hx : col[a]? = some x) (hv : VR β x v) : VR β r v := by
  unfold colA at h
  split at h
  · cases h
  · rename_i y rest
    split at h
    · rename_i hall
      cases h
      cases a with
      | zero => simp at hx; subst hx; exact hv
      | succ a =>
        have hm : x ∈ rest := List.mem_of_getElem? (by simpa using hx)
        have := List.all_eq_true.1 hall x hm
        rw [AV.beq_eq _ _ this]; exact hv
    · split at h
      · rename_i ck hck
        split at h
        · rename_i l hl
          cases h
          obtain ⟨t, ht, htm⟩ := tmsK_get hl hx
          rw [ofTm_iff, mkT_den hn]
          have : TOp.nth.den (Tm.dens [.op .mk l, i]) = t.den := by
            simp only [Tm.dens, hi, Tm.den, TOp.den, Int.toNat_natCast, dens_map]
            rw [List.getD_eq_getElem?_getD, List.getElem?_map, ht]; rfl
          rw [this]
          exact tmOf_cell htm hv
        · cases h
      · cases h
theorem colPart_VRs {nf : Tm → Tm} (hn : ∀ t, (nf t).den = t.den) {i : Tm} {a es k : Nat} (hi : i.den = .int (a : Int)) (ha : a < k) {cells : List AV} :
    ∀ (n j : Nat) (l : List AV) (vs : List Value), colPart nf es k cells i j n = some l → VRs β ((cells.drop (a * es + j)).take n) vs → a * es + j + n ≤ cells.length → VRs β l vs
  | 0, j, l, vs, h, hv, _ => by
    simp only [colPart, Option.some.injEq] at h
    subst h
    simpa using hv
  | n + 1, j, l, vs, h, hv, hle => by
    simp only [colPart] at h
    split at h
    · rename_i x hx
      split at h
      · rename_i r hr
        cases h
        have hlt : a * es + j < cells.length := by omega
        rw [List.drop_eq_getElem_cons hlt, List.take_succ_cons] at hv
        cases hv with
        | cons h0 hs =>
        refine .cons (colA_VR hn hi hx (everyN_get es k _ a _ ?_ ha) h0) (colPart_VRs hn hi ha n (j + 1) r _ hr hs (by omega))
        rw [List.getElem?_drop, Nat.add_comm, List.getElem?_eq_getElem hlt]
      · cases h
    · cases h
theorem colsA_row {nf : Tm → Tm} (hn : ∀ t, (nf t).den = t.den) {m b es ii j n : Nat} {i : Tm} {cells l : List AV} {e : TypeId} {k : RK} {p : Place} (hw : WR G β H.get m w) (hr : rowOf H b = some (cells, e, k)) (hp : β b = some p) (hi : i.den = .int (ii : Int)) (h : colsA nf es cells i j n = some l) :
    ∃ vs : List Value, (loadCells ⟨p.c, p.base + (ii * es + j), none⟩ n).run P w = .ok vs.toArray w ∧ VRs β l vs := by
  unfold colsA at h
  split at h
  · rename_i hc
    have hb := inRangeT_den hn hc.2 hi (b := ((cells.length / es : Nat) : Int)) rfl
    have hlt : ii < cells.length / es := by omega
    have hle : ii * es + j + n ≤ cells.length := by
      have h1 : (ii + 1) * es ≤ cells.length / es * es := Nat.mul_le_mul_right es hlt
      have h2 := Nat.div_mul_le_self cells.length es
      rw [Nat.add_mul] at h1
      omega
    have htk : loadN H b (ii * es + j) n = some ((cells.drop (ii * es + j)).take n) := by
      unfold loadN
      rw [hr]
      exact takeN_of_le n _ (by rw [List.length_drop]; omega)
    obtain ⟨q, vs, hq, -, hrun, hvs⟩ := loadN_run (P := P) hw htk
    rw [hp] at hq; cases hq
    exact ⟨vs, hrun, colPart_VRs hn hi hlt n j l vs h hvs hle⟩
  · cases h
theorem loadA_run {nf : Tm → Tm} (hn : ∀ t, (nf t).den = t.den) {m : Nat} {t : TypeId} {x a : AV} {v : Value} (hw : WR G β H.get m w) (h : loadA P nf H t x = some a) (hx : VR β x v) :
    ∃ u, (Instr.loadAt t v).run P w = .ok u w ∧ VR β a u := by
  unfold loadA at h
  split at h
  · rename_i b es i j
    cases hx with
    | @eptr _ _ _ ii p _ hi hp =>
    split at h
    · rename_i ks c e k hr
      split at h
      · rename_i hc
        obtain ⟨rfl, hin⟩ := hc
        obtain ⟨L, hL, -, hrow⟩ := hw.objAt (lrowOf_get hr) hp
        have := inRangeT_den hn hin hi (len_den hn hL)
        exact wholeA_run (fun n l hl => eltPart_row hn hL hrow hi (by omega) hl) h
      · cases h
    · split at h
      · rename_i cells e k hr
        exact wholeA_run (fun n l hl => colsA_row hn hw hr hp hi hl) h
      · cases h
  · rename_i ks c i j
    cases hx with
    | iptr _ hc hi hlt =>
    exact wholeA_run (fun n l hl => eltPart_isl hn hw hc hi hlt hl) h
  · rename_i b off
    cases hx with
    | @ptr _ p _ hp =>
    refine wholeA_run (t := t) (cells := fun n => loadN H b off n) (a := a) (fun n l hl => ?_) h
    obtain ⟨q, vs, hq, -, hrun, hvs⟩ := loadN_run (P := P) hw hl
    rw [hp] at hq; cases hq
    exact ⟨vs, hrun, hvs⟩
  · cases h
omit [Val] in
theorem storeCells_row (g o : Nat) (t : TypeId) (fz : Nat × Nat) : ∀ (vs : List Value) (i : Nat) (cur : Array Value) (w : World), w.heap[g]? = some (.cells cur t fz) → o + i + vs.length ≤ cur.size →
    (∀ j, o + i ≤ j → j < o + i + vs.length → ¬ (fz.1 ≤ j ∧ j < fz.2)) → (∀ v ∈ vs, v.oneCell' = true) →
    (storeCells ⟨g, o, none⟩ vs i).run P w = .ok () (w.setRow g (cur.toList.take (o + i) ++ vs ++ cur.toList.drop (o + i + vs.length)).toArray)
  | [], i, cur, w, hg, _, _, _ => by
    simp only [storeCells, List.append_nil, List.length_nil, Nat.add_zero, List.take_append_drop, Array.toArray_toList]
    rw [setRow_self w g cur t fz hg]
    rfl
  | v :: rest, i, cur, w, hg, hl, hf, h1 => by
    have hi : o + i < cur.size := by simp at hl; omega
    have hcell : w.cell? ⟨g, o + i, none⟩ = some cur[o + i] := by simp [World.cell?, hg, hi]
    have hfro : w.frozen? ⟨g, o + i, none⟩ = false := by
      have := hf (o + i) (Nat.le_refl _) (by simp)
      simp only [World.frozen?, hg, Bool.and_eq_false_iff, decide_eq_false_iff_not]
      by_cases hh : fz.1 ≤ o + i
      · right; exact fun h => this ⟨hh, h⟩
      · left; exact hh
    have hst : (store ((⟨g, o, none⟩ : Addr).add i) v).run P w = .ok () (w.setRow g (cur.setIfInBounds (o + i) v)) := by
      rw [addr_add, run_store P w _ v _ (h1 v (by simp)), hcell]
      simp [hfro, setCell_eq_setRow w g (o + i) cur t fz v hg]
    have ih := storeCells_row g o t fz rest (i + 1) (cur.setIfInBounds (o + i) v) (w.setRow g (cur.setIfInBounds (o + i) v)) (setRow_heap w g cur _ t _ hg) (by simp at hl ⊢; omega)
      (fun j h3 h4 => hf j (by omega) (by simp; omega)) (fun x hx => h1 x (by simp [hx]))
    simp only [storeCells, Sem.run_bind, hst, Result.andThen_ok, ih, setRow_setRow]
    congr 3
    have e := list_seg_step cur.toList (o + i) v rest (by simp at hl ⊢; omega)
    simpa [Array.toList_setIfInBounds, Nat.add_assoc] using e
theorem storeN_run {m b off : Nat} {l : List AV} {vs : List Value} {H' : AHeap} (hw : WR G β H.get m w) (h : storeN H b off l = some H') (hl : VRs β l vs) {p : Place} (hp : β b = some p) :
    ∃ w', (storeCells ⟨p.c, p.base + off, none⟩ vs).run P w = .ok () w' ∧ WR G β H'.get m w' ∧ Tran β H.get m w β H'.get m w' ∧ H'.next = H.next := by
  unfold storeN at h
  split at h
  · rename_i he
    cases h
    have : l = [] := by simpa using he
    subst this
    cases hl
    exact ⟨w, rfl, hw, Tran.refl _ _ _ _, rfl⟩
  · rename_i he
    have hne : l ≠ [] := by simpa using he
    split at h
    · rename_i c e k hr
      split at h
      · rename_i hk
        rw [Option.map_eq_some_iff] at h
        obtain ⟨c', hc', rfl⟩ := h
        obtain ⟨rfl, hle⟩ := layOver_eq _ _ _ _ hc' hne
        obtain ⟨q, cc, lo, hi, hq, h1, h2, h3, h4, h5⟩ := row_at hw hr
        rw [hp] at hq; cases hq
        simp only [Bool.and_eq_true] at hk
        have hlen := hl.length
        have hcl : cc.toList.length = p.size := by simpa using h2
        have hfree : ∀ j, p.base + off + 0 ≤ j → j < p.base + off + 0 + vs.length → ¬ (lo ≤ j ∧ j < hi) := by
          intro j hj1 hj2
          cases k with
          | solid => obtain ⟨_, _, rfl, rfl⟩ := h5; omega
          | glob => simp [RK.takes] at hk
          | buf fz sish => exact h5.1 j (by have := hk.1; simp [RK.takes] at this; omega) (by omega)
        have hst := storeCells_row (P := P) p.c (p.base + off) e (lo, hi) vs 0 cc w h1 (by omega) hfree (hl.one hk.2)
        refine ⟨_, hst, ?_⟩
        have hb := rowOf_get hr
        have hwr : (AObj.row c e k).wr = true := by cases k <;> simp_all [AObj.wr, RK.takes]
        have := WR.turn hw hb hwr hp (w' := w.setRow p.c (cc.toList.take (p.base + off + 0) ++ vs ++ cc.toList.drop (p.base + off + 0 + vs.length)).toArray)
          (o' := .row (c.take off ++ l ++ c.drop (off + l.length)) e k) (by simp) (fun x hx => setRow_other _ _ _ _ hx) (by simp) (by simp) (by simp) ?_
        · rw [AHeap.get_set, AHeap.next_set]
          exact ⟨this.1, this.2, rfl⟩
        · have hle2 : p.base + off + vs.length ≤ cc.toList.length := by omega
          refine ⟨_, lo, hi, setRow_heap w p.c cc _ e _ h1, ?_, ?_, ?_, ?_⟩
          · simp; omega
          · simp; omega
          · have e1 : (c.take off ++ l ++ c.drop (off + l.length)).length = c.length := by simp; omega
            rw [e1]
            simp only [Nat.add_zero]
            have e2 : ((cc.toList.take (p.base + off) ++ vs ++ cc.toList.drop (p.base + off + vs.length)).drop p.base).take c.length =
                ((cc.toList.drop p.base).take c.length).take off ++ vs ++ ((cc.toList.drop p.base).take c.length).drop (off + vs.length) := by
              apply List.ext_getElem?
              intro i
              simp only [List.getElem?_take, List.getElem?_drop, List.getElem?_append, List.length_append, List.length_take, List.length_drop]
              rw [Nat.min_eq_left (show p.base + off ≤ cc.toList.length by omega), Nat.min_eq_left (show off ≤ min c.length (cc.toList.length - p.base) by omega)]
              by_cases hi1 : i < c.length
              · by_cases hi2 : i < off
                · simp [hi1, hi2, show p.base + i < p.base + off + vs.length by omega, show p.base + i < p.base + off by omega, show i < off + vs.length by omega]
                · by_cases hi3 : i < off + vs.length
                  · simp [hi1, hi2, hi3, show p.base + i < p.base + off + vs.length by omega, show ¬ p.base + i < p.base + off by omega, show p.base + i - (p.base + off) = i - off by omega]
                  · simp only [hi1, hi2, hi3, if_true, if_false, show ¬ p.base + i < p.base + off + vs.length by omega]
                    rw [show off + vs.length + (i - (off + vs.length)) = i by omega, if_pos hi1]
                    congr 1
                    omega
              · simp only [hi1, if_false]
                by_cases hi2 : i < off + vs.length
                · omega
                · rw [if_neg hi2, show off + vs.length + (i - (off + vs.length)) = i by omega, if_neg hi1]
            show VRs β _ (List.take c.length (List.drop p.base _))
            rw [List.toList_toArray, e2]
            refine ((h4.take off).append hl).append ?_
            rw [hlen]
            exact h4.drop _
          · have e1 : (c.take off ++ l ++ c.drop (off + l.length)).length = c.length := by simp; omega
            rw [e1]; exact h5
      · cases h
    · cases h
def SameWr (g h : Nat → Option AObj) : Prop := ∀ b, (g b).map AObj.wr = (h b).map AObj.wr
omit [Val] in
theorem SameWr.some {g h : Nat → Option AObj} (s : SameWr g h) {b : Nat} {o : AObj} (hb : h b = some o) : ∃ o', g b = some o' ∧ o'.wr = o.wr := by
  have := s b
  rw [hb] at this
  cases hg : g b with
  | none => rw [hg] at this; cases this
  | some o' => rw [hg] at this; exact ⟨o', rfl, by simpa using this⟩
omit [Val] in
theorem SameWr.none {g h : Nat → Option AObj} (s : SameWr g h) {b : Nat} (hb : h b = none) : g b = none := by
  have := s b
  rw [hb] at this
  cases hg : g b with
  | none => rfl
  | some o' => rw [hg] at this; cases this
omit [Val] in
theorem SameWr.symm {g h : Nat → Option AObj} (s : SameWr g h) : SameWr h g := fun b => (s b).symm
omit [Val] in
theorem Tran.same {β β' : Pl} {g h g' h' : Nat → Option AObj} {n n' : Nat} {w w' : World} (t : Tran β g n w β' g' n' w') (s : SameWr g h) (s' : SameWr g' h') : Tran β h n w β' h' n' w' := by
  refine ⟨t.ext, t.next, t.size, fun c hc hno => t.kept c hc fun b o p hb ho hp => ?_, t.old, fun b hb h0 => s'.symm.none (t.dom b hb (s.none h0)), fun b o p hb hp hlt => ?_, t.os, t.out, t.tape, fun c x hx => (t.zn c x hx).imp id (Or.imp id fun ⟨b, o, p, q1, q2, q3, q4⟩ => ?_)⟩
  · obtain ⟨o', h1, h2⟩ := s.symm.some hb
    exact hno b o' p h1 (h2.trans ho) hp
  · obtain ⟨o', h1, h2⟩ := s'.some hb
    obtain ⟨b0, o0, p0, q1, q2, q3, q4⟩ := t.new b o' p h1 hp hlt
    obtain ⟨o1, r1, r2⟩ := s.symm.some q1
    exact ⟨b0, o1, p0, r1, fun hw => r2.trans (q2 (h2.trans hw)), q3, q4⟩
  · obtain ⟨o1, r1, r2⟩ := s.symm.some q1
    exact ⟨b, o1, p, r1, r2.trans q2, q3, q4⟩
theorem WR.same {g h : Nat → Option AObj} {n : Nat} (hw : WR G β g n w) (s : SameWr g h) (ho : ∀ b o, h b = some o → (∃ p, β b = some p ∧ ObjR β w p o) ∨ (β b = none ∧ b < n ∧ o.absent)) : WR G β h n w := by
  refine ⟨hw.fresh, hw.bound, ho, fun b b' o o' p p' hb hb' => ?_, hw.glob, hw.gn, fun c x hx => ⟨(hw.keep c x hx).1, fun b ob p hb hwr => ?_⟩⟩
  · obtain ⟨o1, h1, -⟩ := s.some hb
    obtain ⟨o2, h2, -⟩ := s.some hb'
    exact hw.inj b b' o1 o2 p p' h1 h2
  · obtain ⟨o1, h1, h2⟩ := s.some hb
    exact (hw.keep c x hx).2 b o1 p h1 (h2.trans hwr)
theorem WR.swap {g : Nat → Option AObj} {n : Nat} (hw : WR G β g n w) {b : Nat} {o o' : AObj} (hb : g b = some o) (hwr : o'.wr = o.wr) {p : Place} (hp : β b = some p) (ho : ObjR β w p o') :
    WR G β (fun x => if x = b then some o' else g x) n w ∧ SameWr g (fun x => if x = b then some o' else g x) := by
  have s : SameWr g (fun x => if x = b then some o' else g x) := by
    intro x
    by_cases e : x = b
    · subst e; simp [hb, hwr]
    · simp [e]
  refine ⟨hw.same s fun x ox hx => ?_, s⟩
  by_cases e : x = b
  · subst e
    simp only [if_true, Option.some.injEq] at hx
    subst hx
    exact .inl ⟨p, hp, ho⟩
  · simp only [if_neg e] at hx
    exact hw.some_ x ox hx
omit [Val] in
theorem tmsOf_one : ∀ {ks : List CK} {l : List AV} {ts : List Tm}, tmsOf ks l = some ts → l.all (·.one) = true ∧ l.length = ks.length ∧ ts.length = ks.length
  | [], [], _, h => by simp only [tmsOf, Option.some.injEq] at h; subst h; exact ⟨rfl, rfl, rfl⟩
  | k :: ks, v :: vs, ts, h => by
    simp only [tmsOf] at h
    split at h
    · rename_i t ht
      split at h
      · rename_i r hr
        simp only [Option.some.injEq] at h; subst h
        obtain ⟨h1, h2, h3⟩ := tmsOf_one hr
        refine ⟨?_, by simp [h2], by simp [h3]⟩
        rw [List.all_cons, h1, Bool.and_true]
        unfold tmOf at ht
        split at ht <;> first | rfl | cases ht
      · cases h
    · cases h
  | [], _ :: _, _, h | _ :: _, [], _, h => by cases h
omit [Val] in
theorem tmsOf_get : ∀ {ks : List CK} {l : List AV} {ts : List Tm}, tmsOf ks l = some ts → ∀ (i : Nat) (a : AV), l[i]? = some a → ∃ k t, ks[i]? = some k ∧ ts[i]? = some t ∧ tmOf k a = some t
  | [], [], _, _, i, a, h => by simp at h
  | k :: ks, v :: l, ts, h, i, a, ha => by
    simp only [tmsOf] at h
    split at h
    · rename_i t ht
      split at h
      · rename_i r hr
        simp only [Option.some.injEq] at h; subst h
        cases i with
        | zero =>
          simp only [List.getElem?_cons_zero, Option.some.injEq] at ha
          subst ha
          exact ⟨k, t, rfl, rfl, ht⟩
        | succ i =>
          obtain ⟨k', t', h1, h2, h3⟩ := tmsOf_get hr i a (by simpa using ha)
          exact ⟨k', t', by simpa using h1, by simpa using h2, h3⟩
      · cases h
    · cases h
  | [], _ :: _, _, h, _, _, _ | _ :: _, [], _, h, _, _, _ => by cases h
omit [Val] in
theorem expandL_get (ks : List CK) (s : Tm) {n i j : Nat} (hi : i < n) (hj : j < ks.length) : (expandL ks s n)[i * ks.length + j]? = some (ofTm (ks.getD j .bool) (eltTm id ks (.op .nth [s, .int (i : Int)]) j)) := by
  have hp1 := expandL_part ks s (j := j) (m := 1) (by omega) hi
  have h0 := congrArg (fun l : List AV => l[0]?) hp1
  simp only [List.getElem?_take_of_lt (Nat.zero_lt_one), List.getElem?_drop, Nat.add_zero] at h0
  rw [h0]
  have hdrop : ks.drop j = ks[j] :: ks.drop (j + 1) := List.drop_eq_getElem_cons hj
  rw [hdrop, List.take_succ_cons, List.take_zero]
  simp only [eltCells, List.getElem?_cons_zero, List.getD_eq_getElem?_getD, List.getElem?_eq_getElem hj, Option.getD_some]
theorem VRs_expand {ks : List CK} {t : Tm} {L : List D} (ht : t.den = .list L) (hks : ks ≠ []) {c : List AV} {vs : List Value} (hc : VRs β c vs) (hl : c.length = L.length * ks.length)
    (h : ∀ (i j : Nat) (a : AV) (v : Value), i < L.length → j < ks.length → c[i * ks.length + j]? = some a → VR β a v → CellR β.zone (ks.getD j .bool) (eltFld ks (L.getD i .bad) j) v) : VRs β (expandL ks t L.length) vs := by
  have hpos : 0 < ks.length := List.length_pos_iff.2 hks
  refine VRs.of_getG (by rw [expandL_len, ← hl, hc.length]) fun q xq hxq => ?_
  have hql : q < L.length * ks.length := by
    have := (List.getElem?_eq_some_iff.1 hxq).1
    rwa [expandL_len] at this
  have hqi : q / ks.length < L.length := Nat.div_lt_of_lt_mul (by rw [Nat.mul_comm]; exact hql)
  have hqj : q % ks.length < ks.length := Nat.mod_lt _ hpos
  have hqe : q / ks.length * ks.length + q % ks.length = q := Nat.div_add_mod' q ks.length
  rw [← hqe, expandL_get ks t hqi hqj, Option.some.injEq] at hxq
  subst hxq
  have hlt : q < c.length := by omega
  obtain ⟨z, z1, z2⟩ := hc.get (List.getElem?_eq_getElem hlt)
  refine ⟨z, z1, ?_⟩
  rw [ofTm_iff, eltTm_den (nf := id) (fun _ => rfl), nth_den t ht]
  exact h _ _ c[q] z hqi hqj (by rw [hqe]; exact List.getElem?_eq_getElem hlt) z2
omit [Val] in
theorem layOver_ex : ∀ (c0 : List AV) (off : Nat) (vs : List AV), vs ≠ [] → off + vs.length ≤ c0.length → ∃ r, layOver c0 off vs = some r
  | [], off, vs, h1, h2 => by cases vs with | nil => exact absurd rfl h1 | cons => simp at h2
  | a :: c0, off, [], h1, _ => absurd rfl h1
  | a :: c0, 0, v :: vs, _, h2 => by
    by_cases e : vs = []
    · subst e; cases c0 <;> exact ⟨_, rfl⟩
    · obtain ⟨r, hr⟩ := layOver_ex c0 0 vs e (by simpa using h2)
      exact ⟨v :: r, by simp only [layOver, hr, Option.map_some]⟩
  | a :: c0, off + 1, v :: vs, _, h2 => by
    obtain ⟨r, hr⟩ := layOver_ex c0 off (v :: vs) (by simp) (by simp at h2 ⊢; omega)
    exact ⟨a :: r, by simp only [layOver, hr, Option.map_some]⟩
omit [Val] in
theorem lay_get (c vs : List AV) (off q : Nat) (h : off + vs.length ≤ c.length) : (c.take off ++ vs ++ c.drop (off + vs.length))[q]? = if off ≤ q ∧ q < off + vs.length then vs[q - off]? else c[q]? := by
  have h1 : (c.take off).length = off := by rw [List.length_take]; omega
  by_cases e1 : q < off
  · rw [if_neg (by omega), List.getElem?_append_left (by rw [List.length_append]; omega), List.getElem?_append_left (by omega), List.getElem?_take_of_lt e1]
  · by_cases e2 : q < off + vs.length
    · rw [if_pos ⟨by omega, e2⟩, List.getElem?_append_left (by rw [List.length_append]; omega), List.getElem?_append_right (by omega), h1]
    · rw [if_neg (by omega), List.getElem?_append_right (by rw [List.length_append]; omega), List.length_append, h1, List.getElem?_drop]
      congr 1; omega
theorem elt_whole {ks : List CK} {c : Tm} {L : List D} {p : Place} {e : TypeId} {k : RK} (hks : ks ≠ []) (hL : c.den = .list L) (hrow : RowR β w p (expandL ks c L.length) e k) {i : Nat} (hlt : i < L.length) (hne : ks.length ≠ 1) : ∃ M, L.getD i .bad = .list M ∧ ks.length ≤ M.length := by
  have hpos : 0 < ks.length := List.length_pos_iff.2 hks
  have hall : ∀ a, a < ks.length → ∃ v, CellR β.zone (ks.getD a .bool) (eltFld ks (L.getD i .bad) a) v := by
    intro a ha2
    obtain ⟨cc, lo, hi, -, -, -, h4, -⟩ := hrow
    obtain ⟨z, -, z2⟩ := h4.get (expandL_get ks c hlt ha2)
    rw [ofTm_iff, eltTm_den (nf := id) (fun _ => rfl), nth_den _ hL] at z2
    exact ⟨z, z2⟩
  have hfld : ∀ d a, eltFld ks d a = match d with | .list l => l.getD a .bad | _ => .bad := by
    intro d a
    unfold eltFld
    split
    · exact absurd rfl hne
    · rfl
  cases hd : L.getD i .bad with
  | list M =>
    refine ⟨M, rfl, ?_⟩
    obtain ⟨v, hv⟩ := hall (ks.length - 1) (by omega)
    rw [hfld, hd] at hv
    by_cases hM : ks.length ≤ M.length
    · exact hM
    · exfalso
      have : M.getD (ks.length - 1) .bad = .bad := by rw [List.getD_eq_getElem?_getD, List.getElem?_eq_none (by omega)]; rfl
      simp only [this] at hv; exact hv.notBad
  | _ => exfalso; obtain ⟨v, hv⟩ := hall 0 hpos; rw [hfld, hd] at hv; exact hv.notBad
theorem setFlds_den {nf : Tm → Tm} (hn : ∀ t, (nf t).den = t.den) : ∀ (l : List Tm) (t : Tm) (j : Nat) (M : List D), t.den = .list M → ∃ M', (setFlds nf t j l).den = .list M' ∧ M'.length = M.length ∧
    ∀ a, a < M.length → M'.getD a .bad = if j ≤ a ∧ a < j + l.length then (Tm.dens l).getD (a - j) .bad else M.getD a .bad
  | [], t, j, M, h => ⟨M, h, rfl, fun a _ => by rw [if_neg (by simp only [List.length_nil]; omega)]⟩
  | x :: r, t, j, M, h => by
    have h1 : (mkT nf (.setf j) [t, x]).den = .list (M.set j x.den) := by rw [mkT_den hn]; simp only [Tm.dens, h, TOp.den]
    obtain ⟨M', q1, q2, q3⟩ := setFlds_den hn r _ (j + 1) _ h1
    refine ⟨M', q1, by rw [q2]; simp, fun a ha => ?_⟩
    rw [q3 a (by simpa using ha)]
    by_cases c1 : j + 1 ≤ a ∧ a < j + 1 + r.length
    · rw [if_pos c1, if_pos ⟨by omega, by simp; omega⟩]
      obtain ⟨b, rfl⟩ : ∃ b, a = j + 1 + b := ⟨a - (j + 1), by omega⟩
      rw [show j + 1 + b - (j + 1) = b from by omega, show j + 1 + b - j = b + 1 from by omega]
      rfl
    · rw [if_neg c1]
      by_cases c2 : a = j
      · subst c2
        rw [if_pos ⟨Nat.le_refl _, by simp⟩, Nat.sub_self]
        simp [List.getD_eq_getElem?_getD, ha, Tm.dens]
      · rw [if_neg (by simp; omega)]
        simp [List.getD_eq_getElem?_getD, Ne.symm c2]
theorem dens_length : ∀ l : List Tm, (Tm.dens l).length = l.length
  | [] => rfl
  | _ :: r => by simp [Tm.dens, dens_length r]
theorem eltSet_den {nf : Tm → Tm} (hn : ∀ t, (nf t).den = t.den) {ks : List CK} {t x : Tm} {j : Nat} {l : List Tm} (h : eltSet nf ks t j l = some x) (h0 : l ≠ []) (hl : j + l.length ≤ ks.length) (ht : ks.length ≠ 1 → ∃ M, t.den = .list M ∧ ks.length ≤ M.length) (a : Nat) (ha : a < ks.length) :
    eltFld ks x.den a = if j ≤ a ∧ a < j + l.length then (Tm.dens l).getD (a - j) .bad else eltFld ks t.den a := by
  unfold eltSet at h
  split at h
  · rename_i k y
    simp only [Option.some.injEq] at h; subst h
    have : a = 0 := by simpa using ha
    subst this
    simp [eltFld, Tm.dens]
  · cases h
  · rename_i hk1 hk2
    have hne : ks.length ≠ 1 := by
      intro e
      obtain ⟨k, rfl⟩ := List.length_eq_one_iff.1 e
      have hl1 : 0 < l.length := List.length_pos_iff.2 h0
      simp only [List.length_cons, List.length_nil] at hl
      first | exact hk1 (by omega) | exact hk2 (by omega) | exact hk1 _ rfl | exact hk2 _ rfl
    obtain ⟨M, hM, hMl⟩ := ht hne
    have hfld : ∀ d, eltFld ks d a = match d with | .list l => l.getD a .bad | _ => .bad := by
      intro d
      unfold eltFld
      split
      · rename_i k; exact absurd rfl hne
      · rfl
    rw [hfld, hfld, hM]
    cases hb : l.length.beq ks.length
    · rw [hb] at h
      simp only [cond_false, Option.some.injEq] at h; subst h
      obtain ⟨M', q1, q2, q3⟩ := setFlds_den hn l t 0 M hM
      rw [q1]
      exact q3 a (by omega)
    · rw [hb] at h
      simp only [cond_true, Option.some.injEq] at h; subst h
      have := Nat.eq_of_beq_eq_true hb
      rw [mkT_den hn]
      simp only [TOp.den]
      rw [if_pos ⟨Nat.zero_le _, by omega⟩, Nat.sub_zero]
  · rename_i hk1 hk2
    simp only [Option.some.injEq] at h; subst h
    have hne : ks.length ≠ 1 := by
      intro e
      obtain ⟨k, rfl⟩ := List.length_eq_one_iff.1 e
      have hl1 : 0 < l.length := List.length_pos_iff.2 h0
      simp only [List.length_cons, List.length_nil] at hl
      first | exact hk1 (by omega) | exact hk2 (by omega) | exact hk1 _ rfl | exact hk2 _ rfl
    obtain ⟨M, hM, hMl⟩ := ht hne
    have hfld : ∀ d, eltFld ks d a = match d with | .list l => l.getD a .bad | _ => .bad := by
      intro d
      unfold eltFld
      split
      · rename_i k; exact absurd rfl hne
      · rfl
    rw [hfld, hfld, hM]
    obtain ⟨M', q1, q2, q3⟩ := setFlds_den hn l t j M hM
    rw [q1]
    exact q3 a (by omega)
theorem storeA_run {nf : Tm → Tm} (hn : ∀ t, (nf t).den = t.den) {t : TypeId} {x y : AV} {v u : Value} {H' : AHeap} (hw : WR G β H.get H.next w) (h : storeA P nf H t x y = some H') (hx : VR β x v) (hy : VR β y u) :
    ∃ w', (Instr.storeAt t v u).run P w = .ok () w' ∧ WR G β H'.get H'.next w' ∧ Tran β H.get H.next w β H'.get H'.next w' := by
  unfold storeA at h
  split at h
  · rename_i b es i j
    cases hx with
    | @eptr _ _ _ ii p _ hi hp =>
    split at h
    · rename_i ks c e k hr
      split at h
      · rename_i hc
        obtain ⟨rfl, hin, hfree, hsz, hm0, hjm⟩ := hc
        split at h
        · rename_i l hl
          rw [Option.map_eq_some_iff] at h
          obtain ⟨x, hx, rfl⟩ := h
          have hb := lrowOf_get hr
          obtain ⟨L, hL, hks, hrow⟩ := hw.objAt hb hp
          have hlt : ii < L.length := by have := inRangeT_den hn hin hi (len_den hn hL); omega
          obtain ⟨ho1, ho2, ho3⟩ := tmsOf_one hl
          rw [List.length_take, List.length_drop] at ho2 ho3
          have hml : l.length = y.cells.length := by omega
          have hex : (ii + 1) * ks.length ≤ L.length * ks.length := Nat.mul_le_mul_right _ hlt
          rw [Nat.add_mul, Nat.one_mul] at hex
          -- laid out
          have hwrk : (AObj.row (expandL ks c L.length) e k).wr = (AObj.lrow ks c e k).wr := by cases k <;> rfl
          obtain ⟨w1, s1⟩ := hw.swap hb hwrk hp (show ObjR β w p (.row (expandL ks c L.length) e k) from hrow)
          have hHx : (fun x => if x = b then some (AObj.row (expandL ks c L.length) e k) else H.get x) = (H.set b (.row (expandL ks c L.length) e k)).get := (AHeap.get_set _ _ _).symm
          rw [hHx] at w1 s1
          have hcy := hy.cells
          have hyne : y.cells ≠ [] := fun e => hm0 (by rw [e]; rfl)
          obtain ⟨c', hc'⟩ := layOver_ex (expandL ks c L.length) (ii * ks.length + j) y.cells hyne (by rw [expandL_len]; omega)
          have htk : k.takes (ii * ks.length + j) = true := by
            cases k with
            | solid => rfl
            | glob => cases hfree
            | buf fz s => cases fz with
              | zero => simp [RK.takes]
              | succ n => cases hfree
          have hst : storeN (H.set b (.row (expandL ks c L.length) e k)) b (ii * ks.length + j) y.cells = some ((H.set b (.row (expandL ks c L.length) e k)).set b (.row c' e k)) := by
            unfold storeN
            rw [if_neg (by simpa using hyne)]
            have : rowOf (H.set b (.row (expandL ks c L.length) e k)) b = some (expandL ks c L.length, e, k) := by
              unfold rowOf; rw [AHeap.get_set]; simp
            rw [this]
            simp only [htk, ho1, Bool.and_self, if_true, hc', Option.map_some]
          obtain ⟨w', r1, r2, r3, -⟩ := storeN_run (P := P) w1 hst hcy hp
          obtain ⟨ec, -⟩ := layOver_eq _ _ _ _ hc' hyne
          rw [AHeap.get_set] at r2 r3
          -- and taken up again
          have hb2 : (fun x => if x = b then some (AObj.row c' e k) else (H.set b (.row (expandL ks c L.length) e k)).get x) b = some (.row c' e k) := by simp
          have hset : (mkT nf .set [c, i, x]).den = .list (L.set ii x.den) := by rw [mkT_den hn]; simp only [Tm.dens, hL, hi, TOp.den, Int.toNat_natCast]
          obtain ⟨cc, lo, hi2, q1, q2, q3, q4, q5⟩ := r2.objAt hb2 hp
          have hcl : c'.length = L.length * ks.length := by rw [ec]; simp [expandL_len]; omega
          have hnew : ObjR β w' p (.lrow ks (mkT nf .set [c, i, x]) e k) := by
            refine ⟨_, hset, hks, cc, lo, hi2, q1, q2, ?_, ?_, ?_⟩
            · rw [expandL_len, List.length_set, ← hcl]; exact q3
            · have hcl2 : c'.length = (L.set ii x.den).length * ks.length := by rw [List.length_set]; exact hcl
              rw [expandL_len, ← hcl2]
              refine VRs_expand hset hks q4 hcl2 fun i' j' a v hi' hj' ha hv => ?_
              rw [List.length_set] at hi'
              rw [ec, lay_get _ _ _ _ (by rw [expandL_len]; omega)] at ha
              have hmul : i' < ii → (i' + 1) * ks.length ≤ ii * ks.length := fun h => Nat.mul_le_mul_right _ h
              have hmul2 : ii < i' → (ii + 1) * ks.length ≤ i' * ks.length := fun h => Nat.mul_le_mul_right _ h
              rw [Nat.add_mul, Nat.one_mul] at hmul hmul2
              by_cases hin2 : i' = ii
              · subst hin2
                have hLs : (L.set i' x.den).getD i' .bad = x.den := by simp [List.getD_eq_getElem?_getD, hlt]
                have hxd := eltSet_den hn hx (by intro e0; rw [e0] at hml; simp at hml; omega) (by omega) (fun hne => by rw [nthT_den hn hL hi]; exact elt_whole hks hL hrow hlt hne) j' hj'
                rw [hLs, hxd]
                by_cases hcol : j ≤ j' ∧ j' < j + l.length
                · rw [if_pos hcol]
                  rw [if_pos (by omega), show i' * ks.length + j' - (i' * ks.length + j) = j' - j from by omega] at ha
                  obtain ⟨k1, t1, g1, g2, g3⟩ := tmsOf_get hl _ _ ha
                  have hkj : ks.getD j' .bool = k1 := by
                    rw [List.getElem?_take_of_lt (by omega), List.getElem?_drop, show j + (j' - j) = j' from by omega] at g1
                    rw [List.getD_eq_getElem?_getD, g1]; rfl
                  have hdj : (Tm.dens l).getD (j' - j) .bad = t1.den := by
                    have : ∀ (l : List Tm) (n : Nat) (t : Tm), l[n]? = some t → (Tm.dens l).getD n .bad = t.den := by
                      intro l
                      induction l with
                      | nil => intro n t h; simp at h
                      | cons y r ih =>
                        intro n t h
                        cases n with
                        | zero => simp at h; subst h; rfl
                        | succ n => exact ih n t (by simpa using h)
                    exact this _ _ _ g2
                  rw [hkj, hdj]
                  exact tmOf_cell g3 hv
                · rw [if_neg hcol]
                  rw [if_neg (by omega), expandL_get ks c hlt hj', Option.some.injEq] at ha
                  subst ha
                  rw [ofTm_iff, eltTm_den (nf := id) (fun _ => rfl), nth_den _ hL] at hv
                  rw [nthT_den hn hL hi]; exact hv
              · have hLs : (L.set ii x.den).getD i' .bad = L.getD i' .bad := by simp [List.getD_eq_getElem?_getD, Ne.symm hin2]
                rw [hLs]
                rw [if_neg (by omega), expandL_get ks c hi' hj', Option.some.injEq] at ha
                subst ha
                rw [ofTm_iff, eltTm_den (nf := id) (fun _ => rfl), nth_den _ hL] at hv
                exact hv
            · rw [expandL_len, List.length_set, ← hcl]; exact q5
          obtain ⟨w2, s2⟩ := r2.swap hb2 (o' := .lrow ks (mkT nf .set [c, i, x]) e k) (by cases k <;> rfl) hp hnew
          have hfin : (fun x0 => if x0 = b then some (AObj.lrow ks (mkT nf .set [c, i, x]) e k) else (fun x => if x = b then some (AObj.row c' e k) else (H.set b (.row (expandL ks c L.length) e k)).get x) x0) = (H.set b (.lrow ks (mkT nf .set [c, i, x]) e k)).get := by
            funext x0
            rw [AHeap.get_set, AHeap.get_set]
            by_cases e0 : x0 = b <;> simp [e0]
          rw [hfin] at w2 s2
          rw [AHeap.next_set]
          have s1' := s1.symm
          rw [AHeap.get_set] at s1'
          refine ⟨w', ?_, w2, (r3.same s1' (by rw [AHeap.get_set]; exact s2))⟩
          have hsu : u.cells.size = y.cells.length := by rw [hcy.length]; simp
          simp [Instr.storeAt, Instr.sureAddr, storeVar, sizeT_run hsz, hsu, r1]
        · cases h
      · cases h
    · cases h
  · rename_i b off
    cases hx with
    | @ptr _ p _ hp =>
    split at h
    · rename_i hs
      simp only [Bool.and_eq_true, beq_iff_eq, decide_eq_true_eq] at hs
      have hc := hy.cells
      obtain ⟨w', h1, h2, h3, h4⟩ := storeN_run (P := P) hw h hc hp
      rw [h4]
      refine ⟨w', ?_, h2, h3⟩
      have hsz : u.cells.size = y.cells.length := by rw [hc.length]; simp
      simp [Instr.storeAt, Instr.sureAddr, storeVar, sizeT_run hs.1, hsz, h1]
    · cases h
  · cases h
end
end Go.Tc
