/- Rows that are written no more: their slices become frozen data. And rows of known length as rows of unknown data. -/
import Derived.Test.YtjmjbjnbfodalaaGreatTcTri
set_option linter.unusedSimpArgs false
set_option linter.unusedVariables false
set_option linter.unusedSectionVars false
namespace Go.Tc
def Tr.mapA {α : Type} (f : α → α) : Tr α → Tr α
  | .leaf => .leaf
  | .node l v r => .node (mapA f l) (match v with | some x => some (f x) | none => none) (mapA f r)
theorem Tr.get_mapA {α : Type} (f : α → α) : ∀ (t : Tr α) (n : Nat), (t.mapA f).get n = (t.get n).map f
  | .leaf, n => by simp [Tr.mapA, Tr.get]
  | .node l v r, n => by
    simp only [Tr.mapA, Tr.get]
    split
    · cases v <;> rfl
    · split
      · exact Tr.get_mapA f l _
      · exact Tr.get_mapA f r _
mutual
def AV.ice (nf : Tm → Tm) (b : Nat) (ks : List CK) (t : Tm) : AV → AV
  | .lsl c es lo n cm => bif c.beq b && es.beq ks.length && isZero (nrm nf lo) && eqT nf n (.op .len [t]) then .sy (.isl ks) t else .lsl c es lo n cm
  | .eptr c es i j => bif c.beq b && es.beq ks.length && isZero (nrm nf i) && eqT nf (.op .len [t]) (.int 1) && j.beq 0 then .sy (.ref ks) t else .eptr c es i j
  | .fn f x y => .fn f (AV.ices nf b ks t x) (AV.ices nf b ks t y)
  | .iface u v => .iface u (AV.ice nf b ks t v)
  | .agg l => .agg (AV.ices nf b ks t l)
  | .tuple l => .tuple (AV.ices nf b ks t l)
  | v => v
def AV.ices (nf : Tm → Tm) (b : Nat) (ks : List CK) (t : Tm) : List AV → List AV
  | [] => []
  | v :: r => AV.ice nf b ks t v :: AV.ices nf b ks t r
end
def liftCap (es : Nat) (c : SCap) : Option LCap :=
  match c with
  | .exact k => some (.exact (.int (k : Int)))
  | .opn e => bif e.beq es then some .opn else none
mutual
def AV.lift (b es : Nat) : AV → AV
  | .slice c off len cap => bif c.beq b && (off % es).beq 0 then (match liftCap es cap with
    | some cm => .lsl c es (.int ((off / es : Nat) : Int)) (.int (len : Int)) cm
    | none => .slice c off len cap) else .slice c off len cap
  | .ptr c off => bif c.beq b then .eptr c es (.int ((off / es : Nat) : Int)) (off % es) else .ptr c off
  | .fn f x y => .fn f (AV.lifts b es x) (AV.lifts b es y)
  | .iface u v => .iface u (AV.lift b es v)
  | .agg l => .agg (AV.lifts b es l)
  | .tuple l => .tuple (AV.lifts b es l)
  | v => v
def AV.lifts (b es : Nat) : List AV → List AV
  | [] => []
  | v :: r => AV.lift b es v :: AV.lifts b es r
end
section
variable [Val] {β β' : Pl}
mutual
theorem VR.lift (e : Ext β β') {b es : Nat} (hes : 0 < es) : ∀ (a : AV) (v : Value), VR β a v → VR β' (a.lift b es) v
  | .slice c off len cap, v, h => by
    unfold AV.lift
    cases hc : (c.beq b && (off % es).beq 0) with
    | false => exact h.mono e
    | true =>
      simp only [cond_true]
      cases hk : liftCap es cap with
      | none => exact h.mono e
      | some cm =>
        simp only [Bool.and_eq_true, Nat.beq_eq] at hc
        cases h with
        | @slice _ p _ _ _ k hp hcr hl =>
        have ho : off / es * es = off := by have := Nat.div_add_mod' off es; omega
        have := VR.lsl (β := β') (es := es) (b := c) (lo := .int ((off / es : Nat) : Int)) (len := .int (len : Int)) (cm := cm) (l := off / es) (n := len) (c := k) (p := p) rfl rfl (e _ _ hp) (by
          rw [ho]
          cases cap with
          | exact q => simp only [liftCap, Option.some.injEq] at hk; subst hk; simp only [CapR] at hcr; subst hcr; rfl
          | opn q =>
            simp only [liftCap] at hk
            cases hq : q.beq es with
            | false => rw [hq] at hk; cases hk
            | true => rw [hq] at hk; simp only [cond_true, Option.some.injEq] at hk; subst hk; have := Nat.eq_of_beq_eq_true hq; subst this; exact hcr) hl
        rwa [ho] at this
  | .ptr c off, v, h => by
    unfold AV.lift
    cases hc : c.beq b with
    | false => exact h.mono e
    | true =>
      simp only [cond_true]
      cases h with
      | @ptr _ p _ hp =>
      have := VR.eptr (β := β') (b := c) (es := es) (ti := .int ((off / es : Nat) : Int)) (i := off / es) (p := p) (off % es) rfl (e _ _ hp)
      rwa [Nat.div_add_mod' off es] at this
  | .fn f x y, v, h => by cases h with | fn hf hx hy => exact .fn (hf.mono e) (VRs.lift e hes x _ hx) (VRs.lift e hes y _ hy)
  | .iface u a, v, h => by cases h with | iface _ h => exact .iface _ (VR.lift e hes a _ h)
  | .agg l, v, h => by cases h with | agg h => exact .agg (VRs.lift e hes l _ h)
  | .tuple l, v, h => by cases h with | tuple h => exact .tuple (VRs.lift e hes l _ h)
  | .bool _, v, h | .int _ _, v, h | .str _, v, h | .nilPtr, v, h | .nilSlice, v, h | .nilMap, v, h | .map _, v, h | .nilFn, v, h
  | .nilIface, v, h | .junk, v, h | .esl, v, h | .rng _ _ _, v, h | .strU _, v, h | .boolU, v, h | .eptr _ _ _ _, v, h | .iptr _ _ _ _, v, h | .lsl _ _ _ _ _, v, h | .sy _ _, v, h => h.mono e
theorem VRs.lift (e : Ext β β') {b es : Nat} (hes : 0 < es) : ∀ (l : List AV) (vs : List Value), VRs β l vs → VRs β' (AV.lifts b es l) vs
  | [], vs, h => by cases h; exact .nil
  | a :: r, vs, h => by cases h with | cons h hs => exact .cons (VR.lift e hes a _ h) (VRs.lift e hes r _ hs)
end
structure Iced (β β' : Pl) (b : Nat) (ks : List CK) (t : Tm) : Prop where
  ext : Ext β β'
  list : ∃ L, t.den = .list L
  cell : ∀ L p c, t.den = .list L → β b = some p → L.length ≤ c → CellR β'.zone (.isl ks) (.list L) (.slice (some ⟨p.c, p.base, none⟩) L.length c)
theorem isZero_den {nf : Tm → Tm} (hn : ∀ t, (nf t).den = t.den) {t : Tm} (h : isZero (nrm nf t) = true) : t.den = .int 0 := by
  rw [← nrm_den hn t]
  unfold isZero at h
  split at h
  · rename_i e; rw [e]; rfl
  · cases h
theorem lenT_den {t : Tm} {L : List D} (h : t.den = .list L) : (Tm.op .len [t]).den = .int (L.length : Int) := by
  simp [Tm.den, Tm.dens, h, TOp.den]
mutual
theorem VR.ice {nf : Tm → Tm} (hn : ∀ t, (nf t).den = t.den) {b : Nat} {ks : List CK} {t : Tm} (e : Iced β β' b ks t) : ∀ (a : AV) (v : Value), VR β a v → VR β' (a.ice nf b ks t) v
  | .lsl c es lo n cm, v, h => by
    unfold AV.ice
    cases hc : (c.beq b && es.beq ks.length && isZero (nrm nf lo) && eqT nf n (.op .len [t])) with
    | false => exact h.mono e.ext
    | true =>
      simp only [cond_true]
      simp only [Bool.and_eq_true, Nat.beq_eq] at hc
      obtain ⟨⟨⟨rfl, rfl⟩, h3⟩, h4⟩ := hc
      have h3 := isZero_den hn h3
      have h4 := eqT_den hn h4
      obtain ⟨L, hL⟩ := e.list
      rw [lenT_den hL] at h4
      have none' : L.length = 0 → L = [] := fun h => List.length_eq_zero_iff.1 h
      cases h with
      | @lsl _ _ _ _ _ l0 n0 k0 p hl hn' hp hcr hle =>
        rw [h3] at hl; rw [h4] at hn'
        have e1 : (0 : Int) = (l0 : Int) := D.int.inj hl
        have e2 : (L.length : Int) = (n0 : Int) := D.int.inj hn'
        have e1 : l0 = 0 := by omega
        have e2 : L.length = n0 := by omega
        subst e1
        have := e.cell L _ _ hL hp (by rw [e2]; exact hle)
        rw [← e2]
        refine .sy ?_
        rw [hL]; simpa using this
      | lsl0 hl hn' =>
        rw [h4] at hn'
        have e2 : (L.length : Int) = 0 := D.int.inj hn'
        have := none' (by omega)
        subst this
        refine .sy ?_
        rw [hL]; exact .nil _
      | lslE a k hl hn' _ =>
        rw [h4] at hn'
        have e2 : (L.length : Int) = 0 := D.int.inj hn'
        have := none' (by omega)
        subst this
        refine .sy ?_
        rw [hL]; exact .none _ _ _
  | .eptr c es i j, v, h => by
    unfold AV.ice
    cases hc : (c.beq b && es.beq ks.length && isZero (nrm nf i) && eqT nf (.op .len [t]) (.int 1) && j.beq 0) with
    | false => exact h.mono e.ext
    | true =>
      simp only [cond_true]
      simp only [Bool.and_eq_true, Nat.beq_eq] at hc
      obtain ⟨⟨⟨⟨rfl, rfl⟩, h3⟩, h4⟩, rfl⟩ := hc
      have h3 := isZero_den hn h3
      have h4 := eqT_den hn h4
      obtain ⟨L, hL⟩ := e.list
      rw [lenT_den hL] at h4
      have e4 : (L.length : Int) = 1 := D.int.inj h4
      have e4 : L.length = 1 := by exact_mod_cast e4
      cases h with
      | @eptr _ _ _ i0 p _ hi hp =>
        rw [h3] at hi
        have e1 : (0 : Int) = (i0 : Int) := D.int.inj hi
        have e1 : i0 = 0 := by omega
        subst e1
        have := e.cell L _ 1 hL hp (by omega)
        rw [e4] at this
        refine .sy ?_
        rw [hL]
        have := CellR.ref this
        simpa using this
  | .fn f x y, v, h => by cases h with | fn hf hx hy => exact .fn (hf.mono e.ext) (VRs.ice hn e x _ hx) (VRs.ice hn e y _ hy)
  | .iface u a, v, h => by cases h with | iface _ h => exact .iface _ (VR.ice hn e a _ h)
  | .agg l, v, h => by cases h with | agg h => exact .agg (VRs.ice hn e l _ h)
  | .tuple l, v, h => by cases h with | tuple h => exact .tuple (VRs.ice hn e l _ h)
  | .bool _, v, h | .int _ _, v, h | .str _, v, h | .nilPtr, v, h | .nilSlice, v, h | .nilMap, v, h | .map _, v, h | .nilFn, v, h
  | .nilIface, v, h | .junk, v, h | .esl, v, h | .rng _ _ _, v, h | .strU _, v, h | .boolU, v, h | .ptr _ _, v, h | .iptr _ _ _ _, v, h | .slice _ _ _ _, v, h | .sy _ _, v, h => h.mono e.ext
theorem VRs.ice {nf : Tm → Tm} (hn : ∀ t, (nf t).den = t.den) {b : Nat} {ks : List CK} {t : Tm} (e : Iced β β' b ks t) : ∀ (l : List AV) (vs : List Value), VRs β l vs → VRs β' (AV.ices nf b ks t l) vs
  | [], vs, h => by cases h; exact .nil
  | a :: r, vs, h => by cases h with | cons h hs => exact .cons (VR.ice hn e a _ h) (VRs.ice hn e r _ hs)
end
def Tmps.on (f : AV → AV) : Tmps → Tmps
  | ⟨v, l⟩ => ⟨v.map fun p => (p.1, f p.2), l.map fun p => (p.1, f p.2)⟩
def AObj.on (f : AV → AV) : AObj → AObj
  | .row c e k => .row (c.map f) e k
  | .map es c => .map (es.map fun x => ⟨f x.key, f x.val, x.born⟩) c
  | .loop ⟨s, p, c, T, r, d⟩ => .loop ⟨s, p, c, T.on f, r, d⟩
  | o => o
omit [Val] in
theorem AObj.on_wr (f : AV → AV) (o : AObj) : (o.on f).wr = o.wr := by
  cases o with
  | row c e k => cases k <;> rfl
  | lrow ks t e k => cases k <;> rfl
  | _ => rfl
theorem VRs.on {f : AV → AV} (hf : ∀ a v, VR β a v → VR β' (f a) v) : ∀ {l : List AV} {vs : List Value}, VRs β l vs → VRs β' (l.map f) vs
  | [], vs, h => by cases h; exact .nil
  | a :: r, vs, h => by cases h with | cons h hs => exact .cons (hf _ _ h) (VRs.on hf hs)
omit [Val] in
theorem assoc_on (f : AV → AV) (l : List (Nat × AV)) (t : Nat) : assoc (l.map fun p => (p.1, f p.2)) t = (assoc l t).map f := by
  induction l with
  | nil => rfl
  | cons p r ih =>
    simp only [List.map_cons, assoc]
    cases p.1.beq t
    · exact ih
    · rfl
theorem TR.on {f : AV → AV} (hf : ∀ a v, VR β a v → VR β' (f a) v) {c : Ctx} {T : Tmps} {tm : Array Value} (h : TR β c T tm) : TR β' c (T.on f) tm := by
  refine ⟨h.1, fun t a ht => ?_⟩
  obtain ⟨v, l⟩ := T
  have : (Tmps.on f ⟨v, l⟩).get c t = ((Tmps.mk v l).get c t).map f := by
    simp only [Tmps.on, Tmps.get]
    cases c.mask.testBit t
    · exact assoc_on f l t
    · exact assoc_on f v t
  rw [this, Option.map_eq_some_iff] at ht
  obtain ⟨a0, h0, rfl⟩ := ht
  obtain ⟨u, h1, h2⟩ := h.2 t a0 h0
  exact ⟨u, h1, hf _ _ h2⟩
theorem ObjR.on (e : Ext β β') {f : AV → AV} (hf : ∀ a v, VR β a v → VR β' (f a) v) {w : World} {p : Place} {o : AObj} (h : ObjR β w p o) : ObjR β' w p (o.on f) := by
  cases o with
  | row c el k =>
    obtain ⟨cc, lo, hi, h1, h2, h3, h4, h5⟩ := h
    refine ⟨cc, lo, hi, h1, h2, by rw [List.length_map]; exact h3, ?_, by rw [List.length_map]; exact h5⟩
    rw [List.length_map]; exact VRs.on hf h4
  | map es c =>
    obtain ⟨ces, h1, h2⟩ := h
    refine ⟨ces, h1, ?_⟩
    clear h1
    generalize ces.toList = ms at h2
    induction h2 with
    | nil => exact .nil
    | cons hk hv hb _ ih => exact .cons (hf _ _ hk) (hf _ _ hv) hb ih
  | loop l =>
    obtain ⟨st, pd, c, T, lc, d⟩ := l
    obtain ⟨cl, h1, h2, h3, h4, h5, h6, h7, q, h8, h9⟩ := h
    exact ⟨cl, h1, h2, h3, TR.on hf h4, h5, h6, h7, q, e _ _ h8, h9⟩
  | _ => exact ObjR.mono e rfl h
theorem AObj.on_absent {f : AV → AV} {o : AObj} (h : o.absent) : (o.on f).absent := by
  cases o <;> first | exact h | exact h.elim
theorem OwnR.at {m : List Nat} (e : ∀ b p, β b = some p → β' b = some p) : ∀ {ds : List Deferred}, OwnR β m ds → OwnR β' m ds := by
  induction m with
  | nil => intro ds h; cases ds with | nil => trivial | cons => exact h.elim
  | cons a m ih =>
    intro ds h
    cases ds with
    | nil => exact h.elim
    | cons d ds => obtain ⟨⟨p, h1, h2⟩, h3⟩ := h; exact ⟨⟨p, e _ _ h1, h2⟩, ih h3⟩
inductive Ice where
  | lift (b : Nat) (ks : List CK)
  | ice (b : Nat)
def chunkTm (ks : List CK) (l : List AV) : Option Tm :=
  match ks with
  | [k] => match l with
    | [v] => tmOf k v
    | _ => none
  | ks => match tmsOf ks l with
    | some ts => some (.op .mk ts)
    | none => none
def chunksTm (ks : List CK) : Nat → List AV → Option (List Tm)
  | _, [] => some []
  | 0, _ :: _ => none
  | f + 1, v :: l => match chunkTm ks ((v :: l).take ks.length), chunksTm ks f ((v :: l).drop ks.length) with
    | some t, some r => some (t :: r)
    | _, _ => none
def AHeap.on (f : AV → AV) (H : AHeap) : AHeap := match H with | ⟨objs, next⟩ => ⟨objs.mapA (AObj.on f), next⟩
def Ice.run (nf : Tm → Tm) (x : Ice) (T : Tmps) (H : AHeap) : Option (Tmps × AHeap) :=
  match x with
  | .lift b ks => match ks, H.get b with
    | _ :: _, some (.row cells e k) => match chunksTm ks cells.length cells with
      | some ts => some (T.on (AV.lift b ks.length), (H.on (AV.lift b ks.length)).set b (.lrow ks (.op .mk ts) e k))
      | none => none
    | _, _ => none
  | .ice b => match H.get b with
    | some (.lrow _ _ _ .glob) => none
    | some (.lrow ks t e k) => some (T.on (AV.ice nf b ks t), (H.on (AV.ice nf b ks t)).kill b)
    | _ => none
def Ice.runs (nf : Tm → Tm) : List Ice → Tmps → AHeap → Option (Tmps × AHeap)
  | [], T, H => some (T, H)
  | x :: r, T, H => match x.run nf T H with
    | some (T', H') => Ice.runs nf r T' H'
    | none => none
omit [Val] in
theorem AHeap.get_on (f : AV → AV) (H : AHeap) (b : Nat) : (H.on f).get b = (H.get b).map (AObj.on f) := by
  cases H; exact Tr.get_mapA _ _ _
omit [Val] in
theorem AHeap.next_on (f : AV → AV) (H : AHeap) : (H.on f).next = H.next := by cases H; rfl
omit [Val] in
theorem tmsOf_at : ∀ {ks : List CK} {l : List AV} {ts : List Tm}, tmsOf ks l = some ts → l.length = ks.length ∧ ts.length = ks.length ∧ ∀ (j : Nat) (a : AV), l[j]? = some a → ∃ t, ts[j]? = some t ∧ tmOf (ks.getD j .bool) a = some t
  | [], [], ts, h => by cases h; exact ⟨rfl, rfl, fun j a h => by simp at h⟩
  | k :: ks, v :: vs, ts, h => by
    simp only [tmsOf] at h
    split at h
    · rename_i t ht
      split at h
      · rename_i l hl
        cases h
        obtain ⟨h1, h2, h3⟩ := tmsOf_at hl
        refine ⟨by simp [h1], by simp [h2], fun j a ha => ?_⟩
        cases j with
        | zero => simp at ha; subst ha; exact ⟨t, rfl, by simpa using ht⟩
        | succ j => obtain ⟨u, u1, u2⟩ := h3 j a (by simpa using ha); exact ⟨u, by simpa using u1, by simpa using u2⟩
      · cases h
    · cases h
  | [], _ :: _, ts, h | _ :: _, [], ts, h => by cases h
theorem dens_at : ∀ (ts : List Tm) (j : Nat), (Tm.dens ts).getD j .bad = (ts[j]?.map Tm.den).getD .bad
  | [], j => by simp [Tm.dens]
  | t :: r, 0 => by simp [Tm.dens]
  | t :: r, j + 1 => by simpa [Tm.dens] using dens_at r j
theorem dens_len : ∀ ts : List Tm, (Tm.dens ts).length = ts.length
  | [] => rfl
  | t :: r => by simp [Tm.dens, dens_len r]
theorem chunkTm_get {ks : List CK} {l : List AV} {t : Tm} (h : chunkTm ks l = some t) : l.length = ks.length ∧ ∀ (j : Nat) (a : AV), l[j]? = some a → ∃ u, tmOf (ks.getD j .bool) a = some u ∧ eltFld ks t.den j = u.den := by
  unfold chunkTm at h
  split at h
  · rename_i k
    split at h
    · rename_i v
      refine ⟨rfl, fun j a ha => ?_⟩
      cases j with
      | zero => simp at ha; subst ha; exact ⟨t, by simpa using h, rfl⟩
      | succ j => simp at ha
    · cases h
  · rename_i ks hne
    split at h
    · rename_i ts hts
      cases h
      obtain ⟨h1, h2, h3⟩ := tmsOf_at hts
      refine ⟨h1, fun j a ha => ?_⟩
      obtain ⟨u, u1, u2⟩ := h3 j a ha
      refine ⟨u, u2, ?_⟩
      have hden : (Tm.op .mk ts).den = .list (Tm.dens ts) := by simp [Tm.den, TOp.den]
      rw [hden]
      unfold eltFld
      split
      · rename_i k; exact (hne k rfl).elim
      · simp only [dens_at, u1, Option.map_some, Option.getD_some]
    · cases h
theorem chunksTm_get {ks : List CK} : ∀ {f : Nat} {l : List AV} {ts : List Tm}, chunksTm ks f l = some ts → l.length = ts.length * ks.length ∧ ∀ (i j : Nat) (a : AV), i < ts.length → j < ks.length → l[i * ks.length + j]? = some a → ∃ u, tmOf (ks.getD j .bool) a = some u ∧ eltFld ks ((Tm.dens ts).getD i .bad) j = u.den
  | f, [], ts, h => by
    have : ts = [] := by cases f <;> simpa [chunksTm, eq_comm] using h
    subst this
    exact ⟨by simp, fun i j a hi => by simp at hi⟩
  | 0, _ :: _, ts, h => by cases h
  | f + 1, v :: l, ts, h => by
    simp only [chunksTm] at h
    generalize hvl : v :: l = vl at h
    split at h
    · rename_i t r ht hr
      cases h
      obtain ⟨h1, h2⟩ := chunkTm_get ht
      obtain ⟨h3, h4⟩ := chunksTm_get hr
      have hl1 : ks.length ≤ vl.length := by rw [List.length_take] at h1; omega
      refine ⟨by rw [List.length_drop] at h3; rw [List.length_cons, Nat.add_mul, Nat.one_mul]; omega, fun i j a hi hj ha => ?_⟩
      cases i with
      | zero =>
        obtain ⟨u, u1, u2⟩ := h2 j a (by rw [List.getElem?_take_of_lt hj]; simpa using ha)
        exact ⟨u, u1, by simpa [Tm.dens] using u2⟩
      | succ i =>
        obtain ⟨u, u1, u2⟩ := h4 i j a (by simpa using hi) hj (by rw [List.getElem?_drop, ← ha]; congr 1; rw [Nat.add_mul, Nat.one_mul]; omega)
        exact ⟨u, u1, by simpa [Tm.dens] using u2⟩
    · cases h
theorem Ice.run_ok {nf : Tm → Tm} (hn : ∀ t, (nf t).den = t.den) {x : Ice} {G : Nat} {c : Ctx} {T T' : Tmps} {H H' : AHeap} (h : x.run nf T H = some (T', H')) {tm : Array Value} {w : World} (hT : TR β c T tm) (hw : WR G β H.get H.next w) :
    ∃ β', β'.at_ = β.at_ ∧ TR β' c T' tm ∧ WR G β' H'.get H'.next w ∧ Fr β H.get w β' H'.get w := by
  unfold Ice.run at h
  split at h
  · rename_i b ks
    split at h
    · rename_i k0 ks0 cells e k hb
      split at h
      · rename_i ts hts
        cases h
        obtain ⟨g1, g2⟩ := chunksTm_get hts
        generalize hks : k0 :: ks0 = ks at *
        have hne : ks ≠ [] := by rw [← hks]; simp
        have hpos : 0 < ks.length := List.length_pos_iff.2 hne
        have hf : ∀ a v, VR β a v → VR β (a.lift b ks.length) v := fun a v => VR.lift (Ext.refl β) hpos a v
        obtain ⟨p0, hp0, hr0⟩ := hw.obj b _ hb
        have hnew : ObjR β w p0 (.lrow ks (.op .mk ts) e k) := by
          have hden : (Tm.op .mk ts).den = .list (Tm.dens ts) := by simp [Tm.den, TOp.den]
          refine ⟨Tm.dens ts, hden, hne, RowR.known hr0 (by rw [expandL_len, dens_len, g1]) fun vs hvs => ?_⟩
          refine VRs_expand hden hne hvs (by rw [dens_len, g1]) fun i j x v hi hj hx hv => ?_
          rw [dens_len] at hi
          obtain ⟨u, u1, u2⟩ := g2 i j x hi hj hx
          rw [u2]
          exact tmOf_cell u1 hv
        have hget : ∀ x, ((H.on (AV.lift b ks.length)).set b (.lrow ks (.op .mk ts) e k)).get x = if x = b then some (.lrow ks (.op .mk ts) e k) else (H.get x).map (AObj.on (AV.lift b ks.length)) := by
          intro x; rw [AHeap.get_set]; simp only [AHeap.get_on]
        have hold : ∀ x o, ((H.on (AV.lift b ks.length)).set b (.lrow ks (.op .mk ts) e k)).get x = some o → ∃ o1, H.get x = some o1 ∧ o.wr = o1.wr := by
          intro x o hx
          rw [hget] at hx
          split at hx
          · rename_i ex; subst ex; cases hx; exact ⟨_, hb, by cases k <;> rfl⟩
          · rw [Option.map_eq_some_iff] at hx
            obtain ⟨o1, h1, rfl⟩ := hx
            exact ⟨o1, h1, AObj.on_wr _ _⟩
        refine ⟨β, rfl, hT.on hf, ⟨?_, hw.bound, fun x o hx => ?_, fun x y o o' p p' hx hy => ?_, hw.glob, ?_, fun z ob hz => ⟨(hw.keep z ob hz).1, fun x o p hx hwr hp => ?_⟩⟩, ?_⟩
        · rw [AHeap.next_set, AHeap.next_on]; exact hw.fresh
        · rw [hget] at hx
          split at hx
          · rename_i ex; subst ex; cases hx; exact .inl ⟨p0, hp0, hnew⟩
          · rw [Option.map_eq_some_iff] at hx
            obtain ⟨o1, h1, rfl⟩ := hx
            rcases hw.some_ _ _ h1 with ⟨p, hp, ho⟩ | ⟨hp, hlt, ho⟩
            · exact .inl ⟨p, hp, ho.on (Ext.refl β) hf⟩
            · exact .inr ⟨hp, by rw [AHeap.next_set, AHeap.next_on]; exact hlt, AObj.on_absent ho⟩
        · obtain ⟨o1, h1, -⟩ := hold _ _ hx
          obtain ⟨o2, h2, -⟩ := hold _ _ hy
          exact hw.inj _ _ _ _ _ _ h1 h2
        · rw [AHeap.next_set, AHeap.next_on]; exact hw.gn
        · obtain ⟨o1, h1, h2⟩ := hold _ _ hx
          exact (hw.keep z ob hz).2 _ _ _ h1 (h2 ▸ hwr) hp
        · refine ⟨Nat.le_refl _, fun _ _ _ => rfl, fun c ⟨x, o, p, hx, ho, hp, e⟩ _ => ?_, fun c ⟨x, o, p, hx, hp, e⟩ _ => ?_, fun _ _ h => h, fun _ _ h => .inl h, rfl, rfl, rfl⟩
          · obtain ⟨o1, h1, h2⟩ := hold _ _ hx
            exact ⟨x, o1, p, h1, h2 ▸ ho, hp, e⟩
          · obtain ⟨o1, h1, h2⟩ := hold _ _ hx
            exact ⟨x, o1, p, h1, hp, e⟩
      · cases h
    · cases h
  · rename_i b
    split at h
    · cases h
    · rename_i ks t e k hnk hb
      cases h
      have hwr : (AObj.lrow ks t e k).wr = true := by cases k <;> first | rfl | exact (hnk rfl).elim
      let Z : Nat → Option Obj := fun c => match β b with
        | some p => if c = p.c then w.heap[c]? else β.zone c
        | none => β.zone c
      let β' : Pl := ⟨β.at_, Z⟩
      have hext : Ext β β' := by
        refine ⟨fun _ _ h => h, fun c o hz => ?_⟩
        show Z c = some o
        simp only [Z]
        split
        · rename_i p hp
          split
          · exact (hw.keep c o hz).1
          · exact hz
        · exact hz
      have hobj := hw.some_ b _ hb
      have hL : ∃ L, t.den = .list L := by
        rcases hobj with ⟨p, hp, L, hL, -⟩ | ⟨-, -, ha⟩
        · exact ⟨L, hL⟩
        · cases k with
          | buf fz s => cases fz with
            | zero => exact ⟨[], ha⟩
            | succ n => exact ha.elim
          | solid => exact ha.elim
          | glob => exact ha.elim
      have hic : Iced β β' b ks t := by
        refine ⟨hext, hL, fun L p c hd hp hc => ?_⟩
        rcases hobj with ⟨p1, hp1, L1, hL1, hks, cc, lo, hi, h1, h2, h3, h4, h5⟩ | ⟨hp1, -, -⟩
        · rw [hp] at hp1; cases hp1
          rw [hd] at hL1; cases hL1
          rw [expandL_len] at h3 h4
          have hz : Z p.c = some (.cells cc e (lo, hi)) := by simp only [Z, hp, if_true]; exact h1
          have hval : ∀ i j, i < L.length → j < ks.length → ∃ v, cc[p.base + i * ks.length + j]? = some v ∧ CellR β'.zone (ks.getD j .bool) (eltFld ks (L.getD i .bad) j) v := by
            intro i j hi' hj
            obtain ⟨v, v1, v2⟩ := h4.get (expandL_get ks t hi' hj)
            rw [ofTm_iff, eltTm_den (nf := id) (fun _ => rfl), nth_den _ hd] at v2
            have hlt : i * ks.length + j < L.length * ks.length := by
              have : (i + 1) * ks.length ≤ L.length * ks.length := Nat.mul_le_mul_right _ hi'
              rw [Nat.add_mul, Nat.one_mul] at this; omega
            rw [List.getElem?_take_of_lt hlt, List.getElem?_drop, Array.getElem?_toList] at v1
            exact ⟨v, by rw [Nat.add_assoc]; exact v1, v2.mono hext.zone⟩
          refine CellR.isl (vals := fun i j => (cc[p.base + i * ks.length + j]?).getD (.bool false)) hz rfl hc hks (fun i j hi' hj => ?_) fun i j hi' hj => ?_
          · obtain ⟨v, v1, -⟩ := hval i j hi' hj
            simp [v1]
          · obtain ⟨v, v1, v2⟩ := hval i j hi' hj
            simp only [v1, Option.getD_some]; exact v2
        · rw [hp] at hp1; cases hp1
      have hf : ∀ a v, VR β a v → VR β' (a.ice nf b ks t) v := fun a v => VR.ice hn hic a v
      have hget : ∀ x, ((H.on (AV.ice nf b ks t)).kill b).get x = if x = b then none else (H.get x).map (AObj.on (AV.ice nf b ks t)) := by
        intro x; rw [AHeap.get_kill]; simp only [AHeap.get_on]
      have hold : ∀ x o, ((H.on (AV.ice nf b ks t)).kill b).get x = some o → x ≠ b ∧ ∃ o1, H.get x = some o1 ∧ o.wr = o1.wr ∧ o = o1.on (AV.ice nf b ks t) := by
        intro x o hx
        rw [hget] at hx
        split at hx
        · cases hx
        · rename_i ne
          rw [Option.map_eq_some_iff] at hx
          obtain ⟨o1, h1, rfl⟩ := hx
          exact ⟨ne, o1, h1, AObj.on_wr _ _, rfl⟩
      have hzn : ∀ c o, Z c = some o → β.zone c = some o ∨ (∃ p, β b = some p ∧ p.c = c ∧ w.heap[c]? = some o) := by
        intro c o hz
        simp only [Z] at hz
        split at hz
        · rename_i p hp
          split at hz
          · rename_i ec; exact .inr ⟨p, hp, ec.symm, hz⟩
          · exact .inl hz
        · exact .inl hz
      refine ⟨β', rfl, hT.on hf, ⟨?_, hw.bound, fun x o hx => ?_, fun x y o o' p p' hx hy => ?_, hw.glob, ?_, fun z ob hz => ⟨?_, fun x o p hx hwr' hp => ?_⟩⟩, ?_⟩
      · rw [AHeap.next_kill, AHeap.next_on]; exact hw.fresh
      · obtain ⟨-, o1, h1, -, rfl⟩ := hold _ _ hx
        rcases hw.some_ _ _ h1 with ⟨p, hp, ho⟩ | ⟨hp, hlt, ho⟩
        · exact .inl ⟨p, hp, ho.on hext hf⟩
        · exact .inr ⟨hp, by rw [AHeap.next_kill, AHeap.next_on]; exact hlt, AObj.on_absent ho⟩
      · obtain ⟨-, o1, h1, -⟩ := hold _ _ hx
        obtain ⟨-, o2, h2, -⟩ := hold _ _ hy
        exact hw.inj _ _ _ _ _ _ h1 h2
      · rw [AHeap.next_kill, AHeap.next_on]; exact hw.gn
      · rcases hzn z ob hz with h0 | ⟨-, -, -, h0⟩
        · exact (hw.keep z ob h0).1
        · exact h0
      · obtain ⟨ne, o1, h1, h2, -⟩ := hold _ _ hx
        rcases hzn z ob hz with h0 | ⟨p1, hp1, e1, -⟩
        · exact (hw.keep z ob h0).2 _ _ _ h1 (h2 ▸ hwr') hp
        · intro ec
          exact ne (hw.inj _ _ _ _ _ _ h1 hb hp hp1 (ec.trans e1.symm))
      · refine ⟨Nat.le_refl _, fun _ _ _ => rfl, fun c ⟨x, o, p, hx, ho, hp, e⟩ _ => ?_, fun c ⟨x, o, p, hx, hp, e⟩ _ => ?_, hext.zone, fun c ob hz => ?_, rfl, rfl, rfl⟩
        · obtain ⟨-, o1, h1, h2, -⟩ := hold _ _ hx
          exact ⟨x, o1, p, h1, h2 ▸ ho, hp, e⟩
        · obtain ⟨-, o1, h1, h2, -⟩ := hold _ _ hx
          exact ⟨x, o1, p, h1, hp, e⟩
        · rcases hzn c ob hz with h0 | ⟨p1, hp1, e1, -⟩
          · exact .inl h0
          · exact .inr (.inr ⟨b, _, p1, hb, hwr, hp1, e1⟩)
    · cases h
theorem Ice.runs_ok {nf : Tm → Tm} (hn : ∀ t, (nf t).den = t.den) {G : Nat} {c : Ctx} {tm : Array Value} {w : World} : ∀ {l : List Ice} {β : Pl} {T T' : Tmps} {H H' : AHeap}, Ice.runs nf l T H = some (T', H') → TR β c T tm → WR G β H.get H.next w →
    ∃ β', β'.at_ = β.at_ ∧ TR β' c T' tm ∧ WR G β' H'.get H'.next w ∧ Fr β H.get w β' H'.get w
  | [], β, T, T', H, H', h, hT, hw => by cases h; exact ⟨β, rfl, hT, hw, Fr.refl _ _ _⟩
  | x :: r, β, T, T', H, H', h, hT, hw => by
    simp only [Ice.runs] at h
    split at h
    · rename_i T1 H1 h1
      obtain ⟨β1, a1, a2, a3, a4⟩ := Ice.run_ok hn h1 hT hw
      obtain ⟨β2, b1, b2, b3, b4⟩ := Ice.runs_ok hn h a2 a3
      exact ⟨β2, b1.trans a1, b2, b3, a4.trans b4⟩
    · cases h
end
section
variable {P : Program} {G : Nat} {E : Env} {V : Val} {c : Ctx} {around : Option Nat} {k0 : Nat}
def evIce (P : Program) (E : Env) (n : Nat) (c : Ctx) (around : Option Nat) (k0 : Nat) (cd : Code) (σ : St) (z : List Ice) (s : Nat → Tm) (l : List (Nat × Nat)) (ex : AExit) (σ' : St) : Bool :=
  match (ev P E n).code c around cd σ.tmps (σ.marks.map .own) σ.heap with
  | some ⟨ex1, T1, m1, H1⟩ => match AExit.beq ex1 ex with
    | true => match Ice.runs E.nf z T1 H1 with
      | some (T2, H2) => isStateM E.nf c.glob k0 c s l T2 m1 H2 σ'
      | none => false
    | false => false
  | none => false
theorem Tri.ice (hE : @EnvOk V P G E) (hg : c.glob = G) {n : Nat} {cd : Code} {σ σ' : St} {z : List Ice} {s : Nat → Tm} {l : List (Nat × Nat)} {ex : AExit} (hk : k0 ≤ σ.next) (h : evIce P E n c around k0 cd σ z s l ex σ' = true) :
    Tri P G V c around k0 cd σ fun V' ex' σ'' => V' = V.by s ∧ ex' = ex ∧ σ'' = σ' := by
  unfold evIce at h
  split at h
  · rename_i ex1 T1 m1 H1 hev
    split at h
    · rename_i hx
      have hx := AExit.beq_eq hx
      subst hx
      split at h
      · rename_i T2 H2 hz
        refine ⟨?_⟩
        intro β a w r hs hr k
        have q := (@ev_right V P G E hE n).code hev hg hs.tr (@OwnR.marks V _ _ _ hs.mks) hs.wr hr k
        have fin : ∀ e a' w', @CodePost V G c β σ.heap w ⟨ex1, T1, m1, H1⟩ e a' w' → ∃ V' ex σ'' β', (V' = V.by s ∧ ex = ex1 ∧ σ'' = σ') ∧ e = toExit ex ∧ @Sat V' G c σ'' β' a' w' ∧ (∀ b, b < k0 → β' b = β b) ∧ Fr β σ.heap.get w β' σ''.heap.get w' := by
          rintro e a' w' ⟨rfl, β1, h1, h2, h3, h4⟩
          rw [hg] at h
          obtain ⟨n1, hn1, h⟩ := isStateM_own h
          have h2 := @MarksR.owns V β1 _ _ _ hn1 h2
          obtain ⟨β2, i1, i2, i3, i4⟩ := @Ice.runs_ok V _ hE.nf _ _ _ _ _ _ _ _ _ _ hz h1 h3
          have h2' : OwnR β2 n1 a'.defers := @OwnR.at V β1 β2 _ (fun b p hb => by show β2.at_ b = some p; rw [i1]; exact hb) _ h2
          obtain ⟨β', k1, k2, k3⟩ := isState_ok (V := V) hE.nf h i2 h2' i3
          refine ⟨_, _, _, β', ⟨rfl, rfl, rfl⟩, rfl, k1, fun b hb => ?_, ((Fr.of h4).trans i4).trans k3⟩
          rw [k2 b hb]
          show β2.at_ b = β.at_ b
          rw [i1]
          cases hp : β b with
          | some p => exact h4.ext _ _ hp
          | none => exact h4.old b (Nat.lt_of_lt_of_le hb hk) hp
        cases cd with
        | loop b => exact loopIn_mono q fin
        | _ => exact wpIn_mono q fin
      · cases h
    · cases h
  · cases h
def evRange (P : Program) (E : Env) (n : Nat) (c : Ctx) (around : Option Nat) (k0 : Nat) (f : Operand) (lc : LRef) (σ : St) (z : List Ice) (s : Nat → Tm) (l : List (Nat × Nat)) (ex : AExit) (σ' : St) : Bool :=
  match rangeA P (ev P E n) c around (aeval c σ.tmps f) lc σ.tmps (σ.marks.map .own) σ.heap with
  | some ⟨ex1, T1, m1, H1⟩ => match AExit.beq ex1 ex with
    | true => match Ice.runs E.nf z T1 H1 with
      | some (T2, H2) => isStateM E.nf c.glob k0 c s l T2 m1 H2 σ'
      | none => false
    | false => false
  | none => false
theorem Tri.rangeIce (hE : @EnvOk V P G E) (hg : c.glob = G) {n : Nat} {f : Operand} {params : Array Tmp} {assign body : Code} {lc : LRef} (hlc : @LRef.get V lc = ⟨params, assign, body⟩) {σ σ' : St} {z : List Ice} {s : Nat → Tm} {l : List (Nat × Nat)} {ex : AExit} (hk : k0 ≤ σ.next) (h : evRange P E n c around k0 f lc σ z s l ex σ' = true) :
    Tri P G V c around k0 (.rangeFunc f params assign body) σ fun V' ex' σ'' => V' = V.by s ∧ ex' = ex ∧ σ'' = σ' := by
  unfold evRange at h
  split at h
  · rename_i ex1 T1 m1 H1 hev
    split at h
    · rename_i hx
      have hx := AExit.beq_eq hx
      subst hx
      split at h
      · rename_i T2 H2 hz
        refine ⟨?_⟩
        intro β a w r hs hr k
        have q := @rangeA_run V P G β σ.heap w (Go.Tc.ev P E n) c σ.tmps (@ev_right V P G E hE n) around f params assign body lc (σ.marks.map .own) _ hlc hev hg a r hs.tr (@OwnR.marks V _ _ _ hs.mks) hs.wr hr k
        refine wpIn_mono q ?_
        rintro e a' w' ⟨rfl, β1, h1, h2, h3, h4⟩
        rw [hg] at h
        obtain ⟨n1, hn1, h⟩ := isStateM_own h
        have h2 := @MarksR.owns V β1 _ _ _ hn1 h2
        obtain ⟨β2, i1, i2, i3, i4⟩ := @Ice.runs_ok V _ hE.nf _ _ _ _ _ _ _ _ _ _ hz h1 h3
        have h2' : OwnR β2 n1 a'.defers := @OwnR.at V β1 β2 _ (fun b p hb => by show β2.at_ b = some p; rw [i1]; exact hb) _ h2
        obtain ⟨β', k1, k2, k3⟩ := isState_ok (V := V) hE.nf h i2 h2' i3
        refine ⟨_, _, _, β', ⟨rfl, rfl, rfl⟩, rfl, k1, fun b hb => ?_, ((Fr.of h4).trans i4).trans k3⟩
        rw [k2 b hb]
        show β2.at_ b = β.at_ b
        rw [i1]
        cases hp : β b with
        | some p => exact h4.ext _ _ hp
        | none => exact h4.old b (Nat.lt_of_lt_of_le hb hk) hp
      · cases h
    · cases h
  · cases h
end
end Go.Tc
namespace Go.Tc
@[reducible] def valsC (C : FuncId → List Nat → LCode) (l : List D) : Val := ⟨fun i => l.getD i .bad, C⟩
def subs (l : List Tm) (i : Nat) : Tm := l.getD i (.op .not [])
theorem by_subs (V : Val) (l : List Tm) : V.by (subs l) = valsC V.code (l.map (@Tm.den V)) := by
  unfold Val.by valsC
  congr 1
  funext i
  unfold subs
  simp only [List.getD_eq_getElem?_getD, List.getElem?_map]
  cases l[i]? with
  | none => rfl
  | some t => rfl
section
variable [V : Val]
@[simp] theorem den_int (n : Int) : (Tm.int n).den = .int n := rfl
@[simp] theorem den_bool (n : Bool) : (Tm.bool n).den = .bool n := rfl
@[simp] theorem den_str (n : BS) : (Tm.str n).den = .str n := rfl
@[simp] theorem den_v (i : Nat) : (Tm.v i).den = V.θ i := rfl
@[simp] theorem den_op (o : TOp) (l : List Tm) : (Tm.op o l).den = o.den (Tm.dens l) := rfl
@[simp] theorem dens_nil : Tm.dens [] = [] := rfl
@[simp] theorem dens_cons (t : Tm) (l : List Tm) : Tm.dens (t :: l) = t.den :: Tm.dens l := rfl
end
@[simp] theorem vals_at (C : FuncId → List Nat → LCode) (l : List D) (i : Nat) : (valsC C l).θ i = l.getD i .bad := rfl
@[simp] theorem tden_bin (op : BinOp) (k : IntKind) (a b : Int) : TOp.den (.bin op k) [.int a, .int b] = intD op k a b := rfl
@[simp] theorem tden_shift (op : BinOp) (k : IntKind) (a b : Int) : TOp.den (.shift op k) [.int a, .int b] = shiftD op k a b := rfl
@[simp] theorem tden_conv (k : IntKind) (a : Int) : TOp.den (.conv k) [.int a] = .int (k.wrap a) := rfl
@[simp] theorem tden_not (b : Bool) : TOp.den .not [.bool b] = .bool !b := rfl
@[simp] theorem tden_and (a b : Bool) : TOp.den .and [.bool a, .bool b] = .bool (a && b) := rfl
@[simp] theorem tden_sbin (op : BinOp) (a b : BS) : TOp.den (.sbin op) [.str a, .str b] = strD op a b := rfl
@[simp] theorem tden_slen (s : BS) : TOp.den .slen [.str s] = .int s.len := rfl
@[simp] theorem tden_len (l : List D) : TOp.den .len [.list l] = .int l.length := rfl
@[simp] theorem tden_nth (l : List D) (i : Int) : TOp.den .nth [.list l, .int i] = l.getD i.toNat .bad := rfl
@[simp] theorem tden_fld (j : Nat) (l : List D) : TOp.den (.fld j) [.list l] = l.getD j .bad := rfl
@[simp] theorem tden_mk (l : List D) : TOp.den .mk l = .list l := by cases l <;> rfl
@[simp] theorem tden_cat (a b : List D) : TOp.den .cat [.list a, .list b] = .list (a ++ b) := rfl
@[simp] theorem tden_sub (a : List D) (l h : Int) : TOp.den .sub [.list a, .int l, .int h] = .list ((a.take h.toNat).drop l.toNat) := rfl
@[simp] theorem tden_set (a : List D) (i : Int) (d : D) : TOp.den .set [.list a, .int i, d] = .list (a.set i.toNat d) := rfl
@[simp] theorem tden_setf (j : Nat) (a : List D) (d : D) : TOp.den (.setf j) [.list a, d] = .list (a.set j d) := rfl
@[simp] theorem tden_rep (n : Int) (d : D) : TOp.den .rep [.int n, d] = .list (List.replicate n.toNat d) := rfl
@[simp] theorem tden_sget (s : BS) (i : Int) : TOp.den .sget [.str s, .int i] = .int (s.get i.toNat) := rfl
@[simp] theorem tden_ssub (s : BS) (l h : Int) : TOp.den .ssub [.str s, .int l, .int h] = .str (s.cut l.toNat h.toNat) := rfl
@[simp] theorem tden_ite (b : Bool) (x y : D) : TOp.den .ite [.bool b, x, y] = if b then x else y := rfl
@[simp] theorem tden_bytes (s : BS) : TOp.den .bytes [.str s] = .list ((s.nats s.len).map fun (n : Nat) => .int (n : Int)) := rfl
@[simp] theorem tden_text (l : List D) : TOp.den .text [.list l] = .str (BS.ofNats (natsOfD l)) := rfl
@[simp] theorem tden_fits (a b : BS) : TOp.den .fits [.str a, .str b] = .bool (decide (a.len + b.len ≤ 2 ^ 62)) := rfl
@[simp] theorem tden_nadd (a b : Int) : TOp.den .nadd [.int a, .int b] = .int (a + b) := rfl
@[simp] theorem tden_nsub (a b : Int) : TOp.den .nsub [.int a, .int b] = .int (a - b) := rfl
@[simp] theorem tden_small (a : Int) : TOp.den .small [.int a] = .bool (decide (0 ≤ a ∧ a ≤ 2 ^ 30)) := rfl
@[simp] theorem intD_add (k : IntKind) (a b : Int) : intD .add k a b = .int (k.wrap (a + b)) := rfl
@[simp] theorem intD_sub (k : IntKind) (a b : Int) : intD .sub k a b = .int (k.wrap (a - b)) := rfl
@[simp] theorem intD_mul (k : IntKind) (a b : Int) : intD .mul k a b = .int (k.wrap (a * b)) := rfl
@[simp] theorem intD_quo (k : IntKind) (a b : Int) : intD .quo k a b = .int (k.wrap (a.tdiv b)) := rfl
@[simp] theorem intD_rem (k : IntKind) (a b : Int) : intD .rem k a b = .int (a.tmod b) := rfl
@[simp] theorem intD_eql (k : IntKind) (a b : Int) : intD .eql k a b = .bool (a == b) := rfl
@[simp] theorem intD_neq (k : IntKind) (a b : Int) : intD .neq k a b = .bool (a != b) := rfl
@[simp] theorem intD_lss (k : IntKind) (a b : Int) : intD .lss k a b = .bool (decide (a < b)) := rfl
@[simp] theorem intD_leq (k : IntKind) (a b : Int) : intD .leq k a b = .bool (decide (a ≤ b)) := rfl
@[simp] theorem intD_gtr (k : IntKind) (a b : Int) : intD .gtr k a b = .bool (decide (a > b)) := rfl
@[simp] theorem intD_geq (k : IntKind) (a b : Int) : intD .geq k a b = .bool (decide (a ≥ b)) := rfl
theorem wrap_i64 {n : Int} (h : -2 ^ 63 ≤ n ∧ n < 2 ^ 63) : IntKind.i64.wrap n = n := IntWalk.i64_in _ (by omega)
mutual
def D.tm : D → Tm
  | .int n => .int n
  | .bool b => .bool b
  | .str s => .str s
  | .list l => .op .mk (D.tms l)
  | .bad => .op .not []
def D.tms : List D → List Tm
  | [] => []
  | d :: r => d.tm :: D.tms r
end
mutual
theorem D.tm_den (V : Val) : ∀ d : D, @Tm.den V d.tm = d
  | .int _ | .bool _ | .str _ | .bad => rfl
  | .list l => by
    show TOp.den .mk (@Tm.dens V (D.tms l)) = _
    rw [D.tms_den V l, tden_mk]
theorem D.tms_den (V : Val) : ∀ l : List D, @Tm.dens V (D.tms l) = l
  | [] => rfl
  | d :: r => by
    show @Tm.den V d.tm :: @Tm.dens V (D.tms r) = _
    rw [D.tm_den V d, D.tms_den V r]
end
def AllEq [Val] : List (Tm × Tm) → Prop
  | [] => True
  | p :: r => p.1.den = p.2.den ∧ AllEq r
theorem AllEq.mem [Val] : ∀ {l : List (Tm × Tm)}, AllEq l → ∀ p ∈ l, p.1.den = p.2.den
  | p :: r, h, q, hq => by
    rcases List.mem_cons.1 hq with e | e
    · rw [e]; exact h.1
    · exact AllEq.mem h.2 q e
  | [], _, q, hq => by cases hq
def Env.tab (E : Env) (l : List (Tm × Tm)) : Env := { exts := E.exts, prim := E.prim, nf := tableNf l, kinds := E.kinds, code := E.code }
def pieceOf : Code → List Nat → Code
  | c, [] => c
  | .seq a _, 0 :: l => pieceOf a l
  | .seq _ b, 1 :: l => pieceOf b l
  | .block _ b, 2 :: l => pieceOf b l
  | .loop b, 2 :: l => pieceOf b l
  | .scope b, 2 :: l => pieceOf b l
  | .cond _ a _, 3 :: l => pieceOf a l
  | .cond _ _ b, 4 :: l => pieceOf b l
  | c, _ => c
section
variable {P : Program} {G : Nat} {E : Env} {V : Val} {c : Ctx} {around : Option Nat} {k0 : Nat}
theorem EnvOk.tab (hE : @EnvOk V P G E) {l : List (Tm × Tm)} (h : @AllEq V l) : @EnvOk V P G (E.tab l) :=
  @EnvOk.mk V P G _ hE.glob hE.mixed (@tableNf_den V l (@AllEq.mem V l h)) hE.ext hE.code hE.names hE.prim
variable {C : FuncId → List Nat → LCode} {ds : List D}
def rangeAt : Code → LCode
  | .rangeFunc _ ps a b => ⟨ps, a, b⟩
  | _ => default
def codeAt (P : Program) (f : FuncId) (p : List Nat) : LCode :=
  match (fnsOf P).get f with
  | some fn => match fn.body with
    | some cd => rangeAt (pieceOf cd p)
    | none => default
  | none => default
def Env.named (E : Env) (P : Program) : Env := { exts := E.exts, prim := E.prim, nf := E.nf, kinds := E.kinds, code := fun f p => some (codeAt P f p) }
theorem EnvOk.named (hE : @EnvOk (valsC (codeAt P) ds) P G E) : @EnvOk (valsC (codeAt P) ds) P G (E.named P) :=
  letI : Val := valsC (codeAt P) ds
  ⟨hE.glob, hE.mixed, hE.nf, hE.ext, (fun _ _ _ h => by cases h; rfl), hE.names, hE.prim⟩
theorem Tri.range (hE : @EnvOk (valsC C ds) P G E) (hg : c.glob = G) {tb : List (Tm × Tm)} (ht : @AllEq (valsC C ds) tb) {q : Operand} {cd : Code} (f : FuncId) (p : List Nat) (hcd : cd = .rangeFunc q (C f p).params (C f p).assign (C f p).body) {σ σ' : St} {z : List Ice} {ts : List Tm} {l : List (Nat × Nat)} {ex : AExit} (hk : k0 ≤ σ.next)
    (h : evRange P (E.tab tb) 100000 c around k0 q (.at_ f p) σ z (subs ts) l ex σ' = true) {Q : Val → AExit → St → Prop} (hQ : Q (valsC C (ts.map (@Tm.den (valsC C ds)))) ex σ') : Tri P G (valsC C ds) c around k0 cd σ Q := by
  subst hcd
  refine Tri.mono (Tri.rangeIce (@EnvOk.tab P G E (valsC C ds) hE tb ht) hg (lc := .at_ f p) rfl hk h) ?_
  rintro V' ex' σ'' ⟨rfl, rfl, rfl⟩
  rw [by_subs]; exact hQ
theorem stays_none : stays none k0 := fun _ h => by cases h
theorem calls_of_fact {x : Fact} (hx : @Fact.Ok V P G x) (hf : Fixed x.ahead) {β : Pl} {w : World} {vs : List Value} (hw : @WR V G β x.ahead.get x.ahead.next w) (ha : @VRs V β x.args vs) :
    Calls P x.f vs.toArray w fun e w' => ∃ β' u, e = .returned u ∧ @VR V β' x.r u ∧ w.heap.size ≤ w'.heap.size ∧ (∀ c, c < w.heap.size → w'.heap[c]? = w.heap[c]?) ∧ w'.os = w.os ∧ w'.output = w.output := by
  obtain ⟨-, h2⟩ := @Fact.Ok.run V P G x hx _ _ _ hw ha
  refine callsIn_wide.1 (CallsIn.mono (h2 0) fun e w' he => ?_)
  cases e with
  | panicked ch => exact he.elim
  | outgrown => exact he.elim
  | returned u =>
    obtain ⟨β1, k1, k2, k3⟩ := he
    exact ⟨β1, u, rfl, k1, k3.size, fun c hc => k3.kept c hc fun b o p hb ho => (by rw [hf b o hb] at ho; cases ho), k3.os, k3.out⟩
theorem Fact.use {tb : List (Tm × Tm)} (ht : @AllEq (valsC C ds) tb) {ts : List Tm} {ds' : List D} (he : ts.map (@Tm.den (valsC C ds)) = ds') {l : List (Nat × Nat)} {x y : Fact} (hx : @Fact.Ok (valsC C ds') P G x) (h : usesSo (tableNf tb) G (subs ts) l x y = true) : @Fact.Ok (valsC C ds) P G y :=
  Fact.ok_use (@tableNf_den (valsC C ds) tb (@AllEq.mem (valsC C ds) tb ht)) (s := subs ts) (by rw [by_subs, he]; exact hx) h
end
end Go.Tc
