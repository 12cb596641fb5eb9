/- States of unknown data: when one is another one. -/
import Derived.Test.YtjmjbjnbfodalaaGreatTcInst
set_option linter.unusedSimpArgs false
set_option linter.unusedVariables false
set_option linter.unusedSectionVars false
namespace Go.Tc

/-- What a state between regions is: temporaries that are kept, blocks for deferred calls, blocks, how many names have been laid. -/
structure St where
  vars : List (Nat × AV)
  loc : List (Nat × AV)
  marks : List Nat
  objs : List (Nat × AObj)
  next : Nat
def St.heap (σ : St) : AHeap := ⟨graft σ.objs .leaf, σ.next⟩
def St.tmps (σ : St) : Tmps := ⟨σ.vars, σ.loc⟩

theorem St.mem {σ : St} {b : Nat} {o : AObj} (h : σ.heap.get b = some o) : (b, o) ∈ σ.objs := by
  rcases graft_get _ _ b o h with h | h
  · exact h
  · exact nomatch (show (none : Option AObj) = some o from h)

section
variable [Val]

structure Sat (G : Nat) (c : Ctx) (σ : St) (β : Pl) (a : Act) (w : World) : Prop where
  tr : TR β c σ.tmps a.tmps
  mks : OwnR β σ.marks a.defers
  wr : WR G β σ.heap.get σ.next w

/-! ### terms in one form -/
mutual
def nrm (nf : Tm → Tm) : Tm → Tm
  | .op o l => mkT nf o (nrms nf l)
  | t => nf t
def nrms (nf : Tm → Tm) : List Tm → List Tm
  | [] => []
  | t :: r => nrm nf t :: nrms nf r
end
mutual
theorem nrm_den {nf : Tm → Tm} (hn : ∀ t, (nf t).den = t.den) : ∀ t, (nrm nf t).den = t.den
  | .op o l => by
    show (mkT nf o (nrms nf l)).den = o.den (Tm.dens l)
    rw [mkT_den hn, nrms_den hn l]
  | .int _ => hn _
  | .bool _ => hn _
  | .str _ => hn _
  | .v _ => hn _
theorem nrms_den {nf : Tm → Tm} (hn : ∀ t, (nf t).den = t.den) : ∀ l, Tm.dens (nrms nf l) = Tm.dens l
  | [] => rfl
  | t :: r => by
    show (nrm nf t).den :: Tm.dens (nrms nf r) = t.den :: Tm.dens r
    rw [nrm_den hn t, nrms_den hn r]
end
def eqT (nf : Tm → Tm) (a b : Tm) : Bool :=
  match Tm.beq a b with
  | true => true
  | false => Tm.beq (nrm nf a) (nrm nf b)
theorem eqT_den {nf : Tm → Tm} (hn : ∀ t, (nf t).den = t.den) {a b : Tm} (h : eqT nf a b = true) : a.den = b.den := by
  unfold eqT at h
  split at h
  · rename_i e; rw [Tm.beq_eq a b e]
  · rw [← nrm_den hn a, ← nrm_den hn b, Tm.beq_eq _ _ h]

/-! ### values -/
def isNat (t : Tm) : Bool :=
  match t with
  | .int (.ofNat _) => true
  | _ => false
def isZero (t : Tm) : Bool :=
  match t with
  | .int 0 => true
  | _ => false
mutual
def matchV (nf : Tm → Tm) : AV → AV → Bool
  | a, .sy ck t => match tmOf ck a with
    | some t' => eqT nf t' t
    | none => false
  | .lsl b es lo n cm, .lsl b' es' lo' n' cm' => b.beq b' && es.beq es' && eqT nf lo lo' && eqT nf n n' && (match cm' with | .rd => true | _ => LCap.beq cm cm')
  | .nilSlice, .lsl _ _ lo' n' _ => isNat (nrm nf lo') && isZero (nrm nf n')
  | .agg l, .agg m => matchVs nf l m
  | .tuple l, .tuple m => matchVs nf l m
  | .fn f x y, .fn g u v => decide (f = g) && matchVs nf x u && matchVs nf y v
  | .iface t v, .iface u x => t.beq u && matchV nf v x
  | a, p => AV.beq a p
def matchVs (nf : Tm → Tm) : List AV → List AV → Bool
  | [], [] => true
  | a :: r, p :: s => matchV nf a p && matchVs nf r s
  | _, _ => false
end

variable {β : Pl}
mutual
theorem matchV_VR {nf : Tm → Tm} (hn : ∀ t, (nf t).den = t.den) : ∀ (p a : AV) (v : Value), matchV nf a p = true → VR β a v → VR β p v
  | .sy ck t, a, v, h, hv => by
    unfold matchV at h
    split at h
    · rename_i t' ht
      have := tmOf_cell ht hv
      rw [eqT_den hn h] at this
      exact .sy this
    · cases h
  | .lsl b' es' lo' n' cm', a, v, h, hv => by
    cases a <;> first
      | (simp [matchV, AV.beq] at h; done)
      | skip
    · simp only [matchV, Bool.and_eq_true] at h
      cases hv
      have h2 : n'.den = .int 0 := by
        rw [← nrm_den hn n']
        have := h.2
        unfold isZero at this
        split at this
        · rename_i e; rw [e]; rfl
        · cases this
      have h1 : ∃ l : Nat, lo'.den = .int (l : Int) := by
        rw [← nrm_den hn lo']
        have := h.1
        unfold isNat at this
        split at this
        · rename_i m e; exact ⟨m, by rw [e]; rfl⟩
        · cases this
      obtain ⟨l, h1⟩ := h1
      exact .lsl0 h1 h2
    · simp only [matchV, Bool.and_eq_true] at h
      obtain ⟨⟨⟨⟨h1, h2⟩, h3⟩, h4⟩, h5⟩ := h
      have e1 := Nat.eq_of_beq_eq_true h1
      have e2 := Nat.eq_of_beq_eq_true h2
      have e3 := eqT_den hn h3
      have e4 := eqT_den hn h4
      subst e1 e2
      split at h5
      · cases hv with
        | lsl hl hn' hp hc hle => exact .lsl (by rw [← e3]; exact hl) (by rw [← e4]; exact hn') hp trivial hle
        | lsl0 hl hn' => exact .lsl0 (by rw [← e3]; exact hl) (by rw [← e4]; exact hn')
        | lslE a c hl hn' hc => exact .lslE a c (by rw [← e3]; exact hl) (by rw [← e4]; exact hn') (.inr rfl)
      · have e5 := LCap.beq_eq _ _ h5
        subst e5
        cases hv with
        | lsl hl hn' hp hc hle => exact .lsl (by rw [← e3]; exact hl) (by rw [← e4]; exact hn') hp hc hle
        | lsl0 hl hn' => exact .lsl0 (by rw [← e3]; exact hl) (by rw [← e4]; exact hn')
        | lslE a c hl hn' hc => exact .lslE a c (by rw [← e3]; exact hl) (by rw [← e4]; exact hn') hc
  | .agg m, a, v, h, hv => by
    cases a <;> first
      | (simp [matchV, AV.beq] at h; done)
      | skip
    simp only [matchV] at h
    cases hv with | agg hv => exact .agg (matchVs_VRs hn m _ _ h hv)
  | .tuple m, a, v, h, hv => by
    cases a <;> first
      | (simp [matchV, AV.beq] at h; done)
      | skip
    simp only [matchV] at h
    cases hv with | tuple hv => exact .tuple (matchVs_VRs hn m _ _ h hv)
  | .fn g u x, a, v, h, hv => by
    cases a <;> first
      | (simp [matchV, AV.beq] at h; done)
      | skip
    simp only [matchV, Bool.and_eq_true, decide_eq_true_eq] at h
    obtain ⟨⟨rfl, h2⟩, h3⟩ := h
    cases hv with | fn hf ha hc => exact .fn hf (matchVs_VRs hn u _ _ h2 ha) (matchVs_VRs hn x _ _ h3 hc)
  | .iface t x, a, v, h, hv => by
    cases a <;> first
      | (simp [matchV, AV.beq] at h; done)
      | skip
    simp only [matchV, Bool.and_eq_true] at h
    have e := Nat.eq_of_beq_eq_true h.1
    subst e
    cases hv with | iface _ hv => exact .iface _ (matchV_VR hn x _ _ h.2 hv)
  | .bool _, a, v, h, hv | .int _ _, a, v, h, hv | .str _, a, v, h, hv | .nilPtr, a, v, h, hv | .ptr _ _, a, v, h, hv | .nilSlice, a, v, h, hv | .slice _ _ _ _, a, v, h, hv | .nilMap, a, v, h, hv | .map _, a, v, h, hv | .nilFn, a, v, h, hv
  | .nilIface, a, v, h, hv | .junk, a, v, h, hv | .esl, a, v, h, hv | .rng _ _ _, a, v, h, hv | .strU _, a, v, h, hv | .boolU, a, v, h, hv | .eptr _ _ _ _, a, v, h, hv | .iptr _ _ _ _, a, v, h, hv => by
    have e := AV.beq_eq a _ (by cases a <;> exact h)
    rw [← e]; exact hv
theorem matchVs_VRs {nf : Tm → Tm} (hn : ∀ t, (nf t).den = t.den) : ∀ (m l : List AV) (vs : List Value), matchVs nf l m = true → VRs β l vs → VRs β m vs
  | [], l, vs, h, hv => by
    cases l with
    | nil => exact hv
    | cons => cases h
  | p :: m, l, vs, h, hv => by
    cases l with
    | nil => cases h
    | cons a l =>
      simp only [matchVs, Bool.and_eq_true] at h
      cases hv with | cons hx hs => exact .cons (matchV_VR hn p a _ h.1 hx) (matchVs_VRs hn m l _ h.2 hs)
end
theorem matchVs_len {nf : Tm → Tm} : ∀ (l m : List AV), matchVs nf l m = true → l.length = m.length
  | [], [], _ => rfl
  | a :: l, p :: m, h => by
    simp only [matchVs, Bool.and_eq_true] at h
    simp [matchVs_len l m h.2]
  | [], _ :: _, h | _ :: _, [], h => by cases h

/-! ### blocks -/
def matchEs (nf : Tm → Tm) : List AEnt → List AEnt → Bool
  | [], [] => true
  | a :: l, b :: m => matchV nf a.key b.key && matchV nf a.val b.val && a.born.beq b.born && matchEs nf l m
  | _, _ => false
def tmpsOk (nf : Tm → Tm) (c : Ctx) (T : Tmps) : List (Nat × AV) → Bool
  | [] => true
  | (t, p) :: r => match T.get c t with
    | some a => matchV nf a p && tmpsOk nf c T r
    | none => false
def matchL (nf : Tm → Tm) : ALoop → ALoop → Bool
  | ⟨s, p, c, T, r, d⟩, ⟨s', p', c', ⟨v', l'⟩, r', d'⟩ => decide (s = s') && pendBeq p p' && Ctx.beq c c' && tmpsOk nf c T v' && tmpsOk nf c T l' && LRef.beq r r' && d.beq d'
def isNone (t : Tm) : Bool :=
  match t with
  | .op .mk [] => true
  | _ => false
def matchO (nf : Tm → Tm) (o p : AObj) : Bool :=
  match o, p with
  | .row c e k, .row c' e' k' => matchVs nf c c' && e.beq e' && decide (k = k')
  | .lrow ks t e k, .lrow ks' t' e' k' => CK.beqs ks ks' && eqT nf t t' && e.beq e' && decide (k = k')
  | .map es c, .map es' c' => matchEs nf es es' && c.beq c'
  | .lmap k v t, .lmap k' v' t' => CK.beq k k' && CK.beq v v' && eqT nf t t'
  | .map [] 0, .lmap _ _ t => isNone (nrm nf t)
  | .dfr a, .dfr b => a == b
  | .loop a, .loop b => matchL nf a b
  | _, _ => false

theorem matchEs_R {nf : Tm → Tm} (hn : ∀ t, (nf t).den = t.den) : ∀ (l m : List AEnt) (ms : List MapEntry), matchEs nf l m = true → EntsR β l ms → EntsR β m ms
  | [], [], ms, _, h => h
  | a :: l, b :: m, ms, h, hv => by
    simp only [matchEs, Bool.and_eq_true] at h
    obtain ⟨⟨⟨h1, h2⟩, h3⟩, h4⟩ := h
    cases hv with
    | cons hk hx hb hs => exact .cons (matchV_VR hn _ _ _ h1 hk) (matchV_VR hn _ _ _ h2 hx) ((Nat.eq_of_beq_eq_true h3).symm.trans hb) (matchEs_R hn l m _ h4 hs)
  | [], _ :: _, _, h, _ | _ :: _, [], _, h, _ => by cases h

omit [Val] in
theorem assoc_mem {l : List (Nat × AV)} {t : Nat} {a : AV} (h : assoc l t = some a) : (t, a) ∈ l := by
  induction l with
  | nil => cases h
  | cons p r ih =>
    obtain ⟨x, y⟩ := p
    simp only [assoc, Bool.cond_eq_ite, Nat.beq_eq] at h
    split at h
    · rename_i e; cases h; subst e; simp
    · simp [ih h]
omit [Val] in
theorem tmpsOk_get {nf : Tm → Tm} {c : Ctx} {T : Tmps} : ∀ {l : List (Nat × AV)}, tmpsOk nf c T l = true → ∀ t p, (t, p) ∈ l → ∃ a, T.get c t = some a ∧ matchV nf a p = true
  | (t, p) :: r, h, t', p', hm => by
    simp only [tmpsOk] at h
    split at h
    · rename_i a ha
      simp only [Bool.and_eq_true] at h
      rcases List.mem_cons.1 hm with e | e
      · cases e; exact ⟨a, ha, h.1⟩
      · exact tmpsOk_get h.2 t' p' e
    · cases h
theorem matchO_R {nf : Tm → Tm} (hn : ∀ t, (nf t).den = t.den) {w : World} {q : Place} {o p : AObj} (h : matchO nf o p = true) (ho : ObjR β w q o) : ObjR β w q p := by
  unfold matchO at h
  split at h
  · rename_i c e k c' e' k'
    simp only [Bool.and_eq_true, decide_eq_true_eq] at h
    obtain ⟨⟨h1, h2⟩, rfl⟩ := h
    have e2 := Nat.eq_of_beq_eq_true h2
    subst e2
    have hl := matchVs_len _ _ h1
    exact RowR.known ho hl.symm fun vs h => matchVs_VRs hn _ _ _ h1 h
  · rename_i ks t e k ks' t' e' k'
    simp only [Bool.and_eq_true, decide_eq_true_eq] at h
    obtain ⟨⟨⟨h1, h2⟩, h3⟩, rfl⟩ := h
    have e1 := CK.beqs_eq _ _ h1
    have e2 := eqT_den hn h2
    have e3 := Nat.eq_of_beq_eq_true h3
    subst e1 e3
    obtain ⟨L, hL, hks, hr⟩ := ho
    exact ⟨L, by rw [← e2]; exact hL, hks, hr.known (by rw [expandL_len, expandL_len]) fun vs h => expandL_congr e2 h⟩
  · rename_i es c es' c'
    simp only [Bool.and_eq_true] at h
    have e := Nat.eq_of_beq_eq_true h.2
    subst e
    obtain ⟨ces, h1, h2⟩ := ho
    exact ⟨ces, h1, matchEs_R hn _ _ _ h.1 h2⟩
  · rename_i k v t k' v' t'
    simp only [Bool.and_eq_true] at h
    obtain ⟨⟨h1, h2⟩, h3⟩ := h
    have e1 := CK.beq_eq _ _ h1
    have e2 := CK.beq_eq _ _ h2
    have e3 := eqT_den hn h3
    subst e1 e2
    obtain ⟨L, ces, g0, g1, g2⟩ := ho
    exact ⟨L, ces, by rw [← e3]; exact g0, g1, g2⟩
  · rename_i k v t
    obtain ⟨ces, h1, h2⟩ := ho
    refine ⟨[], ces, ?_, h1, ?_⟩
    · rw [← nrm_den hn t]
      unfold isNone at h
      split at h
      · rename_i e; rw [e]; rfl
      · cases h
    · generalize ces.toList = ms at h2
      cases h2
      exact .nil 0
  · rename_i a b
    simp only [beq_iff_eq] at h
    subst h; exact ho
  · rename_i a b
    obtain ⟨s, pd, c, T, r, d⟩ := a
    obtain ⟨s', pd', c', ⟨v', l'⟩, r', d'⟩ := b
    simp only [matchL, Bool.and_eq_true, decide_eq_true_eq] at h
    obtain ⟨⟨⟨⟨⟨⟨rfl, h2⟩, h3⟩, h4⟩, h5⟩, h6⟩, h7⟩ := h
    have e2 := pendBeq_eq h2
    have e3 := Ctx.beq_eq h3
    have e6 := LRef.beq_eq h6
    have e7 := Nat.eq_of_beq_eq_true h7
    subst e2 e3 e6 e7
    obtain ⟨cl, g1, g2, g3, g4, g5, g6, g7, g8⟩ := ho
    refine ⟨cl, g1, g2, g3, ⟨g4.1, fun t a ht => ?_⟩, g5, g6, g7, g8⟩
    have : ∃ a1, T.get c t = some a1 ∧ matchV nf a1 a = true := by
      have ht : (Tmps.mk v' l').get c t = some a := ht
      simp only [Tmps.get] at ht
      cases hmt : c.mask.testBit t
      · rw [hmt] at ht; exact tmpsOk_get h5 t a (assoc_mem ht)
      · rw [hmt] at ht; exact tmpsOk_get h4 t a (assoc_mem ht)
    obtain ⟨a1, q1, q2⟩ := this
    obtain ⟨v, v1, v2⟩ := g4.2 t a1 q1
    exact ⟨v, v1, matchV_VR hn _ _ _ q2 v2⟩
  · cases h
omit [Val] in
theorem matchO_wr {nf : Tm → Tm} {o p : AObj} (h : matchO nf o p = true) : p.wr = o.wr := by
  unfold matchO at h
  split at h
  · simp only [Bool.and_eq_true, decide_eq_true_eq] at h
    obtain ⟨-, rfl⟩ := h
    cases ‹RK› <;> rfl
  · simp only [Bool.and_eq_true, decide_eq_true_eq] at h
    obtain ⟨-, rfl⟩ := h
    cases ‹RK› <;> rfl
  · rfl
  · rfl
  · rfl
  · rfl
  · rfl
  · cases h
theorem matchO_absent {nf : Tm → Tm} (hn : ∀ t, (nf t).den = t.den) {o p : AObj} (h : matchO nf o p = true) (ho : o.absent) : p.absent := by
  unfold matchO at h
  split at h
  · exact ho
  · rename_i ks t e k ks' t' e' k'
    simp only [Bool.and_eq_true, decide_eq_true_eq] at h
    obtain ⟨⟨⟨h1, h2⟩, h3⟩, rfl⟩ := h
    have e2 := eqT_den hn h2
    cases k with
    | buf fz sish => cases fz with
      | zero => show t'.den = .list []; rw [← e2]; exact ho
      | succ n => exact ho
    | _ => exact ho
  · exact ho
  · exact ho
  · exact ho.elim
  · exact ho
  · exact ho
  · cases h

/-! ### one state is another one -/
/-- a block that lies nowhere. -/
def noWhere (nf : Tm → Tm) : AObj → Bool
  | .lrow _ t _ (.buf 0 _) => isNone (nrm nf t)
  | _ => false
theorem noWhere_absent {nf : Tm → Tm} (hn : ∀ t, (nf t).den = t.den) {o : AObj} (h : noWhere nf o = true) : o.absent := by
  unfold noWhere at h
  split at h
  · rename_i t e sish
    show t.den = .list []
    rw [← nrm_den hn t]
    unfold isNone at h
    split at h
    · rename_i e; rw [e]; rfl
    · cases h
  · cases h

def asN : List (Nat × Nat) → Nat → Option Nat
  | [], _ => none
  | p :: r, t => bif p.1.beq t then some p.2 else asN r t
omit [Val] in
theorem asN_key {l : List (Nat × Nat)} {x y : Nat} (h : asN l x = some y) : (x, y) ∈ l := by
  induction l with
  | nil => cases h
  | cons p r ih =>
    obtain ⟨a, b⟩ := p
    simp only [asN, Bool.cond_eq_ite, Nat.beq_eq] at h
    split at h
    · rename_i e; cases h; subst e; simp
    · simp [ih h]
/-- names: those below k0 stay, the others as the list says; what isn't there is beyond all. -/
def renOf (l : List (Nat × Nat)) (k0 next top b : Nat) : Nat :=
  match b.blt k0 with
  | true => b
  | false => match asN l b with
    | some b' => b'
    | none => next + top + b

def inList : List Nat → Nat → Bool
  | [], _ => false
  | a :: r, x => bif a.beq x then true else inList r x
def nodupB : List Nat → Bool
  | [] => true
  | a :: r => !inList r a && nodupB r

def varsOk (nf : Tm → Tm) (c : Ctx) (s : Nat → Tm) (ρ : Nat → Nat) (T : Tmps) : List (Nat × AV) → Bool
  | [] => true
  | (t, p) :: r => match T.get c t with
    | some a => matchV nf a (p.inst s ρ) && varsOk nf c s ρ T r
    | none => false
def marksOk (ρ : Nat → Nat) : List Nat → List Nat → Bool
  | [], [] => true
  | a :: r, b :: s => a.beq (ρ b) && marksOk ρ r s
  | _, _ => false
def objsOk (nf : Tm → Tm) (s : Nat → Tm) (ρ : Nat → Nat) (H : AHeap) (top : Nat) : List (Nat × AObj) → Bool
  | [] => true
  | (b, p) :: r => p.able && b.blt top && (match H.get (ρ b) with
    | some o => matchO nf o (p.inst s ρ)
    | none => H.next.ble (ρ b) && noWhere nf (p.inst s ρ)) && objsOk nf s ρ H top r
def keysOk (k0 top : Nat) : List (Nat × Nat) → Bool
  | [] => true
  | (a, _) :: r => k0.ble a && a.blt top && keysOk k0 top r

/-- is a state another one, with other names, and other data for the unknown? -/
def isState (nf : Tm → Tm) (G k0 : Nat) (c : Ctx) (s : Nat → Tm) (l : List (Nat × Nat)) (T : Tmps) (m : List Nat) (H : AHeap) (σ : St) : Bool :=
  match H with
  | ⟨objs, next⟩ =>
    match G.ble k0 && k0.ble σ.next && k0.ble next && keysOk k0 σ.next l with
    | true => varsOk nf c s (renOf l k0 next σ.next) T σ.vars && varsOk nf c s (renOf l k0 next σ.next) T σ.loc && marksOk (renOf l k0 next σ.next) m σ.marks && objsOk nf s (renOf l k0 next σ.next) ⟨objs, next⟩ σ.next σ.objs && nodupB (σ.objs.map fun p => renOf l k0 next σ.next p.1)
    | false => false

/-- the same, of what waits for the function to be left: blocks alone. -/
def isStateM (nf : Tm → Tm) (G k0 : Nat) (c : Ctx) (s : Nat → Tm) (l : List (Nat × Nat)) (T : Tmps) (m : List Mark) (H : AHeap) (σ : St) : Bool :=
  match ownsOf m with
  | some n => isState nf G k0 c s l T n H σ
  | none => false
omit [Val] in
theorem isStateM_own {nf : Tm → Tm} {G k0 : Nat} {c : Ctx} {s : Nat → Tm} {l : List (Nat × Nat)} {T : Tmps} {m : List Mark} {H : AHeap} {σ : St} (h : isStateM nf G k0 c s l T m H σ = true) : ∃ n, ownsOf m = some n ∧ isState nf G k0 c s l T n H σ = true := by
  unfold isStateM at h
  split at h
  · rename_i n hn; exact ⟨n, hn, h⟩
  · cases h

theorem varsOk_get {nf : Tm → Tm} {c : Ctx} {s : Nat → Tm} {ρ : Nat → Nat} {T : Tmps} : ∀ {l : List (Nat × AV)}, varsOk nf c s ρ T l = true → ∀ t p, (t, p) ∈ l → ∃ a, T.get c t = some a ∧ matchV nf a (p.inst s ρ) = true
  | (t, p) :: r, h, t', p', hm => by
    simp only [varsOk] at h
    split at h
    · rename_i a ha
      simp only [Bool.and_eq_true] at h
      rcases List.mem_cons.1 hm with e | e
      · cases e; exact ⟨a, ha, h.1⟩
      · exact varsOk_get h.2 t' p' e
    · cases h
theorem objsOk_get {nf : Tm → Tm} {s : Nat → Tm} {ρ : Nat → Nat} {H : AHeap} {top : Nat} : ∀ {l : List (Nat × AObj)}, objsOk nf s ρ H top l = true → ∀ b p, (b, p) ∈ l → p.able = true ∧ b < top ∧ ((∃ o, H.get (ρ b) = some o ∧ matchO nf o (p.inst s ρ) = true) ∨ (H.get (ρ b) = none ∧ H.next ≤ ρ b ∧ noWhere nf (p.inst s ρ) = true))
  | (b, p) :: r, h, b', p', hm => by
    simp only [objsOk, Bool.and_eq_true] at h
    obtain ⟨⟨⟨h1, h2⟩, h3⟩, h4⟩ := h
    rcases List.mem_cons.1 hm with e | e
    · cases e
      refine ⟨h1, by simpa [Nat.blt_eq] using h2, ?_⟩
      split at h3
      · rename_i o ho; exact .inl ⟨o, ho, h3⟩
      · rename_i ho
        simp only [Bool.and_eq_true] at h3
        exact .inr ⟨ho, Nat.le_of_ble_eq_true h3.1, h3.2⟩
    · exact objsOk_get h4 b' p' e
theorem marksOk_R {ρ : Nat → Nat} : ∀ {m n : List Nat} {ds : List Deferred}, marksOk ρ m n = true → OwnR β m ds → OwnR (β.pull ρ) n ds
  | [], [], ds, _, h => by cases ds with | nil => trivial | cons => exact h.elim
  | a :: m, b :: n, ds, h, hm => by
    cases ds with
    | nil => exact hm.elim
    | cons d ds =>
      simp only [marksOk, Bool.and_eq_true] at h
      have e := Nat.eq_of_beq_eq_true h.1
      subst e
      obtain ⟨⟨p, h1, h2⟩, h3⟩ := hm
      exact ⟨⟨p, h1, h2⟩, marksOk_R h.2 h3⟩
  | [], _ :: _, _, h, _ | _ :: _, [], _, h, _ => by cases h
omit [Val] in
theorem inList_iff : ∀ {l : List Nat} {x : Nat}, inList l x = true ↔ x ∈ l
  | [], x => by simp [inList]
  | a :: r, x => by
    simp only [inList, Bool.cond_eq_ite, Nat.beq_eq]
    split
    · rename_i e; simp [e]
    · rename_i e
      rw [inList_iff, List.mem_cons]
      exact ⟨.inr, fun h => h.resolve_left fun h => e h.symm⟩
omit [Val] in
theorem nodupB_inj {f : Nat → Nat} : ∀ {l : List (Nat × AObj)}, nodupB (l.map fun p => f p.1) = true → ∀ {a b : Nat} {o o' : AObj}, (a, o) ∈ l → (b, o') ∈ l → f a = f b → a = b
  | [], _, a, b, o, o', h, _, _ => by cases h
  | (c, q) :: r, h, a, b, o, o', ha, hb, e => by
    simp only [List.map_cons, nodupB, Bool.and_eq_true, Bool.not_eq_true'] at h
    have hno : ∀ x ox, (x, ox) ∈ r → f c ≠ f x := by
      intro x ox hx e
      have : inList (r.map fun p => f p.1) (f c) = true := inList_iff.2 (by rw [e]; exact List.mem_map.2 ⟨(x, ox), hx, rfl⟩)
      rw [this] at h; cases h.1
    rcases List.mem_cons.1 ha with ea | ea <;> rcases List.mem_cons.1 hb with eb | eb
    · cases ea; cases eb; rfl
    · cases ea; exact (hno b o' eb e).elim
    · cases eb; exact (hno a o ea e.symm).elim
    · exact nodupB_inj h.2 ea eb e
omit [Val] in
theorem keysOk_get : ∀ {l : List (Nat × Nat)} {k0 top : Nat}, keysOk k0 top l = true → ∀ a b, (a, b) ∈ l → k0 ≤ a ∧ a < top
  | (x, y) :: r, k0, top, h, a, b, hm => by
    simp only [keysOk, Bool.and_eq_true] at h
    obtain ⟨⟨h1, h2⟩, h3⟩ := h
    rcases List.mem_cons.1 hm with e | e
    · cases e; exact ⟨Nat.le_of_ble_eq_true h1, by simpa [Nat.blt_eq] using h2⟩
    · exact keysOk_get h3 a b e

/-! ### what a run may have done, told without names -/
def Wrs (β : Pl) (g : Nat → Option AObj) (c : Nat) : Prop := ∃ b o p, g b = some o ∧ o.wr = true ∧ β b = some p ∧ p.c = c
def Alls (β : Pl) (g : Nat → Option AObj) (c : Nat) : Prop := ∃ b o p, g b = some o ∧ β b = some p ∧ p.c = c
structure Fr (β : Pl) (g : Nat → Option AObj) (w : World) (β' : Pl) (g' : Nat → Option AObj) (w' : World) : Prop where
  size : w.heap.size ≤ w'.heap.size
  kept : ∀ c, c < w.heap.size → ¬ Wrs β g c → w'.heap[c]? = w.heap[c]?
  newW : ∀ c, Wrs β' g' c → c < w.heap.size → Wrs β g c
  newA : ∀ c, Alls β' g' c → c < w.heap.size → Alls β g c
  zone : ∀ c o, β.zone c = some o → β'.zone c = some o
  zn : ∀ c x, β'.zone c = some x → β.zone c = some x ∨ w.heap.size ≤ c ∨ Wrs β g c
  os : w'.os = w.os
  out : w'.output = w.output
  tape : w'.tape = w.tape
theorem Fr.trans {β β' β'' : Pl} {g g' g'' : Nat → Option AObj} {w w' w'' : World} (h : Fr β g w β' g' w') (k : Fr β' g' w' β'' g'' w'') : Fr β g w β'' g'' w'' := by
  refine ⟨Nat.le_trans h.size k.size, fun c hc hno => ?_, fun c hc hlt => h.newW c (k.newW c hc (Nat.lt_of_lt_of_le hlt h.size)) hlt, fun c hc hlt => h.newA c (k.newA c hc (Nat.lt_of_lt_of_le hlt h.size)) hlt, fun c o ho => k.zone c o (h.zone c o ho), fun c x hx => ?_, k.os.trans h.os, k.out.trans h.out, k.tape.trans h.tape⟩
  · rw [k.kept c (Nat.lt_of_lt_of_le hc h.size) fun hw => hno (h.newW c hw hc), h.kept c hc hno]
  · rcases k.zn c x hx with h0 | h0 | h0
    · exact h.zn c x h0
    · exact .inr (.inl (Nat.le_trans h.size h0))
    · by_cases hlt : c < w.heap.size
      · exact .inr (.inr (h.newW c h0 hlt))
      · exact .inr (.inl (by omega))
theorem Fr.of {β β' : Pl} {g g' : Nat → Option AObj} {n n' : Nat} {w w' : World} (t : Tran β g n w β' g' n' w') : Fr β g w β' g' w' := by
  refine ⟨t.size, fun c hc hno => t.kept c hc fun b o p hb ho hp e => hno ⟨b, o, p, hb, ho, hp, e⟩, fun c ⟨b, o, p, hb, ho, hp, e⟩ hlt => ?_, fun c ⟨b, o, p, hb, hp, e⟩ hlt => ?_, t.ext.zone, t.zn, t.os, t.out, t.tape⟩
  · obtain ⟨b0, o0, p0, q1, q2, q3, q4⟩ := t.new b o p hb hp (by omega)
    exact ⟨b0, o0, p0, q1, q2 ho, q3, q4.trans e⟩
  · obtain ⟨b0, o0, p0, q1, q2, q3, q4⟩ := t.new b o p hb hp (by omega)
    exact ⟨b0, o0, p0, q1, q3, q4.trans e⟩

omit [Val] in
/-- **One state is another one.** -/
theorem isState_ok {V : Val} {nf : Tm → Tm} (hn : ∀ t, @Tm.den V (nf t) = @Tm.den V t) {G k0 : Nat} {c : Ctx} {s : Nat → Tm} {l : List (Nat × Nat)} {T : Tmps} {m : List Nat} {H : AHeap} {σ : St} (h : isState nf G k0 c s l T m H σ = true) {a : Act} {w : World}
    (hT : @TR V β c T a.tmps) (hm : OwnR β m a.defers) (hw : @WR V G β H.get H.next w) :
    ∃ β', @Sat (V.by s) G c σ β' a w ∧ (∀ b, b < k0 → β' b = β b) ∧ Fr β H.get w β' σ.heap.get w := by
  obtain ⟨objs, next⟩ := H
  simp only [isState] at h
  split at h
  · rename_i h0
    simp only [Bool.and_eq_true] at h0 h
    obtain ⟨⟨⟨g1, g2⟩, g3⟩, g4⟩ := h0
    obtain ⟨⟨⟨⟨c1, c0⟩, c2⟩, c3⟩, c4⟩ := h
    have g1 := Nat.le_of_ble_eq_true g1
    have g2 := Nat.le_of_ble_eq_true g2
    have g3 := Nat.le_of_ble_eq_true g3
    generalize hρ : renOf l k0 next σ.next = ρ at c1 c0 c2 c3 c4
    have low : ∀ b, b < k0 → ρ b = b := by
      intro b hb
      rw [← hρ]; unfold renOf
      rw [show b.blt k0 = true from by simpa [Nat.blt_eq] using hb]
    have high : ∀ b, σ.next ≤ b → next ≤ ρ b := by
      intro b hb
      rw [← hρ]; unfold renOf
      have : b.blt k0 = false := by rw [← Bool.not_eq_true, Nat.blt_eq]; omega
      rw [this]
      cases hk : asN l b with
      | some b' => have := keysOk_get g4 _ _ (asN_key hk); omega
      | none => simp only; omega
    have hfresh : ∀ b, next ≤ b → β b = none := hw.fresh
    have hobj : ∀ b o, σ.heap.get b = some o → o.able = true ∧ b < σ.next ∧ ((∃ p, β (ρ b) = some p ∧ @ObjR V β w p (o.inst s ρ)) ∨ (β (ρ b) = none ∧ @AObj.absent V (o.inst s ρ))) ∧ (∀ p, β (ρ b) = some p → ∃ o1, (AHeap.mk objs next).get (ρ b) = some o1 ∧ o1.wr = o.wr) := by
      intro b o hb
      obtain ⟨q1, q2, q3⟩ := objsOk_get c3 b o (St.mem hb)
      refine ⟨q1, q2, ?_, ?_⟩
      · rcases q3 with ⟨o1, r1, r2⟩ | ⟨-, r2, r3⟩
        · rcases hw.some_ _ _ r1 with ⟨p, hp, ho⟩ | ⟨hp, -, ho⟩
          · exact .inl ⟨p, hp, @matchO_R V _ _ hn _ _ _ _ r2 ho⟩
          · exact .inr ⟨hp, @matchO_absent V _ hn _ _ r2 ho⟩
        · exact .inr ⟨hfresh _ r2, @noWhere_absent V _ hn _ r3⟩
      · intro p hp
        rcases q3 with ⟨o1, r1, r2⟩ | ⟨-, r2, -⟩
        · exact ⟨o1, r1, by rw [← matchO_wr r2, AObj.inst_wr]⟩
        · rw [hfresh _ r2] at hp; cases hp
    refine ⟨β.pull ρ, @Sat.mk (V.by s) _ _ _ _ _ _ ⟨hT.1, fun t a0 ht => ?_⟩ (marksOk_R c2 hm) ?_, fun b hb => by show β (ρ b) = β b; rw [low b hb], ?_⟩
    · have hassoc : ∀ (l : List (Nat × AV)), assoc l t = some a0 → (t, a0) ∈ l := by
        intro l
        induction l with
        | nil => intro h; cases h
        | cons p r ih =>
          intro h
          obtain ⟨x, y⟩ := p
          simp only [assoc, Bool.cond_eq_ite, Nat.beq_eq] at h
          split at h
          · rename_i e; cases h; subst e; simp
          · simp [ih h]
      have hmem : ∃ a1, T.get c t = some a1 ∧ matchV nf a1 (a0.inst s ρ) = true := by
        simp only [St.tmps, Tmps.get] at ht
        cases hmt : c.mask.testBit t
        · rw [hmt] at ht
          simp only [cond_false] at ht
          exact varsOk_get c0 t a0 (hassoc _ ht)
        · rw [hmt] at ht
          simp only [cond_true] at ht
          exact varsOk_get c1 t a0 (hassoc _ ht)
      obtain ⟨a1, h1, h2⟩ := hmem
      obtain ⟨v, h3, h4⟩ := hT.2 t a1 h1
      exact ⟨v, h3, VR.unren _ _ (@matchV_VR V _ _ hn _ _ _ h2 h4)⟩
    · refine @WR.mk (V.by s) G (β.pull ρ) σ.heap.get σ.next w (fun b hb => hfresh (ρ b) (high b hb)) (fun b p hb => hw.bound (ρ b) p hb) (fun b o hb => ?_) (fun b b' o o' p p' hb hb' hp hp' hc => ?_) (fun i hi => ?_) (Nat.le_trans g1 g2) (fun x ob hx => ⟨(hw.keep x ob hx).1, fun b o p hb hwr hp => ?_⟩)
      · obtain ⟨q1, q2, q3, -⟩ := hobj b o hb
        rcases q3 with ⟨p, hp, ho⟩ | ⟨hp, ho⟩
        · exact .inl ⟨p, hp, ObjR.unren q1 ho⟩
        · exact .inr ⟨hp, q2, AObj.absent_inst.1 ho⟩
      · obtain ⟨o1, r1, -⟩ := (hobj b o hb).2.2.2 p hp
        obtain ⟨o2, r2, -⟩ := (hobj b' o' hb').2.2.2 p' hp'
        exact nodupB_inj c4 (St.mem hb) (St.mem hb') (hw.inj _ _ o1 o2 p p' r1 r2 hp hp' hc)
      · obtain ⟨sz, hs⟩ := hw.glob i hi
        exact ⟨sz, by show β (ρ i) = _; rw [low i (by omega)]; exact hs⟩
      · obtain ⟨o1, r1, r2⟩ := (hobj b o hb).2.2.2 p hp
        exact (hw.keep x ob hx).2 _ o1 p r1 (r2.trans hwr) hp
    · refine ⟨Nat.le_refl _, fun _ _ _ => rfl, fun c ⟨b, o, p, hb, ho, hp, e⟩ _ => ?_, fun c ⟨b, o, p, hb, hp, e⟩ _ => ?_, fun _ _ h => h, fun _ _ h => .inl h, rfl, rfl, rfl⟩
      · obtain ⟨o1, r1, r2⟩ := (hobj b o hb).2.2.2 p hp
        exact ⟨ρ b, o1, p, r1, r2.trans ho, hp, e⟩
      · obtain ⟨o1, r1, r2⟩ := (hobj b o hb).2.2.2 p hp
        exact ⟨ρ b, o1, p, r1, hp, e⟩
  · cases h

end
end Go.Tc
