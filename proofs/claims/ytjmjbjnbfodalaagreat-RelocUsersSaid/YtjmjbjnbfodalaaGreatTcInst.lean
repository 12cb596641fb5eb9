/- Other names for blocks, other data for the unknown. -/
import Derived.Test.YtjmjbjnbfodalaaGreatTcTop
set_option linter.unusedSimpArgs false
set_option linter.unusedVariables false
set_option linter.unusedSectionVars false
namespace Go.Tc

def LCap.inst (s : Nat → Tm) : LCap → LCap
  | .opn => .opn
  | .exact c => .exact (c.inst s)
  | .rd => .rd
def AFn.inst (ρ : Nat → Nat) : AFn → AFn
  | .yield l => .yield (ρ l)
  | f => f

mutual
def AV.inst (s : Nat → Tm) (ρ : Nat → Nat) : AV → AV
  | .ptr b o => .ptr (ρ b) o
  | .slice b o l c => .slice (ρ b) o l c
  | .map b => .map (ρ b)
  | .fn f a c => .fn (f.inst ρ) (AV.insts s ρ a) (AV.insts s ρ c)
  | .iface t v => .iface t (AV.inst s ρ v)
  | .agg l => .agg (AV.insts s ρ l)
  | .tuple l => .tuple (AV.insts s ρ l)
  | .sy c t => .sy c (t.inst s)
  | .lsl b e l n c => .lsl (ρ b) e (l.inst s) (n.inst s) (c.inst s)
  | .eptr b e i j => .eptr (ρ b) e (i.inst s) j
  | .iptr k t i j => .iptr k (t.inst s) (i.inst s) j
  | v => v
def AV.insts (s : Nat → Tm) (ρ : Nat → Nat) : List AV → List AV
  | [] => []
  | v :: r => AV.inst s ρ v :: AV.insts s ρ r
end

theorem AV.insts_len (s : Nat → Tm) (ρ : Nat → Nat) : ∀ l : List AV, (AV.insts s ρ l).length = l.length
  | [] => rfl
  | _ :: r => by simp [AV.insts, AV.insts_len s ρ r]

/-- names are names of other blocks. -/
def Pl.pull (β : Pl) (ρ : Nat → Nat) : Pl := ⟨fun b => β (ρ b), β.zone⟩

section
variable {V : Val} {s : Nat → Tm} {ρ : Nat → Nat} {β : Pl}

theorem LCapR.unren {p : Place} {off es : Nat} {cm : LCap} {c : Nat} (h : @LCapR V p off es (cm.inst s) c) : @LCapR (V.by s) p off es cm c := by
  cases cm with
  | opn => exact h
  | exact t => have := Tm.inst_den V s t; simp only [LCapR, LCap.inst] at h ⊢; rw [← this]; exact h
  | rd => trivial
theorem LCapR.ren {p : Place} {off es : Nat} {cm : LCap} {c : Nat} (h : @LCapR (V.by s) p off es cm c) : @LCapR V p off es (cm.inst s) c := by
  cases cm with
  | opn => exact h
  | exact t => have := Tm.inst_den V s t; simp only [LCapR, LCap.inst] at h ⊢; rw [this]; exact h
  | rd => trivial
theorem FnR.unren {f : AFn} {g : Fn} (h : FnR β (f.inst ρ) g) : FnR (β.pull ρ) f g := by
  cases f <;> cases h <;> first
    | exact .func _
    | exact .method _
    | exact .methodOf _ _
    | exact .via _ _ _ _
    | (rename_i h; exact .yield h)
theorem LCap.inst_rd {cm : LCap} (h : cm.inst s = .rd) : cm = .rd := by cases cm <;> simp_all [LCap.inst]

mutual
theorem VR.unren : ∀ (a : AV) (v : Value), @VR V β (a.inst s ρ) v → @VR (V.by s) (β.pull ρ) a v
  | .bool b, v, h => by cases h; exact @VR.bool (V.by s) _ _
  | .int k n, v, h => by cases h; exact @VR.int (V.by s) _ _ _
  | .str t, v, h => by
    change @VR V β (.str t) v at h
    cases h; exact @VR.str (V.by s) _ _
  | .nilPtr, v, h => by cases h; exact @VR.nilPtr (V.by s) _
  | .ptr b o, v, h => by cases h with | ptr _ h => exact @VR.ptr (V.by s) (β.pull ρ) b _ o h
  | .nilSlice, v, h => by cases h; exact @VR.nilSlice (V.by s) _
  | .slice b o l c, v, h => by cases h with | slice _ _ h hc hl => exact @VR.slice (V.by s) (β.pull ρ) b _ o l _ _ h hc hl
  | .nilMap, v, h => by cases h; exact @VR.nilMap (V.by s) _
  | .map b, v, h => by cases h with | map h => exact @VR.map (V.by s) (β.pull ρ) b _ h
  | .fn f a c, v, h => by
    cases h with
    | fn hf ha hc => exact @VR.fn (V.by s) _ _ _ _ _ _ _ hf.unren (VRs.unren a _ ha) (VRs.unren c _ hc)
  | .nilFn, v, h => by cases h; exact @VR.nilFn (V.by s) _
  | .iface t a, v, h => by cases h with | iface _ h => exact @VR.iface (V.by s) _ t _ _ (VR.unren a _ h)
  | .nilIface, v, h => by cases h; exact @VR.nilIface (V.by s) _
  | .agg l, v, h => by cases h with | agg h => exact @VR.agg (V.by s) _ _ _ (VRs.unren l _ h)
  | .tuple l, v, h => by cases h with | tuple h => exact @VR.tuple (V.by s) _ _ _ (VRs.unren l _ h)
  | .junk, v, h => by cases h with | junk n h => exact @VR.junk (V.by s) _ n h
  | .esl, v, h => by cases h with | esl a c => exact @VR.esl (V.by s) _ a c
  | .rng k l h', v, h => by cases h with | rng _ h1 h2 => exact @VR.rng (V.by s) _ k _ _ _ h1 h2
  | .strU n, v, h => by cases h with | strU t => exact @VR.strU (V.by s) _ t
  | .boolU, v, h => by cases h with | boolU b => exact @VR.boolU (V.by s) _ b
  | .sy c t, v, h => by
    cases h with | sy h =>
    rw [Tm.inst_den V s t] at h
    exact @VR.sy (V.by s) (β.pull ρ) c t v h
  | .lsl b e lo n cm, v, h => by
    cases h with
    | lsl hl hn hp hc hle =>
      rw [Tm.inst_den V s] at hl hn
      exact @VR.lsl (V.by s) (β.pull ρ) b e lo n cm _ _ _ _ hl hn hp (LCapR.unren hc) hle
    | lsl0 hl hn =>
      rw [Tm.inst_den V s] at hl hn
      exact @VR.lsl0 (V.by s) (β.pull ρ) b e lo n cm _ hl hn
    | lslE a c hl hn hc =>
      rw [Tm.inst_den V s] at hl hn
      exact @VR.lslE (V.by s) (β.pull ρ) b e lo n cm _ a c hl hn (hc.imp id LCap.inst_rd)
  | .eptr b e i j, v, h => by
    cases h with
    | eptr _ hi hp =>
      rw [Tm.inst_den V s] at hi
      exact @VR.eptr (V.by s) (β.pull ρ) b e i _ _ j hi hp
  | .iptr k t i j, v, h => by
    cases h with
    | iptr _ hc hi hlt =>
      rw [Tm.inst_den V s] at hi hc
      exact @VR.iptr (V.by s) (β.pull ρ) k t i _ _ _ _ _ j hc hi hlt
theorem VRs.unren : ∀ (l : List AV) (vs : List Value), @VRs V β (AV.insts s ρ l) vs → @VRs (V.by s) (β.pull ρ) l vs
  | [], vs, h => by cases h; exact @VRs.nil (V.by s) _
  | a :: r, vs, h => by cases h with | cons h hs => exact @VRs.cons (V.by s) _ _ _ _ _ (VR.unren a _ h) (VRs.unren r _ hs)
end

/-- the other way: into names that lie where these do. -/
structure Ren (ρ : Nat → Nat) (β β' : Pl) : Prop where
  at_ : ∀ b p, β b = some p → β' (ρ b) = some p
  zone : ∀ c o, β.zone c = some o → β'.zone c = some o
variable {β' : Pl}
theorem FnR.ren (r : Ren ρ β β') {f : AFn} {g : Fn} (h : FnR β f g) : FnR β' (f.inst ρ) g := by
  cases h <;> first
    | exact .func _
    | exact .method _
    | exact .methodOf _ _
    | exact .via _ _ _ _
    | (rename_i h; exact .yield (r.at_ _ _ h))
mutual
theorem VR.renA (r : Ren ρ β β') : ∀ (a : AV) (v : Value), @VR (V.by s) β a v → @VR V β' (a.inst s ρ) v
  | .bool b, v, h => by cases h; exact @VR.bool V _ _
  | .int k n, v, h => by cases h; exact @VR.int V _ _ _
  | .str t, v, h => by cases h; exact @VR.str V _ _
  | .nilPtr, v, h => by cases h; exact @VR.nilPtr V _
  | .ptr b o, v, h => by cases h with | ptr _ h => exact @VR.ptr V β' (ρ b) _ o (r.at_ _ _ h)
  | .nilSlice, v, h => by cases h; exact @VR.nilSlice V _
  | .slice b o l c, v, h => by cases h with | slice _ _ h hc hl => exact @VR.slice V β' (ρ b) _ o l _ _ (r.at_ _ _ h) hc hl
  | .nilMap, v, h => by cases h; exact @VR.nilMap V _
  | .map b, v, h => by cases h with | map h => exact @VR.map V β' (ρ b) _ (r.at_ _ _ h)
  | .fn f a c, v, h => by
    cases h with
    | fn hf ha hc => exact @VR.fn V _ _ _ _ _ _ _ (hf.ren r) (VRs.renA r a _ ha) (VRs.renA r c _ hc)
  | .nilFn, v, h => by cases h; exact @VR.nilFn V _
  | .iface t a, v, h => by cases h with | iface _ h => exact @VR.iface V _ t _ _ (VR.renA r a _ h)
  | .nilIface, v, h => by cases h; exact @VR.nilIface V _
  | .agg l, v, h => by cases h with | agg h => exact @VR.agg V _ _ _ (VRs.renA r l _ h)
  | .tuple l, v, h => by cases h with | tuple h => exact @VR.tuple V _ _ _ (VRs.renA r l _ h)
  | .junk, v, h => by cases h with | junk n h => exact @VR.junk V _ n h
  | .esl, v, h => by cases h with | esl a c => exact @VR.esl V _ a c
  | .rng k l h', v, h => by cases h with | rng _ h1 h2 => exact @VR.rng V _ k _ _ _ h1 h2
  | .strU n, v, h => by cases h with | strU t => exact @VR.strU V _ t
  | .boolU, v, h => by cases h with | boolU b => exact @VR.boolU V _ b
  | .sy c t, v, h => by
    cases h with | sy h =>
    exact @VR.sy V β' c (t.inst s) v (by rw [Tm.inst_den V s t]; exact h.mono r.zone)
  | .lsl b e lo n cm, v, h => by
    cases h with
    | lsl hl hn hp hc hle =>
      rw [← Tm.inst_den V s] at hl hn
      exact @VR.lsl V β' (ρ b) e (lo.inst s) (n.inst s) (cm.inst s) _ _ _ _ hl hn (r.at_ _ _ hp) (LCapR.ren hc) hle
    | lsl0 hl hn =>
      rw [← Tm.inst_den V s] at hl hn
      exact @VR.lsl0 V β' (ρ b) e (lo.inst s) (n.inst s) (cm.inst s) _ hl hn
    | lslE a c hl hn hc =>
      rw [← Tm.inst_den V s] at hl hn
      exact @VR.lslE V β' (ρ b) e (lo.inst s) (n.inst s) (cm.inst s) _ a c hl hn (hc.imp id fun e => by rw [e]; rfl)
  | .eptr b e i j, v, h => by
    cases h with
    | eptr _ hi hp =>
      rw [← Tm.inst_den V s] at hi
      exact @VR.eptr V β' (ρ b) e (i.inst s) _ _ j hi (r.at_ _ _ hp)
  | .iptr k t i j, v, h => by
    cases h with
    | iptr _ hc hi hlt =>
      rw [← Tm.inst_den V s] at hi hc
      exact @VR.iptr V β' k (t.inst s) (i.inst s) _ _ _ _ _ j (hc.mono r.zone) hi hlt
theorem VRs.renA (r : Ren ρ β β') : ∀ (l : List AV) (vs : List Value), @VRs (V.by s) β l vs → @VRs V β' (AV.insts s ρ l) vs
  | [], vs, h => by cases h; exact @VRs.nil V _
  | a :: t, vs, h => by cases h with | cons h hs => exact @VRs.cons V _ _ _ _ _ (VR.renA r a _ h) (VRs.renA r t _ hs)
end
theorem VR.ren (r : Ren ρ β β') {a : AV} {v : Value} (h : @VR (V.by s) β a v) : @VR V β' (a.inst s ρ) v := VR.renA r a v h
theorem VRs.ren (r : Ren ρ β β') {a : List AV} {v : List Value} (h : @VRs (V.by s) β a v) : @VRs V β' (AV.insts s ρ a) v := VRs.renA r a v h

/-! ### blocks -/
def AEnt.inst (s : Nat → Tm) (ρ : Nat → Nat) : AEnt → AEnt
  | ⟨k, v, b⟩ => ⟨k.inst s ρ, v.inst s ρ, b⟩
def Tmps.inst (s : Nat → Tm) (ρ : Nat → Nat) : Tmps → Tmps
  | ⟨v, l⟩ => ⟨v.map fun p => (p.1, p.2.inst s ρ), l.map fun p => (p.1, p.2.inst s ρ)⟩
def ALoop.inst (s : Nat → Tm) (ρ : Nat → Nat) : ALoop → ALoop
  | ⟨st, pd, c, T, lc, d⟩ => ⟨st, pd, c, T.inst s ρ, lc, ρ d⟩
theorem assoc_inst (s : Nat → Tm) (ρ : Nat → Nat) (l : List (Nat × AV)) (t : Nat) : assoc (l.map fun p => (p.1, p.2.inst s ρ)) t = (assoc l t).map fun a => a.inst s ρ := by
  induction l with
  | nil => rfl
  | cons p r ih =>
    simp only [List.map_cons, assoc]
    cases p.1.beq t
    · exact ih
    · rfl
theorem Tmps.inst_get (s : Nat → Tm) (ρ : Nat → Nat) (c : Ctx) (T : Tmps) (t : Nat) : (T.inst s ρ).get c t = (T.get c t).map fun a => a.inst s ρ := by
  obtain ⟨v, l⟩ := T
  simp only [Tmps.inst, Tmps.get]
  cases c.mask.testBit t
  · exact assoc_inst s ρ l t
  · exact assoc_inst s ρ v t
def AObj.inst (s : Nat → Tm) (ρ : Nat → Nat) : AObj → AObj
  | .row c e k => .row (AV.insts s ρ c) e k
  | .lrow ks t e k => .lrow ks (t.inst s) e k
  | .map es c => .map (es.map (AEnt.inst s ρ)) c
  | .lmap k v t => .lmap k v (t.inst s)
  | .loop l => .loop (l.inst s ρ)
  | o => o
/-- blocks that may bear other names. -/
def AObj.able : AObj → Bool
  | .row .. => true
  | .lrow .. => true
  | .map .. => true
  | .lmap .. => true
  | .dfr _ => true
  | .loop _ => true
  | _ => false
theorem AObj.inst_wr (s : Nat → Tm) (ρ : Nat → Nat) (o : AObj) : (o.inst s ρ).wr = o.wr := by
  cases o with
  | row c e k => cases k <;> rfl
  | lrow ks t e k => cases k <;> rfl
  | _ => rfl

theorem expandL_den (V : Val) (s : Nat → Tm) (ks : List CK) (t : Tm) (n : Nat) {vs : List Value} : @VRs V β (expandL ks (t.inst s) n) vs ↔ @VRs (V.by s) β (expandL ks t n) vs := by
  have cell : ∀ (V : Val) (u : Tm) (vs : List Value), @VRs V β (expandL ks u n) vs ↔ (vs.length = n * ks.length ∧ ∀ (i j : Nat) (v : Value), i < n → j < ks.length → vs[i * ks.length + j]? = some v → CellR β.zone (ks.getD j .bool) (eltFld ks (@Tm.den V (.op .nth [u, .int (i : Int)])) j) v) := by
    intro V u vs
    letI := V
    constructor
    · intro h
      have hl := h.length
      rw [expandL_len] at hl
      refine ⟨hl.symm, fun i j v hi hj hv => ?_⟩
      obtain ⟨z, z1, z2⟩ := h.get (expandL_get ks u hi hj)
      rw [hv] at z1; cases z1
      rw [ofTm_iff, eltTm_den (nf := id) (fun _ => rfl)] at z2
      exact z2
    · rintro ⟨h1, h2⟩
      refine VRs.of_getG (by rw [expandL_len, h1]) fun q xq hxq => ?_
      have hql : q < n * ks.length := by
        have := (List.getElem?_eq_some_iff.1 hxq).1
        rwa [expandL_len] at this
      have hpos : 0 < ks.length := by
        rcases Nat.eq_zero_or_pos ks.length with e | e
        · rw [e] at hql; omega
        · exact e
      have hqi : q / ks.length < n := Nat.div_lt_of_lt_mul (by rw [Nat.mul_comm]; exact hql)
      have hqj : q % ks.length < ks.length := Nat.mod_lt _ hpos
      have hqe : q / ks.length * ks.length + q % ks.length = q := Nat.div_add_mod' q ks.length
      have hx2 := hxq
      rw [← hqe, expandL_get ks u hqi hqj, Option.some.injEq] at hx2
      subst hx2
      have hlt : q < vs.length := by omega
      refine ⟨vs[q], List.getElem?_eq_getElem hlt, ?_⟩
      rw [ofTm_iff, eltTm_den (nf := id) (fun _ => rfl)]
      exact h2 _ _ _ hqi hqj (by rw [hqe]; exact List.getElem?_eq_getElem hlt)
  rw [cell, cell]
  have : ∀ i : Int, @Tm.den V (.op .nth [t.inst s, .int i]) = @Tm.den (V.by s) (.op .nth [t, .int i]) := by
    intro i
    show TOp.den .nth [@Tm.den V (t.inst s), .int i] = TOp.den .nth [@Tm.den (V.by s) t, .int i]
    rw [Tm.inst_den V s t]
  simp only [this]

theorem EntsR.unren : ∀ (es : List AEnt) (ms : List MapEntry), @EntsR V β (es.map (AEnt.inst s ρ)) ms → @EntsR (V.by s) (β.pull ρ) es ms
  | [], ms, h => by cases h; exact @EntsR.nil (V.by s) _
  | e :: es, ms, h => by
    cases h with
    | cons hk hv hb hs => exact @EntsR.cons (V.by s) _ _ _ _ _ (VR.unren _ _ hk) (VR.unren _ _ hv) hb (EntsR.unren es _ hs)
theorem EntsR.ren (r : Ren ρ β β') {es : List AEnt} {ms : List MapEntry} (h : @EntsR (V.by s) β es ms) : @EntsR V β' (es.map (AEnt.inst s ρ)) ms := by
  induction h with
  | nil => exact @EntsR.nil V _
  | cons hk hv hb _ ih => exact @EntsR.cons V _ _ _ _ _ (hk.ren r) (hv.ren r) hb ih

theorem ObjR.unren {w : World} {p : Place} {o : AObj} (ho : o.able = true) (h : @ObjR V β w p (o.inst s ρ)) : @ObjR (V.by s) (β.pull ρ) w p o := by
  cases o with
  | row c e k =>
    obtain ⟨cc, lo, hi, h1, h2, h3, h4, h5⟩ := h
    rw [AV.insts_len] at h3 h4 h5
    exact ⟨cc, lo, hi, h1, h2, h3, VRs.unren _ _ h4, h5⟩
  | lrow ks t e k =>
    obtain ⟨L, hL, hk, cc, lo, hi, h1, h2, h3, h4, h5⟩ := h
    rw [Tm.inst_den V s] at hL
    rw [expandL_len] at h3 h4 h5
    refine ⟨L, hL, hk, cc, lo, hi, h1, h2, ?_, ?_, ?_⟩
    · rw [expandL_len]; exact h3
    · rw [expandL_len]
      have := (expandL_den (β := β) V s ks t L.length).1 h4
      -- names do not matter
      have nm : ∀ {vs : List Value}, @VRs (V.by s) β (expandL ks t L.length) vs → @VRs (V.by s) (β.pull ρ) (expandL ks t L.length) vs := by
        intro vs h
        letI := V.by s
        refine VRs.of_getG h.length fun q x hx => ?_
        obtain ⟨z, z1, z2⟩ := h.get hx
        refine ⟨z, z1, ?_⟩
        have hql : q < L.length * ks.length := by
          have := (List.getElem?_eq_some_iff.1 hx).1
          rwa [expandL_len] at this
        have hpos : 0 < ks.length := List.length_pos_iff.2 hk
        have hqi : q / ks.length < L.length := Nat.div_lt_of_lt_mul (by rw [Nat.mul_comm]; exact hql)
        have hqj : q % ks.length < ks.length := Nat.mod_lt _ hpos
        have hqe : q / ks.length * ks.length + q % ks.length = q := Nat.div_add_mod' q ks.length
        rw [← hqe, expandL_get ks t hqi hqj, Option.some.injEq] at hx
        subst hx
        rw [ofTm_iff] at z2 ⊢; exact z2
      exact nm this
    · rw [expandL_len]; exact h5
  | map es c =>
    obtain ⟨ces, h1, h2⟩ := h
    exact ⟨ces, h1, EntsR.unren _ _ h2⟩
  | lmap k v t =>
    obtain ⟨L, ces, h0, h1, h2⟩ := h
    rw [Tm.inst_den V s] at h0
    exact ⟨L, ces, h0, h1, h2⟩
  | dfr b => cases b <;> exact h
  | loop l =>
    obtain ⟨st, pd, c, T, lc, d⟩ := l
    obtain ⟨cl, h1, h2, h3, h4, h5, h6, h7, q, h8, h9⟩ := h
    have hlc : @LRef.get V lc = @LRef.get (V.by s) lc := by cases lc <;> rfl
    refine ⟨cl, h1, h2, h3, ⟨h4.1, fun t a ht => ?_⟩, by rw [← hlc]; exact h5, by rw [← hlc]; exact h6, by rw [← hlc]; exact h7, q, h8, h9⟩
    obtain ⟨v, v1, v2⟩ := h4.2 t (a.inst s ρ) (by show (T.inst s ρ).get c t = _; rw [Tmps.inst_get, show T.get c t = some a from ht]; rfl)
    exact ⟨v, v1, VR.unren _ _ v2⟩
  | _ => cases ho

theorem ObjR.ren (r : Ren ρ β β') {w : World} {p : Place} {o : AObj} (ho : o.able = true) (h : @ObjR (V.by s) β w p o) : @ObjR V β' w p (o.inst s ρ) := by
  cases o with
  | row c e k =>
    obtain ⟨cc, lo, hi, h1, h2, h3, h4, h5⟩ := h
    refine ⟨cc, lo, hi, h1, h2, ?_, ?_, ?_⟩
    · rw [AV.insts_len]; exact h3
    · rw [AV.insts_len]; exact h4.ren r
    · rw [AV.insts_len]; exact h5
  | lrow ks t e k =>
    obtain ⟨L, hL, hk, cc, lo, hi, h1, h2, h3, h4, h5⟩ := h
    rw [expandL_len] at h3 h4 h5
    refine ⟨L, by rw [Tm.inst_den V s]; exact hL, hk, cc, lo, hi, h1, h2, ?_, ?_, ?_⟩
    · rw [expandL_len]; exact h3
    · rw [expandL_len]
      refine (expandL_den (β := β') V s ks t L.length).2 ?_
      letI := V.by s
      refine VRs.of_getG h4.length fun q x hx => ?_
      obtain ⟨z, z1, z2⟩ := h4.get hx
      refine ⟨z, z1, ?_⟩
      have hql : q < L.length * ks.length := by
        have := (List.getElem?_eq_some_iff.1 hx).1
        rwa [expandL_len] at this
      have hpos : 0 < ks.length := List.length_pos_iff.2 hk
      have hqi : q / ks.length < L.length := Nat.div_lt_of_lt_mul (by rw [Nat.mul_comm]; exact hql)
      have hqj : q % ks.length < ks.length := Nat.mod_lt _ hpos
      have hqe : q / ks.length * ks.length + q % ks.length = q := Nat.div_add_mod' q ks.length
      rw [← hqe, expandL_get ks t hqi hqj, Option.some.injEq] at hx
      subst hx
      rw [ofTm_iff] at z2 ⊢; exact z2.mono r.zone
    · rw [expandL_len]; exact h5
  | map es c =>
    obtain ⟨ces, h1, h2⟩ := h
    exact ⟨ces, h1, h2.ren r⟩
  | lmap k v t =>
    obtain ⟨L, ces, h0, h1, h2⟩ := h
    exact ⟨L, ces, by rw [Tm.inst_den V s]; exact h0, h1, h2.mono r.zone⟩
  | dfr b => cases b <;> exact h
  | loop l =>
    obtain ⟨st, pd, c, T, lc, d⟩ := l
    obtain ⟨cl, h1, h2, h3, h4, h5, h6, h7, q, h8, h9⟩ := h
    have hlc : @LRef.get V lc = @LRef.get (V.by s) lc := by cases lc <;> rfl
    refine ⟨cl, h1, h2, h3, ⟨h4.1, fun t a ht => ?_⟩, by rw [show (ALoop.inst s ρ ⟨st, pd, c, T, lc, d⟩).code = lc from rfl, hlc]; exact h5, by rw [show (ALoop.inst s ρ ⟨st, pd, c, T, lc, d⟩).code = lc from rfl, hlc]; exact h6, by rw [show (ALoop.inst s ρ ⟨st, pd, c, T, lc, d⟩).code = lc from rfl, hlc]; exact h7, q, r.at_ _ _ h8, h9⟩
    have ht : (T.inst s ρ).get c t = some a := ht
    rw [Tmps.inst_get, Option.map_eq_some_iff] at ht
    obtain ⟨a0, h0, rfl⟩ := ht
    obtain ⟨v, v1, v2⟩ := h4.2 t a0 h0
    exact ⟨v, v1, VR.ren r v2⟩
  | _ => cases ho

theorem AObj.absent_inst {o : AObj} : @AObj.absent V (o.inst s ρ) ↔ @AObj.absent (V.by s) o := by
  cases o with
  | lrow ks t e k =>
    cases k with
    | buf fz sish => cases fz with
      | zero =>
        show @Tm.den V (t.inst s) = .list [] ↔ @Tm.den (V.by s) t = .list []
        rw [Tm.inst_den V s]
      | succ n => exact Iff.rfl
    | _ => exact Iff.rfl
  | _ => exact Iff.rfl

end
end Go.Tc
