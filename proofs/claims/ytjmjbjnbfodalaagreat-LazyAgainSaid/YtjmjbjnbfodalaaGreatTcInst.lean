/- Other names for blocks, other data for the unknown. -/
import Derived.Test.YtjmjbjnbfodalaaGreatTcTop
set_option linter.unusedSimpArgs false
set_option linter.unusedVariables false
set_option linter.unusedSectionVars false
namespace Go.Tc
def LCap.inst (s : Nat → Tm) : LCap → LCap
  | .opn => .opn
  | .exact c => .exact (c.inst s)
  | .rd => .rd
def AFn.inst (ρ : Nat → Nat) : AFn → AFn
  | .yield l => .yield (ρ l)
  | f => f
mutual
def AV.inst (s : Nat → Tm) (ρ : Nat → Nat) : AV → AV
  | .ptr b o => .ptr (ρ b) o
  | .slice b o l c => .slice (ρ b) o l c
  | .map b => .map (ρ b)
  | .fn f a c => .fn (f.inst ρ) (AV.insts s ρ a) (AV.insts s ρ c)
  | .iface t v => .iface t (AV.inst s ρ v)
  | .agg l => .agg (AV.insts s ρ l)
  | .tuple l => .tuple (AV.insts s ρ l)
  | .sy c t => .sy c (t.inst s)
  | .lsl b e l n c => .lsl (ρ b) e (l.inst s) (n.inst s) (c.inst s)
  | .eptr b e i j => .eptr (ρ b) e (i.inst s) j
  | .iptr k t i j => .iptr k (t.inst s) (i.inst s) j
  | v => v
def AV.insts (s : Nat → Tm) (ρ : Nat → Nat) : List AV → List AV
  | [] => []
  | v :: r => AV.inst s ρ v :: AV.insts s ρ r
end
theorem AV.insts_len (s : Nat → Tm) (ρ : Nat → Nat) : ∀ l : List AV, (AV.insts s ρ l).length = l.length
  | [] => rfl
  | _ :: r => by simp [AV.insts, AV.insts_len s ρ r]
def Pl.pull (β : Pl) (ρ : Nat → Nat) : Pl := ⟨fun b => β (ρ b), β.zone⟩
section
variable {V : Val} {s : Nat → Tm} {ρ : Nat → Nat} {β : Pl}
theorem LCapR.unren {p : Place} {off es : Nat} {cm : LCap} {c : Nat} (h : @LCapR V p off es (cm.inst s) c) : @LCapR (V.by s) p off es cm c := by
  cases cm with
  | opn => exact h
  | exact t => have := Tm.inst_den V s t; simp only [LCapR, LCap.inst] at h ⊢; rw [← this]; exact h
  | rd => trivial
theorem LCapR.ren {p : Place} {off es : Nat} {cm : LCap} {c : Nat} (h : @LCapR (V.by s) p off es cm c) : @LCapR V p off es (cm.inst s) c := by
  cases cm with
  | opn => exact h
  | exact t => have := Tm.inst_den V s t; simp only [LCapR, LCap.inst] at h ⊢; rw [this]; exact h
  | rd => trivial
theorem FnR.unren {f : AFn} {g : Fn} (h : FnR β (f.inst ρ) g) : FnR (β.pull ρ) f g := by
  cases f <;> cases h <;> first
    | exact .func _
    | exact .method _
    | exact .methodOf _ _
    | exact .via _ _ _ _
    | (rename_i h; exact .yield h)
theorem LCap.inst_rd {cm : LCap} (h : cm.inst s = .rd) : cm = .rd := by cases cm <;> simp_all [LCap.inst]
mutual
theorem VR.unren : ∀ (a : AV) (v : Value), @VR V β (a.inst s ρ) v → @VR (V.by s) (β.pull ρ) a v
  | .bool b, v, h => by cases h; exact @VR.bool (V.by s) _ _
  | .int k n, v, h => by cases h; exact @VR.int (V.by s) _ _ _
  | .str t, v, h => by
    change @VR V β (.str t) v at h
    cases h; exact @VR.str (V.by s) _ _
  | .nilPtr, v, h => by cases h; exact @VR.nilPtr (V.by s) _
  | .ptr b o, v, h => by cases h with | ptr _ h => exact @VR.ptr (V.by s) (β.pull ρ) b _ o h
  | .nilSlice, v, h => by cases h; exact @VR.nilSlice (V.by s) _
  | .slice b o l c, v, h => by cases h with | slice _ _ h hc hl => exact @VR.slice (V.by s) (β.pull ρ) b _ o l _ _ h hc hl
  | .nilMap, v, h => by cases h; exact @VR.nilMap (V.by s) _
  | .map b, v, h => by cases h with | map h => exact @VR.map (V.by s) (β.pull ρ) b _ h
  | .fn f a c, v, h => by
    cases h with
    | fn hf ha hc => exact @VR.fn (V.by s) _ _ _ _ _ _ _ hf.unren (VRs.unren a _ ha) (VRs.unren c _ hc)
  | .nilFn, v, h => by cases h; exact @VR.nilFn (V.by s) _
  | .iface t a, v, h => by cases h with | iface _ h => exact @VR.iface (V.by s) _ t _ _ (VR.unren a _ h)
  | .nilIface, v, h => by cases h; exact @VR.nilIface (V.by s) _
  | .agg l, v, h => by cases h with | agg h => exact @VR.agg (V.by s) _ _ _ (VRs.unren l _ h)
  | .tuple l, v, h => by cases h with | tuple h => exact @VR.tuple (V.by s) _ _ _ (VRs.unren l _ h)
  | .junk, v, h => by cases h with | junk n h => exact @VR.junk (V.by s) _ n h
  | .esl, v, h => by cases h with | esl a c => exact @VR.esl (V.by s) _ a c
  | .rng k l h', v, h => by cases h with | rng _ h1 h2 => exact @VR.rng (V.by s) _ k _ _ _ h1 h2
  | .strU n, v, h => by cases h with | strU t => exact @VR.strU (V.by s) _ t
  | .boolU, v, h => by cases h with | boolU b => exact @VR.boolU (V.by s) _ b
  | .sy c t, v, h => by
    cases h with | sy h =>
    rw [Tm.inst_den V s t] at h
    exact @VR.sy (V.by s) (β.pull ρ) c t v h
  | .lsl b e lo n cm, v, h => by
    cases h with
    | lsl hl hn hp hc hle =>
      rw [Tm.inst_den V s] at hl hn
      exact @VR.lsl (V.by s) (β.pull ρ) b e lo n cm _ _ _ _ hl hn hp (LCapR.unren hc) hle
    | lsl0 hl hn =>
      rw [Tm.inst_den V s] at hl hn
      exact @VR.lsl0 (V.by s) (β.pull ρ) b e lo n cm _ hl hn
    | lslE a c hl hn hc =>
      rw [Tm.inst_den V s] at hl hn
      exact @VR.lslE (V.by s) (β.pull ρ) b e lo n cm _ a c hl hn (hc.imp id LCap.inst_rd)
  | .eptr b e i j, v, h => by
    cases h with
    | eptr _ hi hp =>
      rw [Tm.inst_den V s] at hi
      exact @VR.eptr (V.by s) (β.pull ρ) b e i _ _ j hi hp
  | .iptr k t i j, v, h => by
    cases h with
    | iptr _ hc hi hlt =>
      rw [Tm.inst_den V s] at hi hc
      exact @VR.iptr (V.by s) (β.pull ρ) k t i _ _ _ _ _ j hc hi hlt
theorem VRs.unren : ∀ (l : List AV) (vs : List Value), @VRs V β (AV.insts s ρ l) vs → @VRs (V.by s) (β.pull ρ) l vs
  | [], vs, h => by cases h; exact @VRs.nil (V.by s) _
  | a :: r, vs, h => by cases h with | cons h hs => exact @VRs.cons (V.by s) _ _ _ _ _ (VR.unren a _ h) (VRs.unren r _ hs)
end
structure Ren (ρ : Nat → Nat) (β β' : Pl) : Prop where
  at_ : ∀ b p, β b = some p → β' (ρ b) = some p
  zone : ∀ c o, β.zone c = some o → β'.zone c = some o
variable {β' : Pl}
theorem FnR.ren (r : Ren ρ β β') {f : AFn} {g : Fn} (h : FnR β f g) : FnR β' (f.inst ρ) g := by
  cases h <;> first
    | exact .func _
    | exact .method _
    | exact .methodOf _ _
    | exact .via _ _ _ _
    | (rename_i h; exact .yield (r.at_ _ _ h))
mutual
theorem VR.renA (r : Ren ρ β β') : ∀ (a : AV) (v : Value), @VR (V.by s) β a v → @VR V β' (a.inst s ρ) v
  | .bool b, v, h => by cases h; exact @VR.bool V _ _
  | .int k n, v, h => by cases h; exact @VR.int V _ _ _
  | .str t, v, h => by cases h; exact @VR.str V _ _
  | .nilPtr, v, h => by cases h; exact @VR.nilPtr V _
  | .ptr b o, v, h => by cases h with | ptr _ h => exact @VR.ptr V β' (ρ b) _ o (r.at_ _ _ h)
  | .nilSlice, v, h => by cases h; exact @VR.nilSlice V _
  | .slice b o l c, v, h => by cases h with | slice _ _ h hc hl => exact @VR.slice V β' (ρ b) _ o l _ _ (r.at_ _ _ h) hc hl
  | .nilMap, v, h => by cases h; exact @VR.nilMap V _
  | .map b, v, h => by cases h with | map h => exact @VR.map V β' (ρ b) _ (r.at_ _ _ h)
  | .fn f a c, v, h => by
    cases h with
    | fn hf ha hc => exact @VR.fn V _ _ _ _ _ _ _ (hf.ren r) (VRs.renA r a _ ha) (VRs.renA r c _ hc)
  | .nilFn, v, h => by cases h; exact @VR.nilFn V _
  | .iface t a, v, h => by cases h with | iface _ h => exact @VR.iface V _ t _ _ (VR.renA r a _ h)
  | .nilIface, v, h => by cases h; exact @VR.nilIface V _
  | .agg l, v, h => by cases h with | agg h => exact @VR.agg V _ _ _ (VRs.renA r l _ h)
  | .tuple l, v, h => by cases h with | tuple h => exact @VR.tuple V _ _ _ (VRs.renA r l _ h)
  | .junk, v, h => by cases h with | junk n h => exact @VR.junk V _ n h
  | .esl, v, h => by cases h with | esl a c => exact @VR.esl V _ a c
  | .rng k l h', v, h => by cases h with | rng _ h1 h2 => exact @VR.rng V _ k _ _ _ h1 h2
  | .strU n, v, h => by cases h with | strU t => exact @VR.strU V _ t
  | .boolU, v, h => by cases h with | boolU b => exact @VR.boolU V _ b
  | .sy c t, v, h => by
    cases h with | sy h =>
    exact @VR.sy V β' c (t.inst s) v (by rw [Tm.inst_den V s t]; exact h.mono r.zone)
  | .lsl b e lo n cm, v, h => by
    cases h with
    | lsl hl hn hp hc hle =>
      rw [← Tm.inst_den V s] at hl hn
      exact @VR.lsl V β' (ρ b) e (lo.inst s) (n.inst s) (cm.inst s) _ _ _ _ hl hn (r.at_ _ _ hp) (LCapR.ren hc) hle
    | lsl0 hl hn =>
      rw [← Tm.inst_den V s] at hl hn
      exact @VR.lsl0 V β' (ρ b) e (lo.inst s) (n.inst s) (cm.inst s) _ hl hn
    | lslE a c hl hn hc =>
      rw [← Tm.inst_den V s] at hl hn
      exact @VR.lslE V β' (ρ b) e (lo.inst s) (n.inst s) (cm.inst s) _ a c hl hn (hc.imp id fun e => by rw [e]; rfl)
  | .eptr b e i j, v, h => by
    cases h with
    | eptr _ hi hp =>
      rw [← Tm.inst_den V s] at hi
      exact @VR.eptr V β' (ρ b) e (i.inst s) _ _ j hi (r.at_ _ _ hp)
  | .iptr k t i j, v, h => by
    cases h with
    | iptr _ hc hi hlt =>
      rw [← Tm.inst_den V s] at hi hc
      exact @VR.iptr V β' k (t.inst s) (i.inst s) _ _ _ _ _ j (hc.mono r.zone) hi hlt
theorem VRs.renA (r : Ren ρ β β') : ∀ (l : List AV) (vs : List Value), @VRs (V.by s) β l vs → @VRs V β' (AV.insts s ρ l) vs
  | [], vs, h => by cases h; exact @VRs.nil V _
  | a :: t, vs, h => by cases h with | cons h hs => exact @VRs.cons V _ _ _ _ _ (VR.renA r a _ h) (VRs.renA r t _ hs)
end
theorem VR.ren (r : Ren ρ β β') {a : AV} {v : Value} (h : @VR (V.by s) β a v) : @VR V β' (a.inst s ρ) v := VR.renA r a v h
theorem VRs.ren (r : Ren ρ β β') {a : List AV} {v : List Value} (h : @VRs (V.by s) β a v) : @VRs V β' (AV.insts s ρ a) v := VRs.renA r a v h
def AEnt.inst (s : Nat → Tm) (ρ : Nat → Nat) : AEnt → AEnt
  | ⟨k, v, b⟩ => ⟨k.inst s ρ, v.inst s ρ, b⟩
def Tmps.inst (s : Nat → Tm) (ρ : Nat → Nat) : Tmps → Tmps
  | ⟨v, l⟩ => ⟨v.map fun p => (p.1, p.2.inst s ρ), l.map fun p => (p.1, p.2.inst s ρ)⟩
def ALoop.inst (s : Nat → Tm) (ρ : Nat → Nat) : ALoop → ALoop
  | ⟨st, pd, c, T, lc, d⟩ => ⟨st, pd, c, T.inst s ρ, lc, ρ d⟩
theorem assoc_inst (s : Nat → Tm) (ρ : Nat → Nat) (l : List (Nat × AV)) (t : Nat) : assoc (l.map fun p => (p.1, p.2.inst s ρ)) t = (assoc l t).map fun a => a.inst s ρ := by
  induction l with
  | nil => rfl
  | cons p r ih =>
    simp only [List.map_cons, assoc]
    cases p.1.beq t
    · exact ih
    · rfl
theorem Tmps.inst_get (s : Nat → Tm) (ρ : Nat → Nat) (c : Ctx) (T : Tmps) (t : Nat) : (T.inst s ρ).get c t = (T.get c t).map fun a => a.inst s ρ := by
  obtain ⟨v, l⟩ := T
  simp only [Tmps.inst, Tmps.get]
  cases c.mask.testBit t
  · exact assoc_inst s ρ l t
  · exact assoc_inst s ρ v t
def AObj.inst (s : Nat → Tm) (ρ : Nat → Nat) : AObj → AObj
  | .row c e k => .row (AV.insts s ρ c) e k
  | .lrow ks t e k => .lrow ks (t.inst s) e k
  | .map es c => .map (es.map (AEnt.inst s ρ)) c
  | .lmap k v t => .lmap k v (t.inst s)
  | .loop l => .loop (l.inst s ρ)
  | o => o
def AObj.able : AObj → Bool
  | .row .. => true
  | .lrow .. => true
  | .map .. => true
  | .lmap .. => true
  | .dfr _ => true
  | .loop _ => true
  | _ => false
theorem AObj.inst_wr (s : Nat → Tm) (ρ : Nat → Nat) (o : AObj) : (o.inst s ρ).wr = o.wr := by
  cases o with
  | row c e k => cases k <;> rfl
  | lrow ks t e k => cases k <;> rfl
  | _ => rfl
theorem expandL_den (V : Val) (s : Nat → Tm) (ks : List CK) (t : Tm) (n : Nat) {vs : List Value} : @VRs V β (expandL ks (t.inst s) n) vs ↔ @VRs (V.by s) β (expandL ks t n) vs := by
  have cell : ∀ (V : Val) (u : Tm) (vs : List Value), @VRs V β (expandL ks u n) vs ↔ (vs.length = n * ks.length ∧ ∀ (i j : Nat) (v : Value), i < n → j < ks.length → vs[i * ks.length + j]? = some v → CellR β.zone (ks.getD j .bool) (eltFld ks (@Tm.den V (.op .nth [u, .int (i : Int)])) j) v) := by
    intro V u vs
    letI := V
    constructor
    · intro h
      have hl := h.length
      rw [expandL_len] at hl
      refine ⟨hl.symm, fun i j v hi hj hv => ?_⟩
      obtain ⟨z, z1, z2⟩ := h.get (expandL_get ks u hi hj)
      rw [hv] at z1; cases z1
      rw [ofTm_iff, eltTm_den (nf := id) (fun _ => rfl)] at z2
      exact z2
    · rintro ⟨h1, h2⟩
      refine VRs.of_getG (by rw [expandL_len, h1]) fun q xq hxq => ?_
      have hql : q < n * ks.length := by
        have := (List.getElem?_eq_some_iff.1 hxq).1
        rwa [expandL_len] at this
      have hpos : 0 < ks.length := by
        rcases Nat.eq_zero_or_pos ks.length with e | e
        · rw [e] at hql; omega
        · exact e
      have hqi : q / ks.length < n := Nat.div_lt_of_lt_mul (by rw [Nat.mul_comm]; exact hql)
      have hqj : q % ks.length < ks.length := Nat.mod_lt _ hpos
      have hqe : q / ks.length * ks.length + q % ks.length = q := Nat.div_add_mod' q ks.length
      have hx2 := hxq
      rw [← hqe, expandL_get ks u hqi hqj, Option.some.injEq] at hx2
      subst hx2
      have hlt : q < vs.length := by omega
      refine ⟨vs[q], List.getElem?_eq_getElem hlt, ?_⟩
      rw [ofTm_iff, eltTm_den (nf := id) (fun _ => rfl)]
      exact h2 _ _ _ hqi hqj (by rw [hqe]; exact List.getElem?_eq_getElem hlt)
  rw [cell, cell]
  have : ∀ i : Int, @Tm.den V (.op .nth [t.inst s, .int i]) = @Tm.den (V.by s) (.op .nth [t, .int i]) := by
    intro i
    show TOp.den .nth [@Tm.den V (t.inst s), .int i] = TOp.den .nth [@Tm.den (V.by s) t, .int i]
    rw [Tm.inst_den V s t]
  simp only [this]
theorem EntsR.unren : ∀ (es : List AEnt) (ms : List MapEntry), @EntsR V β (es.map (AEnt.inst s ρ)) ms → @EntsR (V.by s) (β.pull ρ) es ms
  | [], ms, h => by cases h; exact @EntsR.nil (V.by s) _
  | e :: es, ms, h => by
    cases h with
    | cons hk hv hb hs => exact @EntsR.cons (V.by s) _ _ _ _ _ (VR.unren _ _ hk) (VR.unren _ _ hv) hb (EntsR.unren es _ hs)
theorem EntsR.ren (r : Ren ρ β β') {es : List AEnt} {ms : List MapEntry} (h : @EntsR (V.by s) β es ms) : @EntsR V β' (es.map (AEnt.inst s ρ)) ms := by
  induction h with
  | nil => exact @EntsR.nil V _
  | cons hk hv hb _ ih => exact @EntsR.cons V _ _ _ _ _ (hk.ren r) (hv.ren r) hb ih
theorem ObjR.unren {w : World} {p : Place} {o : AObj} (ho : o.able = true) (h : @ObjR V β w p (o.inst s ρ)) : @ObjR (V.by s) (β.pull ρ) w p o := by
  cases o with
  | row c e k =>
    obtain ⟨cc, lo, hi, h1, h2, h3, h4, h5⟩ := h
    rw [AV.insts_len] at h3 h4 h5
    exact ⟨cc, lo, hi, h1, h2, h3, VRs.unren _ _ h4, h5⟩
  | lrow ks t e k =>
    obtain ⟨L, hL, hk, cc, lo, hi, h1, h2, h3, h4, h5⟩ := h
    rw [Tm.inst_den V s] at hL
    rw [expandL_len] at h3 h4 h5
    refine ⟨L, hL, hk, cc, lo, hi, h1, h2, ?_, ?_, ?_⟩
    · rw [expandL_len]; exact h3
    · rw [expandL_len]
      have := (expandL_den (β := β) V s ks t L.length).1 h4
      -- names do not matter
      have nm : ∀ {vs : List Value}, @VRs (V.by s) β (expandL ks t L.length) vs → @VRs (V.by s) (β.pull ρ) (expandL ks t L.length) vs := by
        intro vs h
        letI := V.by s
        refine VRs.of_getG h.length fun q x hx => ?_
        obtain ⟨z, z1, z2⟩ := h.get hx
        refine ⟨z, z1, ?_⟩
        have hql : q < L.length * ks.length := by
          have := (List.getElem?_eq_some_iff.1 hx).1
          rwa [expandL_len] at this
        have hpos : 0 < ks.length := List.length_pos_iff.2 hk
        have hqi : q / ks.length < L.length := Nat.div_lt_of_lt_mul (by rw [Nat.mul_comm]; exact hql)
        have hqj : q % ks.length < ks.length := Nat.mod_lt _ hpos
        have hqe : q / ks.length * ks.length + q % ks.length = q := Nat.div_add_mod' q ks.length
        rw [← hqe, expandL_get ks t hqi hqj, Option.some.injEq] at hx
        subst hx
        rw [ofTm_iff] at z2 ⊢; exact z2
      exact nm this
    · rw [expandL_len]; exact h5
  | map es c =>
    obtain ⟨ces, h1, h2⟩ := h
    exact ⟨ces, h1, EntsR.unren _ _ h2⟩
  | lmap k v t =>
    obtain ⟨L, ces, h0, h1, h2⟩ := h
    rw [Tm.inst_den V s] at h0
    exact ⟨L, ces, h0, h1, h2⟩
  | dfr b => cases b <;> exact h
  | loop l =>
    obtain ⟨st, pd, c, T, lc, d⟩ := l
    obtain ⟨cl, h1, h2, h3, h4, h5, h6, h7, q, h8, h9⟩ := h
    have hlc : @LRef.get V lc = @LRef.get (V.by s) lc := by cases lc <;> rfl
    refine ⟨cl, h1, h2, h3, ⟨h4.1, fun t a ht => ?_⟩, by rw [← hlc]; exact h5, by rw [← hlc]; exact h6, by rw [← hlc]; exact h7, q, h8, h9⟩
    obtain ⟨v, v1, v2⟩ := h4.2 t (a.inst s ρ) (by show (T.inst s ρ).get c t = _; rw [Tmps.inst_get, show T.get c t = some a from ht]; rfl)
    exact ⟨v, v1, VR.unren _ _ v2⟩
  | _ => cases ho
theorem ObjR.ren (r : Ren ρ β β') {w : World} {p : Place} {o : AObj} (ho : o.able = true) (h : @ObjR (V.by s) β w p o) : @ObjR V β' w p (o.inst s ρ) := by
  cases o with
  | row c e k =>
    obtain ⟨cc, lo, hi, h1, h2, h3, h4, h5⟩ := h
    refine ⟨cc, lo, hi, h1, h2, ?_, ?_, ?_⟩
    · rw [AV.insts_len]; exact h3
    · rw [AV.insts_len]; exact h4.ren r
    · rw [AV.insts_len]; exact h5
  | lrow ks t e k =>
    obtain ⟨L, hL, hk, cc, lo, hi, h1, h2, h3, h4, h5⟩ := h
    rw [expandL_len] at h3 h4 h5
    refine ⟨L, by rw [Tm.inst_den V s]; exact hL, hk, cc, lo, hi, h1, h2, ?_, ?_, ?_⟩
    · rw [expandL_len]; exact h3
    · rw [expandL_len]
      refine (expandL_den (β := β') V s ks t L.length).2 ?_
      letI := V.by s
      refine VRs.of_getG h4.length fun q x hx => ?_
      obtain ⟨z, z1, z2⟩ := h4.get hx
      refine ⟨z, z1, ?_⟩
      have hql : q < L.length * ks.length := by
        have := (List.getElem?_eq_some_iff.1 hx).1
        rwa [expandL_len] at this
      have hpos : 0 < ks.length := List.length_pos_iff.2 hk
      have hqi : q / ks.length < L.length := Nat.div_lt_of_lt_mul (by rw [Nat.mul_comm]; exact hql)
      have hqj : q % ks.length < ks.length := Nat.mod_lt _ hpos
      have hqe : q / ks.length * ks.length + q % ks.length = q := Nat.div_add_mod' q ks.length
      rw [← hqe, expandL_get ks t hqi hqj, Option.some.injEq] at hx
      subst hx
      rw [ofTm_iff] at z2 ⊢; exact z2.mono r.zone
    · rw [expandL_len]; exact h5
  | map es c =>
    obtain ⟨ces, h1, h2⟩ := h
    exact ⟨ces, h1, h2.ren r⟩
  | lmap k v t =>
    obtain ⟨L, ces, h0, h1, h2⟩ := h
    exact ⟨L, ces, by rw [Tm.inst_den V s]; exact h0, h1, h2.mono r.zone⟩
  | dfr b => cases b <;> exact h
  | loop l =>
    obtain ⟨st, pd, c, T, lc, d⟩ := l
    obtain ⟨cl, h1, h2, h3, h4, h5, h6, h7, q, h8, h9⟩ := h
    have hlc : @LRef.get V lc = @LRef.get (V.by s) lc := by cases lc <;> rfl
    refine ⟨cl, h1, h2, h3, ⟨h4.1, fun t a ht => ?_⟩, by rw [show (ALoop.inst s ρ ⟨st, pd, c, T, lc, d⟩).code = lc from rfl, hlc]; exact h5, by rw [show (ALoop.inst s ρ ⟨st, pd, c, T, lc, d⟩).code = lc from rfl, hlc]; exact h6, by rw [show (ALoop.inst s ρ ⟨st, pd, c, T, lc, d⟩).code = lc from rfl, hlc]; exact h7, q, r.at_ _ _ h8, h9⟩
    have ht : (T.inst s ρ).get c t = some a := ht
    rw [Tmps.inst_get, Option.map_eq_some_iff] at ht
    obtain ⟨a0, h0, rfl⟩ := ht
    obtain ⟨v, v1, v2⟩ := h4.2 t a0 h0
    exact ⟨v, v1, VR.ren r v2⟩
  | _ => cases ho
theorem AObj.absent_inst {o : AObj} : @AObj.absent V (o.inst s ρ) ↔ @AObj.absent (V.by s) o := by
  cases o with
  | lrow ks t e k =>
    cases k with
    | buf fz sish => cases fz with
      | zero =>
        show @Tm.den V (t.inst s) = .list [] ↔ @Tm.den (V.by s) t = .list []
        rw [Tm.inst_den V s]
      | succ n => exact Iff.rfl
    | _ => exact Iff.rfl
  | _ => exact Iff.rfl
end
end Go.Tc
namespace Go.Tc
structure St where
  vars : List (Nat × AV)
  loc : List (Nat × AV)
  marks : List Nat
  objs : List (Nat × AObj)
  next : Nat
def St.heap (σ : St) : AHeap := ⟨graft σ.objs .leaf, σ.next⟩
def St.tmps (σ : St) : Tmps := ⟨σ.vars, σ.loc⟩
theorem St.mem {σ : St} {b : Nat} {o : AObj} (h : σ.heap.get b = some o) : (b, o) ∈ σ.objs := by
  rcases graft_get _ _ b o h with h | h
  · exact h
  · exact nomatch (show (none : Option AObj) = some o from h)
section
variable [Val]
structure Sat (G : Nat) (c : Ctx) (σ : St) (β : Pl) (a : Act) (w : World) : Prop where
  tr : TR β c σ.tmps a.tmps
  mks : OwnR β σ.marks a.defers
  wr : WR G β σ.heap.get σ.next w
mutual
def nrm (nf : Tm → Tm) : Tm → Tm
  | .op o l => mkT nf o (nrms nf l)
  | t => nf t
def nrms (nf : Tm → Tm) : List Tm → List Tm
  | [] => []
  | t :: r => nrm nf t :: nrms nf r
end
mutual
theorem nrm_den {nf : Tm → Tm} (hn : ∀ t, (nf t).den = t.den) : ∀ t, (nrm nf t).den = t.den
  | .op o l => by
    show (mkT nf o (nrms nf l)).den = o.den (Tm.dens l)
    rw [mkT_den hn, nrms_den hn l]
  | .int _ => hn _
  | .bool _ => hn _
  | .str _ => hn _
  | .v _ => hn _
theorem nrms_den {nf : Tm → Tm} (hn : ∀ t, (nf t).den = t.den) : ∀ l, Tm.dens (nrms nf l) = Tm.dens l
  | [] => rfl
  | t :: r => by
    show (nrm nf t).den :: Tm.dens (nrms nf r) = t.den :: Tm.dens r
    rw [nrm_den hn t, nrms_den hn r]
end
def eqT (nf : Tm → Tm) (a b : Tm) : Bool :=
  match Tm.beq a b with
  | true => true
  | false => Tm.beq (nrm nf a) (nrm nf b)
theorem eqT_den {nf : Tm → Tm} (hn : ∀ t, (nf t).den = t.den) {a b : Tm} (h : eqT nf a b = true) : a.den = b.den := by
  unfold eqT at h
  split at h
  · rename_i e; rw [Tm.beq_eq a b e]
  · rw [← nrm_den hn a, ← nrm_den hn b, Tm.beq_eq _ _ h]
def isNat (t : Tm) : Bool :=
  match t with
  | .int (.ofNat _) => true
  | _ => false
def isZero (t : Tm) : Bool :=
  match t with
  | .int 0 => true
  | _ => false
mutual
def matchV (nf : Tm → Tm) : AV → AV → Bool
  | a, .sy ck t => match tmOf ck a with
    | some t' => eqT nf t' t
    | none => false
  | .sy ck t, .int k n => CK.beq ck (.int k) && eqT nf t (.int n)
  | .sy ck t, .bool b => CK.beq ck .bool && eqT nf t (.bool b)
  | .sy ck t, .str s => CK.beq ck .str && eqT nf t (.str s)
  | .lsl b es lo n cm, .lsl b' es' lo' n' cm' => b.beq b' && es.beq es' && eqT nf lo lo' && eqT nf n n' && (match cm' with | .rd => true | _ => LCap.beq cm cm')
  | .nilSlice, .lsl _ _ lo' n' _ => isNat (nrm nf lo') && isZero (nrm nf n')
  | .agg l, .agg m => matchVs nf l m
  | .tuple l, .tuple m => matchVs nf l m
  | .fn f x y, .fn g u v => decide (f = g) && matchVs nf x u && matchVs nf y v
  | .iface t v, .iface u x => t.beq u && matchV nf v x
  | a, p => AV.beq a p
def matchVs (nf : Tm → Tm) : List AV → List AV → Bool
  | [], [] => true
  | a :: r, p :: s => matchV nf a p && matchVs nf r s
  | _, _ => false
end
variable {β : Pl}
mutual
theorem matchV_VR {nf : Tm → Tm} (hn : ∀ t, (nf t).den = t.den) : ∀ (p a : AV) (v : Value), matchV nf a p = true → VR β a v → VR β p v
  | .sy ck t, a, v, h, hv => by
    unfold matchV at h
    split at h
    · rename_i t' ht
      have := tmOf_cell ht hv
      rw [eqT_den hn h] at this
      exact .sy this
    · cases h
  | .lsl b' es' lo' n' cm', a, v, h, hv => by
    cases a <;> first
      | (simp [matchV, AV.beq] at h; done)
      | skip
    · simp only [matchV, Bool.and_eq_true] at h
      cases hv
      have h2 : n'.den = .int 0 := by
        rw [← nrm_den hn n']
        have := h.2
        unfold isZero at this
        split at this
        · rename_i e; rw [e]; rfl
        · cases this
      have h1 : ∃ l : Nat, lo'.den = .int (l : Int) := by
        rw [← nrm_den hn lo']
        have := h.1
        unfold isNat at this
        split at this
        · rename_i m e; exact ⟨m, by rw [e]; rfl⟩
        · cases this
      obtain ⟨l, h1⟩ := h1
      exact .lsl0 h1 h2
    · simp only [matchV, Bool.and_eq_true] at h
      obtain ⟨⟨⟨⟨h1, h2⟩, h3⟩, h4⟩, h5⟩ := h
      have e1 := Nat.eq_of_beq_eq_true h1
      have e2 := Nat.eq_of_beq_eq_true h2
      have e3 := eqT_den hn h3
      have e4 := eqT_den hn h4
      subst e1 e2
      split at h5
      · cases hv with
        | lsl hl hn' hp hc hle => exact .lsl (by rw [← e3]; exact hl) (by rw [← e4]; exact hn') hp trivial hle
        | lsl0 hl hn' => exact .lsl0 (by rw [← e3]; exact hl) (by rw [← e4]; exact hn')
        | lslE a c hl hn' hc => exact .lslE a c (by rw [← e3]; exact hl) (by rw [← e4]; exact hn') (.inr rfl)
      · have e5 := LCap.beq_eq _ _ h5
        subst e5
        cases hv with
        | lsl hl hn' hp hc hle => exact .lsl (by rw [← e3]; exact hl) (by rw [← e4]; exact hn') hp hc hle
        | lsl0 hl hn' => exact .lsl0 (by rw [← e3]; exact hl) (by rw [← e4]; exact hn')
        | lslE a c hl hn' hc => exact .lslE a c (by rw [← e3]; exact hl) (by rw [← e4]; exact hn') hc
  | .agg m, a, v, h, hv => by
    cases a <;> first
      | (simp [matchV, AV.beq] at h; done)
      | skip
    simp only [matchV] at h
    cases hv with | agg hv => exact .agg (matchVs_VRs hn m _ _ h hv)
  | .tuple m, a, v, h, hv => by
    cases a <;> first
      | (simp [matchV, AV.beq] at h; done)
      | skip
    simp only [matchV] at h
    cases hv with | tuple hv => exact .tuple (matchVs_VRs hn m _ _ h hv)
  | .fn g u x, a, v, h, hv => by
    cases a <;> first
      | (simp [matchV, AV.beq] at h; done)
      | skip
    simp only [matchV, Bool.and_eq_true, decide_eq_true_eq] at h
    obtain ⟨⟨rfl, h2⟩, h3⟩ := h
    cases hv with | fn hf ha hc => exact .fn hf (matchVs_VRs hn u _ _ h2 ha) (matchVs_VRs hn x _ _ h3 hc)
  | .iface t x, a, v, h, hv => by
    cases a <;> first
      | (simp [matchV, AV.beq] at h; done)
      | skip
    simp only [matchV, Bool.and_eq_true] at h
    have e := Nat.eq_of_beq_eq_true h.1
    subst e
    cases hv with | iface _ hv => exact .iface _ (matchV_VR hn x _ _ h.2 hv)
  | .bool b, a, v, h, hv => by
    cases a with
    | sy ck t =>
      simp only [matchV, Bool.and_eq_true] at h
      cases hv with | sy hc =>
      rw [CK.beq_eq _ _ h.1, eqT_den hn h.2] at hc
      obtain ⟨n, e, rfl⟩ := hc.boolI
      cases e; exact .bool _
    | _ => 
      have e := AV.beq_eq _ _ (show AV.beq _ (.bool b) = true from h)
      rw [← e]; exact hv
  | .int k n, a, v, h, hv => by
    cases a with
    | sy ck t =>
      simp only [matchV, Bool.and_eq_true] at h
      cases hv with | sy hc =>
      rw [CK.beq_eq _ _ h.1, eqT_den hn h.2] at hc
      obtain ⟨n, e, rfl⟩ := hc.intI
      cases e; exact .int _ _
    | _ =>
      have e := AV.beq_eq _ _ (show AV.beq _ (.int k n) = true from h)
      rw [← e]; exact hv
  | .str s, a, v, h, hv => by
    cases a with
    | sy ck t =>
      simp only [matchV, Bool.and_eq_true] at h
      cases hv with | sy hc =>
      rw [CK.beq_eq _ _ h.1, eqT_den hn h.2] at hc
      obtain ⟨n, e, rfl⟩ := hc.strI
      have e' : s = BS.of n := by cases e; rfl
      rw [e']; exact .str _
    | _ =>
      have e := AV.beq_eq _ _ (show AV.beq _ (.str s) = true from h)
      rw [← e]; exact hv
  | .nilPtr, a, v, h, hv | .ptr _ _, a, v, h, hv | .nilSlice, a, v, h, hv | .slice _ _ _ _, a, v, h, hv | .nilMap, a, v, h, hv | .map _, a, v, h, hv | .nilFn, a, v, h, hv
  | .nilIface, a, v, h, hv | .junk, a, v, h, hv | .esl, a, v, h, hv | .rng _ _ _, a, v, h, hv | .strU _, a, v, h, hv | .boolU, a, v, h, hv | .eptr _ _ _ _, a, v, h, hv | .iptr _ _ _ _, a, v, h, hv => by
    have e := AV.beq_eq a _ (by cases a <;> exact h)
    rw [← e]; exact hv
theorem matchVs_VRs {nf : Tm → Tm} (hn : ∀ t, (nf t).den = t.den) : ∀ (m l : List AV) (vs : List Value), matchVs nf l m = true → VRs β l vs → VRs β m vs
  | [], l, vs, h, hv => by
    cases l with
    | nil => exact hv
    | cons => cases h
  | p :: m, l, vs, h, hv => by
    cases l with
    | nil => cases h
    | cons a l =>
      simp only [matchVs, Bool.and_eq_true] at h
      cases hv with | cons hx hs => exact .cons (matchV_VR hn p a _ h.1 hx) (matchVs_VRs hn m l _ h.2 hs)
end
theorem matchVs_len {nf : Tm → Tm} : ∀ (l m : List AV), matchVs nf l m = true → l.length = m.length
  | [], [], _ => rfl
  | a :: l, p :: m, h => by
    simp only [matchVs, Bool.and_eq_true] at h
    simp [matchVs_len l m h.2]
  | [], _ :: _, h | _ :: _, [], h => by cases h
def matchEs (nf : Tm → Tm) : List AEnt → List AEnt → Bool
  | [], [] => true
  | a :: l, b :: m => matchV nf a.key b.key && matchV nf a.val b.val && a.born.beq b.born && matchEs nf l m
  | _, _ => false
def tmpsOk (nf : Tm → Tm) (c : Ctx) (T : Tmps) : List (Nat × AV) → Bool
  | [] => true
  | (t, p) :: r => match T.get c t with
    | some a => matchV nf a p && tmpsOk nf c T r
    | none => false
def matchL (nf : Tm → Tm) : ALoop → ALoop → Bool
  | ⟨s, p, c, T, r, d⟩, ⟨s', p', c', ⟨v', l'⟩, r', d'⟩ => decide (s = s') && pendBeq p p' && Ctx.beq c c' && tmpsOk nf c T v' && tmpsOk nf c T l' && LRef.beq r r' && d.beq d'
def isNone (t : Tm) : Bool :=
  match t with
  | .op .mk [] => true
  | _ => false
def matchO (nf : Tm → Tm) (o p : AObj) : Bool :=
  match o, p with
  | .row c e k, .row c' e' k' => matchVs nf c c' && e.beq e' && decide (k = k')
  | .lrow ks t e k, .lrow ks' t' e' k' => CK.beqs ks ks' && eqT nf t t' && e.beq e' && decide (k = k')
  | .map es c, .map es' c' => matchEs nf es es' && c.beq c'
  | .lmap k v t, .lmap k' v' t' => CK.beq k k' && CK.beq v v' && eqT nf t t'
  | .map [] 0, .lmap _ _ t => isNone (nrm nf t)
  | .dfr a, .dfr b => a == b
  | .loop a, .loop b => matchL nf a b
  | _, _ => false
theorem matchEs_R {nf : Tm → Tm} (hn : ∀ t, (nf t).den = t.den) : ∀ (l m : List AEnt) (ms : List MapEntry), matchEs nf l m = true → EntsR β l ms → EntsR β m ms
  | [], [], ms, _, h => h
  | a :: l, b :: m, ms, h, hv => by
    simp only [matchEs, Bool.and_eq_true] at h
    obtain ⟨⟨⟨h1, h2⟩, h3⟩, h4⟩ := h
    cases hv with
    | cons hk hx hb hs => exact .cons (matchV_VR hn _ _ _ h1 hk) (matchV_VR hn _ _ _ h2 hx) ((Nat.eq_of_beq_eq_true h3).symm.trans hb) (matchEs_R hn l m _ h4 hs)
  | [], _ :: _, _, h, _ | _ :: _, [], _, h, _ => by cases h
omit [Val] in
theorem assoc_mem {l : List (Nat × AV)} {t : Nat} {a : AV} (h : assoc l t = some a) : (t, a) ∈ l := by
  induction l with
  | nil => cases h
  | cons p r ih =>
    obtain ⟨x, y⟩ := p
    simp only [assoc, Bool.cond_eq_ite, Nat.beq_eq] at h
    split at h
    · rename_i e; cases h; subst e; simp
    · simp [ih h]
omit [Val] in
theorem tmpsOk_get {nf : Tm → Tm} {c : Ctx} {T : Tmps} : ∀ {l : List (Nat × AV)}, tmpsOk nf c T l = true → ∀ t p, (t, p) ∈ l → ∃ a, T.get c t = some a ∧ matchV nf a p = true
  | (t, p) :: r, h, t', p', hm => by
    simp only [tmpsOk] at h
    split at h
    · rename_i a ha
      simp only [Bool.and_eq_true] at h
      rcases List.mem_cons.1 hm with e | e
      · cases e; exact ⟨a, ha, h.1⟩
      · exact tmpsOk_get h.2 t' p' e
    · cases h
theorem matchO_R {nf : Tm → Tm} (hn : ∀ t, (nf t).den = t.den) {w : World} {q : Place} {o p : AObj} (h : matchO nf o p = true) (ho : ObjR β w q o) : ObjR β w q p := by
  unfold matchO at h
  split at h
  · rename_i c e k c' e' k'
    simp only [Bool.and_eq_true, decide_eq_true_eq] at h
    obtain ⟨⟨h1, h2⟩, rfl⟩ := h
    have e2 := Nat.eq_of_beq_eq_true h2
    subst e2
    have hl := matchVs_len _ _ h1
    exact RowR.known ho hl.symm fun vs h => matchVs_VRs hn _ _ _ h1 h
  · rename_i ks t e k ks' t' e' k'
    simp only [Bool.and_eq_true, decide_eq_true_eq] at h
    obtain ⟨⟨⟨h1, h2⟩, h3⟩, rfl⟩ := h
    have e1 := CK.beqs_eq _ _ h1
    have e2 := eqT_den hn h2
    have e3 := Nat.eq_of_beq_eq_true h3
    subst e1 e3
    obtain ⟨L, hL, hks, hr⟩ := ho
    exact ⟨L, by rw [← e2]; exact hL, hks, hr.known (by rw [expandL_len, expandL_len]) fun vs h => expandL_congr e2 h⟩
  · rename_i es c es' c'
    simp only [Bool.and_eq_true] at h
    have e := Nat.eq_of_beq_eq_true h.2
    subst e
    obtain ⟨ces, h1, h2⟩ := ho
    exact ⟨ces, h1, matchEs_R hn _ _ _ h.1 h2⟩
  · rename_i k v t k' v' t'
    simp only [Bool.and_eq_true] at h
    obtain ⟨⟨h1, h2⟩, h3⟩ := h
    have e1 := CK.beq_eq _ _ h1
    have e2 := CK.beq_eq _ _ h2
    have e3 := eqT_den hn h3
    subst e1 e2
    obtain ⟨L, ces, g0, g1, g2⟩ := ho
    exact ⟨L, ces, by rw [← e3]; exact g0, g1, g2⟩
  · rename_i k v t
    obtain ⟨ces, h1, h2⟩ := ho
    refine ⟨[], ces, ?_, h1, ?_⟩
    · rw [← nrm_den hn t]
      unfold isNone at h
      split at h
      · rename_i e; rw [e]; rfl
      · cases h
    · generalize ces.toList = ms at h2
      cases h2
      exact .nil 0
  · rename_i a b
    simp only [beq_iff_eq] at h
    subst h; exact ho
  · rename_i a b
    obtain ⟨s, pd, c, T, r, d⟩ := a
    obtain ⟨s', pd', c', ⟨v', l'⟩, r', d'⟩ := b
    simp only [matchL, Bool.and_eq_true, decide_eq_true_eq] at h
    obtain ⟨⟨⟨⟨⟨⟨rfl, h2⟩, h3⟩, h4⟩, h5⟩, h6⟩, h7⟩ := h
    have e2 := pendBeq_eq h2
    have e3 := Ctx.beq_eq h3
    have e6 := LRef.beq_eq h6
    have e7 := Nat.eq_of_beq_eq_true h7
    subst e2 e3 e6 e7
    obtain ⟨cl, g1, g2, g3, g4, g5, g6, g7, g8⟩ := ho
    refine ⟨cl, g1, g2, g3, ⟨g4.1, fun t a ht => ?_⟩, g5, g6, g7, g8⟩
    have : ∃ a1, T.get c t = some a1 ∧ matchV nf a1 a = true := by
      have ht : (Tmps.mk v' l').get c t = some a := ht
      simp only [Tmps.get] at ht
      cases hmt : c.mask.testBit t
      · rw [hmt] at ht; exact tmpsOk_get h5 t a (assoc_mem ht)
      · rw [hmt] at ht; exact tmpsOk_get h4 t a (assoc_mem ht)
    obtain ⟨a1, q1, q2⟩ := this
    obtain ⟨v, v1, v2⟩ := g4.2 t a1 q1
    exact ⟨v, v1, matchV_VR hn _ _ _ q2 v2⟩
  · cases h
omit [Val] in
theorem matchO_wr {nf : Tm → Tm} {o p : AObj} (h : matchO nf o p = true) : p.wr = o.wr := by
  unfold matchO at h
  split at h
  · simp only [Bool.and_eq_true, decide_eq_true_eq] at h
    obtain ⟨-, rfl⟩ := h
    cases ‹RK› <;> rfl
  · simp only [Bool.and_eq_true, decide_eq_true_eq] at h
    obtain ⟨-, rfl⟩ := h
    cases ‹RK› <;> rfl
  · rfl
  · rfl
  · rfl
  · rfl
  · rfl
  · cases h
theorem matchO_absent {nf : Tm → Tm} (hn : ∀ t, (nf t).den = t.den) {o p : AObj} (h : matchO nf o p = true) (ho : o.absent) : p.absent := by
  unfold matchO at h
  split at h
  · exact ho
  · rename_i ks t e k ks' t' e' k'
    simp only [Bool.and_eq_true, decide_eq_true_eq] at h
    obtain ⟨⟨⟨h1, h2⟩, h3⟩, rfl⟩ := h
    have e2 := eqT_den hn h2
    cases k with
    | buf fz sish => cases fz with
      | zero => show t'.den = .list []; rw [← e2]; exact ho
      | succ n => exact ho
    | _ => exact ho
  · exact ho
  · exact ho
  · exact ho.elim
  · exact ho
  · exact ho
  · cases h
def noWhere (nf : Tm → Tm) : AObj → Bool
  | .lrow _ t _ (.buf 0 _) => isNone (nrm nf t)
  | _ => false
theorem noWhere_absent {nf : Tm → Tm} (hn : ∀ t, (nf t).den = t.den) {o : AObj} (h : noWhere nf o = true) : o.absent := by
  unfold noWhere at h
  split at h
  · rename_i t e sish
    show t.den = .list []
    rw [← nrm_den hn t]
    unfold isNone at h
    split at h
    · rename_i e; rw [e]; rfl
    · cases h
  · cases h
def asN : List (Nat × Nat) → Nat → Option Nat
  | [], _ => none
  | p :: r, t => bif p.1.beq t then some p.2 else asN r t
omit [Val] in
theorem asN_key {l : List (Nat × Nat)} {x y : Nat} (h : asN l x = some y) : (x, y) ∈ l := by
  induction l with
  | nil => cases h
  | cons p r ih =>
    obtain ⟨a, b⟩ := p
    simp only [asN, Bool.cond_eq_ite, Nat.beq_eq] at h
    split at h
    · rename_i e; cases h; subst e; simp
    · simp [ih h]
def renOf (l : List (Nat × Nat)) (k0 next top b : Nat) : Nat :=
  match b.blt k0 with
  | true => b
  | false => match asN l b with
    | some b' => b'
    | none => next + top + b
def inList : List Nat → Nat → Bool
  | [], _ => false
  | a :: r, x => bif a.beq x then true else inList r x
def nodupB : List Nat → Bool
  | [] => true
  | a :: r => !inList r a && nodupB r
def varsOk (nf : Tm → Tm) (c : Ctx) (s : Nat → Tm) (ρ : Nat → Nat) (T : Tmps) : List (Nat × AV) → Bool
  | [] => true
  | (t, p) :: r => match T.get c t with
    | some a => matchV nf a (p.inst s ρ) && varsOk nf c s ρ T r
    | none => false
def marksOk (ρ : Nat → Nat) : List Nat → List Nat → Bool
  | [], [] => true
  | a :: r, b :: s => a.beq (ρ b) && marksOk ρ r s
  | _, _ => false
def objsOk (nf : Tm → Tm) (s : Nat → Tm) (ρ : Nat → Nat) (H : AHeap) (top : Nat) : List (Nat × AObj) → Bool
  | [] => true
  | (b, p) :: r => p.able && b.blt top && (match H.get (ρ b) with
    | some o => matchO nf o (p.inst s ρ)
    | none => H.next.ble (ρ b) && noWhere nf (p.inst s ρ)) && objsOk nf s ρ H top r
def keysOk (k0 top : Nat) : List (Nat × Nat) → Bool
  | [] => true
  | (a, _) :: r => k0.ble a && a.blt top && keysOk k0 top r
def isState (nf : Tm → Tm) (G k0 : Nat) (c : Ctx) (s : Nat → Tm) (l : List (Nat × Nat)) (T : Tmps) (m : List Nat) (H : AHeap) (σ : St) : Bool :=
  match H with
  | ⟨objs, next⟩ =>
    match G.ble k0 && k0.ble σ.next && k0.ble next && keysOk k0 σ.next l with
    | true => varsOk nf c s (renOf l k0 next σ.next) T σ.vars && varsOk nf c s (renOf l k0 next σ.next) T σ.loc && marksOk (renOf l k0 next σ.next) m σ.marks && objsOk nf s (renOf l k0 next σ.next) ⟨objs, next⟩ σ.next σ.objs && nodupB (σ.objs.map fun p => renOf l k0 next σ.next p.1)
    | false => false
def isStateM (nf : Tm → Tm) (G k0 : Nat) (c : Ctx) (s : Nat → Tm) (l : List (Nat × Nat)) (T : Tmps) (m : List Mark) (H : AHeap) (σ : St) : Bool :=
  match ownsOf m with
  | some n => isState nf G k0 c s l T n H σ
  | none => false
omit [Val] in
theorem isStateM_own {nf : Tm → Tm} {G k0 : Nat} {c : Ctx} {s : Nat → Tm} {l : List (Nat × Nat)} {T : Tmps} {m : List Mark} {H : AHeap} {σ : St} (h : isStateM nf G k0 c s l T m H σ = true) : ∃ n, ownsOf m = some n ∧ isState nf G k0 c s l T n H σ = true := by
  unfold isStateM at h
  split at h
  · rename_i n hn; exact ⟨n, hn, h⟩
  · cases h
theorem varsOk_get {nf : Tm → Tm} {c : Ctx} {s : Nat → Tm} {ρ : Nat → Nat} {T : Tmps} : ∀ {l : List (Nat × AV)}, varsOk nf c s ρ T l = true → ∀ t p, (t, p) ∈ l → ∃ a, T.get c t = some a ∧ matchV nf a (p.inst s ρ) = true
  | (t, p) :: r, h, t', p', hm => by
    simp only [varsOk] at h
    split at h
    · rename_i a ha
      simp only [Bool.and_eq_true] at h
      rcases List.mem_cons.1 hm with e | e
      · cases e; exact ⟨a, ha, h.1⟩
      · exact varsOk_get h.2 t' p' e
    · cases h
theorem objsOk_get {nf : Tm → Tm} {s : Nat → Tm} {ρ : Nat → Nat} {H : AHeap} {top : Nat} : ∀ {l : List (Nat × AObj)}, objsOk nf s ρ H top l = true → ∀ b p, (b, p) ∈ l → p.able = true ∧ b < top ∧ ((∃ o, H.get (ρ b) = some o ∧ matchO nf o (p.inst s ρ) = true) ∨ (H.get (ρ b) = none ∧ H.next ≤ ρ b ∧ noWhere nf (p.inst s ρ) = true))
  | (b, p) :: r, h, b', p', hm => by
    simp only [objsOk, Bool.and_eq_true] at h
    obtain ⟨⟨⟨h1, h2⟩, h3⟩, h4⟩ := h
    rcases List.mem_cons.1 hm with e | e
    · cases e
      refine ⟨h1, by simpa [Nat.blt_eq] using h2, ?_⟩
      split at h3
      · rename_i o ho; exact .inl ⟨o, ho, h3⟩
      · rename_i ho
        simp only [Bool.and_eq_true] at h3
        exact .inr ⟨ho, Nat.le_of_ble_eq_true h3.1, h3.2⟩
    · exact objsOk_get h4 b' p' e
theorem marksOk_R {ρ : Nat → Nat} : ∀ {m n : List Nat} {ds : List Deferred}, marksOk ρ m n = true → OwnR β m ds → OwnR (β.pull ρ) n ds
  | [], [], ds, _, h => by cases ds with | nil => trivial | cons => exact h.elim
  | a :: m, b :: n, ds, h, hm => by
    cases ds with
    | nil => exact hm.elim
    | cons d ds =>
      simp only [marksOk, Bool.and_eq_true] at h
      have e := Nat.eq_of_beq_eq_true h.1
      subst e
      obtain ⟨⟨p, h1, h2⟩, h3⟩ := hm
      exact ⟨⟨p, h1, h2⟩, marksOk_R h.2 h3⟩
  | [], _ :: _, _, h, _ | _ :: _, [], _, h, _ => by cases h
omit [Val] in
theorem inList_iff : ∀ {l : List Nat} {x : Nat}, inList l x = true ↔ x ∈ l
  | [], x => by simp [inList]
  | a :: r, x => by
    simp only [inList, Bool.cond_eq_ite, Nat.beq_eq]
    split
    · rename_i e; simp [e]
    · rename_i e
      rw [inList_iff, List.mem_cons]
      exact ⟨.inr, fun h => h.resolve_left fun h => e h.symm⟩
omit [Val] in
theorem nodupB_inj {f : Nat → Nat} : ∀ {l : List (Nat × AObj)}, nodupB (l.map fun p => f p.1) = true → ∀ {a b : Nat} {o o' : AObj}, (a, o) ∈ l → (b, o') ∈ l → f a = f b → a = b
  | [], _, a, b, o, o', h, _, _ => by cases h
  | (c, q) :: r, h, a, b, o, o', ha, hb, e => by
    simp only [List.map_cons, nodupB, Bool.and_eq_true, Bool.not_eq_true'] at h
    have hno : ∀ x ox, (x, ox) ∈ r → f c ≠ f x := by
      intro x ox hx e
      have : inList (r.map fun p => f p.1) (f c) = true := inList_iff.2 (by rw [e]; exact List.mem_map.2 ⟨(x, ox), hx, rfl⟩)
      rw [this] at h; cases h.1
    rcases List.mem_cons.1 ha with ea | ea <;> rcases List.mem_cons.1 hb with eb | eb
    · cases ea; cases eb; rfl
    · cases ea; exact (hno b o' eb e).elim
    · cases eb; exact (hno a o ea e.symm).elim
    · exact nodupB_inj h.2 ea eb e
omit [Val] in
theorem keysOk_get : ∀ {l : List (Nat × Nat)} {k0 top : Nat}, keysOk k0 top l = true → ∀ a b, (a, b) ∈ l → k0 ≤ a ∧ a < top
  | (x, y) :: r, k0, top, h, a, b, hm => by
    simp only [keysOk, Bool.and_eq_true] at h
    obtain ⟨⟨h1, h2⟩, h3⟩ := h
    rcases List.mem_cons.1 hm with e | e
    · cases e; exact ⟨Nat.le_of_ble_eq_true h1, by simpa [Nat.blt_eq] using h2⟩
    · exact keysOk_get h3 a b e
def Wrs (β : Pl) (g : Nat → Option AObj) (c : Nat) : Prop := ∃ b o p, g b = some o ∧ o.wr = true ∧ β b = some p ∧ p.c = c
def Alls (β : Pl) (g : Nat → Option AObj) (c : Nat) : Prop := ∃ b o p, g b = some o ∧ β b = some p ∧ p.c = c
structure Fr (β : Pl) (g : Nat → Option AObj) (w : World) (β' : Pl) (g' : Nat → Option AObj) (w' : World) : Prop where
  size : w.heap.size ≤ w'.heap.size
  kept : ∀ c, c < w.heap.size → ¬ Wrs β g c → w'.heap[c]? = w.heap[c]?
  newW : ∀ c, Wrs β' g' c → c < w.heap.size → Wrs β g c
  newA : ∀ c, Alls β' g' c → c < w.heap.size → Alls β g c
  zone : ∀ c o, β.zone c = some o → β'.zone c = some o
  zn : ∀ c x, β'.zone c = some x → β.zone c = some x ∨ w.heap.size ≤ c ∨ Wrs β g c
  os : w'.os = w.os
  out : w'.output = w.output
  tape : w'.tape = w.tape
theorem Fr.trans {β β' β'' : Pl} {g g' g'' : Nat → Option AObj} {w w' w'' : World} (h : Fr β g w β' g' w') (k : Fr β' g' w' β'' g'' w'') : Fr β g w β'' g'' w'' := by
  refine ⟨Nat.le_trans h.size k.size, fun c hc hno => ?_, fun c hc hlt => h.newW c (k.newW c hc (Nat.lt_of_lt_of_le hlt h.size)) hlt, fun c hc hlt => h.newA c (k.newA c hc (Nat.lt_of_lt_of_le hlt h.size)) hlt, fun c o ho => k.zone c o (h.zone c o ho), fun c x hx => ?_, k.os.trans h.os, k.out.trans h.out, k.tape.trans h.tape⟩
  · rw [k.kept c (Nat.lt_of_lt_of_le hc h.size) fun hw => hno (h.newW c hw hc), h.kept c hc hno]
  · rcases k.zn c x hx with h0 | h0 | h0
    · exact h.zn c x h0
    · exact .inr (.inl (Nat.le_trans h.size h0))
    · by_cases hlt : c < w.heap.size
      · exact .inr (.inr (h.newW c h0 hlt))
      · exact .inr (.inl (by omega))
theorem Fr.of {β β' : Pl} {g g' : Nat → Option AObj} {n n' : Nat} {w w' : World} (t : Tran β g n w β' g' n' w') : Fr β g w β' g' w' := by
  refine ⟨t.size, fun c hc hno => t.kept c hc fun b o p hb ho hp e => hno ⟨b, o, p, hb, ho, hp, e⟩, fun c ⟨b, o, p, hb, ho, hp, e⟩ hlt => ?_, fun c ⟨b, o, p, hb, hp, e⟩ hlt => ?_, t.ext.zone, t.zn, t.os, t.out, t.tape⟩
  · obtain ⟨b0, o0, p0, q1, q2, q3, q4⟩ := t.new b o p hb hp (by omega)
    exact ⟨b0, o0, p0, q1, q2 ho, q3, q4.trans e⟩
  · obtain ⟨b0, o0, p0, q1, q2, q3, q4⟩ := t.new b o p hb hp (by omega)
    exact ⟨b0, o0, p0, q1, q3, q4.trans e⟩
omit [Val] in
theorem isState_ok {V : Val} {nf : Tm → Tm} (hn : ∀ t, @Tm.den V (nf t) = @Tm.den V t) {G k0 : Nat} {c : Ctx} {s : Nat → Tm} {l : List (Nat × Nat)} {T : Tmps} {m : List Nat} {H : AHeap} {σ : St} (h : isState nf G k0 c s l T m H σ = true) {a : Act} {w : World}
    (hT : @TR V β c T a.tmps) (hm : OwnR β m a.defers) (hw : @WR V G β H.get H.next w) :
    ∃ β', @Sat (V.by s) G c σ β' a w ∧ (∀ b, b < k0 → β' b = β b) ∧ Fr β H.get w β' σ.heap.get w := by
  obtain ⟨objs, next⟩ := H
  simp only [isState] at h
  split at h
  · rename_i h0
    simp only [Bool.and_eq_true] at h0 h
    obtain ⟨⟨⟨g1, g2⟩, g3⟩, g4⟩ := h0
    obtain ⟨⟨⟨⟨c1, c0⟩, c2⟩, c3⟩, c4⟩ := h
    have g1 := Nat.le_of_ble_eq_true g1
    have g2 := Nat.le_of_ble_eq_true g2
    have g3 := Nat.le_of_ble_eq_true g3
    generalize hρ : renOf l k0 next σ.next = ρ at c1 c0 c2 c3 c4
    have low : ∀ b, b < k0 → ρ b = b := by
      intro b hb
      rw [← hρ]; unfold renOf
      rw [show b.blt k0 = true from by simpa [Nat.blt_eq] using hb]
    have high : ∀ b, σ.next ≤ b → next ≤ ρ b := by
      intro b hb
      rw [← hρ]; unfold renOf
      have : b.blt k0 = false := by rw [← Bool.not_eq_true, Nat.blt_eq]; omega
      rw [this]
      cases hk : asN l b with
      | some b' => have := keysOk_get g4 _ _ (asN_key hk); omega
      | none => simp only; omega
    have hfresh : ∀ b, next ≤ b → β b = none := hw.fresh
    have hobj : ∀ b o, σ.heap.get b = some o → o.able = true ∧ b < σ.next ∧ ((∃ p, β (ρ b) = some p ∧ @ObjR V β w p (o.inst s ρ)) ∨ (β (ρ b) = none ∧ @AObj.absent V (o.inst s ρ))) ∧ (∀ p, β (ρ b) = some p → ∃ o1, (AHeap.mk objs next).get (ρ b) = some o1 ∧ o1.wr = o.wr) := by
      intro b o hb
      obtain ⟨q1, q2, q3⟩ := objsOk_get c3 b o (St.mem hb)
      refine ⟨q1, q2, ?_, ?_⟩
      · rcases q3 with ⟨o1, r1, r2⟩ | ⟨-, r2, r3⟩
        · rcases hw.some_ _ _ r1 with ⟨p, hp, ho⟩ | ⟨hp, -, ho⟩
          · exact .inl ⟨p, hp, @matchO_R V _ _ hn _ _ _ _ r2 ho⟩
          · exact .inr ⟨hp, @matchO_absent V _ hn _ _ r2 ho⟩
        · exact .inr ⟨hfresh _ r2, @noWhere_absent V _ hn _ r3⟩
      · intro p hp
        rcases q3 with ⟨o1, r1, r2⟩ | ⟨-, r2, -⟩
        · exact ⟨o1, r1, by rw [← matchO_wr r2, AObj.inst_wr]⟩
        · rw [hfresh _ r2] at hp; cases hp
    refine ⟨β.pull ρ, @Sat.mk (V.by s) _ _ _ _ _ _ ⟨hT.1, fun t a0 ht => ?_⟩ (marksOk_R c2 hm) ?_, fun b hb => by show β (ρ b) = β b; rw [low b hb], ?_⟩
    · have hassoc : ∀ (l : List (Nat × AV)), assoc l t = some a0 → (t, a0) ∈ l := by
        intro l
        induction l with
        | nil => intro h; cases h
        | cons p r ih =>
          intro h
          obtain ⟨x, y⟩ := p
          simp only [assoc, Bool.cond_eq_ite, Nat.beq_eq] at h
          split at h
          · rename_i e; cases h; subst e; simp
          · simp [ih h]
      have hmem : ∃ a1, T.get c t = some a1 ∧ matchV nf a1 (a0.inst s ρ) = true := by
        simp only [St.tmps, Tmps.get] at ht
        cases hmt : c.mask.testBit t
        · rw [hmt] at ht
          simp only [cond_false] at ht
          exact varsOk_get c0 t a0 (hassoc _ ht)
        · rw [hmt] at ht
          simp only [cond_true] at ht
          exact varsOk_get c1 t a0 (hassoc _ ht)
      obtain ⟨a1, h1, h2⟩ := hmem
      obtain ⟨v, h3, h4⟩ := hT.2 t a1 h1
      exact ⟨v, h3, VR.unren _ _ (@matchV_VR V _ _ hn _ _ _ h2 h4)⟩
    · refine @WR.mk (V.by s) G (β.pull ρ) σ.heap.get σ.next w (fun b hb => hfresh (ρ b) (high b hb)) (fun b p hb => hw.bound (ρ b) p hb) (fun b o hb => ?_) (fun b b' o o' p p' hb hb' hp hp' hc => ?_) (fun i hi => ?_) (Nat.le_trans g1 g2) (fun x ob hx => ⟨(hw.keep x ob hx).1, fun b o p hb hwr hp => ?_⟩)
      · obtain ⟨q1, q2, q3, -⟩ := hobj b o hb
        rcases q3 with ⟨p, hp, ho⟩ | ⟨hp, ho⟩
        · exact .inl ⟨p, hp, ObjR.unren q1 ho⟩
        · exact .inr ⟨hp, q2, AObj.absent_inst.1 ho⟩
      · obtain ⟨o1, r1, -⟩ := (hobj b o hb).2.2.2 p hp
        obtain ⟨o2, r2, -⟩ := (hobj b' o' hb').2.2.2 p' hp'
        exact nodupB_inj c4 (St.mem hb) (St.mem hb') (hw.inj _ _ o1 o2 p p' r1 r2 hp hp' hc)
      · obtain ⟨sz, hs⟩ := hw.glob i hi
        exact ⟨sz, by show β (ρ i) = _; rw [low i (by omega)]; exact hs⟩
      · obtain ⟨o1, r1, r2⟩ := (hobj b o hb).2.2.2 p hp
        exact (hw.keep x ob hx).2 _ o1 p r1 (r2.trans hwr) hp
    · refine ⟨Nat.le_refl _, fun _ _ _ => rfl, fun c ⟨b, o, p, hb, ho, hp, e⟩ _ => ?_, fun c ⟨b, o, p, hb, hp, e⟩ _ => ?_, fun _ _ h => h, fun _ _ h => .inl h, rfl, rfl, rfl⟩
      · obtain ⟨o1, r1, r2⟩ := (hobj b o hb).2.2.2 p hp
        exact ⟨ρ b, o1, p, r1, r2.trans ho, hp, e⟩
      · obtain ⟨o1, r1, r2⟩ := (hobj b o hb).2.2.2 p hp
        exact ⟨ρ b, o1, p, r1, hp, e⟩
  · cases h
end
end Go.Tc
