/- Slice expressions and conversions. -/
import Derived.Test.YtjmjbjnbfodalaaGreatTcPure
set_option linter.unusedSimpArgs false
set_option linter.unusedVariables false
set_option linter.unusedSectionVars false
namespace Go.Tc
variable [Val]
section
variable {P : Program} {G : Nat} {β : Pl} {H : AHeap} {w : World}
theorem sliceArr_run {n off b : Nat} {e : TypeId} {lo hi mx : Option AV} {lo' hi' mx' : Option Value} {r : AV} {p : Place} (rl : OptR β lo lo') (rh : OptR β hi hi') (rm : OptR β mx mx') (hp : β b = some p)
    (h : sliceArr P b off n e lo hi mx = some r) :
    ∃ l h' m s, (Instr.sliceBounds false n n lo' hi' mx').run P w = .ok (l, h', m) w ∧ (sizeOf e).run P w = .ok s w ∧
      VR β r (.slice (some (if m = l then ⟨p.c, p.base + off, none⟩ else (⟨p.c, p.base + off, none⟩ : Addr).add (l * s))) (h' - l) (m - l)) := by
  unfold sliceArr at h
  split at h
  · rename_i s l h' m hs hb
    cases h
    obtain ⟨h1, h2, h3, h4, h5, h6⟩ := bounds3_run (P := P) (w := w) (isSlice := false) rl rh rm hb
    refine ⟨l, h', m, s, h1, sizeT_run hs, ?_⟩
    have hle : h' ≤ m := by
      cases hhi : hi.isSome with
      | true => exact h4 hhi
      | false =>
        have hmx : mx.isSome = false := by
          cases mx with
          | none => rfl
          | some a => unfold bounds3 at hb; cases hi <;> simp_all
        have := h5 hhi; have := h6 hmx; omega
    by_cases e1 : m = l
    · rw [if_pos e1, if_pos e1]
      exact .slice off _ hp rfl (by omega)
    · rw [if_neg e1, if_neg e1, addr_add, Nat.add_assoc]
      exact .slice _ _ hp rfl (by omega)
  · cases h
theorem bndTm_run {v : Option AV} {v' : Option Value} {d x : Tm} (h : bndTm v d = some x) (hr : OptR β v v') : (v' = none ∧ x = d ∧ v = none) ∨ ∃ k m, v' = some (.int k m) ∧ x.den = .int m := by
  cases v with
  | none =>
    cases v' with
    | some _ => exact hr.elim
    | none => simp only [bndTm, Option.some.injEq] at h; exact .inl ⟨rfl, h.symm, rfl⟩
  | some a =>
    cases v' with
    | none => exact hr.elim
    | some u =>
      simp only [bndTm, Option.map_eq_some_iff] at h
      obtain ⟨⟨k, t⟩, h1, rfl⟩ := h
      obtain ⟨m, e, rfl⟩ := intTm_VR h1 hr
      exact .inr ⟨k, m, rfl, e⟩
def intAV : Option Value → Option AV
  | some (.int k m) => some (.int k m)
  | _ => none
theorem symBounds_run {nf : Tm → Tm} (hn : ∀ t, (nf t).den = t.den) {lo hi mx : Option AV} {lo' hi' mx' : Option Value} {n l h : Tm} {len : Nat} (hs : symBounds nf lo hi mx n = some (l, h)) (hl : n.den = .int (len : Int)) (rl : OptR β lo lo') (rh : OptR β hi hi') (rm : OptR β mx mx') :
    ∃ a b : Nat, l.den = .int (a : Int) ∧ h.den = .int (b : Int) ∧ a ≤ b ∧ b ≤ len ∧ mx = none ∧ ∀ isSlice cap, len ≤ cap → (Instr.sliceBounds isSlice len cap lo' hi' mx').run P w = .ok (a, b, cap) w := by
  unfold symBounds at hs
  split at hs
  · cases hs
  · split at hs
    · rename_i l1 h1 hl1 hh1
      cases hc : (holdsT nf (.bin .leq .i64) [.int 0, l1] && holdsT nf (.bin .leq .i64) [l1, h1] && (Tm.beq h1 n || holdsT nf (.bin .leq .i64) [h1, n]))
      · rw [hc] at hs; cases hs
      · rw [hc] at hs
        simp only [cond_true, Option.some.injEq, Prod.mk.injEq] at hs
        obtain ⟨rfl, rfl⟩ := hs
        simp only [Bool.and_eq_true, Bool.or_eq_true] at hc
        obtain ⟨⟨c1, c2⟩, c3⟩ := hc
        cases mx' with
        | some _ => exact rm.elim
        | none =>
        have dl : ∃ a : Int, l1.den = .int a := by
          rcases bndTm_run hl1 rl with ⟨-, rfl, -⟩ | ⟨k, m, -, e⟩
          · exact ⟨0, rfl⟩
          · exact ⟨m, e⟩
        have dh : ∃ b : Int, h1.den = .int b := by
          rcases bndTm_run hh1 rh with ⟨-, rfl, -⟩ | ⟨k, m, -, e⟩
          · exact ⟨_, hl⟩
          · exact ⟨m, e⟩
        obtain ⟨a, ha⟩ := dl
        obtain ⟨b, hb⟩ := dh
        have d1 := holdsT_den hn c1
        have d2 := holdsT_den hn c2
        simp only [Tm.dens, Tm.den, ha, hb, TOp.den, intD, D.bool.injEq, decide_eq_true_eq] at d1 d2
        have d3 : b ≤ len := by
          rcases c3 with c3 | c3
          · have := Tm.beq_eq _ _ c3
            rw [this, hl] at hb
            simp only [D.int.injEq] at hb; omega
          · have := holdsT_den hn c3
            simp only [Tm.dens, hb, hl, TOp.den, intD, D.bool.injEq, decide_eq_true_eq] at this
            exact this
        refine ⟨a.toNat, b.toNat, by rw [ha]; congr 1; omega, by rw [hb]; congr 1; omega, by omega, by omega, rfl, fun isSlice cap hcap => ?_⟩
        have rl' : OptR β (intAV lo') lo' := by
          rcases bndTm_run hl1 rl with ⟨rfl, -, -⟩ | ⟨k, m, rfl, e⟩
          · trivial
          · exact .int k m
        have rh' : OptR β (intAV hi') hi' := by
          rcases bndTm_run hh1 rh with ⟨rfl, -, -⟩ | ⟨k, m, rfl, e⟩
          · trivial
          · exact .int k m
        have hb3 : bounds3 cap len (intAV lo') (intAV hi') none = some (a.toNat, b.toNat, cap) := by
          have hhi : optBound (intAV hi') cap len = some b.toNat := by
            rcases bndTm_run hh1 rh with ⟨rfl, rfl, -⟩ | ⟨k, m, rfl, e⟩
            · rw [hl] at hb; simp only [D.int.injEq] at hb
              simp only [optBound, intAV, Option.some.injEq]; omega
            · rw [hb] at e; simp only [D.int.injEq] at e; subst e
              simp only [optBound, intAV, boundA]
              rw [if_pos ⟨by omega, by omega⟩]
          have hlo : optBound (intAV lo') b.toNat 0 = some a.toNat := by
            rcases bndTm_run hl1 rl with ⟨rfl, rfl, -⟩ | ⟨k, m, rfl, e⟩
            · simp only [Tm.den, D.int.injEq] at ha
              simp only [optBound, intAV, Option.some.injEq]; omega
            · rw [ha] at e; simp only [D.int.injEq] at e; subst e
              simp only [optBound, intAV, boundA]
              rw [if_pos ⟨by omega, by omega⟩]
          unfold bounds3
          have hcc : optBound (none : Option AV) cap cap = some cap := rfl
          simp only [Option.isSome_none, Bool.false_and, Bool.false_eq_true, if_false, hcc, hhi, hlo]
        exact (bounds3_run (P := P) (w := w) (isSlice := isSlice) rl' rh' (mx := none) (mx' := none) trivial hb3).1
    · cases hs
theorem subL_den {nf : Tm → Tm} (hn : ∀ t, (nf t).den = t.den) {c l h : Tm} {L : List D} {a b : Nat} (hc : c.den = .list L) (hl : l.den = .int (a : Int)) (hh : h.den = .int (b : Int)) : (subL nf c l h).den = .list ((L.take b).drop a) := by
  have gen : (mkT nf .sub [c, l, h]).den = .list ((L.take b).drop a) := by
    rw [mkT_den hn]; simp only [Tm.dens, hc, hl, hh, TOp.den, Int.toNat_natCast]
  unfold subL
  split
  · cases e : Tm.beq h (mkT nf .len [c])
    · simp only [cond_false]; exact gen
    · simp only [cond_true]
      have := Tm.beq_eq _ _ e
      rw [this, len_den hn hc] at hh
      simp only [Tm.den, D.int.injEq] at hh hl
      have hb : b = L.length := by omega
      have ha : a = 0 := by omega
      rw [hc, hb, ha, List.take_length, List.drop_zero]
  · exact gen
omit [Val] in
theorem cell_sub {Z : Nat → Option Obj} {ks : List CK} {L : List D} {b o n c x y : Nat} (h : CellR Z (.isl ks) (.list L) (.slice (some ⟨b, o, none⟩) n c)) (hxy : x ≤ y) (hy : y ≤ n) :
    CellR Z (.isl ks) (.list ((L.take y).drop x)) (.slice (some (if c = x then ⟨b, o, none⟩ else (⟨b, o, none⟩ : Addr).add (x * ks.length))) (y - x) (c - x)) := by
  generalize hL : D.list L = d at h
  cases h with
  | none =>
    cases hL
    simp only [List.take_nil, List.drop_nil]
    rw [show y - x = 0 from by omega]
    exact .none _ _ _
  | @isl _ L' _ _ _ _ cc T fz vals hz hn' hcap hk hv hr =>
    cases hL
    by_cases e : c = x
    · have : y = x := by omega
      subst this
      rw [Nat.sub_self]
      have : (L.take y).drop y = [] := by simp
      rw [this]
      exact .none _ _ _
    · rw [if_neg e, addr_add]
      have hlen : ((L.take y).drop x).length = y - x := by simp; omega
      refine .isl (vals := fun i j => vals (x + i) j) hz hlen.symm (by omega) hk (fun i j hi hj => ?_) fun i j hi hj => ?_
      · have := hv (x + i) j (by omega) hj
        rw [← this]; congr 1
        rw [Nat.add_mul]; omega
      · have := hr (x + i) j (by omega) hj
        have hg : ((L.take y).drop x).getD i .bad = L.getD (x + i) .bad := by
          rw [List.getD_eq_getElem?_getD, List.getD_eq_getElem?_getD, List.getElem?_drop, List.getElem?_take_of_lt (by omega)]
        rw [hg]; exact this
theorem sliceA_run {nf : Tm → Tm} (hn : ∀ t, (nf t).den = t.den) {n : Nat} {t : TypeId} {x r : AV} {v : Value} {lo hi mx : Option AV} {lo' hi' mx' : Option Value} (hw : WR G β H.get n w) (h : sliceA P nf H t x lo hi mx = some r) (hx : VR β x v)
    (rl : OptR β lo lo') (rh : OptR β hi hi') (rm : OptR β mx mx') : ∃ u, (Instr.sliceAt t v lo' hi' mx').run P w = .ok u w ∧ VR β r u := by
  have hcap : ∀ (k len l h m : Nat), bounds3 k len lo hi mx = some (l, h, m) → len ≤ k → h ≤ m := by
    intro k len l h m hb hk
    obtain ⟨-, h2, h3, h4, h5, h6⟩ := bounds3_run (P := P) (w := w) (isSlice := false) rl rh rm hb
    cases hhi : hi.isSome with
    | true => exact h4 hhi
    | false =>
      have hmx : mx.isSome = false := by
        cases mx with
        | none => rfl
        | some a => unfold bounds3 at hb; cases hi <;> simp_all
      have := h5 hhi; have := h6 hmx; omega
  unfold sliceA at h
  split at h
  · rename_i hsl
    clear hsl
    have strCase : ∀ (s : Tm) (sb : ByteArray), P.underlying t = some .string → s.den = .str (BS.of sb) → ∀ l hh, symBounds nf lo hi mx (mkT nf .slen [s]) = some (l, hh) →
        ∃ u, (Instr.sliceAt t (.string sb) lo' hi' mx').run P w = .ok u w ∧ VR β (ofTm .str (mkT nf .ssub [s, l, hh])) u := by
      intro s sb hu hs l hh hb
      have hln : (mkT nf .slen [s]).den = .int (sb.size : Int) := by rw [mkT_den hn]; simp only [Tm.dens, hs, TOp.den, BS.of_len]
      obtain ⟨a, b, ha, hb1, hab, hbl, hmx, hrun⟩ := symBounds_run (P := P) (w := w) hn hb hln rl rh rm
      have h1 := hrun false sb.size (Nat.le_refl _)
      subst hmx
      cases mx' with
      | some _ => exact rm.elim
      | none =>
      refine ⟨.string (sb.extract a b), ?_, ofTm_str ?_⟩
      · simp only [Instr.sliceAt, Instr.slice, Sem.run_bind, run_underlying hu, Result.andThen_ok, Option.isSome_none, Bool.false_eq_true, if_false, Sem.run_pure, h1]
      · rw [mkT_den hn]; simp only [Tm.dens, hs, ha, hb1, TOp.den, Int.toNat_natCast]
        rw [BS.of_cut sb a b hab hbl]
    split at h
    · rename_i hu
      split at h
      · cases h
      · cases h
      · rename_i y hy1 hy2
        unfold symSlice at h
        split at h
        · rename_i s
          rw [Option.map_eq_some_iff] at h
          obtain ⟨⟨l, hh⟩, hb, rfl⟩ := h
          cases hx with | sy hx =>
          obtain ⟨sb, hs, rfl⟩ := hx.strI
          exact strCase s sb (undT_und hu) hs l hh hb
        · rename_i s
          rw [Option.map_eq_some_iff] at h
          obtain ⟨⟨l, hh⟩, hb, rfl⟩ := h
          generalize hs : s = s0 at hx
          cases hx with | str sb =>
          subst hs
          exact strCase (.str (BS.of sb)) sb (undT_und hu) rfl l hh hb
        · exact absurd rfl (hy2 _ _)
        · exact absurd rfl (hy1 _ _ _ _ _)
        · cases h
    · rename_i e hu
      split at h
      · rename_i b es lo0 nn cm
        split at h
        · rename_i hsz
          unfold symSlice at h
          simp only [Option.map_eq_some_iff] at h
          obtain ⟨⟨l, hh⟩, hb, hr⟩ := h
          simp only at hr
          have hrun0 : ∀ (base : Option Addr) (len cap : Nat) (a b : Nat), (Instr.sliceBounds true len cap lo' hi' mx').run P w = .ok (a, b, cap) w →
              (Instr.sliceAt t (.slice base len cap) lo' hi' mx').run P w = .ok (.slice (if cap = a then base else base.map (·.add (a * es))) (b - a) (cap - a)) w := by
            intro base len cap a b h1
            simp only [Instr.sliceAt, Instr.slice, Sem.run_bind, run_underlying (undT_und hu), Result.andThen_ok, h1, sizeT_run hsz]
            rfl
          cases hx with
          | @lsl _ _ _ _ _ ll len c p hl hln hp hcap' hle =>
            obtain ⟨a, b', ha, hb1, hab, hbl, hmx, hrun⟩ := symBounds_run (P := P) (w := w) hn hb hln rl rh rm
            refine ⟨_, hrun0 _ _ _ _ _ (hrun true c hle), ?_⟩
            subst hr
            split
            · simp only [Tm.den, D.int.injEq] at ha
              have h0 : a = 0 := by omega
              subst h0
              have hadd : (if c = 0 then some (⟨p.c, p.base + ll * es, none⟩ : Addr) else (some (⟨p.c, p.base + ll * es, none⟩ : Addr)).map (·.add (0 * es))) = some ⟨p.c, p.base + ll * es, none⟩ := by
                split
                · rfl
                · simp [Addr.add]
              rw [hadd, Nat.sub_zero, Nat.sub_zero]
              exact .lsl hl hb1 hp hcap' (by omega)
            · by_cases e1 : c = a
              · rw [if_pos e1]
                have : b' = a := by omega
                subst this
                rw [Nat.sub_self, e1, Nat.sub_self]
                exact .lslE (l := ll + b') _ _ (by rw [addT_den hn hl ha]; congr 1) (by rw [subT_den hn hb1 ha]; simp) (.inr rfl)
              · rw [if_neg e1, Option.map_some, addr_add, Nat.add_assoc, ← Nat.add_mul]
                exact .lsl (l := ll + a) (n := b' - a) (by rw [addT_den hn hl ha]; congr 1) (by rw [subT_den hn hb1 ha]; congr 1; omega) hp trivial (by omega)
          | @lsl0 _ _ _ _ _ ll hl hz =>
            obtain ⟨a, b', ha, hb1, hab, hbl, hmx, hrun⟩ := symBounds_run (P := P) (w := w) hn hb (len := 0) hz rl rh rm
            refine ⟨_, hrun0 _ _ _ _ _ (hrun true 0 (Nat.le_refl _)), ?_⟩
            have e1 : b' = 0 := by omega
            have e2 : a = 0 := by omega
            subst e1 e2
            rw [if_pos rfl]
            subst hr
            split
            · exact .lsl0 hl hb1
            · exact .lsl0 (l := ll + 0) (by rw [addT_den hn hl ha]; congr 1) (by rw [subT_den hn hb1 ha]; rfl)
          | @lslE _ _ _ _ _ ll ad c hl hz hc =>
            obtain ⟨a, b', ha, hb1, hab, hbl, hmx, hrun⟩ := symBounds_run (P := P) (w := w) hn hb (len := 0) hz rl rh rm
            refine ⟨_, hrun0 _ _ _ _ _ (hrun true c (Nat.zero_le _)), ?_⟩
            have e1 : b' = 0 := by omega
            have e2 : a = 0 := by omega
            subst e1 e2
            have hadd : ∃ ad', (if c = 0 then some ad else (some ad).map (·.add (0 * es))) = some ad' := by
              split
              · exact ⟨_, rfl⟩
              · exact ⟨_, rfl⟩
            obtain ⟨ad', hadd⟩ := hadd
            rw [hadd, Nat.sub_zero]
            subst hr
            split
            · exact .lslE _ _ hl hb1 hc
            · exact .lslE (l := ll + 0) _ _ (by rw [addT_den hn hl ha]; congr 1) (by rw [subT_den hn hb1 ha]; rfl) (.inr rfl)
        · cases h
      · rename_i ks cc
        split at h
        · rename_i hsz
          unfold symSlice at h
          simp only [Option.map_eq_some_iff] at h
          obtain ⟨⟨l, hh⟩, hb, rfl⟩ := h
          have hrun0 : ∀ (base : Option Addr) (len cap : Nat) (a b : Nat), (Instr.sliceBounds true len cap lo' hi' mx').run P w = .ok (a, b, cap) w →
              (Instr.sliceAt t (.slice base len cap) lo' hi' mx').run P w = .ok (.slice (if cap = a then base else base.map (·.add (a * ks.length))) (b - a) (cap - a)) w := by
            intro base len cap a b h1
            simp only [Instr.sliceAt, Instr.slice, Sem.run_bind, run_underlying (undT_und hu), Result.andThen_ok, h1, sizeT_run hsz]
            rfl
          cases hx with | sy hx =>
          have hx0 := hx
          generalize hd : cc.den = d at hx
          cases hx with
          | nil =>
            obtain ⟨a, b', ha, hb1, hab, hbl, hmx, hrun⟩ := symBounds_run (P := P) (w := w) hn hb (len := 0) (len_den hn hd) rl rh rm
            refine ⟨_, hrun0 _ _ _ _ _ (hrun true 0 (Nat.le_refl _)), .sy ?_⟩
            have e1 : b' = 0 := by omega
            have e2 : a = 0 := by omega
            subst e1 e2
            rw [if_pos rfl, subL_den hn hd ha hb1]
            exact .nil _
          | none _ ad c =>
            obtain ⟨a, b', ha, hb1, hab, hbl, hmx, hrun⟩ := symBounds_run (P := P) (w := w) hn hb (len := 0) (len_den hn hd) rl rh rm
            refine ⟨_, hrun0 _ _ _ _ _ (hrun true c (Nat.zero_le _)), .sy ?_⟩
            have e1 : b' = 0 := by omega
            have e2 : a = 0 := by omega
            subst e1 e2
            rw [subL_den hn hd ha hb1]
            have hadd : ∃ ad', (if c = 0 then some ad else (some ad).map (·.add (0 * ks.length))) = some ad' := by
              split
              · exact ⟨_, rfl⟩
              · exact ⟨_, rfl⟩
            obtain ⟨ad', hadd⟩ := hadd
            rw [hadd]
            exact .none _ _ _
          | @isl _ L b o len c' cells T fz vals hz hn' hcap' hk hv hr =>
            rw [hd] at hx0
            obtain ⟨a, b', ha, hb1, hab, hbl, hmx, hrun⟩ := symBounds_run (P := P) (w := w) hn hb (len := len) (by rw [len_den hn hd, hn']) rl rh rm
            refine ⟨_, hrun0 _ _ _ _ _ (hrun true c' hcap'), .sy ?_⟩
            rw [subL_den hn hd ha hb1]
            have := cell_sub hx0 hab hbl
            have hif : (if c' = a then some (⟨b, o, none⟩ : Addr) else (some (⟨b, o, none⟩ : Addr)).map (·.add (a * ks.length))) = some (if c' = a then ⟨b, o, none⟩ else (⟨b, o, none⟩ : Addr).add (a * ks.length)) := by
              split <;> rfl
            rw [hif]; exact this
        · cases h
      · cases h
    · cases h
  rename_i hsl
  clear hsl
  split at h
  · rename_i s hu
    cases hx with
    | str s =>
    split at h
    · cases h
    · rename_i hmx
      split at h
      · rename_i l h' m hb
        cases h
        have hm0 : mx = none := by cases mx <;> simp_all
        subst hm0
        cases mx' with
        | some _ => exact rm.elim
        | none =>
        rw [BS.of_len] at hb
        obtain ⟨h1, h2, h3, h4, h5, h6⟩ := bounds3_run (P := P) (w := w) (isSlice := false) rl rh (mx := none) (mx' := none) trivial hb
        have hle : h' ≤ s.size := by
          cases hhi : hi.isSome with
          | true => have := h4 hhi; omega
          | false => have := h5 hhi; omega
        rw [BS.of_cut s l h' h2 hle]
        refine ⟨.string (s.extract l h'), ?_, .str _⟩
        simp only [Instr.sliceAt, Instr.slice, Sem.run_bind, run_underlying (undT_und hu), Result.andThen_ok, Option.isSome_none, Bool.false_eq_true, if_false, Sem.run_pure, h1]
      · cases h
  · rename_i e hu
    cases hx
    split at h
    · rename_i s q hs hb
      obtain ⟨l, h', m⟩ := q
      cases h
      obtain ⟨h1, h2, h3, h4, h5, h6⟩ := bounds3_run (P := P) (w := w) (isSlice := true) rl rh rm hb
      refine ⟨.slice none 0 0, ?_, .nilSlice⟩
      have hh : h' ≤ m := hcap _ _ _ _ _ hb (Nat.le_refl _)
      have e1 : m = 0 := by omega
      have e2 : h' = 0 := by omega
      have e3 : l = 0 := by omega
      subst e1 e2 e3
      simp only [Instr.sliceAt, Instr.slice, Sem.run_bind, run_underlying (undT_und hu), Result.andThen_ok, h1, sizeT_run hs]
      rfl
    · cases h
  · rename_i e b off len k hu
    cases hx with
    | @slice _ p _ _ _ c hp hc hl =>
    have hck : c = k := hc
    subst hck
    split at h
    · rename_i s l h' m hs hb
      cases h
      obtain ⟨h1, h2, h3, h4, h5, h6⟩ := bounds3_run (P := P) (w := w) (isSlice := true) rl rh rm hb
      have hh := hcap _ _ _ _ _ hb hl
      refine ⟨.slice (if m = l then some ⟨p.c, p.base + off, none⟩ else (some (⟨p.c, p.base + off, none⟩ : Addr)).map (·.add (l * s))) (h' - l) (m - l), ?_, ?_⟩
      · simp only [Instr.sliceAt, Instr.slice, Sem.run_bind, run_underlying (undT_und hu), Result.andThen_ok, h1, sizeT_run hs]
        rfl
      · by_cases e1 : m = l
        · rw [if_pos e1, if_pos e1]
          exact .slice off _ hp rfl (by omega)
        · rw [if_neg e1, if_neg e1, Option.map_some, addr_add, Nat.add_assoc]
          exact .slice _ _ hp rfl (by omega)
    · cases h
  · rename_i e b off len es hu
    cases hx with
    | @slice _ p _ _ _ c hp hc hl =>
    split at h
    · rename_i s cells e0 k0 hs hr
      split at h
      · rename_i hes
        obtain ⟨rfl, hoff⟩ := hes
        obtain ⟨q, cc, lo1, hi1, hq, k1, k2, k3, k4, k5⟩ := row_at hw hr
        rw [hp] at hq; cases hq
        obtain ⟨c1, c2, c3⟩ := hc
        have hkc : (cells.length - off) / es ≤ c := by
          have : (cells.length - off) / es * es ≤ cells.length - off := Nat.div_mul_le_self _ _
          have : (cells.length - off) / es * es < (c + 1) * es := by omega
          have := Nat.lt_of_mul_lt_mul_right this
          omega
        split at h
        · rename_i l h' m hb
          have hb' := bounds3_wider hb hkc
          have hh := hcap _ _ _ _ _ hb' hl
          obtain ⟨h1, h2, h3, h4, h5, h6⟩ := bounds3_run (P := P) (w := w) (isSlice := true) rl rh rm hb'
          obtain ⟨-, g2, g3, g4, g5, g6⟩ := bounds3_run (P := P) (w := w) (isSlice := true) rl rh rm hb
          have hrun : ∀ M, (Instr.sliceBounds true len c lo' hi' mx').run P w = .ok (l, h', M) w →
              (Instr.sliceAt t (.slice (some ⟨p.c, p.base + off, none⟩) len c) lo' hi' mx').run P w = .ok (.slice (if M = l then some ⟨p.c, p.base + off, none⟩ else (some (⟨p.c, p.base + off, none⟩ : Addr)).map (·.add (l * es))) (h' - l) (M - l)) w := by
            intro M hM
            simp only [Instr.sliceAt, Instr.slice, Sem.run_bind, run_underlying (undT_und hu), Result.andThen_ok, hM, sizeT_run hs]
            rfl
          split at h
          · rename_i hmx
            cases h
            rw [if_pos hmx] at h1 hh
            refine ⟨_, hrun m h1, ?_⟩
            by_cases e1 : m = l
            · rw [if_pos e1, if_pos e1]
              exact .slice off _ hp rfl (by omega)
            · rw [if_neg e1, if_neg e1, Option.map_some, addr_add, Nat.add_assoc]
              exact .slice _ _ hp rfl (by omega)
          · rename_i hmx
            rw [if_neg hmx] at h1 hh
            have hm : m = (cells.length - off) / es := g6 (by simpa using hmx)
            split at h
            · rename_i hlm
              cases h
              refine ⟨_, hrun c h1, ?_⟩
              rw [if_neg (by omega), Option.map_some, addr_add, Nat.add_assoc]
              refine .slice _ _ hp ⟨c1, ?_, ?_⟩ (by omega)
              · have : l * es + (c - l) * es = c * es := by rw [← Nat.add_mul]; congr 1; omega
                omega
              · have : l * es + (c - l + 1) * es = (c + 1) * es := by rw [← Nat.add_mul]; congr 1; omega
                omega
            · split at h
              · rename_i hl0
                cases h
                subst hl0
                refine ⟨_, hrun c h1, ?_⟩
                have : (if c = 0 then some (⟨p.c, p.base + off, none⟩ : Addr) else (some (⟨p.c, p.base + off, none⟩ : Addr)).map (·.add (0 * es))) = some ⟨p.c, p.base + off, none⟩ := by
                  split
                  · rfl
                  · simp [Addr.add]
                rw [this]
                exact .slice _ _ hp ⟨c1, c2, c3⟩ (by omega)
              · split at h
                · rename_i hhl
                  cases h
                  subst hhl
                  refine ⟨_, hrun c h1, ?_⟩
                  rw [Nat.sub_self]
                  split
                  · exact .esl _ _
                  · exact .esl _ _
                · cases h
        · cases h
      · cases h
    · cases h
  · rename_i arr b off hu
    cases hx with
    | @ptr _ p _ hp =>
    split at h
    · rename_i n0 e hu2
      obtain ⟨l, h', m, s, h1, h2, h3⟩ := sliceArr_run (P := P) (w := w) rl rh rm hp h
      refine ⟨_, ?_, h3⟩
      simp only [Instr.sliceAt, Instr.slice, Sem.run_bind, run_underlying (undT_und hu), run_underlying (undT_und hu2), Result.andThen_ok, asAddr, Sem.run_pure, h1, h2]
    · cases h
  · rename_i n0 e b off hu
    cases hx with
    | @ptr _ p _ hp =>
    obtain ⟨l, h', m, s, h1, h2, h3⟩ := sliceArr_run (P := P) (w := w) rl rh rm hp h
    refine ⟨_, ?_, h3⟩
    simp only [Instr.sliceAt, Instr.sureAddr, Sem.run_bind, run_underlying (undT_und hu), Result.andThen_ok, Sem.run_pure, h1, h2]
  · cases h
theorem bytesOfCells_VRs {l : List AV} {vs : List Value} {ns : List Nat} (h : bytesOfCells l = some ns) (hl : VRs β l vs) : ∃ ms : List Int, vs = ms.map (fun m => Value.int .u8 m) ∧ ns = ms.map (·.toNat) := by
  induction l generalizing vs ns with
  | nil => cases hl; cases h; exact ⟨[], rfl, rfl⟩
  | cons x l ih =>
    cases hl with
    | cons hx hs =>
    cases hx with
    | int k m =>
      cases k <;> try (simp [bytesOfCells] at h; done)
      simp only [bytesOfCells, Option.map_eq_some_iff] at h
      obtain ⟨r, hr, rfl⟩ := h
      obtain ⟨ms, rfl, rfl⟩ := ih hr hs
      exact ⟨m :: ms, rfl, rfl⟩
    | _ => simp [bytesOfCells] at h
omit [Val] in
theorem ofNats_of (ms : List Int) : BS.ofNats (ms.map (·.toNat)) = BS.of (⟨(ms.map fun m => UInt8.ofNat m.toNat).toArray⟩ : ByteArray) := by
  have : BS.of (⟨(ms.map fun m => UInt8.ofNat m.toNat).toArray⟩ : ByteArray) = BS.ofList (ms.map fun m => UInt8.ofNat m.toNat) := rfl
  rw [this, ← ofNats_map]
  simp only [BS.ofNats, List.length_map, List.foldl_map, BS.mk.injEq, true_and]
  congr 1
  funext a m
  simp
omit [Val] in
theorem bytesToString_run {a : Addr} {n : Nat} {ms : List Int} {c : Nat} (h : (loadCells a n).run P w = .ok (ms.map fun m => Value.int .u8 m).toArray w) :
    (Conv.bytesToString (.slice (some a) n c)).run P w = .ok (.string ⟨(ms.map fun m => UInt8.ofNat m.toNat).toArray⟩) w := by
  simp only [Conv.bytesToString, Sem.run_bind, h, Result.andThen_ok]
  rw [← Array.forIn_toList]
  have key : ∀ (f : Value → ByteArray → Sem (ForInStep ByteArray)), (∀ m s, f (.int .u8 m) s = pure (ForInStep.yield (s.push (UInt8.ofNat m.toNat)))) → ∀ (ms : List Int) (s : ByteArray),
      (forIn (m := Sem) (ms.map fun m => Value.int .u8 m) s f).run P w = .ok ⟨s.data ++ (ms.map fun m => UInt8.ofNat m.toNat).toArray⟩ w := by
    intro f hf ms
    induction ms with
    | nil => intro s; simp
    | cons m ms ih =>
      intro s
      simp only [List.map_cons, List.forIn_cons, Sem.run_bind, hf, Sem.run_pure, Result.andThen_ok, ih]
      congr 2
      apply Array.ext'
      simp [ByteArray.push]
  rw [key _ (fun _ _ => rfl)]
  simp [ByteArray.empty, ByteArray.emptyWithCapacity]
  rfl
theorem sliceStrA_run {n : Nat} {x : AV} {s : BS} {v : Value} (hw : WR G β H.get n w) (h : sliceStrA H x = some s) (hx : VR β x v) : ∃ u, (Conv.bytesToString v).run P w = .ok (.string u) w ∧ s = BS.of u := by
  unfold sliceStrA at h
  split at h
  · cases h; cases hx
    exact ⟨.empty, rfl, rfl⟩
  · rename_i b off len cap
    cases hx with
    | @slice _ p _ _ _ c hp hc hl =>
    rw [Option.map_eq_some_iff] at h
    obtain ⟨ns, hns, rfl⟩ := h
    rw [Option.bind_eq_some_iff] at hns
    obtain ⟨l, hl1, hl2⟩ := hns
    obtain ⟨q, vs, hq, hlen, hrun, hvs⟩ := loadN_run (P := P) hw hl1
    rw [hp] at hq; cases hq
    obtain ⟨ms, rfl, rfl⟩ := bytesOfCells_VRs hl2 hvs
    exact ⟨_, bytesToString_run hrun, ofNats_of ms⟩
  · cases h
theorem byteTms_VRs {l : List AV} {vs : List Value} {m : List Tm} (h : byteTms l = some m) (hl : VRs β l vs) : ∃ ms : List Int, vs = ms.map (fun m => Value.int .u8 m) ∧ natsOfD (Tm.dens m) = ms.map (·.toNat) := by
  induction l generalizing vs m with
  | nil => cases hl; cases h; exact ⟨[], rfl, rfl⟩
  | cons x l ih =>
    cases hl with
    | cons hx hs =>
    simp only [byteTms] at h
    split at h
    · rename_i t ht
      split at h
      · rename_i q hq
        cases h
        obtain ⟨ms, rfl, h2⟩ := ih hq hs
        have : ∃ n : Int, t.den = .int n ∧ ∀ v, VR β x v → v = .int .u8 n := by
          unfold byteTm at ht
          split at ht
          · cases ht; exact ⟨_, rfl, fun v hv => by cases hv; rfl⟩
          · cases ht
            cases hx with | sy hc =>
            obtain ⟨n, e, rfl⟩ := hc.intI
            refine ⟨n, e, fun v hv => ?_⟩
            cases hv with | sy hc2 =>
            obtain ⟨n2, e2, rfl⟩ := hc2.intI
            rw [e] at e2; cases e2; rfl
          · cases ht
        obtain ⟨n, e, hv⟩ := this
        refine ⟨n :: ms, by rw [hv _ hx]; rfl, ?_⟩
        simp only [Tm.dens, natsOfD, e, D.nat, h2, List.map_cons]
      · cases h
    · cases h
theorem sliceTmA_run {n : Nat} {x : AV} {m : List Tm} {v : Value} (hw : WR G β H.get n w) (h : sliceTmA H x = some m) (hx : VR β x v) : ∃ u, (Conv.bytesToString v).run P w = .ok (.string u) w ∧ (textOf m).den = .str (BS.of u) ∧ ∃ a l c, v = .slice (some a) l c := by
  unfold sliceTmA at h
  split at h
  · rename_i b off len cap
    cases hx with
    | @slice _ p _ _ _ c hp hc hl =>
    split at h
    · rename_i l hl1
      obtain ⟨q, vs, hq, hlen, hrun, hvs⟩ := loadN_run (P := P) hw hl1
      rw [hp] at hq; cases hq
      obtain ⟨ms, rfl, h2⟩ := byteTms_VRs h hvs
      refine ⟨_, bytesToString_run hrun, ?_, _, _, _, rfl⟩
      rw [textOf_den, h2, ofNats_of ms]
    · cases h
  · cases h
theorem byteLike_VRs {l : List AV} {vs : List Value} (h : l.all byteLike = true) (hl : VRs β l vs) : ∃ ms : List Int, vs = ms.map (fun m => Value.int .u8 m) := by
  induction l generalizing vs with
  | nil => cases hl; exact ⟨[], rfl⟩
  | cons x l ih =>
    cases hl with
    | cons hx hs =>
    rw [List.all_cons, Bool.and_eq_true] at h
    obtain ⟨ms, rfl⟩ := ih h.2 hs
    have h1 := h.1
    cases hx with
    | int k m => cases k <;> first | exact ⟨m :: ms, rfl⟩ | (cases h1; done)
    | @rng k lo hi m _ _ => cases k <;> first | exact ⟨m :: ms, rfl⟩ | (cases h1; done)
    | junk m hm => exact ⟨(m : Int) :: ms, rfl⟩
    | _ => cases h1
theorem sliceLenA_run {n : Nat} {x : AV} {s : Nat} {v : Value} (hw : WR G β H.get n w) (h : sliceLenA H x = some s) (hx : VR β x v) : ∃ u, (Conv.bytesToString v).run P w = .ok (.string u) w ∧ s = u.size ∧ ∃ a c, v = .slice (some a) s c := by
  unfold sliceLenA at h
  split at h
  · rename_i b off len cap
    cases hx with
    | @slice _ p _ _ _ c hp hc hl =>
    split at h
    · rename_i l hl1
      split at h
      · rename_i hb
        cases h
        obtain ⟨q, vs, hq, hlen, hrun, hvs⟩ := loadN_run (P := P) hw hl1
        rw [hp] at hq; cases hq
        obtain ⟨ms, rfl⟩ := byteLike_VRs hb hvs
        refine ⟨_, bytesToString_run hrun, ?_, _, _, rfl⟩
        have : ms.length = s := by simpa using hlen
        simp [ByteArray.size, this]
      · cases h
    · cases h
  · cases h
theorem convertA_run {nf : Tm → Tm} (hn : ∀ t, (nf t).den = t.den) {n : Nat} {src dst : TypeId} {x r : AV} {v : Value} (hw : WR G β H.get n w) (h : convertA P nf H src dst x = some r) (hx : VR β x v) :
    ∃ u, (convert src dst v).run P w = .ok u w ∧ VR β r u := by
  unfold convertA at h
  split at h
  · rename_i ds k j tm hs hd
    cases hx with | sy hx =>
    obtain ⟨m, e, rfl⟩ := hx.intI
    cases h
    refine ⟨.int k (k.wrap m), ?_, ofTm_int (by rw [mkT_den hn]; simp only [Tm.dens, e, TOp.den])⟩
    simp only [convert, Sem.run_bind, run_underlying (undT_und hs), run_underlying (undT_und hd), Result.andThen_ok, Conv.intToInt]
    rfl
  · rename_i ds tm hs hd
    have hx0 := hx
    cases hx with | sy hx =>
    obtain ⟨sb, e, rfl⟩ := hx.strI
    cases h
    refine ⟨.string sb, ?_, hx0⟩
    simp only [convert, Sem.run_bind, run_underlying (undT_und hs), run_underlying (undT_und hd), Result.andThen_ok]
    rfl
  · rename_i ds k j m hs hd
    cases hx; cases h
    refine ⟨.int k (k.wrap m), ?_, .int _ _⟩
    simp only [convert, Sem.run_bind, run_underlying (undT_und hs), run_underlying (undT_und hd), Result.andThen_ok, Conv.intToInt]
    rfl
  · rename_i ds k j lo hi hs hd
    cases hx with
    | @rng _ _ _ m q1 q2 =>
    cases h
    refine ⟨.int k (k.wrap m), ?_, fitR_VR k q1 q2⟩
    simp only [convert, Sem.run_bind, run_underlying (undT_und hs), run_underlying (undT_und hd), Result.andThen_ok, Conv.intToInt]
    rfl
  · rename_i ds s hs hd
    cases hx; cases h
    rename_i s
    refine ⟨.string s, ?_, .str s⟩
    simp only [convert, Sem.run_bind, run_underlying (undT_und hs), run_underlying (undT_und hd), Result.andThen_ok]
    rfl
  · rename_i e hs hd hns hns2
    split at h
    · rename_i he
      split at h
      · rename_i s hs1
        cases h
        obtain ⟨u, h1, rfl⟩ := sliceStrA_run (P := P) hw hs1 hx
        refine ⟨.string u, ?_, .str u⟩
        simp only [convert, Sem.run_bind, run_underlying (undT_und hs), run_underlying (undT_und hd), Result.andThen_ok]
        cases hx with
        | nilSlice => simp only [Sem.run_bind, run_underlying (undT_und he), Result.andThen_ok]; exact h1
        | slice => simp only [Sem.run_bind, run_underlying (undT_und he), Result.andThen_ok]; exact h1
        | _ => simp [sliceStrA] at hs1
      · split at h
        · rename_i m hm
          cases h
          obtain ⟨u, h1, h2, a, l, c, rfl⟩ := sliceTmA_run (P := P) hw hm hx
          refine ⟨.string u, ?_, by rw [ofTm_iff, h2]; exact .str u⟩
          simp only [convert, Sem.run_bind, run_underlying (undT_und hs), run_underlying (undT_und hd), Result.andThen_ok]
          simp only [Sem.run_bind, run_underlying (undT_und he), Result.andThen_ok]; exact h1
        rw [Option.map_eq_some_iff] at h
        obtain ⟨s, hs1, rfl⟩ := h
        obtain ⟨u, h1, rfl, a, c, rfl⟩ := sliceLenA_run (P := P) hw hs1 hx
        refine ⟨.string u, ?_, .strU u⟩
        simp only [convert, Sem.run_bind, run_underlying (undT_und hs), run_underlying (undT_und hd), Result.andThen_ok]
        simp only [Sem.run_bind, run_underlying (undT_und he), Result.andThen_ok]; exact h1
    · cases h
  · rename_i hs hd
    cases hx; cases h
    refine ⟨.pointer none, ?_, .nilPtr⟩
    simp only [convert, Sem.run_bind, run_underlying (undT_und hs), run_underlying (undT_und hd), Result.andThen_ok, Conv.unsafePointer]
    rfl
  · rename_i hs hd
    cases hx; cases h
    refine ⟨.pointer none, ?_, .nilPtr⟩
    simp only [convert, Sem.run_bind, run_underlying (undT_und hs), run_underlying (undT_und hd), Result.andThen_ok, Conv.unsafePointer]
    rfl
  · rename_i t b off hs hd
    cases hx with
    | @ptr _ p _ hp =>
    split at h
    · rename_i m cells e k hm hr
      split at h
      · rename_i hc
        cases h
        simp only [Bool.and_eq_true, decide_eq_true_eq] at hc
        obtain ⟨⟨hm0, hoff⟩, hk⟩ := hc
        have hk : k = .solid := by cases k <;> simp_all
        subst hk
        obtain ⟨q, cc, lo, hi, hq, k1, k2, k3, k4, k5, k6, k7, k8⟩ := row_at hw hr
        rw [hp] at hq; cases hq
        refine ⟨.pointer (some ⟨p.c, p.base + off, none⟩), ?_, .ptr off hp⟩
        have hsh : w.shape? p.c = some (e, cc.size) := by simp [World.shape?, k1]
        have hlt : ¬ (cc.size ≤ p.base + off) := by omega
        simp only [convert, Sem.run_bind, run_underlying (undT_und hs), run_underlying (undT_und hd), Result.andThen_ok, Conv.unsafePointer]
        simp [Conv.seenAt, viewAt, hsh, cellsIn, sizeT_run hm, hm0, hlt]
      · cases h
    · cases h
  · rename_i t b off hs hd
    cases hx with
    | @ptr _ p _ hp =>
    split at h
    · rename_i m cells e k hm hr
      split at h
      · rename_i hc
        cases h
        simp only [Bool.and_eq_true, decide_eq_true_eq] at hc
        obtain ⟨⟨hm0, hk⟩, hlies⟩ := hc
        have hk : k = .solid := by cases k <;> simp_all
        subst hk
        obtain ⟨q, cc, lo, hi, hq, k1, k2, k3, k4, k5, k6, k7, k8⟩ := row_at hw hr
        rw [hp] at hq; cases hq
        refine ⟨.pointer (some ⟨p.c, p.base + off, none⟩), ?_, .ptr off hp⟩
        have hsh : w.shape? p.c = some (e, cc.size) := by simp [World.shape?, k1]
        have e1 : cc.size = cells.length := by omega
        have e2 : p.base + off = off := by omega
        simp only [convert, Sem.run_bind, run_underlying (undT_und hs), run_underlying (undT_und hd), Result.andThen_ok, Conv.unsafePointer]
        simp [Conv.seenAt, viewAt, hsh, sizeT_run hm, variablesAt, e1, e2, hlies]
      · cases h
    · cases h
  · cases h
end
end Go.Tc
namespace Go.Tc
variable [Val]
section
variable {P : Program} {G : Nat} {β : Pl} {H : AHeap} {w : World}
def PartsR (β : Pl) : List (Nat × AV) → List (Nat × Value) → Prop
  | [], [] => True
  | (i, a) :: r, (j, v) :: s => i = j ∧ VR β a v ∧ PartsR β r s
  | _, _ => False
omit [Val] in
theorem foldl_set : ∀ (vs : List Value) (cs : Array Value) (off k : Nat), off + k + vs.length ≤ cs.size →
    ((vs.zipIdx k).foldl (fun cs (x : Value × Nat) => cs.setIfInBounds (off + x.2) x.1) cs).toList = cs.toList.take (off + k) ++ vs ++ cs.toList.drop (off + k + vs.length)
  | [], cs, off, k, _ => by simp
  | v :: vs, cs, off, k, h => by
    simp only [List.length_cons] at h
    rw [List.zipIdx_cons, List.foldl_cons, foldl_set vs _ off (k + 1) (by simp; omega)]
    have e := list_seg_step cs.toList (off + k) v vs (by simp; omega)
    simpa [Array.toList_setIfInBounds, Nat.add_assoc] using e
omit [Val] in
theorem foldl_size : ∀ (l : List (Value × Nat)) (cs : Array Value) (off : Nat), (l.foldl (fun cs (x : Value × Nat) => cs.setIfInBounds (off + x.2) x.1) cs).size = cs.size
  | [], cs, off => rfl
  | x :: l, cs, off => by rw [List.foldl_cons, foldl_size l]; simp
theorem fill_run {place : Nat → Option (Nat × Nat)} {place' : Nat → Option (Nat × Nat)} (hpl : ∀ i q, place i = some q → place' i = some q) :
    ∀ (parts : List (Nat × AV)) (parts' : List (Nat × Value)) (cells : List AV) (vs : Array Value) (r : List AV), PartsR β parts parts' → VRs β cells vs.toList → fillA place cells parts = some r →
      ∃ us : Array Value, Instr.fill place' vs parts' = some us ∧ VRs β r us.toList ∧ us.size = vs.size
  | [], [], cells, vs, r, _, hc, h => by cases h; exact ⟨vs, rfl, hc, rfl⟩
  | [], (_, _) :: _, _, _, _, hp, _, _ => hp.elim
  | (_, _) :: _, [], _, _, _, hp, _, _ => hp.elim
  | (i, a) :: parts, (j, v) :: parts', cells, vs, r, hp, hc, h => by
    obtain ⟨rfl, hv, hp⟩ := hp
    simp only [fillA] at h
    cases hi : place i with
    | none => simp [hi] at h
    | some q =>
      obtain ⟨off, size⟩ := q
      simp only [hi] at h
      split at h
      · cases h
      · rename_i hsz
        simp only [Bool.or_eq_true, decide_eq_true_eq, not_or] at hsz
        obtain ⟨hs1, hs2⟩ := hsz
        have hs1 : a.cells.length = size := by simpa using hs1
        split at h
        · rename_i c hl
          have hne : a.cells ≠ [] := by intro e; rw [e] at hs1; simp at hs1; omega
          obtain ⟨rfl, hle⟩ := layOver_eq _ _ _ _ hl hne
          have hvc := hv.cells
          have hlen := hvc.length
          have hcl := hc.length
          have hvl : v.cells.size = v.cells.toList.length := by simp
          have hwl : vs.size = vs.toList.length := by simp
          have hfold := foldl_set v.cells.toList vs off 0 (by omega)
          simp only [Nat.add_zero] at hfold
          have hrel : VRs β (cells.take off ++ a.cells ++ cells.drop (off + a.cells.length)) (vs.toList.take off ++ v.cells.toList ++ vs.toList.drop (off + v.cells.toList.length)) := by
            refine ((hc.take off).append hvc).append ?_
            rw [hlen]; exact hc.drop _
          rw [← hfold] at hrel
          obtain ⟨us, h1, h2, h3⟩ := fill_run hpl parts parts' _ ((v.cells.toList.zipIdx 0).foldl (fun cs (x : Value × Nat) => cs.setIfInBounds (off + x.2) x.1) vs) r hp hrel h
          refine ⟨us, ?_, h2, ?_⟩
          · simp only [Instr.fill, hpl i _ hi]
            have hcond : ¬ ((decide (v.cells.size ≠ size) || decide (off + v.cells.size > vs.size)) = true) := by
              simp only [Bool.or_eq_true, decide_eq_true_eq, not_or]; omega
            rw [if_neg hcond, ← Array.foldl_toList, Array.toList_zipIdx]
            exact h1
          · rw [h3, foldl_size]
        · cases h
omit [Val] in
theorem fieldPlaces {fields : Array Field} (hs : fieldsSized P fields.toList = true) : ∃ places : List (Nat × Nat), fields.toList.mapM (fun f => (P.info? f.type).map fun i => (f.offset, i.size)) = some places ∧
    ∀ i q, fieldPlaceA P fields i = some q → places[i]? = some q := by
  have key : ∀ (l : List Field), fieldsSized P l = true → ∃ places : List (Nat × Nat), l.mapM (fun f => (P.info? f.type).map fun i => (f.offset, i.size)) = some places ∧
      ∀ (i : Nat) (f : Field) n, l[i]? = some f → sizeT P f.type = some n → places[i]? = some (f.offset, n) := by
    intro l
    induction l with
    | nil => intro _; exact ⟨[], rfl, by simp⟩
    | cons f l ih =>
      intro h
      simp only [fieldsSized, List.all_cons, Bool.and_eq_true] at h
      obtain ⟨places, h1, h2⟩ := ih h.2
      obtain ⟨n, hn⟩ := Option.isSome_iff_exists.1 h.1
      obtain ⟨inf, hi, rfl⟩ := sizeT_info hn
      refine ⟨(f.offset, inf.size) :: places, ?_, ?_⟩
      · simp [List.mapM_cons, hi, h1]
      · intro i g m hg hm
        cases i with
        | zero =>
          simp at hg; subst hg
          rw [hn] at hm; cases hm; rfl
        | succ i => simpa using h2 i g m (by simpa using hg) hm
  obtain ⟨places, h1, h2⟩ := key _ hs
  refine ⟨places, h1, ?_⟩
  intro i q h
  unfold fieldPlaceA at h
  split at h
  · rename_i f hf
    rw [Option.map_eq_some_iff] at h
    obtain ⟨n, hn, rfl⟩ := h
    exact h2 i f n (by simpa using hf) hn
  · cases h
theorem zeroT_info {t : TypeId} {z : AV} (h : zeroT P t = some z) : ∃ i v, P.info? t = some i ∧ i.zero = some v ∧ VR β z v := by
  unfold zeroT at h
  cases hi : infoT P t with
  | none => simp [hi] at h
  | some i =>
    cases hz : i.zero with
    | none => simp [hi, hz] at h
    | some v =>
      simp [hi, hz] at h
      exact ⟨i, v, infoT_info hi, hz, ofValue_VR v z h⟩
theorem buildA_run {t : TypeId} {parts : List (Nat × AV)} {parts' : Array (Nat × Value)} {r : AV} (h : buildA P t parts = some r) (hp : PartsR β parts parts'.toList) :
    ∃ u, (Instr.build t parts').run P w = .ok u w ∧ VR β r u := by
  unfold buildA at h
  split at h
  · rename_i z fields hz hu
    split at h
    · rename_i hs
      rw [Option.map_eq_some_iff] at h
      obtain ⟨cells, hf, rfl⟩ := h
      obtain ⟨i, zv, h1, h2, h3⟩ := zeroT_info (β := β) hz
      obtain ⟨places, h4, h5⟩ := fieldPlaces hs
      obtain ⟨us, h6, h7, -⟩ := fill_run (place' := fun i => places.toArray[i]?) (fun i q hq => by simpa using h5 i q hq) _ _ _ zv.cells _ hp h3.cells hf
      refine ⟨.agg us, run_build w t parts' us ?_, .agg h7⟩
      simp only [Program.built, h1, undT_und hu, h2, h4]
      exact h6
    · cases h
  · rename_i z n elem hz hu
    split at h
    · rename_i s hs
      rw [Option.map_eq_some_iff] at h
      obtain ⟨cells, hf, rfl⟩ := h
      obtain ⟨i, zv, h1, h2, h3⟩ := zeroT_info (β := β) hz
      obtain ⟨ie, h4, rfl⟩ := sizeT_info hs
      obtain ⟨us, h6, h7, -⟩ := fill_run (place' := fun i => some (i * ie.size, ie.size)) (fun i q hq => hq) _ _ _ zv.cells _ hp h3.cells hf
      refine ⟨.agg us, run_build w t parts' us ?_, .agg h7⟩
      simp only [Program.built, h1, undT_und hu, h2, h4]
      exact h6
    · cases h
  · cases h
omit [Val] in
theorem repeatL_get : ∀ (n : Nat) (z : List AV) (i : Nat), i < n * z.length → (repeatL z n)[i]? = z[i % z.length]?
  | 0, z, i, h => by simp at h
  | n + 1, z, i, h => by
    simp only [repeatL]
    by_cases hi : i < z.length
    · rw [List.getElem?_append_left hi, Nat.mod_eq_of_lt hi]
    · rw [List.getElem?_append_right (by omega), repeatL_get n z (i - z.length) (by rw [Nat.add_mul] at h; omega)]
      rw [← Nat.mod_eq_sub_mod (by omega)]
omit [Val] in
theorem repeatL_length : ∀ (n : Nat) (z : List AV), (repeatL z n).length = n * z.length
  | 0, z => by simp [repeatL]
  | n + 1, z => by simp [repeatL, repeatL_length n z, Nat.add_mul, Nat.add_comm]
theorem VRs.of_get {a : List AV} {v : List Value} (hl : a.length = v.length) (h : ∀ (i : Nat) (x : AV), a[i]? = some x → ∃ y, v[i]? = some y ∧ VR β x y) : VRs β a v := by
  induction a generalizing v with
  | nil => cases v with | nil => exact .nil | cons _ _ => simp at hl
  | cons x xs ih =>
    cases v with
    | nil => simp at hl
    | cons y ys =>
      obtain ⟨y', h1, h2⟩ := h 0 x rfl
      simp at h1; subst h1
      exact .cons h2 (ih (by simpa using hl) fun i z hz => by simpa using h (i + 1) z (by simpa using hz))
theorem zeros_VRs {z : List AV} {zv : Array Value} {n s : Nat} (hz : VRs β z zv.toList) (hs : z.length = s) (h0 : s ≠ 0) : VRs β (repeatL z n) ((Array.range (n * s)).map (zv[· % zv.size]!)).toList := by
  have hzl := hz.length
  have hzs : zv.size = s := by rw [← hs, hzl]; simp
  refine VRs.of_get (by simp [repeatL_length, hs]) fun i x hx => ?_
  have hlt : i < n * s := by
    have := (List.getElem?_eq_some_iff.1 hx).1
    rwa [repeatL_length, hs] at this
  rw [repeatL_get n z i (by rwa [hs]), hs] at hx
  obtain ⟨y, h1, h2⟩ := hz.get hx
  refine ⟨y, ?_, h2⟩
  have hm : i % s < zv.size := by rw [hzs]; exact Nat.mod_lt _ (by omega)
  have h1' : zv[i % s]? = some y := by simpa using h1
  have : zv[i % zv.size]! = y := by rw [hzs, getElem!_pos zv (i % s) hm]; exact Option.some.inj ((Array.getElem?_eq_getElem hm).symm.trans h1')
  simp only [Array.toList_map, List.getElem?_map, Array.getElem?_toList]
  simp [hlt, this]
end
end Go.Tc
