/- Conversions, slices, assertions, lengths: what the evaluator answers, the model answers. -/
import Derived.Test.YtjmjbjnbfodalaaGreatTcEq
set_option linter.unusedSimpArgs false
set_option linter.unusedVariables false
set_option linter.unusedSectionVars false
namespace Go.Tc
variable [Val]

section
variable {P : Program} {G : Nat} {β : Pl} {H : AHeap} {w : World}

theorem typeAssertA_run {x r : AV} {xt t : TypeId} {ok : Bool} {v : Value} (h : typeAssertA P x t ok = some r) (hx : VR β x v) : ∃ u, (Instr.typeAssert v xt t ok).run P w = .ok u w ∧ VR β r u := by
  unfold typeAssertA at h
  split at h
  · cases h
  · rename_i td hni hu
    cases hx
    split at h
    · rename_i hok
      subst hok
      rw [Option.map_eq_some_iff] at h
      obtain ⟨z, hz, rfl⟩ := h
      obtain ⟨zv, h1, h2⟩ := zeroT_run (P := P) (β := β) (w := w) hz
      refine ⟨.tuple #[zv, .bool false], ?_, .tuple (.cons h2 (.cons (.bool false) .nil))⟩
      have := run_underlying (undT_und hu) w
      cases td <;> first
        | exact absurd rfl (hni _)
        | simp [Instr.typeAssert, this, h1]
    · cases h
  · rename_i td ti tv hni hu
    cases hx
    rename_i v' hv
    have hun := run_underlying (undT_und hu) w
    split at h
    · rename_i htt
      cases h
      cases ok
      · refine ⟨v', ?_, hv⟩
        cases td <;> first
          | exact absurd rfl (hni _)
          | simp [Instr.typeAssert, hun, htt]
      · refine ⟨.tuple #[v', .bool true], ?_, .tuple (.cons hv (.cons (.bool true) .nil))⟩
        cases td <;> first
          | exact absurd rfl (hni _)
          | simp [Instr.typeAssert, hun, htt]
    · rename_i htt
      split at h
      · rename_i hok
        subst hok
        rw [Option.map_eq_some_iff] at h
        obtain ⟨z, hz, rfl⟩ := h
        obtain ⟨zv, h1, h2⟩ := zeroT_run (P := P) (β := β) (w := w) hz
        refine ⟨.tuple #[zv, .bool false], ?_, .tuple (.cons h2 (.cons (.bool false) .nil))⟩
        cases td <;> first
          | exact absurd rfl (hni _)
          | simp [Instr.typeAssert, hun, htt, h1]
      · cases h
  · cases h

theorem lenA_run {nf : Tm → Tm} (hn : ∀ t, (nf t).den = t.den) {n : Nat} {t : TypeId} {x r : AV} {v : Value} {ts : List TypeId} {ty : TypeId} {rest : List Value} (hw : WR G β H.get n w) (h : lenA P nf H t x = some r) (hx : VR β x v) :
    ∃ u, (Builtin.len_ (t :: ts).toArray ty (v :: rest).toArray).run P w = .ok u w ∧ VR β r u := by
  have e1 : (t :: ts).toArray[0]? = some t := by simp
  have e2 : (v :: rest).toArray[0]? = some v := by simp
  unfold lenA at h
  split at h
  · rename_i s hu
    cases h; cases hx with | sy hx =>
    obtain ⟨sb, hs, rfl⟩ := hx.strI
    exact ⟨_, by simp only [Builtin.len_, e1, e2, Sem.run_bind, run_underlying (undT_und hu), Result.andThen_ok]; rfl, ofTm_int (by rw [mkT_den hn]; simp only [Tm.dens, hs, TOp.den, BS.of_len])⟩
  · rename_i e ks c hu
    cases h; cases hx with | sy hx =>
    generalize hd : c.den = d at hx
    cases hx with
    | nil => exact ⟨_, by simp only [Builtin.len_, e1, e2, Sem.run_bind, run_underlying (undT_und hu), Result.andThen_ok]; rfl, ofTm_int (by rw [mkT_den hn]; simp only [Tm.dens, hd, TOp.den]; rfl)⟩
    | none => exact ⟨_, by simp only [Builtin.len_, e1, e2, Sem.run_bind, run_underlying (undT_und hu), Result.andThen_ok]; rfl, ofTm_int (by rw [mkT_den hn]; simp only [Tm.dens, hd, TOp.den]; rfl)⟩
    | isl hz hn' hcap hk hv hr =>
      subst hn'
      exact ⟨_, by simp only [Builtin.len_, e1, e2, Sem.run_bind, run_underlying (undT_und hu), Result.andThen_ok]; rfl, ofTm_int (by rw [mkT_den hn]; simp only [Tm.dens, hd, TOp.den])⟩
  · rename_i e b es lo len cm hu
    cases h; cases hx with
    | lsl hl hln hp hcap hle => exact ⟨_, by simp only [Builtin.len_, e1, e2, Sem.run_bind, run_underlying (undT_und hu), Result.andThen_ok]; rfl, ofTm_int hln⟩
    | lsl0 _ hz => exact ⟨_, by simp only [Builtin.len_, e1, e2, Sem.run_bind, run_underlying (undT_und hu), Result.andThen_ok]; rfl, ofTm_int hz⟩
    | lslE a c _ hz hc => exact ⟨_, by simp only [Builtin.len_, e1, e2, Sem.run_bind, run_underlying (undT_und hu), Result.andThen_ok]; rfl, ofTm_int hz⟩
  · rename_i s hu
    cases h; cases hx
    exact ⟨_, by simp only [Builtin.len_, e1, e2, Sem.run_bind, run_underlying (undT_und hu), Result.andThen_ok]; rfl, .int _ _⟩
  · rename_i n0 hu
    cases h; cases hx
    exact ⟨_, by simp only [Builtin.len_, e1, e2, Sem.run_bind, run_underlying (undT_und hu), Result.andThen_ok]; rfl, .int _ _⟩
  · rename_i m e hu
    cases h
    exact ⟨_, by simp only [Builtin.len_, e1, e2, Sem.run_bind, run_underlying (undT_und hu), Result.andThen_ok]; rfl, .int _ _⟩
  · rename_i arr hu
    split at h
    · rename_i m e hu2
      cases h
      exact ⟨_, by simp only [Builtin.len_, e1, e2, Sem.run_bind, run_underlying (undT_und hu), run_underlying (undT_und hu2), Result.andThen_ok]; rfl, .int _ _⟩
    · cases h
  · rename_i hu
    cases h; cases hx
    exact ⟨_, by simp only [Builtin.len_, e1, e2, Sem.run_bind, run_underlying (undT_und hu), Result.andThen_ok]; rfl, .int _ _⟩
  · rename_i hu
    cases h; cases hx
    exact ⟨_, by simp only [Builtin.len_, e1, e2, Sem.run_bind, run_underlying (undT_und hu), Result.andThen_ok]; rfl, .int _ _⟩
  · rename_i hu
    cases h; cases hx
    exact ⟨_, by simp only [Builtin.len_, e1, e2, Sem.run_bind, run_underlying (undT_und hu), Result.andThen_ok]; rfl, .int _ _⟩
  · rename_i hu
    cases h; cases hx
    exact ⟨_, by simp only [Builtin.len_, e1, e2, Sem.run_bind, run_underlying (undT_und hu), Result.andThen_ok]; rfl, .int _ _⟩
  · rename_i b hu
    cases hx
    rename_i p hp
    split at h
    · rename_i es clock hm
      cases h
      obtain ⟨q, hq, ces, h1, h2⟩ := hw.obj b _ (mapOf_get hm)
      rw [hp] at hq; cases hq
      have hl : es.length = ces.size := by
        have : ∀ {a : List AEnt} {m : List MapEntry}, EntsR β a m → a.length = m.length := by
          intro a m h; induction h with
          | nil => rfl
          | cons _ _ _ _ ih => simp [ih]
        simpa using this h2
      refine ⟨goInt ces.size, ?_, by simp only [hl]; exact .int _ _⟩
      have hg : (getObj p.c).run P w = .ok (.map ces clock) w := by simp [getObj, Sem.run, h1]
      simp only [Builtin.len_, e1, e2, Sem.run_bind, run_underlying (undT_und hu), Result.andThen_ok, hg]
      rfl
    · split at h
      · rename_i kk vk c hm
        cases h
        have hget : H.get b = some (.lmap kk vk c) := by
          unfold lmapOf at hm
          split at hm
          · rename_i e; cases hm; exact e
          · cases hm
        obtain ⟨q, hq, L, ces, h0, h1, h2⟩ := hw.obj b _ hget
        rw [hp] at hq; cases hq
        have hl : L.length = ces.size := by
          have : ∀ {i : Nat} {a : List D} {m : List MapEntry}, PairsR β.zone kk vk i a m → a.length = m.length := by
            intro i a m h; induction h with
            | nil => rfl
            | cons _ _ _ _ ih => simp [ih]
          simpa using this h2
        refine ⟨goInt ces.size, ?_, ofTm_int (by rw [mkT_den hn]; simp only [Tm.dens, h0, TOp.den, hl])⟩
        have hg : (getObj p.c).run P w = .ok (.map ces L.length) w := by simp [getObj, Sem.run, h1]
        simp only [Builtin.len_, e1, e2, Sem.run_bind, run_underlying (undT_und hu), Result.andThen_ok, hg]
        rfl
      · cases h
  · cases h

theorem capA_run {t : TypeId} {x r : AV} {v : Value} {ts : List TypeId} {ty : TypeId} {rest : List Value} (h : capA P t x = some r) (hx : VR β x v) :
    ∃ u, (Builtin.cap_ (t :: ts).toArray ty (v :: rest).toArray).run P w = .ok u w ∧ VR β r u := by
  have e1 : (t :: ts).toArray[0]? = some t := by simp
  have e2 : (v :: rest).toArray[0]? = some v := by simp
  unfold capA at h
  split at h
  · rename_i hu
    cases h; cases hx
    exact ⟨_, by simp only [Builtin.cap_, e1, e2, Sem.run_bind, run_underlying (undT_und hu), Result.andThen_ok]; rfl, .int _ _⟩
  · rename_i hu
    cases h
    cases hx with
    | @slice _ p _ _ _ c hp hc hl =>
    have : c = _ := hc
    subst this
    exact ⟨_, by simp only [Builtin.cap_, e1, e2, Sem.run_bind, run_underlying (undT_und hu), Result.andThen_ok]; rfl, .int _ _⟩
  · rename_i hu
    cases h
    exact ⟨_, by simp only [Builtin.cap_, e1, e2, Sem.run_bind, run_underlying (undT_und hu), Result.andThen_ok]; rfl, .int _ _⟩
  · cases h

def minW (f : Int → Int → Int) : Int → List AV → Option Int
  | a, [] => some a
  | a, .int _ y :: r => minW f (f a y) r
  | _, _ => none

omit [Val] in
theorem foldl_none {f : Option Int → AV → Option Int} (hf : ∀ v, f none v = none) : ∀ l : List AV, l.foldl f none = none
  | [] => rfl
  | v :: r => by rw [List.foldl_cons, hf]; exact foldl_none hf r

theorem minA_run {l : List AV} {r : AV} {vs : List Value} {ts : Array TypeId} {ty : TypeId} (h : minA l = some r) (hl : VRs β l vs) : ∃ u, (Builtin.min_ ts ty vs.toArray).run P w = .ok u w ∧ VR β r u := by
  unfold minA at h
  split at h
  · rename_i k x rest
    cases hl with
    | cons h1 hs =>
    cases h1
    rw [Option.map_eq_some_iff] at h
    obtain ⟨m, hm, rfl⟩ := h
    refine ⟨.int k m, ?_, .int k m⟩
    simp only [Builtin.min_]
    rename_i ys
    clear ts ty
    induction rest generalizing x ys with
    | nil => cases hs; simp at hm; subst hm; rfl
    | cons y rest ih =>
      cases hs with
      | cons hy hs =>
      rw [List.foldl_cons] at hm
      cases hy with
      | int j n =>
        simp only at hm
        simp only [List.foldlM_cons, Sem.run_bind, Builtin.min2, Sem.run_pure, Result.andThen_ok]
        apply ih <;> assumption
      | _ => simp only at hm; rw [foldl_none (by intro v; cases v <;> rfl)] at hm; cases hm
  · cases h

theorem maxA_run {l : List AV} {r : AV} {vs : List Value} {ts : Array TypeId} {ty : TypeId} (h : maxA l = some r) (hl : VRs β l vs) : ∃ u, (Builtin.max_ ts ty vs.toArray).run P w = .ok u w ∧ VR β r u := by
  unfold maxA at h
  split at h
  · rename_i k x rest
    cases hl with
    | cons h1 hs =>
    cases h1
    rw [Option.map_eq_some_iff] at h
    obtain ⟨m, hm, rfl⟩ := h
    refine ⟨.int k m, ?_, .int k m⟩
    simp only [Builtin.max_]
    rename_i ys
    clear ts ty
    induction rest generalizing x ys with
    | nil => cases hs; simp at hm; subst hm; rfl
    | cons y rest ih =>
      cases hs with
      | cons hy hs =>
      rw [List.foldl_cons] at hm
      cases hy with
      | int j n =>
        simp only at hm
        simp only [List.foldlM_cons, Sem.run_bind, Builtin.max2, Sem.run_pure, Result.andThen_ok]
        apply ih <;> assumption
      | _ => simp only at hm; rw [foldl_none (by intro v; cases v <;> rfl)] at hm; cases hm
  · cases h

theorem iteT_den {nf : Tm → Tm} (hn : ∀ t, (nf t).den = t.den) {c x y : Tm} {b : Bool} (h : c.den = .bool b) : (iteT nf c x y).den = if b then x.den else y.den := by
  unfold iteT
  split
  · have : b = true := by simpa [Tm.den, eq_comm] using h
    subst this; rfl
  · have : b = false := by simpa [Tm.den, eq_comm] using h
    subst this; rfl
  · rw [mkT_den hn]; simp only [Tm.dens, h, TOp.den]
theorem minS_run {nf : Tm → Tm} (hn : ∀ t, (nf t).den = t.den) {l : List AV} {r : AV} {vs : List Value} {ts : Array TypeId} {ty : TypeId} (h : minS nf l = some r) (hl : VRs β l vs) : ∃ u, (Builtin.min_ ts ty vs.toArray).run P w = .ok u w ∧ VR β r u := by
  unfold minS at h
  split at h
  · rename_i a b
    split at h
    · rename_i k s j t ha hb
      split at h
      · rename_i hk
        subst hk
        cases h
        cases hl with | cons h1 hs =>
        cases hs with | cons h2 hs =>
        cases hs
        obtain ⟨m, d1, rfl⟩ := intTm_VR ha h1
        obtain ⟨n, d2, rfl⟩ := intTm_VR hb h2
        refine ⟨.int k (if n < m then n else m), ?_, ?_⟩
        · simp only [Builtin.min_]; rfl
        · have hc : (mkT nf (.bin .lss .i64) [t, s]).den = .bool (decide (n < m)) := by rw [mkT_den hn]; simp only [Tm.dens, d1, d2, TOp.den, intD]
          refine ofTm_int ?_
          rw [iteT_den hn hc, d1, d2]
          by_cases e : n < m <;> simp [e]
      · cases h
    · cases h
  · cases h
theorem maxS_run {nf : Tm → Tm} (hn : ∀ t, (nf t).den = t.den) {l : List AV} {r : AV} {vs : List Value} {ts : Array TypeId} {ty : TypeId} (h : maxS nf l = some r) (hl : VRs β l vs) : ∃ u, (Builtin.max_ ts ty vs.toArray).run P w = .ok u w ∧ VR β r u := by
  unfold maxS at h
  split at h
  · rename_i a b
    split at h
    · rename_i k s j t ha hb
      split at h
      · rename_i hk
        subst hk
        cases h
        cases hl with | cons h1 hs =>
        cases hs with | cons h2 hs =>
        cases hs
        obtain ⟨m, d1, rfl⟩ := intTm_VR ha h1
        obtain ⟨n, d2, rfl⟩ := intTm_VR hb h2
        refine ⟨.int k (if n > m then n else m), ?_, ?_⟩
        · simp only [Builtin.max_]; rfl
        · have hc : (mkT nf (.bin .gtr .i64) [t, s]).den = .bool (decide (n > m)) := by rw [mkT_den hn]; simp only [Tm.dens, d1, d2, TOp.den, intD]
          refine ofTm_int ?_
          rw [iteT_den hn hc, d1, d2]
          by_cases e : n > m <;> simp [e]
      · cases h
    · cases h
  · cases h

/-! ### bounds of slices -/
theorem boundA_run {x : AV} {y n : Nat} {v : Value} {code : BoundsCode} (h : boundA x y = some n) (hx : VR β x v) : (Instr.sliceBound v y code).run P w = .ok n w ∧ n ≤ y := by
  unfold boundA at h
  split at h
  · cases hx
    split at h
    · rename_i hb
      cases h
      refine ⟨by simp [Instr.sliceBound, asIntOf, hb], by omega⟩
    · cases h
  · cases h

omit [Val] in
theorem boundA_le {x : AV} {y n : Nat} (h : boundA x y = some n) : n ≤ y := by
  unfold boundA at h
  split at h
  · split at h
    · cases h; omega
    · cases h
  · cases h
omit [Val] in
theorem optBound_le {x : Option AV} {y d n : Nat} (h : optBound x y d = some n) (hd : d ≤ y) : n ≤ y := by
  unfold optBound at h
  split at h
  · unfold boundA at h
    split at h
    · split at h
      · cases h; omega
      · cases h
    · cases h
  · cases h; exact hd

/-- an operand that may be left out, on both sides. -/
def OptR (β : Pl) : Option AV → Option Value → Prop
  | none, none => True
  | some a, some v => VR β a v
  | _, _ => False

theorem bounds3_run {isSlice : Bool} {len cap l h m : Nat} {lo hi mx : Option AV} {lo' hi' mx' : Option Value} (rl : OptR β lo lo') (rh : OptR β hi hi') (rm : OptR β mx mx')
    (hb : bounds3 cap len lo hi mx = some (l, h, m)) :
    (Instr.sliceBounds isSlice len cap lo' hi' mx').run P w = .ok (l, h, m) w ∧ l ≤ h ∧ m ≤ cap ∧ (hi.isSome = true → h ≤ m) ∧ (hi.isSome = false → h = len) ∧ (mx.isSome = false → m = cap) := by
  unfold bounds3 at hb
  split at hb
  · cases hb
  · rename_i hmx
    split at hb
    · rename_i m0 hm
      split at hb
      · rename_i h0 hh
        split at hb
        · rename_i l0 hl
          simp only [Option.some.injEq, Prod.mk.injEq] at hb
          obtain ⟨rfl, rfl, rfl⟩ := hb
          refine ⟨?_, ?_, ?_, ?_, ?_, ?_⟩
          · unfold Instr.sliceBounds
            cases mx with
            | none =>
              cases mx' with
              | some _ => exact rm.elim
              | none =>
              cases hm
              cases hi with
              | none =>
                cases hi' with
                | some _ => exact rh.elim
                | none =>
                cases hh
                cases lo with
                | none =>
                  cases lo' with
                  | some _ => exact rl.elim
                  | none => cases hl; rfl
                | some a =>
                  cases lo' with
                  | none => exact rl.elim
                  | some v =>
                    have := (boundA_run (P := P) (w := w) (code := .sliceB) hl rl).1
                    simp [this]
              | some a =>
                cases hi' with
                | none => exact rh.elim
                | some v =>
                have h1 := fun code => (boundA_run (P := P) (w := w) (code := code) hh rh).1
                cases lo with
                | none =>
                  cases lo' with
                  | some _ => exact rl.elim
                  | none => cases hl; simp [h1]
                | some b =>
                  cases lo' with
                  | none => exact rl.elim
                  | some u =>
                    have h2 := fun code => (boundA_run (P := P) (w := w) (code := code) hl rl).1
                    simp [h1, h2]
            | some a =>
              cases mx' with
              | none => exact rm.elim
              | some v =>
              have h0 := fun code => (boundA_run (P := P) (w := w) (code := code) hm rm).1
              cases hi with
              | none => simp at hmx
              | some b =>
                cases hi' with
                | none => exact rh.elim
                | some u =>
                have h1 := fun code => (boundA_run (P := P) (w := w) (code := code) hh rh).1
                cases lo with
                | none =>
                  cases lo' with
                  | some _ => exact rl.elim
                  | none => cases hl; simp [h0, h1]
                | some c =>
                  cases lo' with
                  | none => exact rl.elim
                  | some z =>
                    have h2 := fun code => (boundA_run (P := P) (w := w) (code := code) hl rl).1
                    simp [h0, h1, h2]
          · exact optBound_le hl (Nat.zero_le _)
          · exact optBound_le hm (Nat.le_refl _)
          · intro hs
            cases hi with
            | none => simp at hs
            | some a => exact boundA_le hh
          · intro hs
            cases hi with
            | none => cases hh; rfl
            | some a => simp at hs
          · intro hs
            cases mx with
            | none => cases hm; rfl
            | some a => simp at hs
        · cases hb
      · cases hb
    · cases hb

omit [Val] in
theorem boundA_wider {x : AV} {y z n : Nat} (h : boundA x y = some n) (hz : y ≤ z) : boundA x z = some n := by
  unfold boundA at h ⊢
  split at h
  · split at h
    · rename_i hb
      cases h
      rw [if_pos ⟨hb.1, by omega⟩]
    · cases h
  · cases h

omit [Val] in
theorem bounds3_wider {len k c l h m : Nat} {lo hi mx : Option AV} (hb : bounds3 k len lo hi mx = some (l, h, m)) (hc : k ≤ c) : bounds3 c len lo hi mx = some (l, h, if mx.isSome then m else c) := by
  unfold bounds3 at hb ⊢
  split at hb
  · cases hb
  · rename_i hmx
    rw [if_neg hmx]
    cases mx with
    | none =>
      simp only [optBound] at hb ⊢
      cases hi with
      | none =>
        simp only at hb ⊢
        split at hb
        · rename_i l0 hl
          simp only [Option.some.injEq, Prod.mk.injEq] at hb
          obtain ⟨rfl, rfl, rfl⟩ := hb
          simp [hl]
        · cases hb
      | some a =>
        simp only at hb ⊢
        cases ha : boundA a k with
        | none => simp [ha] at hb
        | some h0 =>
          rw [boundA_wider ha hc]
          simp only [ha] at hb
          simp only
          split at hb
          · rename_i l0 hl
            simp only [Option.some.injEq, Prod.mk.injEq] at hb
            obtain ⟨rfl, rfl, rfl⟩ := hb
            simp [hl]
          · cases hb
    | some a =>
      have e : ∀ y, optBound (some a) y y = boundA a y := fun _ => rfl
      simp only [e] at hb ⊢
      cases ha : boundA a k with
      | none => simp [ha] at hb
      | some m0 =>
        rw [boundA_wider ha hc]
        simp only [ha] at hb
        simp only
        split at hb
        · rename_i h0 hh
          split at hb
          · rename_i l0 hl
            simp only [Option.some.injEq, Prod.mk.injEq] at hb
            obtain ⟨rfl, rfl, rfl⟩ := hb
            simp [hh, hl]
          · cases hb
        · cases hb

end
end Go.Tc
