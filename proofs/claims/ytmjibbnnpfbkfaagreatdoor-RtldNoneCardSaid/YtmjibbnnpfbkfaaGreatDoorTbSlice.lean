/- Slice expressions and conversions. -/
import Derived.Test.YtmjibbnnpfbkfaaGreatDoorTbMore
set_option linter.unusedSimpArgs false
set_option linter.unusedVariables false
set_option linter.unusedSectionVars false
namespace Go.Tb

section
variable {P : Program} {G : Nat} {β : Pl} {H : AHeap} {w : World}

theorem sliceArr_run {n off b : Nat} {e : TypeId} {lo hi mx : Option AV} {lo' hi' mx' : Option Value} {r : AV} {p : Place} (rl : OptR β lo lo') (rh : OptR β hi hi') (rm : OptR β mx mx') (hp : β b = some p)
    (h : sliceArr P b off n e lo hi mx = some r) :
    ∃ l h' m s, (Instr.sliceBounds false n n lo' hi' mx').run P w = .ok (l, h', m) w ∧ (sizeOf e).run P w = .ok s w ∧
      VR β r (.slice (some (if m = l then ⟨p.c, p.base + off, none⟩ else (⟨p.c, p.base + off, none⟩ : Addr).add (l * s))) (h' - l) (m - l)) := by
  unfold sliceArr at h
  split at h
  · rename_i s l h' m hs hb
    cases h
    obtain ⟨h1, h2, h3, h4, h5, h6⟩ := bounds3_run (P := P) (w := w) (isSlice := false) rl rh rm hb
    refine ⟨l, h', m, s, h1, sizeT_run hs, ?_⟩
    have hle : h' ≤ m := by
      cases hhi : hi.isSome with
      | true => exact h4 hhi
      | false =>
        have hmx : mx.isSome = false := by
          cases mx with
          | none => rfl
          | some a => unfold bounds3 at hb; cases hi <;> simp_all
        have := h5 hhi; have := h6 hmx; omega
    by_cases e1 : m = l
    · rw [if_pos e1, if_pos e1]
      exact .slice off _ hp rfl (by omega)
    · rw [if_neg e1, if_neg e1, addr_add, Nat.add_assoc]
      exact .slice _ _ hp rfl (by omega)
  · cases h

theorem sliceA_run {n : Nat} {t : TypeId} {x r : AV} {v : Value} {lo hi mx : Option AV} {lo' hi' mx' : Option Value} (hw : WR G β H.get n w) (h : sliceA P H t x lo hi mx = some r) (hx : VR β x v)
    (rl : OptR β lo lo') (rh : OptR β hi hi') (rm : OptR β mx mx') : ∃ u, (Instr.sliceAt t v lo' hi' mx').run P w = .ok u w ∧ VR β r u := by
  have hcap : ∀ (k len l h m : Nat), bounds3 k len lo hi mx = some (l, h, m) → len ≤ k → h ≤ m := by
    intro k len l h m hb hk
    obtain ⟨-, h2, h3, h4, h5, h6⟩ := bounds3_run (P := P) (w := w) (isSlice := false) rl rh rm hb
    cases hhi : hi.isSome with
    | true => exact h4 hhi
    | false =>
      have hmx : mx.isSome = false := by
        cases mx with
        | none => rfl
        | some a => unfold bounds3 at hb; cases hi <;> simp_all
      have := h5 hhi; have := h6 hmx; omega
  unfold sliceA at h
  split at h
  · rename_i s hu
    cases hx with
    | str s =>
    split at h
    · cases h
    · rename_i hmx
      split at h
      · rename_i l h' m hb
        cases h
        have hm0 : mx = none := by cases mx <;> simp_all
        subst hm0
        cases mx' with
        | some _ => exact rm.elim
        | none =>
        rw [BS.of_len] at hb
        obtain ⟨h1, h2, h3, h4, h5, h6⟩ := bounds3_run (P := P) (w := w) (isSlice := false) rl rh (mx := none) (mx' := none) trivial hb
        have hle : h' ≤ s.size := by
          cases hhi : hi.isSome with
          | true => have := h4 hhi; omega
          | false => have := h5 hhi; omega
        rw [BS.of_cut s l h' h2 hle]
        refine ⟨.string (s.extract l h'), ?_, .str _⟩
        simp only [Instr.sliceAt, Instr.slice, Sem.run_bind, run_underlying (undT_und hu), Result.andThen_ok, Option.isSome_none, Bool.false_eq_true, if_false, Sem.run_pure, h1]
      · cases h
  · rename_i e hu
    cases hx
    split at h
    · rename_i s q hs hb
      obtain ⟨l, h', m⟩ := q
      cases h
      obtain ⟨h1, h2, h3, h4, h5, h6⟩ := bounds3_run (P := P) (w := w) (isSlice := true) rl rh rm hb
      refine ⟨.slice none 0 0, ?_, .nilSlice⟩
      have hh : h' ≤ m := hcap _ _ _ _ _ hb (Nat.le_refl _)
      have e1 : m = 0 := by omega
      have e2 : h' = 0 := by omega
      have e3 : l = 0 := by omega
      subst e1 e2 e3
      simp only [Instr.sliceAt, Instr.slice, Sem.run_bind, run_underlying (undT_und hu), Result.andThen_ok, h1, sizeT_run hs]
      rfl
    · cases h
  · rename_i e b off len k hu
    cases hx with
    | @slice _ p _ _ _ c hp hc hl =>
    have hck : c = k := hc
    subst hck
    split at h
    · rename_i s l h' m hs hb
      cases h
      obtain ⟨h1, h2, h3, h4, h5, h6⟩ := bounds3_run (P := P) (w := w) (isSlice := true) rl rh rm hb
      have hh := hcap _ _ _ _ _ hb hl
      refine ⟨.slice (if m = l then some ⟨p.c, p.base + off, none⟩ else (some (⟨p.c, p.base + off, none⟩ : Addr)).map (·.add (l * s))) (h' - l) (m - l), ?_, ?_⟩
      · simp only [Instr.sliceAt, Instr.slice, Sem.run_bind, run_underlying (undT_und hu), Result.andThen_ok, h1, sizeT_run hs]
        rfl
      · by_cases e1 : m = l
        · rw [if_pos e1, if_pos e1]
          exact .slice off _ hp rfl (by omega)
        · rw [if_neg e1, if_neg e1, Option.map_some, addr_add, Nat.add_assoc]
          exact .slice _ _ hp rfl (by omega)
    · cases h
  · rename_i e b off len es hu
    cases hx with
    | @slice _ p _ _ _ c hp hc hl =>
    split at h
    · rename_i s cells e0 k0 hs hr
      split at h
      · rename_i hes
        obtain ⟨rfl, hoff⟩ := hes
        obtain ⟨q, cc, lo1, hi1, hq, k1, k2, k3, k4, k5⟩ := row_at hw hr
        rw [hp] at hq; cases hq
        obtain ⟨c1, c2, c3⟩ := hc
        have hkc : (cells.length - off) / es ≤ c := by
          have : (cells.length - off) / es * es ≤ cells.length - off := Nat.div_mul_le_self _ _
          have : (cells.length - off) / es * es < (c + 1) * es := by omega
          have := Nat.lt_of_mul_lt_mul_right this
          omega
        split at h
        · rename_i l h' m hb
          have hb' := bounds3_wider hb hkc
          have hh := hcap _ _ _ _ _ hb' hl
          obtain ⟨h1, h2, h3, h4, h5, h6⟩ := bounds3_run (P := P) (w := w) (isSlice := true) rl rh rm hb'
          obtain ⟨-, g2, g3, g4, g5, g6⟩ := bounds3_run (P := P) (w := w) (isSlice := true) rl rh rm hb
          have hrun : ∀ M, (Instr.sliceBounds true len c lo' hi' mx').run P w = .ok (l, h', M) w →
              (Instr.sliceAt t (.slice (some ⟨p.c, p.base + off, none⟩) len c) lo' hi' mx').run P w = .ok (.slice (if M = l then some ⟨p.c, p.base + off, none⟩ else (some (⟨p.c, p.base + off, none⟩ : Addr)).map (·.add (l * es))) (h' - l) (M - l)) w := by
            intro M hM
            simp only [Instr.sliceAt, Instr.slice, Sem.run_bind, run_underlying (undT_und hu), Result.andThen_ok, hM, sizeT_run hs]
            rfl
          split at h
          · rename_i hmx
            cases h
            rw [if_pos hmx] at h1 hh
            refine ⟨_, hrun m h1, ?_⟩
            by_cases e1 : m = l
            · rw [if_pos e1, if_pos e1]
              exact .slice off _ hp rfl (by omega)
            · rw [if_neg e1, if_neg e1, Option.map_some, addr_add, Nat.add_assoc]
              exact .slice _ _ hp rfl (by omega)
          · rename_i hmx
            rw [if_neg hmx] at h1 hh
            have hm : m = (cells.length - off) / es := g6 (by simpa using hmx)
            split at h
            · rename_i hlm
              cases h
              refine ⟨_, hrun c h1, ?_⟩
              rw [if_neg (by omega), Option.map_some, addr_add, Nat.add_assoc]
              refine .slice _ _ hp ⟨c1, ?_, ?_⟩ (by omega)
              · have : l * es + (c - l) * es = c * es := by rw [← Nat.add_mul]; congr 1; omega
                omega
              · have : l * es + (c - l + 1) * es = (c + 1) * es := by rw [← Nat.add_mul]; congr 1; omega
                omega
            · split at h
              · rename_i hl0
                cases h
                subst hl0
                refine ⟨_, hrun c h1, ?_⟩
                have : (if c = 0 then some (⟨p.c, p.base + off, none⟩ : Addr) else (some (⟨p.c, p.base + off, none⟩ : Addr)).map (·.add (0 * es))) = some ⟨p.c, p.base + off, none⟩ := by
                  split
                  · rfl
                  · simp [Addr.add]
                rw [this]
                exact .slice _ _ hp ⟨c1, c2, c3⟩ (by omega)
              · split at h
                · rename_i hhl
                  cases h
                  subst hhl
                  refine ⟨_, hrun c h1, ?_⟩
                  rw [Nat.sub_self]
                  split
                  · exact .esl _ _
                  · exact .esl _ _
                · cases h
        · cases h
      · cases h
    · cases h
  · rename_i arr b off hu
    cases hx with
    | @ptr _ p _ hp =>
    split at h
    · rename_i n0 e hu2
      obtain ⟨l, h', m, s, h1, h2, h3⟩ := sliceArr_run (P := P) (w := w) rl rh rm hp h
      refine ⟨_, ?_, h3⟩
      simp only [Instr.sliceAt, Instr.slice, Sem.run_bind, run_underlying (undT_und hu), run_underlying (undT_und hu2), Result.andThen_ok, asAddr, Sem.run_pure, h1, h2]
    · cases h
  · rename_i n0 e b off hu
    cases hx with
    | @ptr _ p _ hp =>
    obtain ⟨l, h', m, s, h1, h2, h3⟩ := sliceArr_run (P := P) (w := w) rl rh rm hp h
    refine ⟨_, ?_, h3⟩
    simp only [Instr.sliceAt, Instr.sureAddr, Sem.run_bind, run_underlying (undT_und hu), Result.andThen_ok, Sem.run_pure, h1, h2]
  · cases h

/-! ### conversions -/
theorem bytesOfCells_VRs {l : List AV} {vs : List Value} {ns : List Nat} (h : bytesOfCells l = some ns) (hl : VRs β l vs) : ∃ ms : List Int, vs = ms.map (fun m => Value.int .u8 m) ∧ ns = ms.map (·.toNat) := by
  induction l generalizing vs ns with
  | nil => cases hl; cases h; exact ⟨[], rfl, rfl⟩
  | cons x l ih =>
    cases hl with
    | cons hx hs =>
    cases hx with
    | int k m =>
      cases k <;> try (simp [bytesOfCells] at h; done)
      simp only [bytesOfCells, Option.map_eq_some_iff] at h
      obtain ⟨r, hr, rfl⟩ := h
      obtain ⟨ms, rfl, rfl⟩ := ih hr hs
      exact ⟨m :: ms, rfl, rfl⟩
    | _ => simp [bytesOfCells] at h

theorem ofNats_of (ms : List Int) : BS.ofNats (ms.map (·.toNat)) = BS.of (⟨(ms.map fun m => UInt8.ofNat m.toNat).toArray⟩ : ByteArray) := by
  have : BS.of (⟨(ms.map fun m => UInt8.ofNat m.toNat).toArray⟩ : ByteArray) = BS.ofList (ms.map fun m => UInt8.ofNat m.toNat) := rfl
  rw [this, ← ofNats_map]
  simp only [BS.ofNats, List.length_map, List.foldl_map, BS.mk.injEq, true_and]
  congr 1
  funext a m
  simp

theorem bytesToString_run {a : Addr} {n : Nat} {ms : List Int} {c : Nat} (h : (loadCells a n).run P w = .ok (ms.map fun m => Value.int .u8 m).toArray w) :
    (Conv.bytesToString (.slice (some a) n c)).run P w = .ok (.string ⟨(ms.map fun m => UInt8.ofNat m.toNat).toArray⟩) w := by
  simp only [Conv.bytesToString, Sem.run_bind, h, Result.andThen_ok]
  rw [← Array.forIn_toList]
  have key : ∀ (f : Value → ByteArray → Sem (ForInStep ByteArray)), (∀ m s, f (.int .u8 m) s = pure (ForInStep.yield (s.push (UInt8.ofNat m.toNat)))) → ∀ (ms : List Int) (s : ByteArray),
      (forIn (m := Sem) (ms.map fun m => Value.int .u8 m) s f).run P w = .ok ⟨s.data ++ (ms.map fun m => UInt8.ofNat m.toNat).toArray⟩ w := by
    intro f hf ms
    induction ms with
    | nil => intro s; simp
    | cons m ms ih =>
      intro s
      simp only [List.map_cons, List.forIn_cons, Sem.run_bind, hf, Sem.run_pure, Result.andThen_ok, ih]
      congr 2
      apply Array.ext'
      simp [ByteArray.push]
  rw [key _ (fun _ _ => rfl)]
  simp [ByteArray.empty, ByteArray.emptyWithCapacity]
  rfl

theorem sliceStrA_run {n : Nat} {x : AV} {s : BS} {v : Value} (hw : WR G β H.get n w) (h : sliceStrA H x = some s) (hx : VR β x v) : ∃ u, (Conv.bytesToString v).run P w = .ok (.string u) w ∧ s = BS.of u := by
  unfold sliceStrA at h
  split at h
  · cases h; cases hx
    exact ⟨.empty, rfl, rfl⟩
  · rename_i b off len cap
    cases hx with
    | @slice _ p _ _ _ c hp hc hl =>
    rw [Option.map_eq_some_iff] at h
    obtain ⟨ns, hns, rfl⟩ := h
    rw [Option.bind_eq_some_iff] at hns
    obtain ⟨l, hl1, hl2⟩ := hns
    obtain ⟨q, vs, hq, hlen, hrun, hvs⟩ := loadN_run (P := P) hw hl1
    rw [hp] at hq; cases hq
    obtain ⟨ms, rfl, rfl⟩ := bytesOfCells_VRs hl2 hvs
    exact ⟨_, bytesToString_run hrun, ofNats_of ms⟩
  · cases h

theorem byteLike_VRs {l : List AV} {vs : List Value} (h : l.all byteLike = true) (hl : VRs β l vs) : ∃ ms : List Int, vs = ms.map (fun m => Value.int .u8 m) := by
  induction l generalizing vs with
  | nil => cases hl; exact ⟨[], rfl⟩
  | cons x l ih =>
    cases hl with
    | cons hx hs =>
    rw [List.all_cons, Bool.and_eq_true] at h
    obtain ⟨ms, rfl⟩ := ih h.2 hs
    have h1 := h.1
    cases hx with
    | int k m => cases k <;> first | exact ⟨m :: ms, rfl⟩ | (cases h1; done)
    | @rng k lo hi m _ _ => cases k <;> first | exact ⟨m :: ms, rfl⟩ | (cases h1; done)
    | junk m hm => exact ⟨(m : Int) :: ms, rfl⟩
    | _ => cases h1

theorem sliceLenA_run {n : Nat} {x : AV} {s : Nat} {v : Value} (hw : WR G β H.get n w) (h : sliceLenA H x = some s) (hx : VR β x v) : ∃ u, (Conv.bytesToString v).run P w = .ok (.string u) w ∧ s = u.size ∧ ∃ a c, v = .slice (some a) s c := by
  unfold sliceLenA at h
  split at h
  · rename_i b off len cap
    cases hx with
    | @slice _ p _ _ _ c hp hc hl =>
    split at h
    · rename_i l hl1
      split at h
      · rename_i hb
        cases h
        obtain ⟨q, vs, hq, hlen, hrun, hvs⟩ := loadN_run (P := P) hw hl1
        rw [hp] at hq; cases hq
        obtain ⟨ms, rfl⟩ := byteLike_VRs hb hvs
        refine ⟨_, bytesToString_run hrun, ?_, _, _, rfl⟩
        have : ms.length = s := by simpa using hlen
        simp [ByteArray.size, this]
      · cases h
    · cases h
  · cases h

theorem convertA_run {n : Nat} {src dst : TypeId} {x r : AV} {v : Value} (hw : WR G β H.get n w) (h : convertA P H src dst x = some r) (hx : VR β x v) :
    ∃ u, (convert src dst v).run P w = .ok u w ∧ VR β r u := by
  unfold convertA at h
  split at h
  · rename_i ds k j m hs hd
    cases hx; cases h
    refine ⟨.int k (k.wrap m), ?_, .int _ _⟩
    simp only [convert, Sem.run_bind, run_underlying (undT_und hs), run_underlying (undT_und hd), Result.andThen_ok, Conv.intToInt]
    rfl
  · rename_i ds k j lo hi hs hd
    cases hx with
    | @rng _ _ _ m q1 q2 =>
    cases h
    refine ⟨.int k (k.wrap m), ?_, fitR_VR k q1 q2⟩
    simp only [convert, Sem.run_bind, run_underlying (undT_und hs), run_underlying (undT_und hd), Result.andThen_ok, Conv.intToInt]
    rfl
  · rename_i ds s hs hd
    cases hx; cases h
    rename_i s
    refine ⟨.string s, ?_, .str s⟩
    simp only [convert, Sem.run_bind, run_underlying (undT_und hs), run_underlying (undT_und hd), Result.andThen_ok]
    rfl
  · rename_i e hs hd hns
    split at h
    · rename_i he
      split at h
      · rename_i s hs1
        cases h
        obtain ⟨u, h1, rfl⟩ := sliceStrA_run (P := P) hw hs1 hx
        refine ⟨.string u, ?_, .str u⟩
        simp only [convert, Sem.run_bind, run_underlying (undT_und hs), run_underlying (undT_und hd), Result.andThen_ok]
        cases hx with
        | nilSlice => simp only [Sem.run_bind, run_underlying (undT_und he), Result.andThen_ok]; exact h1
        | slice => simp only [Sem.run_bind, run_underlying (undT_und he), Result.andThen_ok]; exact h1
        | _ => simp [sliceStrA] at hs1
      · rw [Option.map_eq_some_iff] at h
        obtain ⟨s, hs1, rfl⟩ := h
        obtain ⟨u, h1, rfl, a, c, rfl⟩ := sliceLenA_run (P := P) hw hs1 hx
        refine ⟨.string u, ?_, .strU u⟩
        simp only [convert, Sem.run_bind, run_underlying (undT_und hs), run_underlying (undT_und hd), Result.andThen_ok]
        simp only [Sem.run_bind, run_underlying (undT_und he), Result.andThen_ok]; exact h1
    · cases h
  · rename_i hs hd
    cases hx; cases h
    refine ⟨.pointer none, ?_, .nilPtr⟩
    simp only [convert, Sem.run_bind, run_underlying (undT_und hs), run_underlying (undT_und hd), Result.andThen_ok, Conv.unsafePointer]
    rfl
  · rename_i hs hd
    cases hx; cases h
    refine ⟨.pointer none, ?_, .nilPtr⟩
    simp only [convert, Sem.run_bind, run_underlying (undT_und hs), run_underlying (undT_und hd), Result.andThen_ok, Conv.unsafePointer]
    rfl
  · rename_i t b off hs hd
    cases hx with
    | @ptr _ p _ hp =>
    split at h
    · rename_i m cells e k hm hr
      split at h
      · rename_i hc
        cases h
        simp only [Bool.and_eq_true, decide_eq_true_eq] at hc
        obtain ⟨⟨hm0, hoff⟩, hk⟩ := hc
        have hk : k = .solid := by cases k <;> simp_all
        subst hk
        obtain ⟨q, cc, lo, hi, hq, k1, k2, k3, k4, k5, k6, k7, k8⟩ := row_at hw hr
        rw [hp] at hq; cases hq
        refine ⟨.pointer (some ⟨p.c, p.base + off, none⟩), ?_, .ptr off hp⟩
        have hsh : w.shape? p.c = some (e, cc.size) := by simp [World.shape?, k1]
        have hlt : ¬ (cc.size ≤ p.base + off) := by omega
        simp only [convert, Sem.run_bind, run_underlying (undT_und hs), run_underlying (undT_und hd), Result.andThen_ok, Conv.unsafePointer]
        simp [Conv.seenAt, viewAt, hsh, cellsIn, sizeT_run hm, hm0, hlt]
      · cases h
    · cases h
  · rename_i t b off hs hd
    cases hx with
    | @ptr _ p _ hp =>
    split at h
    · rename_i m cells e k hm hr
      split at h
      · rename_i hc
        cases h
        simp only [Bool.and_eq_true, decide_eq_true_eq] at hc
        obtain ⟨⟨hm0, hk⟩, hlies⟩ := hc
        have hk : k = .solid := by cases k <;> simp_all
        subst hk
        obtain ⟨q, cc, lo, hi, hq, k1, k2, k3, k4, k5, k6, k7, k8⟩ := row_at hw hr
        rw [hp] at hq; cases hq
        refine ⟨.pointer (some ⟨p.c, p.base + off, none⟩), ?_, .ptr off hp⟩
        have hsh : w.shape? p.c = some (e, cc.size) := by simp [World.shape?, k1]
        have e1 : cc.size = cells.length := by omega
        have e2 : p.base + off = off := by omega
        simp only [convert, Sem.run_bind, run_underlying (undT_und hs), run_underlying (undT_und hd), Result.andThen_ok, Conv.unsafePointer]
        simp [Conv.seenAt, viewAt, hsh, sizeT_run hm, variablesAt, e1, e2, hlies]
      · cases h
    · cases h
  · cases h

end
end Go.Tb
