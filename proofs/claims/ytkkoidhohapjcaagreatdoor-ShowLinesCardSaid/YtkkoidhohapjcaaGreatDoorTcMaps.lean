/- Maps. -/
import Derived.Test.YtkkoidhohapjcaaGreatDoorTcBuild
set_option linter.unusedSimpArgs false
set_option linter.unusedVariables false
set_option linter.unusedSectionVars false
namespace Go.Tc
variable [Val]

section
variable {P : Program} {G : Nat} {β : Pl} {H : AHeap} {w : World}

omit [Val] in
theorem LCap.beq_eq (a b : LCap) (h : LCap.beq a b = true) : a = b := by
  cases a <;> cases b <;> first | rfl | (cases h; done) | (rw [Tm.beq_eq _ _ h])

omit [Val] in
mutual
theorem AV.beq_eq : ∀ (a b : AV), AV.beq a b = true → a = b
  | .bool a, b, h => by cases b <;> simp_all [AV.beq]
  | .int k a, b, h => by cases b <;> simp_all [AV.beq]
  | .str a, b, h => by
    cases b <;> simp_all [AV.beq]
    exact (BS.eq_iff _ _).1 h
  | .nilPtr, b, h => by cases b <;> simp_all [AV.beq]
  | .ptr a o, b, h => by cases b <;> simp_all [AV.beq]
  | .nilSlice, b, h => by cases b <;> simp_all [AV.beq]
  | .slice a o l c, b, h => by cases b <;> simp_all [AV.beq]
  | .nilMap, b, h => by cases b <;> simp_all [AV.beq]
  | .map a, b, h => by cases b <;> simp_all [AV.beq]
  | .fn f x y, b, h => by
    cases b <;> try (simp [AV.beq] at h; done)
    rename_i g u v
    simp only [AV.beq, Bool.and_eq_true, decide_eq_true_eq] at h
    rw [h.1.1, AV.beqs_eq x u h.1.2, AV.beqs_eq y v h.2]
  | .nilFn, b, h => by cases b <;> simp_all [AV.beq]
  | .iface t v, b, h => by
    cases b <;> try (simp [AV.beq] at h; done)
    rename_i u x
    simp only [AV.beq, Bool.and_eq_true, beq_iff_eq] at h
    rw [h.1, AV.beq_eq v x h.2]
  | .nilIface, b, h => by cases b <;> simp_all [AV.beq]
  | .agg l, b, h => by
    cases b <;> try (simp [AV.beq] at h; done)
    rename_i m
    simp only [AV.beq] at h
    rw [AV.beqs_eq l m h]
  | .tuple l, b, h => by
    cases b <;> try (simp [AV.beq] at h; done)
    rename_i m
    simp only [AV.beq] at h
    rw [AV.beqs_eq l m h]
  | .junk, b, h => by cases b <;> simp_all [AV.beq]
  | .esl, b, h => by cases b <;> simp_all [AV.beq]
  | .rng k l h', b, h => by cases b <;> simp_all [AV.beq]
  | .strU n, b, h => by cases b <;> simp_all [AV.beq]
  | .boolU, b, h => by cases b <;> simp_all [AV.beq]
  | .sy c t, b, h => by
    cases b <;> try (simp [AV.beq] at h; done)
    simp only [AV.beq, Bool.and_eq_true] at h
    rw [CK.beq_eq _ _ h.1, Tm.beq_eq _ _ h.2]
  | .lsl a e l n c, b, h => by
    cases b <;> try (simp [AV.beq] at h; done)
    simp only [AV.beq, Bool.and_eq_true, beq_iff_eq] at h
    obtain ⟨⟨⟨⟨rfl, rfl⟩, h1⟩, h2⟩, h3⟩ := h
    rw [Tm.beq_eq _ _ h1, Tm.beq_eq _ _ h2, LCap.beq_eq _ _ h3]
  | .eptr a e i j, b, h => by
    cases b <;> try (simp [AV.beq] at h; done)
    simp only [AV.beq, Bool.and_eq_true, beq_iff_eq] at h
    obtain ⟨⟨⟨rfl, rfl⟩, h1⟩, rfl⟩ := h
    rw [Tm.beq_eq _ _ h1]
  | .iptr a t i j, b, h => by
    cases b <;> try (simp [AV.beq] at h; done)
    simp only [AV.beq, Bool.and_eq_true, beq_iff_eq] at h
    obtain ⟨⟨⟨h1, h2⟩, h3⟩, rfl⟩ := h
    rw [CK.beqs_eq _ _ h1, Tm.beq_eq _ _ h2, Tm.beq_eq _ _ h3]
theorem AV.beqs_eq : ∀ (a b : List AV), AV.beqs a b = true → a = b
  | [], b, h => by cases b <;> simp_all [AV.beqs]
  | x :: xs, b, h => by
    cases b with
    | nil => simp [AV.beqs] at h
    | cons y ys =>
      simp only [AV.beqs, Bool.and_eq_true] at h
      rw [AV.beq_eq x y h.1, AV.beqs_eq xs ys h.2]
end

/-- a plain key stands for one value alone. -/
theorem plainKey_same : ∀ (d : Nat) (a : AV), plainKey d a = true → ∀ v u, VR β a v → VR β a u → v = u ∧ ∀ n, d ≤ n → Instr.sameBits n v u = true := by
  intro d
  induction d with
  | zero => intro a h; simp [plainKey] at h
  | succ d ih =>
    intro a h v u hv hu
    cases a <;> try (simp [plainKey] at h; done)
    · cases hv; cases hu; exact ⟨rfl, fun n hn => by cases n <;> simp [Instr.sameBits]⟩
    · cases hv; cases hu; exact ⟨rfl, fun n hn => by cases n <;> simp [Instr.sameBits]⟩
    · rename_i s
      have key : ∀ {v : Value}, VR β (.str s) v → ∃ b, v = .string b ∧ s = BS.of b := by intro v h; cases h; exact ⟨_, rfl, rfl⟩
      obtain ⟨b, rfl, h1⟩ := key hv
      obtain ⟨c, rfl, h2⟩ := key hu
      have : b = c := BS.of_inj (h1 ▸ h2)
      subst this
      exact ⟨rfl, fun n hn => by cases n <;> simp [Instr.sameBits, beq_toListBytes]⟩
    · rename_i l
      simp only [plainKey] at h
      cases hv with
      | agg hv =>
      cases hu with
      | agg hu =>
      rename_i x y
      have key : ∀ (l : List AV) (xs ys : List Value), l.all (plainKey d) = true → VRs β l xs → VRs β l ys → xs = ys ∧ ∀ n, d ≤ n → (xs.zip ys).all (fun (a, b) => Instr.sameBits n a b) = true := by
        intro l
        induction l with
        | nil => intro xs ys _ h1 h2; cases h1; cases h2; exact ⟨rfl, fun _ _ => rfl⟩
        | cons a l ihl =>
          intro xs ys hp h1 h2
          simp only [List.all_cons, Bool.and_eq_true] at hp
          cases h1 with
          | cons h1 k1 =>
          cases h2 with
          | cons h2 k2 =>
          obtain ⟨e1, e2⟩ := ih a hp.1 _ _ h1 h2
          obtain ⟨f1, f2⟩ := ihl _ _ hp.2 k1 k2
          subst e1 f1
          exact ⟨rfl, fun n hn => by simp only [List.zip_cons_cons, List.all_cons, Bool.and_eq_true]; exact ⟨e2 n hn, f2 n hn⟩⟩
      obtain ⟨e1, e2⟩ := key l _ _ h hv hu
      have e1 : x = y := Array.toList_inj.1 e1
      subst e1
      refine ⟨rfl, fun n hn => ?_⟩
      obtain ⟨m, rfl⟩ : ∃ m, n = m + 1 := ⟨n - 1, by omega⟩
      simp only [Instr.sameBits, BEq.rfl, Bool.true_and]
      exact e2 m (by omega)

omit [Val] in
theorem scalar_checkKey {t : TypeId} {e : Bool} {n : Nat} {v : Value} (h : scalarT P t = true) : (Instr.checkKey e (n + 1) t v).run P w = .ok () w := by
  unfold scalarT at h
  split at h
  · rename_i hu; simp [Instr.checkKey, run_underlying (undT_und hu)]
  · rename_i hu; simp [Instr.checkKey, run_underlying (undT_und hu)]
  · rename_i hu; simp [Instr.checkKey, run_underlying (undT_und hu)]
  · cases h

theorem keyOk_checkKey {t : TypeId} {e : Bool} {n : Nat} {k : AV} {v : Value} (h : keyOk P t k = true) (hk : VR β k v) : (Instr.checkKey e (n + 2) t v).run P w = .ok () w := by
  unfold keyOk at h
  rw [Bool.and_eq_true] at h
  obtain ⟨h0, h⟩ := h
  split at h
  · rename_i fs l hu
    cases hk with
    | agg hl =>
    rename_i a
    have hsc : ∀ {t : TypeId} {v : Value}, scalarT P t = true → (Instr.checkKey e (n + 1) t v).run P w = .ok () w := fun h => scalar_checkKey h
    rw [show n + 2 = (n + 1) + 1 from rfl]
    generalize n + 1 = m at hsc ⊢
    have key : ∀ (F : Field → PUnit → Sem (ForInStep PUnit)), (∀ f r, F f r = (if f.name ≠ "_" then do Instr.checkKey e m f.type (← part f.type a f.offset); pure (ForInStep.yield PUnit.unit) else pure (ForInStep.yield PUnit.unit))) →
        ∀ (l' : List Field), (l'.all fun f => scalarT P f.type && (partA P f.type l f.offset).isSome) = true → (forIn (m := Sem) l' PUnit.unit F).run P w = .ok PUnit.unit w := by
      intro F hF l'
      induction l' with
      | nil => intro _; rfl
      | cons f l' ih =>
        intro hf
        simp only [List.all_cons, Bool.and_eq_true] at hf
        obtain ⟨x, hx⟩ := Option.isSome_iff_exists.1 hf.1.2
        obtain ⟨y, h1, h2⟩ := partA_run (P := P) (w := w) hx hl
        have hr := ih (by simpa using hf.2)
        by_cases hn : f.name = "_"
        · simp only [List.forIn_cons, Sem.run_bind, hF, hn, ne_eq, not_true_eq_false, if_false, Sem.run_pure, Result.andThen_ok]
          exact hr
        · simp only [List.forIn_cons, Sem.run_bind, hF, ne_eq, hn, not_false_eq_true, if_true, h1, hsc hf.1.1, Sem.run_pure, Result.andThen_ok]
          exact hr
    simp only [Instr.checkKey, Sem.run_bind, run_underlying (undT_und hu), Result.andThen_ok]
    rw [← Array.forIn_toList, key _ (fun _ _ => rfl) fs.toList h]
    rfl
  · exact scalar_checkKey h

theorem keyEqA_now {kt : TypeId} {a b : AV} {r : Bool} {v u : Value} {d : TypeDesc} (hu : undT P kt = some d) (hns : ∀ fs, d ≠ .struct fs) (h : keyEqA P H kt a b = some r) (ha : VR β a v) (hb : VR β b u) : Instr.sameNow d v u = some r := by
  unfold keyEqA at h
  split at h
  · rename_i hu2; rw [hu] at hu2; cases hu2; cases ha; cases hb
    split at h
    · rename_i hk; cases h; subst hk; simp [Instr.sameNow]
    · cases h
  · rename_i hu2; rw [hu] at hu2; cases hu2; cases ha; cases hb; cases h
    rw [BS.eq_of, ← beq_toListBytes]; rfl
  · rename_i hu2; rw [hu] at hu2; cases hu2; cases ha; cases hb; cases h; rfl
  · rename_i hu2; rw [hu] at hu2; cases hu2; exact absurd rfl (hns _)
  · cases h

theorem findA_now {kt : TypeId} {d : TypeDesc} (hu : undT P kt = some d) (hns : ∀ fs, d ≠ .struct fs) {k : AV} {v : Value} (hk : VR β k v) :
    ∀ (es : List AEnt) (ms : List MapEntry) (i : Nat) (r : Option (Nat × AV)), EntsR β es ms → findA (keyEqA P H kt) es k i = some r →
      match r with
      | none => Instr.findNow d v ms i = some none
      | some (j, x) => ∃ e m, es[j - i]? = some e ∧ ms[j - i]? = some m ∧ i ≤ j ∧ e.key = k ∧ e.val = x ∧ VR β k m.key ∧ VR β x m.val ∧ e.born = m.born ∧ Instr.findNow d v ms i = some (some (j, m.val))
  | [], _, i, r, he, h => by cases he; cases h; rfl
  | e :: es, _, i, r, he, h => by
    cases he with
    | cons h1 h2 h3 h4 =>
    rename_i m ms
    simp only [findA] at h
    split at h
    · rename_i hq
      split at h
      · rename_i hb
        cases h
        have hek := AV.beq_eq _ _ hb
        refine ⟨e, m, by simp, by simp, Nat.le_refl _, hek, rfl, hek ▸ h1, h2, h3, ?_⟩
        simp only [Instr.findNow, keyEqA_now hu hns hq hk h1]
      · cases h
    · rename_i hq
      have := findA_now hu hns hk es ms (i + 1) r h4 h
      have hs := keyEqA_now hu hns hq hk h1
      cases r with
      | none => simp only [Instr.findNow, hs]; exact this
      | some p =>
        obtain ⟨j, x⟩ := p
        obtain ⟨e', m', g1, g2, g3, g4, g5, g6, g7, g8, g9⟩ := this
        refine ⟨e', m', ?_, ?_, by omega, g4, g5, g6, g7, g8, ?_⟩
        · rw [show j - i = (j - (i + 1)) + 1 from by omega]; simpa using g1
        · rw [show j - i = (j - (i + 1)) + 1 from by omega]; simpa using g2
        · simp only [Instr.findNow, hs]; exact g9
    · cases h

theorem findA_asking {n : Nat} (hw : WR G β H.get n w) {kt : TypeId} {fs : Array Field} (hu : undT P kt = some (.struct fs)) {k : AV} {v : Value} (hk : VR β k v) :
    ∀ (es : List AEnt) (ms : List MapEntry) (i : Nat) (r : Option (Nat × AV)), EntsR β es ms → findA (keyEqA P H kt) es k i = some r →
      match r with
      | none => (Instr.findAsking kt v ms i).run P w = .ok none w
      | some (j, x) => ∃ e m, es[j - i]? = some e ∧ ms[j - i]? = some m ∧ i ≤ j ∧ e.key = k ∧ e.val = x ∧ VR β k m.key ∧ VR β x m.val ∧ e.born = m.born ∧ (Instr.findAsking kt v ms i).run P w = .ok (some (j, m.val)) w
  | [], _, i, r, he, h => by cases he; cases h; rfl
  | e :: es, _, i, r, he, h => by
    cases he with
    | cons h1 h2 h3 h4 =>
    rename_i m ms
    have hq : ∀ q, keyEqA P H kt k e.key = some q → (Op.equal kt v m.key).run P w = .ok q w := by
      intro q hq
      simp only [keyEqA, hu] at hq
      split at hq
      · rename_i hx _; cases hx
      · rename_i hx _; cases hx
      · rename_i hx _; cases hx
      · rename_i hz
        rw [hz] at h1
        exact eqA_run hw 30 10000 (by omega) _ _ _ _ _ _ hq hk h1
      · cases hq
    simp only [findA] at h
    split at h
    · rename_i hq'
      split at h
      · rename_i hb
        cases h
        have hek := AV.beq_eq _ _ hb
        refine ⟨e, m, by simp, by simp, Nat.le_refl _, hek, rfl, hek ▸ h1, h2, h3, ?_⟩
        simp only [Instr.findAsking, Sem.run_bind, hq _ hq', Result.andThen_ok, if_true, Sem.run_pure]
      · cases h
    · rename_i hq'
      have := findA_asking hw hu hk es ms (i + 1) r h4 h
      cases r with
      | none => simp only [Instr.findAsking, Sem.run_bind, hq _ hq', Result.andThen_ok, Bool.false_eq_true, if_false]; exact this
      | some p =>
        obtain ⟨j, x⟩ := p
        obtain ⟨e', m', g1, g2, g3, g4, g5, g6, g7, g8, g9⟩ := this
        refine ⟨e', m', ?_, ?_, by omega, g4, g5, g6, g7, g8, ?_⟩
        · rw [show j - i = (j - (i + 1)) + 1 from by omega]; simpa using g1
        · rw [show j - i = (j - (i + 1)) + 1 from by omega]; simpa using g2
        · simp only [Instr.findAsking, Sem.run_bind, hq _ hq', Result.andThen_ok, Bool.false_eq_true, if_false]; exact g9
    · cases h

end
end Go.Tc
