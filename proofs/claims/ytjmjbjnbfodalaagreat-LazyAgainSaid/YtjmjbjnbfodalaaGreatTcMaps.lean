/- Maps. -/
import Derived.Test.YtjmjbjnbfodalaaGreatTcSlice
import Derived.Laws.NewFold
set_option linter.unusedSimpArgs false
set_option linter.unusedVariables false
set_option linter.unusedSectionVars false
namespace Go.Tc
variable [Val]
section
variable {P : Program} {G : Nat} {β : Pl} {H : AHeap} {w : World}
theorem plainKey_same : ∀ (d : Nat) (a : AV), plainKey d a = true → ∀ v u, VR β a v → VR β a u → v = u ∧ ∀ n, d ≤ n → Instr.sameBits n v u = true := by
  intro d
  induction d with
  | zero => intro a h; simp [plainKey] at h
  | succ d ih =>
    intro a h v u hv hu
    cases a <;> try (simp [plainKey] at h; done)
    · cases hv; cases hu; exact ⟨rfl, fun n hn => by cases n <;> simp [Instr.sameBits]⟩
    · cases hv; cases hu; exact ⟨rfl, fun n hn => by cases n <;> simp [Instr.sameBits]⟩
    · rename_i s
      have key : ∀ {v : Value}, VR β (.str s) v → ∃ b, v = .string b ∧ s = BS.of b := by intro v h; cases h; exact ⟨_, rfl, rfl⟩
      obtain ⟨b, rfl, h1⟩ := key hv
      obtain ⟨c, rfl, h2⟩ := key hu
      have : b = c := BS.of_inj (h1 ▸ h2)
      subst this
      exact ⟨rfl, fun n hn => by cases n <;> simp [Instr.sameBits, beq_toListBytes]⟩
    · rename_i l
      simp only [plainKey] at h
      cases hv with
      | agg hv =>
      cases hu with
      | agg hu =>
      rename_i x y
      have key : ∀ (l : List AV) (xs ys : List Value), l.all (plainKey d) = true → VRs β l xs → VRs β l ys → xs = ys ∧ ∀ n, d ≤ n → (xs.zip ys).all (fun (a, b) => Instr.sameBits n a b) = true := by
        intro l
        induction l with
        | nil => intro xs ys _ h1 h2; cases h1; cases h2; exact ⟨rfl, fun _ _ => rfl⟩
        | cons a l ihl =>
          intro xs ys hp h1 h2
          simp only [List.all_cons, Bool.and_eq_true] at hp
          cases h1 with
          | cons h1 k1 =>
          cases h2 with
          | cons h2 k2 =>
          obtain ⟨e1, e2⟩ := ih a hp.1 _ _ h1 h2
          obtain ⟨f1, f2⟩ := ihl _ _ hp.2 k1 k2
          subst e1 f1
          exact ⟨rfl, fun n hn => by simp only [List.zip_cons_cons, List.all_cons, Bool.and_eq_true]; exact ⟨e2 n hn, f2 n hn⟩⟩
      obtain ⟨e1, e2⟩ := key l _ _ h hv hu
      have e1 : x = y := Array.toList_inj.1 e1
      subst e1
      refine ⟨rfl, fun n hn => ?_⟩
      obtain ⟨m, rfl⟩ : ∃ m, n = m + 1 := ⟨n - 1, by omega⟩
      simp only [Instr.sameBits, BEq.rfl, Bool.true_and]
      exact e2 m (by omega)
omit [Val] in
theorem scalar_checkKey {t : TypeId} {e : Bool} {n : Nat} {v : Value} (h : scalarT P t = true) : (Instr.checkKey e (n + 1) t v).run P w = .ok () w := by
  unfold scalarT at h
  split at h
  · rename_i hu; simp [Instr.checkKey, run_underlying (undT_und hu)]
  · rename_i hu; simp [Instr.checkKey, run_underlying (undT_und hu)]
  · rename_i hu; simp [Instr.checkKey, run_underlying (undT_und hu)]
  · cases h
theorem keyOk_checkKey {t : TypeId} {e : Bool} {n : Nat} {k : AV} {v : Value} (h : keyOk P t k = true) (hk : VR β k v) : (Instr.checkKey e (n + 2) t v).run P w = .ok () w := by
  unfold keyOk at h
  rw [Bool.and_eq_true] at h
  obtain ⟨h0, h⟩ := h
  split at h
  · rename_i fs l hu
    cases hk with
    | agg hl =>
    rename_i a
    have hsc : ∀ {t : TypeId} {v : Value}, scalarT P t = true → (Instr.checkKey e (n + 1) t v).run P w = .ok () w := fun h => scalar_checkKey h
    rw [show n + 2 = (n + 1) + 1 from rfl]
    generalize n + 1 = m at hsc ⊢
    have key : ∀ (F : Field → PUnit → Sem (ForInStep PUnit)), (∀ f r, F f r = (if f.name ≠ "_" then do Instr.checkKey e m f.type (← part f.type a f.offset); pure (ForInStep.yield PUnit.unit) else pure (ForInStep.yield PUnit.unit))) →
        ∀ (l' : List Field), (l'.all fun f => scalarT P f.type && (partA P f.type l f.offset).isSome) = true → (forIn (m := Sem) l' PUnit.unit F).run P w = .ok PUnit.unit w := by
      intro F hF l'
      induction l' with
      | nil => intro _; rfl
      | cons f l' ih =>
        intro hf
        simp only [List.all_cons, Bool.and_eq_true] at hf
        obtain ⟨x, hx⟩ := Option.isSome_iff_exists.1 hf.1.2
        obtain ⟨y, h1, h2⟩ := partA_run (P := P) (w := w) hx hl
        have hr := ih (by simpa using hf.2)
        by_cases hn : f.name = "_"
        · simp only [List.forIn_cons, Sem.run_bind, hF, hn, ne_eq, not_true_eq_false, if_false, Sem.run_pure, Result.andThen_ok]
          exact hr
        · simp only [List.forIn_cons, Sem.run_bind, hF, ne_eq, hn, not_false_eq_true, if_true, h1, hsc hf.1.1, Sem.run_pure, Result.andThen_ok]
          exact hr
    simp only [Instr.checkKey, Sem.run_bind, run_underlying (undT_und hu), Result.andThen_ok]
    rw [← Array.forIn_toList, key _ (fun _ _ => rfl) fs.toList h]
    rfl
  · exact scalar_checkKey h
theorem keyEqA_now {kt : TypeId} {a b : AV} {r : Bool} {v u : Value} {d : TypeDesc} (hu : undT P kt = some d) (hns : ∀ fs, d ≠ .struct fs) (h : keyEqA P H kt a b = some r) (ha : VR β a v) (hb : VR β b u) : Instr.sameNow d v u = some r := by
  unfold keyEqA at h
  split at h
  · rename_i hu2; rw [hu] at hu2; cases hu2; cases ha; cases hb
    split at h
    · rename_i hk; cases h; subst hk; simp [Instr.sameNow]
    · cases h
  · rename_i hu2; rw [hu] at hu2; cases hu2; cases ha; cases hb; cases h
    rw [BS.eq_of, ← beq_toListBytes]; rfl
  · rename_i hu2; rw [hu] at hu2; cases hu2; cases ha; cases hb; cases h; rfl
  · rename_i hu2; rw [hu] at hu2; cases hu2; exact absurd rfl (hns _)
  · cases h
theorem findA_now {kt : TypeId} {d : TypeDesc} (hu : undT P kt = some d) (hns : ∀ fs, d ≠ .struct fs) {k : AV} {v : Value} (hk : VR β k v) :
    ∀ (es : List AEnt) (ms : List MapEntry) (i : Nat) (r : Option (Nat × AV)), EntsR β es ms → findA (keyEqA P H kt) es k i = some r →
      match r with
      | none => Instr.findNow d v ms i = some none
      | some (j, x) => ∃ e m, es[j - i]? = some e ∧ ms[j - i]? = some m ∧ i ≤ j ∧ e.key = k ∧ e.val = x ∧ VR β k m.key ∧ VR β x m.val ∧ e.born = m.born ∧ Instr.findNow d v ms i = some (some (j, m.val))
  | [], _, i, r, he, h => by cases he; cases h; rfl
  | e :: es, _, i, r, he, h => by
    cases he with
    | cons h1 h2 h3 h4 =>
    rename_i m ms
    simp only [findA] at h
    split at h
    · rename_i hq
      split at h
      · rename_i hb
        cases h
        have hek := AV.beq_eq _ _ hb
        refine ⟨e, m, by simp, by simp, Nat.le_refl _, hek, rfl, hek ▸ h1, h2, h3, ?_⟩
        simp only [Instr.findNow, keyEqA_now hu hns hq hk h1]
      · cases h
    · rename_i hq
      have := findA_now hu hns hk es ms (i + 1) r h4 h
      have hs := keyEqA_now hu hns hq hk h1
      cases r with
      | none => simp only [Instr.findNow, hs]; exact this
      | some p =>
        obtain ⟨j, x⟩ := p
        obtain ⟨e', m', g1, g2, g3, g4, g5, g6, g7, g8, g9⟩ := this
        refine ⟨e', m', ?_, ?_, by omega, g4, g5, g6, g7, g8, ?_⟩
        · rw [show j - i = (j - (i + 1)) + 1 from by omega]; simpa using g1
        · rw [show j - i = (j - (i + 1)) + 1 from by omega]; simpa using g2
        · simp only [Instr.findNow, hs]; exact g9
    · cases h
theorem findA_asking {n : Nat} (hw : WR G β H.get n w) {kt : TypeId} {fs : Array Field} (hu : undT P kt = some (.struct fs)) {k : AV} {v : Value} (hk : VR β k v) :
    ∀ (es : List AEnt) (ms : List MapEntry) (i : Nat) (r : Option (Nat × AV)), EntsR β es ms → findA (keyEqA P H kt) es k i = some r →
      match r with
      | none => (Instr.findAsking kt v ms i).run P w = .ok none w
      | some (j, x) => ∃ e m, es[j - i]? = some e ∧ ms[j - i]? = some m ∧ i ≤ j ∧ e.key = k ∧ e.val = x ∧ VR β k m.key ∧ VR β x m.val ∧ e.born = m.born ∧ (Instr.findAsking kt v ms i).run P w = .ok (some (j, m.val)) w
  | [], _, i, r, he, h => by cases he; cases h; rfl
  | e :: es, _, i, r, he, h => by
    cases he with
    | cons h1 h2 h3 h4 =>
    rename_i m ms
    have hq : ∀ q, keyEqA P H kt k e.key = some q → (Op.equal kt v m.key).run P w = .ok q w := by
      intro q hq
      simp only [keyEqA, hu] at hq
      split at hq
      · rename_i hx _; cases hx
      · rename_i hx _; cases hx
      · rename_i hx _; cases hx
      · rename_i hz
        rw [hz] at h1
        exact eqA_run hw 30 10000 (by omega) _ _ _ _ _ _ hq hk h1
      · cases hq
    simp only [findA] at h
    split at h
    · rename_i hq'
      split at h
      · rename_i hb
        cases h
        have hek := AV.beq_eq _ _ hb
        refine ⟨e, m, by simp, by simp, Nat.le_refl _, hek, rfl, hek ▸ h1, h2, h3, ?_⟩
        simp only [Instr.findAsking, Sem.run_bind, hq _ hq', Result.andThen_ok, if_true, Sem.run_pure]
      · cases h
    · rename_i hq'
      have := findA_asking hw hu hk es ms (i + 1) r h4 h
      cases r with
      | none => simp only [Instr.findAsking, Sem.run_bind, hq _ hq', Result.andThen_ok, Bool.false_eq_true, if_false]; exact this
      | some p =>
        obtain ⟨j, x⟩ := p
        obtain ⟨e', m', g1, g2, g3, g4, g5, g6, g7, g8, g9⟩ := this
        refine ⟨e', m', ?_, ?_, by omega, g4, g5, g6, g7, g8, ?_⟩
        · rw [show j - i = (j - (i + 1)) + 1 from by omega]; simpa using g1
        · rw [show j - i = (j - (i + 1)) + 1 from by omega]; simpa using g2
        · simp only [Instr.findAsking, Sem.run_bind, hq _ hq', Result.andThen_ok, Bool.false_eq_true, if_false]; exact g9
    · cases h
end
end Go.Tc
namespace Go.Tc
variable [Val]
section
variable {P : Program} {G : Nat} {β : Pl} {H : AHeap} {w : World}
structure Found (β : Pl) (k : AV) (es : List AEnt) (ms : List MapEntry) (i : Nat) (x : AV) (m : MapEntry) : Prop where
  ent : ∃ e, es[i]? = some e ∧ e.key = k ∧ e.val = x ∧ e.born = m.born
  at_ : ms[i]? = some m
  key : VR β k m.key
  val : VR β x m.val
theorem findKey_run {n : Nat} (hw : WR G β H.get n w) {kt : TypeId} {k : AV} {v : Value} (hk : VR β k v) {es : List AEnt} {ms : List MapEntry} {r : Option (Nat × AV)} (he : EntsR β es ms)
    (h : findA (keyEqA P H kt) es k 0 = some r) (hd : (undT P kt).isSome = true) :
    match r with
    | none => (Instr.findKey kt v ms).run P w = .ok none w
    | some (i, x) => ∃ m, Found β k es ms i x m ∧ (Instr.findKey kt v ms).run P w = .ok (some (i, m.val)) w := by
  obtain ⟨d, hd⟩ := Option.isSome_iff_exists.1 hd
  by_cases hs : ∃ fs, d = .struct fs
  · obtain ⟨fs, rfl⟩ := hs
    have := findA_asking hw hd hk es ms 0 r he h
    cases he with
    | nil =>
      cases h
      simp only [Instr.findKey, Sem.run_bind, run_underlying (undT_und hd), Result.andThen_ok, Instr.findNow, Sem.run_pure]
    | cons h1 h2 h3 h4 =>
      rename_i e m es ms
      have hn : ∀ i, Instr.findNow (.struct fs) v (m :: ms) i = none := by intro i; simp [Instr.findNow, Instr.sameNow]
      cases r with
      | none => simp only [Instr.findKey, Sem.run_bind, run_underlying (undT_und hd), Result.andThen_ok, hn]; exact this
      | some p =>
        obtain ⟨j, x⟩ := p
        obtain ⟨e', m', g1, g2, g3, g4, g5, g6, g7, g8, g9⟩ := this
        refine ⟨m', ⟨⟨e', g1, g4, g5, g8⟩, g2, g6, g7⟩, ?_⟩
        simp only [Instr.findKey, Sem.run_bind, run_underlying (undT_und hd), Result.andThen_ok, hn]; exact g9
  · have hns : ∀ fs, d ≠ .struct fs := fun fs e => hs ⟨fs, e⟩
    have := findA_now hd hns hk es ms 0 r he h
    cases r with
    | none => simp only [Instr.findKey, Sem.run_bind, run_underlying (undT_und hd), Result.andThen_ok, this, Sem.run_pure]
    | some p =>
      obtain ⟨j, x⟩ := p
      obtain ⟨e', m', g1, g2, g3, g4, g5, g6, g7, g8, g9⟩ := this
      refine ⟨m', ⟨⟨e', g1, g4, g5, g8⟩, g2, g6, g7⟩, ?_⟩
      simp only [Instr.findKey, Sem.run_bind, run_underlying (undT_und hd), Result.andThen_ok, g9, Sem.run_pure]
omit [Val] in
theorem keyOk_und {t : TypeId} {k : AV} (h : keyOk P t k = true) : (undT P t).isSome = true := by
  unfold keyOk at h
  rw [Bool.and_eq_true] at h
  cases hu : undT P t with
  | some d => rfl
  | none => rw [hu] at h; simp [scalarT, hu] at h
theorem map_at {n b : Nat} {es : List AEnt} {clock : Nat} {p : Place} (hw : WR G β H.get n w) (h : mapOf H b = some (es, clock)) (hp : β b = some p) :
    ∃ ces, w.heap[p.c]? = some (.map ces clock) ∧ EntsR β es ces.toList := by
  obtain ⟨q, hq, ces, h1, h2⟩ := hw.obj b _ (mapOf_get h)
  rw [hp] at hq; cases hq
  exact ⟨ces, h1, h2⟩
theorem lookupA_run {n : Nat} {t : TypeId} {x ix r : AV} {ok : Bool} {v u : Value} (hw : WR G β H.get n w) (h : lookupA P H t x ix ok = some r) (hx : VR β x v) (hi : VR β ix u) :
    ∃ z, (Instr.lookup t v u ok).run P w = .ok z w ∧ VR β r z := by
  unfold lookupA at h
  split at h
  · rename_i k e hu
    split at h
    · cases h
    · rename_i hk
      have hk : keyOk P k ix = true := by simpa using hk
      split at h
      · rename_i es hes
        have hm : ∃ ces : Array MapEntry, EntsR β es ces.toList ∧ ∀ q : Option (Nat × Value), (Instr.findKey k u ces.toList).run P w = .ok q w →
            (Instr.lookup t v u ok).run P w = (do
              let (y, b) ← match q with
                | some (_, y) => pure (y, true)
                | none => do pure (← zeroValue e, false)
              pure (if ok then .tuple #[y, .bool b] else y) : Sem Value).run P w := by
          cases hx <;> try (simp at hes; done)
          · simp only [Option.some.injEq] at hes
            subst hes
            refine ⟨#[], .nil, fun q hq => ?_⟩
            have hck : (Instr.checkKey (#[] : Array MapEntry).isEmpty 10000 k u).run P w = .ok () w := keyOk_checkKey (n := 9998) hk hi
            simp only [Instr.lookup, Sem.run_bind, run_underlying (undT_und hu), Result.andThen_ok, Sem.run_pure, hck, hq]
            rcases q with _ | ⟨_, _⟩ <;> rfl
          · rename_i b p hp
            simp only [Option.map_eq_some_iff] at hes
            obtain ⟨⟨es', clock⟩, hm, rfl⟩ := hes
            obtain ⟨ces, h1, h2⟩ := map_at hw hm hp
            refine ⟨ces, h2, fun q hq => ?_⟩
            have hg : (getObj p.c).run P w = .ok (.map ces clock) w := by simp [getObj, Sem.run, h1]
            have hck : (Instr.checkKey ces.isEmpty 10000 k u).run P w = .ok () w := keyOk_checkKey (n := 9998) hk hi
            simp only [Instr.lookup, Sem.run_bind, run_underlying (undT_und hu), Result.andThen_ok, Sem.run_pure, hg, hck, hq]
            rcases q with _ | ⟨_, _⟩ <;> rfl
        obtain ⟨ces, hm2, hrun⟩ := hm
        split at h
        · rename_i j y hf
          cases h
          obtain ⟨m, hfd, hfk⟩ := findKey_run hw hi hm2 hf (keyOk_und hk)
          refine ⟨if ok then .tuple #[m.val, .bool true] else m.val, ?_, ?_⟩
          · rw [hrun _ hfk]; rfl
          · cases ok
            · exact hfd.val
            · exact .tuple (.cons hfd.val (.cons (.bool true) .nil))
        · rename_i hf
          have hfk := findKey_run hw hi hm2 hf (keyOk_und hk)
          rw [Option.map_eq_some_iff] at h
          obtain ⟨z, hz, rfl⟩ := h
          obtain ⟨zv, h1, h2⟩ := zeroT_run (P := P) (β := β) (w := w) hz
          refine ⟨if ok then .tuple #[zv, .bool false] else zv, ?_, ?_⟩
          · rw [hrun _ hfk]; simp only [Sem.run_bind, h1, Result.andThen_ok, Sem.run_pure]
          · cases ok
            · exact h2
            · exact .tuple (.cons h2 (.cons (.bool false) .nil))
        · cases h
      · cases h
  · cases h
theorem absent_now {nf : Tm → Tm} (hn : ∀ t, (nf t).den = t.den) {d : TypeDesc} {ix : AV} {v : Value} (hk : VR β ix v) : ∀ {es : List AEnt} {ms : List MapEntry} (i : Nat), EntsR β es ms → absentA nf d ix es = true → Instr.findNow d v ms i = some none
  | [], _, i, he, h => by cases he; rfl
  | e :: es, _, i, he, h => by
    cases he with
    | cons h1 h2 h3 h4 =>
    rename_i m ms
    have hrest : absentA nf d ix es = true := by
      unfold absentA at h ⊢
      split at h
      · simp only [List.all_cons, Bool.and_eq_true] at h; exact h.2
      · simp only [List.all_cons, Bool.and_eq_true] at h; exact h.2
      · cases h
    have ih := absent_now hn hk (i + 1) h4 hrest
    have hs : Instr.sameNow d v m.key = some false := by
      unfold absentA at h
      split at h
      · rename_i k s
        simp only [List.all_cons, Bool.and_eq_true] at h
        obtain ⟨h, -⟩ := h
        split at h
        · rename_i j n hkey
          rw [hkey] at h1
          generalize m.key = mk at h1
          cases h1
          simp only [Bool.and_eq_true, decide_eq_true_eq] at h
          obtain ⟨rfl, h⟩ := h
          cases hk with | sy hcell =>
          generalize hd : s.den = dd at hcell
          cases hcell with | int _ x =>
          split at h
          · rename_i hm
            have := mkT_den hn (.bin .eql .i64) [s, .int n]
            rw [hm] at this
            simp only [Tm.den, Tm.dens, hd, TOp.den, intD, D.bool.injEq] at this
            simp only [Instr.sameNow, if_true, ← this]
          · cases h
        · cases h
      · rename_i s
        simp only [List.all_cons, Bool.and_eq_true] at h
        obtain ⟨h, -⟩ := h
        split at h
        · rename_i n hkey
          rw [hkey] at h1
          generalize m.key = mk at h1
          obtain ⟨sb, rfl, rfl⟩ : ∃ sb : ByteArray, mk = .string sb ∧ n = BS.of sb := by cases h1; exact ⟨_, rfl, rfl⟩
          cases hk with | sy hcell =>
          generalize hd : s.den = dd at hcell
          cases hcell with | str x =>
          split at h
          · rename_i hm
            have := mkT_den hn (.sbin .eql) [s, .str (BS.of sb)]
            rw [hm] at this
            simp only [Tm.den, Tm.dens, hd, TOp.den, strD, D.bool.injEq] at this
            rw [BS.eq_of, ← beq_toListBytes] at this
            exact congrArg some this.symm
          · cases h
        · cases h
      · cases h
    simp only [Instr.findNow, hs]; exact ih
theorem lookupS_run {nf : Tm → Tm} (hn : ∀ t, (nf t).den = t.den) {n : Nat} {t : TypeId} {x ix r : AV} {ok : Bool} {v u : Value} (hw : WR G β H.get n w) (h : lookupS P nf H t x ix ok = some r) (hx : VR β x v) (hi : VR β ix u) :
    ∃ z, (Instr.lookup t v u ok).run P w = .ok z w ∧ VR β r z := by
  unfold lookupS at h
  split at h
  · rename_i k e hu
    split at h
    · rename_i d es hd hes
      split at h
      · rename_i hab
        have hsc : scalarT P k = true := by
          unfold absentA at hab
          unfold scalarT
          rw [hd]
          split at hab
          · rfl
          · rfl
          · cases hab
        have hm : ∃ ces : Array MapEntry, EntsR β es ces.toList ∧ ∀ q : Option (Nat × Value), (Instr.findKey k u ces.toList).run P w = .ok q w →
            (Instr.lookup t v u ok).run P w = (do
              let (y, b) ← match q with
                | some (_, y) => pure (y, true)
                | none => do pure (← zeroValue e, false)
              pure (if ok then .tuple #[y, .bool b] else y) : Sem Value).run P w := by
          cases hx <;> try (simp at hes; done)
          · simp only [Option.some.injEq] at hes
            subst hes
            refine ⟨#[], .nil, fun q hq => ?_⟩
            have hck : (Instr.checkKey (#[] : Array MapEntry).isEmpty 10000 k u).run P w = .ok () w := scalar_checkKey (n := 9999) hsc
            simp only [Instr.lookup, Sem.run_bind, run_underlying (undT_und hu), Result.andThen_ok, Sem.run_pure, hck, hq]
            rcases q with _ | ⟨_, _⟩ <;> rfl
          · rename_i b p hp
            simp only [Option.map_eq_some_iff] at hes
            obtain ⟨⟨es', clock⟩, hm, rfl⟩ := hes
            obtain ⟨ces, h1, h2⟩ := map_at hw hm hp
            refine ⟨ces, h2, fun q hq => ?_⟩
            have hg : (getObj p.c).run P w = .ok (.map ces clock) w := by simp [getObj, Sem.run, h1]
            have hck : (Instr.checkKey ces.isEmpty 10000 k u).run P w = .ok () w := scalar_checkKey (n := 9999) hsc
            simp only [Instr.lookup, Sem.run_bind, run_underlying (undT_und hu), Result.andThen_ok, Sem.run_pure, hg, hck, hq]
            rcases q with _ | ⟨_, _⟩ <;> rfl
        obtain ⟨ces, hm2, hrun⟩ := hm
        have hfk : (Instr.findKey k u ces.toList).run P w = .ok none w := by
          simp only [Instr.findKey, Sem.run_bind, run_underlying (undT_und hd), Result.andThen_ok, absent_now hn hi 0 hm2 hab, Sem.run_pure]
        rw [Option.map_eq_some_iff] at h
        obtain ⟨z, hz, rfl⟩ := h
        obtain ⟨zv, h1, h2⟩ := zeroT_run (P := P) (β := β) (w := w) hz
        refine ⟨if ok then .tuple #[zv, .bool false] else zv, ?_, ?_⟩
        · rw [hrun _ hfk]; simp only [Sem.run_bind, h1, Result.andThen_ok, Sem.run_pure]
        · cases ok
          · exact h2
          · exact .tuple (.cons h2 (.cons (.bool false) .nil))
      · cases h
    · cases h
  · cases h
theorem EntsR.append {a b : List AEnt} {m n : List MapEntry} (h : EntsR β a m) (k : EntsR β b n) : EntsR β (a ++ b) (m ++ n) := by
  induction h with
  | nil => exact k
  | cons hk hv hb _ ih => exact .cons hk hv hb ih
theorem EntsR.setVal {x : AV} {v : Value} (hx : VR β x v) : ∀ {a : List AEnt} {m : List MapEntry} (i : Nat), EntsR β a m → EntsR β (setVal a i x) (m.modify i fun e => { e with val := v })
  | [], _, i, h => by cases h; cases i <;> exact .nil
  | _ :: _, _, 0, h => by cases h with | cons hk hv hb hs => exact .cons hk hx hb hs
  | _ :: _, _, i + 1, h => by cases h with | cons hk hv hb hs => exact .cons hk hv hb (EntsR.setVal hx i hs)
theorem EntsR.delAt : ∀ {a : List AEnt} {m : List MapEntry} (i : Nat), EntsR β a m → EntsR β (delAt a i) (m.eraseIdx i)
  | [], _, i, h => by cases h; exact .nil
  | _ :: _, _, 0, h => by cases h with | cons hk hv hb hs => exact hs
  | _ :: _, _, i + 1, h => by cases h with | cons hk hv hb hs => exact .cons hk hv hb (EntsR.delAt i hs)
theorem map_set {b : Nat} {es es' : List AEnt} {ces' : Array MapEntry} {clock clock' : Nat} {p : Place} (hw : WR G β H.get H.next w) (h : mapOf H b = some (es, clock)) (hp : β b = some p) (he : EntsR β es' ces'.toList) :
    (setObj p.c (.map ces' clock')).run P w = .ok () (w.putObj p.c (.map ces' clock')) ∧ WR G β (H.set b (.map es' clock')).get (H.set b (.map es' clock')).next (w.putObj p.c (.map ces' clock')) ∧
      Tran β H.get H.next w β (H.set b (.map es' clock')).get (H.set b (.map es' clock')).next (w.putObj p.c (.map ces' clock')) := by
  obtain ⟨ces, h1, h2⟩ := map_at hw h hp
  have hlt : p.c < w.heap.size := (Array.getElem?_eq_some_iff.1 h1).1
  refine ⟨by simp [setObj, Sem.run, h1, World.putObj], ?_⟩
  have := hw.turn (mapOf_get h) rfl hp (w' := w.putObj p.c (.map ces' clock')) (o' := .map es' clock') (by simp) (fun c hc => World.putObj_heap_other hc) rfl rfl rfl ⟨ces', World.putObj_heap_same hlt, he⟩
  rw [AHeap.get_set, AHeap.next_set]
  exact this
omit [Val] in
theorem modify_self (m : MapEntry) (ces : Array MapEntry) (i : Nat) (h : ces[i]? = some m) : (ces.modify i fun e => { e with key := m.key }) = ces := by
  apply Array.ext
  · simp
  · intro j h1 h2
    rw [Array.getElem_modify]
    split
    · rename_i e; subst e
      have : ces[i] = m := Option.some.inj ((Array.getElem?_eq_getElem h2).symm.trans h)
      rw [this]
    · rfl
theorem mapUpdateA_run {t : TypeId} {x k y : AV} {v u z : Value} {H' : AHeap} (hw : WR G β H.get H.next w) (h : mapUpdateA P H t x k y = some H') (hx : VR β x v) (hk : VR β k u) (hy : VR β y z) :
    ∃ w', (Instr.mapUpdate t v u z).run P w = .ok () w' ∧ WR G β H'.get H'.next w' ∧ Tran β H.get H.next w β H'.get H'.next w' := by
  unfold mapUpdateA at h
  split at h
  · rename_i kt e b hu
    cases hx with
    | @map _ p hp =>
    split at h
    · cases h
    · rename_i hko
      have hko : keyOk P kt k = true := by simpa using hko
      split at h
      · rename_i es clock hm
        obtain ⟨ces, h1, h2⟩ := map_at hw hm hp
        have hg : (getObj p.c).run P w = .ok (.map ces clock) w := by simp [getObj, Sem.run, h1]
        have hck : (Instr.checkKey false 10000 kt u).run P w = .ok () w := keyOk_checkKey (n := 9998) hko hk
        split at h
        · rename_i i y0 hf
          cases h
          obtain ⟨m, hfd, hfk⟩ := findKey_run hw hk h2 hf (keyOk_und hko)
          have hpk : plainKey 3 k = true := by unfold keyOk at hko; rw [Bool.and_eq_true] at hko; exact hko.1
          obtain ⟨hsame, hbits⟩ := plainKey_same 3 k hpk _ _ hfd.key hk
          have hat : ces[i]? = some m := by simpa using hfd.at_
          have hmod : (ces.modify i fun e => { e with key := u, val := z }) = ces.modify i fun e => { e with val := z } := by
            apply Array.ext
            · simp
            · intro j k1 k2
              rw [Array.getElem_modify, Array.getElem_modify]
              split
              · rename_i e; subst e
                have : ces[i]'(by simpa using k1) = m := Option.some.inj ((Array.getElem?_eq_getElem (by simpa using k1)).symm.trans hat)
                rw [this, ← hsame]
              · rfl
          have hs := map_set (P := P) (clock' := clock) (ces' := ces.modify i fun e => { e with val := z }) hw hm hp (es' := setVal es i y) (by rw [Array.toList_modify]; exact EntsR.setVal hy i h2)
          refine ⟨_, ?_, hs.2⟩
          have hkt : (Instr.keyThatStays m.key u).run P w = .ok u w := by simp [Instr.keyThatStays, hbits 10000 (by omega)]
          simp only [Instr.mapUpdate, Sem.run_bind, run_underlying (undT_und hu), Result.andThen_ok, hg, hck, hfk]
          simp only [hat, Option.map_some, Option.getD_some, hkt, Result.andThen_ok, hmod, hs.1]
        · rename_i hf
          cases h
          have hfk := findKey_run hw hk h2 hf (keyOk_und hko)
          have hs := map_set (P := P) (clock' := clock + 1) (ces' := ces.push { key := u, val := z, born := clock }) hw hm hp (es' := es ++ [⟨k, y, clock⟩]) (by rw [Array.toList_push]; exact h2.append (.cons hk hy rfl .nil))
          refine ⟨_, ?_, hs.2⟩
          simp only [Instr.mapUpdate, Sem.run_bind, run_underlying (undT_und hu), Result.andThen_ok, hg, hck, hfk]
          exact hs.1
        · cases h
      · cases h
  · cases h
theorem mapEntryA_run {t : TypeId} {x k r : AV} {v u : Value} {H' : AHeap} (hw : WR G β H.get H.next w) (h : mapEntryA P H t x k = some (r, H')) (hx : VR β x v) (hk : VR β k u) :
    ∃ z w', (Instr.mapEntry t v u).run P w = .ok z w' ∧ VR β r z ∧ WR G β H'.get H'.next w' ∧ Tran β H.get H.next w β H'.get H'.next w' := by
  unfold mapEntryA at h
  split at h
  · rename_i kt e b hu
    cases hx with
    | @map _ p hp =>
    split at h
    · cases h
    · rename_i hko
      have hko : keyOk P kt k = true := by simpa using hko
      split at h
      · rename_i es clock hm
        obtain ⟨ces, h1, h2⟩ := map_at hw hm hp
        have hg : (getObj p.c).run P w = .ok (.map ces clock) w := by simp [getObj, Sem.run, h1]
        have hck : (Instr.checkKey false 10000 kt u).run P w = .ok () w := keyOk_checkKey (n := 9998) hko hk
        split at h
        · cases h
        · rename_i i y0 hf
          split at h
          · rename_i en hen
            simp only [Option.some.injEq, Prod.mk.injEq] at h
            obtain ⟨rfl, rfl⟩ := h
            obtain ⟨m, hfd, hfk⟩ := findKey_run hw hk h2 hf (keyOk_und hko)
            obtain ⟨en', g1, g2, g3, g4⟩ := hfd.ent
            rw [hen] at g1; cases g1
            have hpk : plainKey 3 k = true := by unfold keyOk at hko; rw [Bool.and_eq_true] at hko; exact hko.1
            obtain ⟨hsame, hbits⟩ := plainKey_same 3 k hpk _ _ hfd.key hk
            have hat : ces[i]? = some m := by simpa using hfd.at_
            have hkt : (Instr.keyThatStays m.key u).run P w = .ok u w := by simp [Instr.keyThatStays, hbits 10000 (by omega)]
            have hmod : (ces.modify i fun e => { e with key := u }) = ces := by rw [← hsame]; exact modify_self m ces i hat
            have hput : w.putObj p.c (.map ces clock) = w := by
              have hlt : p.c < w.heap.size := (Array.getElem?_eq_some_iff.1 h1).1
              have hv : w.heap[p.c] = .map ces clock := (Array.getElem?_eq_some_iff.1 h1).2
              unfold World.putObj
              rw [show w.heap.setIfInBounds p.c (.map ces clock) = w.heap from by
                apply Array.ext
                · simp
                · intro j k1 k2
                  rw [Array.getElem_setIfInBounds]
                  split
                  · rename_i e; subst e; exact hv.symm
                  · rfl]
            refine ⟨.tuple #[m.val, goInt m.born], w, ?_, ?_, hw, Tran.refl _ _ _ _⟩
            · have hs : (setObj p.c (.map ces clock)).run P w = .ok () w := by
                have : (setObj p.c (.map ces clock)).run P w = .ok () (w.putObj p.c (.map ces clock)) := by simp [setObj, Sem.run, h1, World.putObj]
                rw [this, hput]
              simp only [Instr.mapEntry, Sem.run_bind, run_underlying (undT_und hu), Result.andThen_ok, hg, hck, hfk]
              simp only [hat, Option.map_some, Option.getD_some, hkt, Result.andThen_ok, hmod, hs, Sem.run_pure]
            · rw [g4]
              exact .tuple (.cons hfd.val (.cons (.int _ _) .nil))
          · cases h
        · rename_i hf
          split at h
          · rename_i z0 hz
            simp only [Option.some.injEq, Prod.mk.injEq] at h
            obtain ⟨rfl, rfl⟩ := h
            obtain ⟨zv, k1, k2⟩ := zeroT_run (P := P) (β := β) (w := w) hz
            have hfk := findKey_run hw hk h2 hf (keyOk_und hko)
            have hs := map_set (P := P) (clock' := clock + 1) (ces' := ces.push { key := u, val := zv, born := clock }) hw hm hp (es' := es ++ [⟨k, z0, clock⟩]) (by rw [Array.toList_push]; exact h2.append (.cons hk k2 rfl .nil))
            refine ⟨.tuple #[zv, goInt clock], _, ?_, .tuple (.cons k2 (.cons (.int _ _) .nil)), hs.2⟩
            simp only [Instr.mapEntry, Sem.run_bind, run_underlying (undT_und hu), Result.andThen_ok, hg, hck, hfk, k1, hs.1, Sem.run_pure]
          · cases h
      · cases h
  · cases h
theorem findBorn_run {born : Int} : ∀ (es : List AEnt) (ms : List MapEntry) (i j : Nat), EntsR β es ms → findBorn es born i = some j → i ≤ j ∧ ms.findIdx? (fun e => (e.born : Int) == born) = some (j - i)
  | [], _, i, j, he, h => by simp [findBorn] at h
  | e :: es, _, i, j, he, h => by
    cases he with
    | cons h1 h2 h3 h4 =>
    rename_i m ms
    simp only [findBorn] at h
    rw [List.findIdx?_cons]
    split at h
    · rename_i hb
      cases h
      rw [h3] at hb
      simp [hb]
    · rename_i hb
      obtain ⟨g1, g2⟩ := findBorn_run es ms (i + 1) j h4 h
      rw [h3] at hb
      refine ⟨by omega, ?_⟩
      rw [if_neg hb, g2, Option.map_some, show j - (i + 1) + 1 = j - i from by omega]
theorem entryStoreA_run {t : TypeId} {x s y : AV} {v u z : Value} {H' : AHeap} (hw : WR G β H.get H.next w) (h : entryStoreA H x s y = some H') (hx : VR β x v) (hs : VR β s u) (hy : VR β y z) :
    ∃ w', (Instr.entryStore t v u z).run P w = .ok () w' ∧ WR G β H'.get H'.next w' ∧ Tran β H.get H.next w β H'.get H'.next w' := by
  unfold entryStoreA at h
  split at h
  · rename_i b k n
    cases hx with
    | @map _ p hp =>
    cases hs
    split at h
    · rename_i es clock hm
      split at h
      · rename_i i hf
        cases h
        obtain ⟨ces, h1, h2⟩ := map_at hw hm hp
        have hg : (getObj p.c).run P w = .ok (.map ces clock) w := by simp [getObj, Sem.run, h1]
        obtain ⟨-, hidx⟩ := findBorn_run es ces.toList 0 i h2 hf
        have hidx : ces.findIdx? (fun e => (e.born : Int) == n) = some i := by obtain ⟨l⟩ := ces; simpa using hidx
        have hst := map_set (P := P) (clock' := clock) (ces' := ces.modify i fun e => { e with val := z }) hw hm hp (es' := setVal es i y) (by rw [Array.toList_modify]; exact EntsR.setVal hy i h2)
        refine ⟨_, ?_, hst.2⟩
        simp only [Instr.entryStore, Sem.run_bind, hg, Result.andThen_ok, asInt, asIntOf, Sem.run_pure, hidx]
        exact hst.1
      · cases h
    · cases h
  · cases h
theorem deleteA_run {t ty : TypeId} {ts : List TypeId} {x k : AV} {v u : Value} {H' : AHeap} (hw : WR G β H.get H.next w) (h : deleteA P H t x k = some H') (hx : VR β x v) (hk : VR β k u) :
    ∃ w', (Builtin.delete_ (t :: ts).toArray ty #[v, u]).run P w = .ok (.tuple #[]) w' ∧ WR G β H'.get H'.next w' ∧ Tran β H.get H.next w β H'.get H'.next w' := by
  unfold deleteA at h
  split at h
  · rename_i kt e hu
    cases hx
    split at h
    · rename_i hko
      cases h
      have hck : (Instr.checkKey true 10000 kt u).run P w = .ok () w := keyOk_checkKey (n := 9998) hko hk
      refine ⟨w, ?_, hw, Tran.refl _ _ _ _⟩
      simp [Builtin.delete_, run_underlying (undT_und hu), hck]
    · cases h
  · rename_i kt e b hu
    cases hx with
    | @map _ p hp =>
    split at h
    · cases h
    · rename_i hko
      have hko : keyOk P kt k = true := by simpa using hko
      split at h
      · rename_i es clock hm
        obtain ⟨ces, h1, h2⟩ := map_at hw hm hp
        have hg : (getObj p.c).run P w = .ok (.map ces clock) w := by simp [getObj, Sem.run, h1]
        have hck : (Instr.checkKey ces.isEmpty 10000 kt u).run P w = .ok () w := keyOk_checkKey (n := 9998) hko hk
        split at h
        · rename_i i y0 hf
          cases h
          obtain ⟨m, hfd, hfk⟩ := findKey_run hw hk h2 hf (keyOk_und hko)
          have hlt : i < ces.size := (Array.getElem?_eq_some_iff.1 (show ces[i]? = some m by simpa using hfd.at_)).1
          have hs := map_set (P := P) (clock' := clock) (ces' := ces.eraseIdxIfInBounds i) hw hm hp (es' := delAt es i) (by
            rw [Array.toList_eraseIdxIfInBounds]; exact EntsR.delAt i h2)
          refine ⟨_, ?_, hs.2⟩
          simp [Builtin.delete_, run_underlying (undT_und hu), hg, hck, hfk, hs.1]
        · rename_i hf
          cases h
          have hfk := findKey_run hw hk h2 hf (keyOk_und hko)
          have hlt : p.c < w.heap.size := (Array.getElem?_eq_some_iff.1 h1).1
          have hv : w.heap[p.c] = .map ces clock := (Array.getElem?_eq_some_iff.1 h1).2
          have hs : (setObj p.c (.map ces clock)).run P w = .ok () w := by
            have e1 : (setObj p.c (.map ces clock)).run P w = .ok () (w.putObj p.c (.map ces clock)) := by simp [setObj, Sem.run, h1, World.putObj]
            rw [e1]
            unfold World.putObj
            rw [show w.heap.setIfInBounds p.c (.map ces clock) = w.heap from by
              apply Array.ext
              · simp
              · intro j k1 k2
                rw [Array.getElem_setIfInBounds]
                split
                · rename_i e; subst e; exact hv.symm
                · rfl]
          refine ⟨w, ?_, hw, Tran.refl _ _ _ _⟩
          simp [Builtin.delete_, run_underlying (undT_und hu), hg, hck, hfk, hs]
        · cases h
      · cases h
  · cases h
omit [Val] in
theorem lmapOf_get {b : Nat} {kk vk : CK} {c : Tm} (h : lmapOf H b = some (kk, vk, c)) : H.get b = some (.lmap kk vk c) := by
  unfold lmapOf at h
  split at h
  · rename_i e; cases h; exact e
  · cases h
omit [Val] in
theorem kindT_scalar {t : TypeId} {k : CK} (h : kindT P t k = true) : scalarT P t = true := by
  unfold kindT at h
  unfold scalarT
  split at h
  · rename_i e; rw [e]
  · rename_i e; rw [e]
  · rename_i e; rw [e]
  · cases h
omit [Val] in
theorem keyEq_now {Z : Nat → Option Obj} {t : TypeId} {d : TypeDesc} {k : CK} (hd : undT P t = some d) (hk : kindT P t k = true) {a b : D} {v u : Value} (h1 : CellR Z k a v) (h2 : CellR Z k b u) : Instr.sameNow d v u = some (a.keyEq b) := by
  unfold kindT at hk
  split at hk
  · rename_i i j e
    rw [hd] at e; cases e
    obtain ⟨n, rfl, rfl⟩ := h1.intI
    obtain ⟨m, rfl, rfl⟩ := h2.intI
    simp [Instr.sameNow, D.keyEq]
  · rename_i e
    rw [hd] at e; cases e
    obtain ⟨n, rfl, rfl⟩ := h1.strI
    obtain ⟨m, rfl, rfl⟩ := h2.strI
    simp only [D.keyEq]
    rw [BS.eq_of, ← beq_toListBytes]; rfl
  · rename_i e
    rw [hd] at e; cases e
    obtain ⟨n, rfl, rfl⟩ := h1.boolI
    obtain ⟨m, rfl, rfl⟩ := h2.boolI
    rfl
  · cases hk
omit [Val] in
theorem keyEq_same {Z : Nat → Option Obj} {t : TypeId} {k : CK} (hk : kindT P t k = true) {a b : D} {v u : Value} (h1 : CellR Z k a v) (h2 : CellR Z k b u) (h : a.keyEq b = true) : v = u ∧ ∀ n, 1 ≤ n → Instr.sameBits n u v = true := by
  unfold kindT at hk
  split at hk
  · rename_i i j e
    obtain ⟨n, rfl, rfl⟩ := h1.intI
    obtain ⟨m, rfl, rfl⟩ := h2.intI
    simp only [D.keyEq, beq_iff_eq] at h
    subst h
    exact ⟨rfl, fun n hn => by cases n <;> simp [Instr.sameBits]⟩
  · obtain ⟨n, rfl, rfl⟩ := h1.strI
    obtain ⟨m, rfl, rfl⟩ := h2.strI
    simp only [D.keyEq, BS.eq_iff] at h
    obtain rfl := BS.of_inj h
    exact ⟨rfl, fun n hn => by cases n <;> simp [Instr.sameBits, beq_toListBytes]⟩
  · obtain ⟨n, rfl, rfl⟩ := h1.boolI
    obtain ⟨m, rfl, rfl⟩ := h2.boolI
    simp only [D.keyEq, beq_iff_eq] at h
    subst h
    exact ⟨rfl, fun n hn => by cases n <;> simp [Instr.sameBits]⟩
  · cases hk
omit [Val] in
theorem PairsR.length {Z : Nat → Option Obj} {kk vk : CK} {i : Nat} {L : List D} {ms : List MapEntry} (h : PairsR Z kk vk i L ms) : L.length = ms.length := by
  induction h with
  | nil => rfl
  | cons _ _ _ _ ih => simp [ih]
omit [Val] in
theorem PairsR.at {Z : Nat → Option Obj} {kk vk : CK} {i : Nat} {L : List D} {ms : List MapEntry} (h : PairsR Z kk vk i L ms) : ∀ (j : Nat), j < L.length → ∃ a b m, L[j]? = some (.list [a, b]) ∧ ms[j]? = some m ∧ CellR Z kk a m.key ∧ CellR Z vk b m.val ∧ m.born = i + j := by
  induction h with
  | nil => intro j hj; simp at hj
  | @cons i a b m L ms hk hv hb hs ih =>
    intro j hj
    cases j with
    | zero => exact ⟨a, b, m, rfl, rfl, hk, hv, by simpa using hb⟩
    | succ j =>
      obtain ⟨a', b', m', g1, g2, g3, g4, g5⟩ := ih j (by simpa using hj)
      exact ⟨a', b', m', by simpa using g1, by simpa using g2, g3, g4, by omega⟩
omit [Val] in
theorem PairsR.push {Z : Nat → Option Obj} {kk vk : CK} {i : Nat} {L : List D} {ms : List MapEntry} (h : PairsR Z kk vk i L ms) {a b : D} {k v : Value} (hk : CellR Z kk a k) (hv : CellR Z vk b v) : PairsR Z kk vk i (L ++ [.list [a, b]]) (ms ++ [{ key := k, val := v, born := i + L.length }]) := by
  induction h with
  | nil i => exact .cons hk hv rfl (.nil _)
  | @cons i a' b' m L ms hk' hv' hb hs ih =>
    refine .cons hk' hv' hb ?_
    have e : i + (D.list [a', b'] :: L).length = i + 1 + L.length := by simp only [List.length_cons]; omega
    rw [e]; exact ih
omit [Val] in
theorem PairsR.setv {Z : Nat → Option Obj} {kk vk : CK} {i : Nat} {L : List D} {ms : List MapEntry} (h : PairsR Z kk vk i L ms) {b : D} {v : Value} (hv : CellR Z vk b v) : ∀ (j : Nat), j < L.length → PairsR Z kk vk i (L.set j (.list ((match L.getD j .bad with | .list l => l | _ => []).set 1 b))) (ms.modify j fun e => { e with val := v }) := by
  induction h with
  | nil => intro j hj; simp at hj
  | @cons i a' b' m L ms hk' hv' hb hs ih =>
    intro j hj
    cases j with
    | zero => exact .cons hk' hv hb hs
    | succ j => exact .cons hk' hv' hb (ih j (by simpa using hj))
omit [Val] in
theorem PairsR.born {Z : Nat → Option Obj} {kk vk : CK} {i : Nat} {L : List D} {ms : List MapEntry} (h : PairsR Z kk vk i L ms) : ∀ (j : Nat), j < L.length → ms.findIdx? (fun e => (e.born : Int) == ((i + j : Nat) : Int)) = some j := by
  induction h with
  | nil => intro j hj; simp at hj
  | @cons i a' b' m L ms hk' hv' hb hs ih =>
    intro j hj
    rw [List.findIdx?_cons]
    cases j with
    | zero => simp [hb]
    | succ j =>
      have : ((m.born : Int) == ((i + (j + 1) : Nat) : Int)) = false := by
        rw [hb]; simp; omega
      rw [this]
      have := ih j (by simpa using hj)
      rw [show i + (j + 1) = i + 1 + j by omega, this]
      simp
omit [Val] in
theorem keyIdx_ge {k : D} : ∀ {L : List D} {i j : Nat}, keyIdx k L i = some j → i ≤ j ∧ j - i < L.length
  | [], i, j, h => by cases h
  | .list (a :: r) :: L, i, j, h => by
    simp only [keyIdx] at h
    split at h
    · cases h; simp
    · have := keyIdx_ge h; simp only [List.length_cons]; omega
  | .list [] :: L, i, j, h => by have := keyIdx_ge (L := L) (i := i + 1) h; simp only [List.length_cons]; omega
  | .int _ :: L, i, j, h | .bool _ :: L, i, j, h | .str _ :: L, i, j, h | .bad :: L, i, j, h => by have := keyIdx_ge (L := L) (i := i + 1) h; simp only [List.length_cons]; omega
omit [Val] in
theorem pairs_find {Z : Nat → Option Obj} {t : TypeId} {d : TypeDesc} {kk vk : CK} (hd : undT P t = some d) (hk : kindT P t kk = true) {k : D} {v : Value} (hv : CellR Z kk k v) {i0 : Nat} {L : List D} {ms : List MapEntry} (h : PairsR Z kk vk i0 L ms) :
    ∀ i, match keyIdx k L i with
      | some j => ∃ a m, L[j - i]?.map (fun x => match x with | .list (y :: _) => y | _ => .bad) = some a ∧ ms[j - i]? = some m ∧ k.keyEq a = true ∧ CellR Z kk a m.key ∧ Instr.findNow d v ms i = some (some (j, m.val))
      | none => Instr.findNow d v ms i = some none := by
  induction h with
  | nil => intro i; rfl
  | @cons i1 a b m L ms hk' hv' hb hs ih =>
    intro i
    have hs := keyEq_now hd hk hv hk'
    simp only [keyIdx]
    cases he : k.keyEq a with
    | true =>
      rw [he] at hs
      simp only [if_true]
      exact ⟨a, m, by simp, by simp, he, hk', by simp only [Instr.findNow, hs]⟩
    | false =>
      rw [he] at hs
      simp only [Bool.false_eq_true, if_false]
      have := ih (i + 1)
      cases hj : keyIdx k L (i + 1) with
      | none => rw [hj] at this; simp only [Instr.findNow, hs]; exact this
      | some j =>
        rw [hj] at this
        obtain ⟨a', m', g1, g2, g3, g4, g5⟩ := this
        have hle := (keyIdx_ge hj).1
        refine ⟨a', m', ?_, ?_, g3, g4, by simp only [Instr.findNow, hs]; exact g5⟩
        · rw [show j - i = (j - (i + 1)) + 1 by omega, List.getElem?_cons_succ]; exact g1
        · rw [show j - i = (j - (i + 1)) + 1 by omega, List.getElem?_cons_succ]; exact g2
theorem lmapAt_run {n : Nat} {t e : TypeId} {x ix : AV} {v u : Value} {b : Nat} {kk vk : CK} {c tk : Tm} (hw : WR G β H.get n w) (h : lmapAt P H t x ix = some (b, kk, vk, c, tk, e)) (hx : VR β x v) (hi : VR β ix u) :
    ∃ (kt : TypeId) (p : Place) (L : List D) (ces : Array MapEntry), undT P t = some (.map kt e) ∧ kindT P kt kk = true ∧ kindT P e vk = true ∧ H.get b = some (.lmap kk vk c) ∧ β b = some p ∧ v = .map (some p.c) ∧ c.den = .list L ∧ w.heap[p.c]? = some (.map ces L.length) ∧ PairsR β.zone kk vk 0 L ces.toList ∧ CellR β.zone kk tk.den u := by
  unfold lmapAt at h
  split at h
  · rename_i b0
    split at h
    · rename_i kk0 vk0 c0 hm
      split at h
      · rename_i kt e0 hu
        split at h
        · rename_i hkk
          split at h
          · rename_i tk0 htk
            simp only [Option.some.injEq, Prod.mk.injEq] at h
            obtain ⟨rfl, rfl, rfl, rfl, rfl, rfl⟩ := h
            rw [Bool.and_eq_true] at hkk
            cases hx with
            | @map _ p hp =>
            obtain ⟨q, hq, L, ces, h0, h1, h2⟩ := hw.obj _ _ (lmapOf_get hm)
            rw [hp] at hq; cases hq
            exact ⟨kt, p, L, ces, hu, hkk.1, hkk.2, lmapOf_get hm, hp, rfl, h0, h1, h2, tmOf_cell htk hi⟩
          · cases h
        · cases h
      · cases h
    · cases h
  · cases h
theorem mfind_den {nf : Tm → Tm} (hn : ∀ t, (nf t).den = t.den) {c tk : Tm} {L : List D} (hc : c.den = .list L) : (mkT nf .mfind [c, tk]).den = .int (match keyIdx tk.den L 0 with | some i => (i : Int) | none => -1) := by
  rw [mkT_den hn]
  simp only [Tm.dens, hc, TOp.den]
  cases keyIdx tk.den L 0 <;> rfl
theorem mfind_test {nf : Tm → Tm} (hn : ∀ t, (nf t).den = t.den) {c tk : Tm} {L : List D} (hc : c.den = .list L) {r : Bool} (h : mkT nf (.bin .leq .i64) [.int 0, mkT nf .mfind [c, tk]] = .bool r) : (keyIdx tk.den L 0).isSome = r := by
  have h1 := mkT_den hn (.bin .leq .i64) [.int 0, mkT nf .mfind [c, tk]]
  rw [h] at h1
  simp only [Tm.dens, mfind_den hn hc, TOp.den, Tm.den, intD, D.bool.injEq] at h1
  rw [h1]
  cases keyIdx tk.den L 0 with
  | none => simp
  | some i => simp
theorem pair_val {nf : Tm → Tm} (hn : ∀ t, (nf t).den = t.den) {c i : Tm} {L : List D} {j : Nat} {a b : D} (hc : c.den = .list L) (hi : i.den = .int (j : Int)) (hj : L[j]? = some (.list [a, b])) : (mkT nf (.fld 1) [mkT nf .nth [c, i]]).den = b := by
  rw [mkT_den hn]
  simp only [Tm.dens, mkT_den hn, hc, hi, TOp.den, Int.toNat_natCast, List.getD_eq_getElem?_getD, hj, Option.getD_some]
  rfl
theorem pair_set {nf : Tm → Tm} (hn : ∀ t, (nf t).den = t.den) {c i tv : Tm} {L : List D} {j : Nat} {a b : D} (hc : c.den = .list L) (hi : i.den = .int (j : Int)) (hj : L[j]? = some (.list [a, b])) : (mkT nf .set [c, i, mkT nf (.setf 1) [mkT nf .nth [c, i], tv]]).den = .list (L.set j (.list ((match L.getD j .bad with | .list l => l | _ => []).set 1 tv.den))) := by
  rw [mkT_den hn]
  simp only [Tm.dens, mkT_den hn, hc, hi, TOp.den, Int.toNat_natCast, List.getD_eq_getElem?_getD, hj, Option.getD_some]
theorem pair_new {nf : Tm → Tm} (hn : ∀ t, (nf t).den = t.den) {c tk tv : Tm} {L : List D} (hc : c.den = .list L) : (mkT nf .cat [c, .op .mk [.op .mk [tk, tv]]]).den = .list (L ++ [.list [tk.den, tv.den]]) := by
  rw [mkT_den hn]
  simp only [Tm.dens, hc, Tm.den, TOp.den]
theorem lookupL_run {nf : Tm → Tm} (hn : ∀ t, (nf t).den = t.den) {n : Nat} {t : TypeId} {x ix r : AV} {ok : Bool} {v u : Value} (hw : WR G β H.get n w) (h : lookupL P nf H t x ix ok = some r) (hx : VR β x v) (hi : VR β ix u) :
    ∃ z, (Instr.lookup t v u ok).run P w = .ok z w ∧ VR β r z := by
  unfold lookupL at h
  split at h
  · rename_i b kk vk c tk e hat
    obtain ⟨kt, p, L, ces, hu, hkk, hvk, hget, hp, rfl, hc, h1, h2, hcell⟩ := lmapAt_run hw hat hx hi
    have hg : (getObj p.c).run P w = .ok (.map ces L.length) w := by simp [getObj, Sem.run, h1]
    have hck : (Instr.checkKey ces.isEmpty 10000 kt u).run P w = .ok () w := scalar_checkKey (n := 9999) (kindT_scalar hkk)
    obtain ⟨d, hd⟩ : ∃ d, undT P kt = some d := Option.isSome_iff_exists.1 (by
      have := kindT_scalar hkk
      unfold scalarT at this
      cases hq : undT P kt with
      | some d => rfl
      | none => rw [hq] at this; cases this)
    have hfind := pairs_find hd hkk hcell h2 0
    split at h
    · rename_i htest
      have hs := mfind_test hn hc htest
      cases hkey : keyIdx tk.den L 0 with
      | none => rw [hkey] at hs; cases hs
      | some j =>
        rw [hkey] at hfind
        obtain ⟨a, m, g1, g2, g3, g4, g5⟩ := hfind
        simp only [Nat.sub_zero] at g1 g2
        have hjl := (keyIdx_ge hkey).2
        simp only [Nat.sub_zero] at hjl
        obtain ⟨a', b', m', k1, k2, k3, k4, k5⟩ := h2.at j hjl
        rw [g2] at k2; cases k2
        have hfk : (Instr.findKey kt u ces.toList).run P w = .ok (some (j, m.val)) w := by
          simp only [Instr.findKey, Sem.run_bind, run_underlying (undT_und hd), Result.andThen_ok, g5, Sem.run_pure]
        have hidx : (mkT nf .mfind [c, tk]).den = .int (j : Int) := by rw [mfind_den hn hc, hkey]
        have hval : VR β (ofTm vk (mkT nf (.fld 1) [mkT nf .nth [c, mkT nf .mfind [c, tk]]])) m.val := by
          rw [ofTm_iff, pair_val hn hc hidx k1]; exact k4
        cases h
        refine ⟨if ok then .tuple #[m.val, .bool true] else m.val, ?_, ?_⟩
        · simp only [Instr.lookup, Sem.run_bind, run_underlying (undT_und hu), Result.andThen_ok, Sem.run_pure, hg, hck, hfk]
        · cases ok
          · exact hval
          · exact .tuple (.cons hval (.cons (.bool true) .nil))
    · rename_i htest
      have hs := mfind_test hn hc htest
      cases hkey : keyIdx tk.den L 0 with
      | some j => rw [hkey] at hs; cases hs
      | none =>
        rw [hkey] at hfind
        have hfk : (Instr.findKey kt u ces.toList).run P w = .ok none w := by
          simp only [Instr.findKey, Sem.run_bind, run_underlying (undT_und hd), Result.andThen_ok, hfind, Sem.run_pure]
        rw [Option.map_eq_some_iff] at h
        obtain ⟨z, hz, rfl⟩ := h
        obtain ⟨zv, z1, z2⟩ := zeroT_run (P := P) (β := β) (w := w) hz
        refine ⟨if ok then .tuple #[zv, .bool false] else zv, ?_, ?_⟩
        · simp only [Instr.lookup, Sem.run_bind, run_underlying (undT_und hu), Result.andThen_ok, Sem.run_pure, hg, hck, hfk, z1]
        · cases ok
          · exact z2
          · exact .tuple (.cons z2 (.cons (.bool false) .nil))
    · cases h
  · cases h
theorem lmap_set {b : Nat} {kk vk : CK} {c c' : Tm} {L' : List D} {ces ces' : Array MapEntry} {clock : Nat} {p : Place} (hw : WR G β H.get H.next w) (h : H.get b = some (.lmap kk vk c)) (hp : β b = some p) (h1 : w.heap[p.c]? = some (.map ces clock)) (hc : c'.den = .list L') (he : PairsR β.zone kk vk 0 L' ces'.toList) :
    (setObj p.c (.map ces' L'.length)).run P w = .ok () (w.putObj p.c (.map ces' L'.length)) ∧ WR G β (H.set b (.lmap kk vk c')).get (H.set b (.lmap kk vk c')).next (w.putObj p.c (.map ces' L'.length)) ∧
      Tran β H.get H.next w β (H.set b (.lmap kk vk c')).get (H.set b (.lmap kk vk c')).next (w.putObj p.c (.map ces' L'.length)) := by
  have hlt : p.c < w.heap.size := (Array.getElem?_eq_some_iff.1 h1).1
  refine ⟨by simp [setObj, Sem.run, h1, World.putObj], ?_⟩
  have := hw.turn h rfl hp (w' := w.putObj p.c (.map ces' L'.length)) (o' := .lmap kk vk c') (by simp) (fun c hc => World.putObj_heap_other hc) rfl rfl rfl ⟨L', ces', hc, World.putObj_heap_same hlt, he⟩
  rw [AHeap.get_set, AHeap.next_set]
  exact this
theorem mapUpdateL_run {nf : Tm → Tm} (hn : ∀ t, (nf t).den = t.den) {t : TypeId} {x k y : AV} {v u z : Value} {H' : AHeap} (hw : WR G β H.get H.next w) (h : mapUpdateL P nf H t x k y = some H') (hx : VR β x v) (hk : VR β k u) (hy : VR β y z) :
    ∃ w', (Instr.mapUpdate t v u z).run P w = .ok () w' ∧ WR G β H'.get H'.next w' ∧ Tran β H.get H.next w β H'.get H'.next w' := by
  unfold mapUpdateL at h
  split at h
  · rename_i b kk vk c tk e hat
    obtain ⟨kt, p, L, ces, hu, hkk, hvk, hget, hp, rfl, hc, h1, h2, hcell⟩ := lmapAt_run hw hat hx hk
    have hg : (getObj p.c).run P w = .ok (.map ces L.length) w := by simp [getObj, Sem.run, h1]
    have hck : (Instr.checkKey false 10000 kt u).run P w = .ok () w := scalar_checkKey (n := 9999) (kindT_scalar hkk)
    obtain ⟨d, hd⟩ : ∃ d, undT P kt = some d := Option.isSome_iff_exists.1 (by
      have := kindT_scalar hkk
      unfold scalarT at this
      cases hq : undT P kt with
      | some d => rfl
      | none => rw [hq] at this; cases this)
    have hfind := pairs_find hd hkk hcell h2 0
    split at h
    · rename_i tv htv
      have hvc := tmOf_cell htv hy
      split at h
      · rename_i htest
        have hs := mfind_test hn hc htest
        cases hkey : keyIdx tk.den L 0 with
        | none => rw [hkey] at hs; cases hs
        | some j =>
          rw [hkey] at hfind
          obtain ⟨a, m, g1, g2, g3, g4, g5⟩ := hfind
          simp only [Nat.sub_zero] at g1 g2
          have hjl := (keyIdx_ge hkey).2
          simp only [Nat.sub_zero] at hjl
          obtain ⟨a', b', m', k1, k2, k3, k4, k5⟩ := h2.at j hjl
          rw [g2] at k2; cases k2
          have hfk : (Instr.findKey kt u ces.toList).run P w = .ok (some (j, m.val)) w := by
            simp only [Instr.findKey, Sem.run_bind, run_underlying (undT_und hd), Result.andThen_ok, g5, Sem.run_pure]
          have hidx : (mkT nf .mfind [c, tk]).den = .int (j : Int) := by rw [mfind_den hn hc, hkey]
          obtain ⟨hsame, hbits⟩ := keyEq_same hkk hcell g4 g3
          have hat2 : ces[j]? = some m := by simpa using g2
          have hmod : (ces.modify j fun e => { e with key := u, val := z }) = ces.modify j fun e => { e with val := z } := by
            apply Array.ext
            · simp
            · intro q q1 q2
              rw [Array.getElem_modify, Array.getElem_modify]
              split
              · rename_i e; subst e
                have : ces[j]'(by simpa using q1) = m := Option.some.inj ((Array.getElem?_eq_getElem (by simpa using q1)).symm.trans hat2)
                rw [this, hsame]
              · rfl
          have hkt : (Instr.keyThatStays m.key u).run P w = .ok u w := by simp [Instr.keyThatStays, hbits 10000 (by omega)]
          cases h
          have hst := lmap_set (P := P) (ces' := ces.modify j fun e => { e with val := z }) hw hget hp h1 (pair_set hn hc hidx k1) (by rw [Array.toList_modify]; exact h2.setv hvc j hjl)
          rw [List.length_set] at hst
          refine ⟨_, ?_, hst.2⟩
          simp only [Instr.mapUpdate, Sem.run_bind, run_underlying (undT_und hu), Result.andThen_ok, hg, hck, hfk]
          simp only [hat2, Option.map_some, Option.getD_some, hkt, Result.andThen_ok, hmod, hst.1]
      · rename_i htest
        have hs := mfind_test hn hc htest
        cases hkey : keyIdx tk.den L 0 with
        | some j => rw [hkey] at hs; cases hs
        | none =>
          rw [hkey] at hfind
          have hfk : (Instr.findKey kt u ces.toList).run P w = .ok none w := by
            simp only [Instr.findKey, Sem.run_bind, run_underlying (undT_und hd), Result.andThen_ok, hfind, Sem.run_pure]
          cases h
          have hst := lmap_set (P := P) (ces' := ces.push { key := u, val := z, born := L.length }) hw hget hp h1 (pair_new hn hc) (by rw [Array.toList_push]; have := h2.push hcell hvc; rwa [Nat.zero_add] at this)
          rw [List.length_append] at hst
          refine ⟨_, ?_, hst.2⟩
          simp only [Instr.mapUpdate, Sem.run_bind, run_underlying (undT_und hu), Result.andThen_ok, hg, hck, hfk]
          exact hst.1
      · cases h
    · cases h
  · cases h
theorem mapEntryL_run {nf : Tm → Tm} (hn : ∀ t, (nf t).den = t.den) {t : TypeId} {x k r : AV} {v u : Value} {H' : AHeap} (hw : WR G β H.get H.next w) (h : mapEntryL P nf H t x k = some (r, H')) (hx : VR β x v) (hk : VR β k u) :
    ∃ z w', (Instr.mapEntry t v u).run P w = .ok z w' ∧ VR β r z ∧ WR G β H'.get H'.next w' ∧ Tran β H.get H.next w β H'.get H'.next w' := by
  unfold mapEntryL at h
  split at h
  · rename_i b kk vk c tk e hat
    obtain ⟨kt, p, L, ces, hu, hkk, hvk, hget, hp, rfl, hc, h1, h2, hcell⟩ := lmapAt_run hw hat hx hk
    have hg : (getObj p.c).run P w = .ok (.map ces L.length) w := by simp [getObj, Sem.run, h1]
    have hck : (Instr.checkKey false 10000 kt u).run P w = .ok () w := scalar_checkKey (n := 9999) (kindT_scalar hkk)
    obtain ⟨d, hd⟩ : ∃ d, undT P kt = some d := Option.isSome_iff_exists.1 (by
      have := kindT_scalar hkk
      unfold scalarT at this
      cases hq : undT P kt with
      | some d => rfl
      | none => rw [hq] at this; cases this)
    have hfind := pairs_find hd hkk hcell h2 0
    split at h
    · rename_i htest
      have hs := mfind_test hn hc htest
      cases hkey : keyIdx tk.den L 0 with
      | none => rw [hkey] at hs; cases hs
      | some j =>
        rw [hkey] at hfind
        obtain ⟨a, m, g1, g2, g3, g4, g5⟩ := hfind
        simp only [Nat.sub_zero] at g1 g2
        have hjl := (keyIdx_ge hkey).2
        simp only [Nat.sub_zero] at hjl
        obtain ⟨a', b', m', k1, k2, k3, k4, k5⟩ := h2.at j hjl
        rw [g2] at k2; cases k2
        rw [Nat.zero_add] at k5
        have hfk : (Instr.findKey kt u ces.toList).run P w = .ok (some (j, m.val)) w := by
          simp only [Instr.findKey, Sem.run_bind, run_underlying (undT_und hd), Result.andThen_ok, g5, Sem.run_pure]
        have hidx : (mkT nf .mfind [c, tk]).den = .int (j : Int) := by rw [mfind_den hn hc, hkey]
        obtain ⟨hsame, hbits⟩ := keyEq_same hkk hcell g4 g3
        have hat2 : ces[j]? = some m := by simpa using g2
        have hmod : (ces.modify j fun e => { e with key := u }) = ces := by rw [hsame]; exact modify_self m ces j hat2
        have hput : w.putObj p.c (.map ces L.length) = w := by
          have hlt : p.c < w.heap.size := (Array.getElem?_eq_some_iff.1 h1).1
          have hv : w.heap[p.c] = .map ces L.length := (Array.getElem?_eq_some_iff.1 h1).2
          unfold World.putObj
          rw [show w.heap.setIfInBounds p.c (.map ces L.length) = w.heap from by
            apply Array.ext
            · simp
            · intro j k1 k2
              rw [Array.getElem_setIfInBounds]
              split
              · rename_i e; subst e; exact hv.symm
              · rfl]
        have hkt : (Instr.keyThatStays m.key u).run P w = .ok u w := by simp [Instr.keyThatStays, hbits 10000 (by omega)]
        have hval : VR β (ofTm vk (mkT nf (.fld 1) [mkT nf .nth [c, mkT nf .mfind [c, tk]]])) m.val := by
          rw [ofTm_iff, pair_val hn hc hidx k1]; exact k4
        cases h
        refine ⟨.tuple #[m.val, goInt m.born], w, ?_, .tuple (.cons hval (.cons (ofTm_int (by rw [hidx, k5])) .nil)), hw, Tran.refl _ _ _ _⟩
        have hst : (setObj p.c (.map ces L.length)).run P w = .ok () w := by
          have : (setObj p.c (.map ces L.length)).run P w = .ok () (w.putObj p.c (.map ces L.length)) := by simp [setObj, Sem.run, h1, World.putObj]
          rw [this, hput]
        simp only [Instr.mapEntry, Sem.run_bind, run_underlying (undT_und hu), Result.andThen_ok, hg, hck, hfk]
        simp only [hat2, Option.map_some, Option.getD_some, hkt, Result.andThen_ok, hmod, hst, Sem.run_pure]
    · rename_i htest
      have hs := mfind_test hn hc htest
      cases hkey : keyIdx tk.den L 0 with
      | some j => rw [hkey] at hs; cases hs
      | none =>
        rw [hkey] at hfind
        have hfk : (Instr.findKey kt u ces.toList).run P w = .ok none w := by
          simp only [Instr.findKey, Sem.run_bind, run_underlying (undT_und hd), Result.andThen_ok, hfind, Sem.run_pure]
        split at h
        · rename_i z0 hz
          split at h
          · rename_i tz htz
            cases h
            obtain ⟨zv, z1, z2⟩ := zeroT_run (P := P) (β := β) (w := w) hz
            have hvc := tmOf_cell htz z2
            have hst := lmap_set (P := P) (ces' := ces.push { key := u, val := zv, born := L.length }) hw hget hp h1 (pair_new hn hc) (by rw [Array.toList_push]; have := h2.push hcell hvc; rwa [Nat.zero_add] at this)
            rw [List.length_append] at hst
            refine ⟨.tuple #[zv, goInt L.length], _, ?_, .tuple (.cons z2 (.cons (ofTm_int (by rw [mkT_den hn]; simp only [Tm.dens, hc, TOp.den])) .nil)), hst.2⟩
            simp only [Instr.mapEntry, Sem.run_bind, run_underlying (undT_und hu), Result.andThen_ok, hg, hck, hfk, z1]
            rw [show L.length + 1 = L.length + [D.list [tk.den, tz.den]].length from rfl]
            simp only [hst.1, Result.andThen_ok, Sem.run_pure]
          · cases h
        · cases h
    · cases h
  · cases h
theorem entryStoreL_run {nf : Tm → Tm} (hn : ∀ t, (nf t).den = t.den) {t : TypeId} {x s y : AV} {v u z : Value} {H' : AHeap} (hw : WR G β H.get H.next w) (h : entryStoreL nf H x s y = some H') (hx : VR β x v) (hs : VR β s u) (hy : VR β y z) :
    ∃ w', (Instr.entryStore t v u z).run P w = .ok () w' ∧ WR G β H'.get H'.next w' ∧ Tran β H.get H.next w β H'.get H'.next w' := by
  unfold entryStoreL at h
  split at h
  · rename_i b
    split at h
    · rename_i kk vk c hm
      split at h
      · rename_i kd i tv hsi htv
        split at h
        · rename_i hr
          cases h
          cases hx with
          | @map _ p hp =>
          obtain ⟨q, hq, L, ces, hc, h1, h2⟩ := hw.obj b _ (lmapOf_get hm)
          rw [hp] at hq; cases hq
          obtain ⟨n, hin, rfl⟩ := intTm_VR hsi hs
          have hvc := tmOf_cell htv hy
          obtain ⟨r1, r2⟩ := inRangeT_den hn hr hin (b := (L.length : Int)) (by rw [mkT_den hn]; simp only [Tm.dens, hc, TOp.den])
          obtain ⟨j, rfl⟩ : ∃ j : Nat, n = j := ⟨n.toNat, by omega⟩
          have hj : j < L.length := by omega
          obtain ⟨a', b', m', k1, k2, k3, k4, k5⟩ := h2.at j hj
          have hg : (getObj p.c).run P w = .ok (.map ces L.length) w := by simp [getObj, Sem.run, h1]
          have hidx : ces.findIdx? (fun e => (e.born : Int) == (j : Int)) = some j := by
            have := h2.born j hj
            rw [Nat.zero_add] at this
            obtain ⟨l⟩ := ces; simpa using this
          have hst := lmap_set (P := P) (ces' := ces.modify j fun e => { e with val := z }) hw (lmapOf_get hm) hp h1 (pair_set hn hc hin k1) (by rw [Array.toList_modify]; exact h2.setv hvc j hj)
          rw [List.length_set] at hst
          refine ⟨_, ?_, hst.2⟩
          simp only [Instr.entryStore, Sem.run_bind, hg, Result.andThen_ok, asInt, asIntOf, Sem.run_pure, hidx]
          exact hst.1
        · cases h
      · cases h
    · cases h
  · cases h
end
end Go.Tc
namespace Go.Tc
variable [Val]
section
variable {P : Program} {G : Nat} {β : Pl} {H : AHeap} {w : World}
theorem iterA_run {t : TypeId} {x r : AV} {v : Value} {H' : AHeap} (hw : WR G β H.get H.next w) (h : iterA P H t x = some (r, H')) (hx : VR β x v) :
    ∃ β' w' z, (Instr.range t v).run P w = .ok z w' ∧ VR β' r z ∧ WR G β' H'.get H'.next w' ∧ Tran β H.get H.next w β' H'.get H'.next w' := by
  have he := Pl.put_ext (β := β) ⟨w.heap.size, 0, 0⟩ (hw.fresh _ (Nat.le_refl _))
  unfold iterA at h
  split at h
  · rename_i k e hu
    cases h
    cases hx
    obtain ⟨j1, j2⟩ := hw.alloc (.mapIter none 0 #[] 0) 0 (.miter none 0 [] 0) ⟨rfl, by show (w.heap.push _)[_]? = _; simp⟩
    refine ⟨_, w.alloc (.mapIter none 0 #[] 0), .pointer (some ⟨w.heap.size, 0, none⟩), ?_, ?_, by rw [AHeap.get_new, AHeap.next_new]; exact j1, by rw [AHeap.get_new, AHeap.next_new]; exact j2⟩
    · simp [Instr.range, run_underlying (undT_und hu) w]
    · simpa using VR.ptr (β := β.put H.next ⟨w.heap.size, 0, 0⟩) (p := ⟨w.heap.size, 0, 0⟩) 0 (Pl.put_same β H.next _)
  · rename_i k e m hu
    split at h
    · rename_i es clock hm
      cases h
      cases hx with
      | @map _ p hp =>
      obtain ⟨ces, h1, h2⟩ := map_at hw hm hp
      have hg : (getObj p.c).run P w = .ok (.map ces clock) w := by simp [getObj, Sem.run, h1]
      obtain ⟨j1, j2⟩ := hw.alloc (.mapIter (some p.c) clock #[] clock) 0 (.miter (some m) clock [] clock) ⟨rfl, p, he _ _ hp, by show (w.heap.push _)[_]? = _; simp⟩
      refine ⟨_, w.alloc (.mapIter (some p.c) clock #[] clock), .pointer (some ⟨w.heap.size, 0, none⟩), ?_, ?_, by rw [AHeap.get_new, AHeap.next_new]; exact j1, by rw [AHeap.get_new, AHeap.next_new]; exact j2⟩
      · simp [Instr.range, run_underlying (undT_und hu) w, hg]
      · simpa using VR.ptr (β := β.put H.next ⟨w.heap.size, 0, 0⟩) (p := ⟨w.heap.size, 0, 0⟩) 0 (Pl.put_same β H.next _)
    · cases h
  · cases h
theorem EntsR.filter {es : List AEnt} {ms : List MapEntry} (f : Nat → Bool) (h : EntsR β es ms) : EntsR β (es.filter fun e => f e.born) (ms.filter fun e => f e.born) := by
  induction h with
  | nil => exact .nil
  | cons hk hv hb _ ih =>
    simp only [List.filter_cons, hb]
    split
    · exact .cons hk hv hb ih
    · exact ih
theorem EntsR.all {es : List AEnt} {ms : List MapEntry} (f : Nat → Bool) (h : EntsR β es ms) : (es.all fun e => f e.born) = (ms.all fun e => f e.born) ∧ es.isEmpty = ms.isEmpty := by
  induction h with
  | nil => exact ⟨rfl, rfl⟩
  | cons hk hv hb _ ih => exact ⟨by simp only [List.all_cons, hb, ih.1], rfl⟩
theorem EntsR.find {es : List AEnt} {ms : List MapEntry} {e : AEnt} (f : Nat → Bool) (h : EntsR β es ms) (hf : (es.find? fun e => f e.born) = some e) : ∃ m, (ms.find? fun e => f e.born) = some m ∧ VR β e.key m.key ∧ VR β e.val m.val := by
  induction h with
  | nil => cases hf
  | @cons a m0 es ms hk hv hb _ ih =>
    simp only [List.find?_cons, hb] at hf ⊢
    split at hf
    · rename_i h1
      cases hf
      exact ⟨m0, rfl, hk, hv⟩
    · rename_i h1
      exact ih hf
theorem nextA_run {it r : AV} {isString : Bool} {v : Value} {ty : TypeId} {H' : AHeap} (hw : WR G β H.get H.next w) (h : nextA H it isString = some (r, H')) (hx : VR β it v) :
    ∃ w' z, (Instr.next v isString ty).run P w = .ok z w' ∧ VR β r z ∧ WR G β H'.get H'.next w' ∧ Tran β H.get H.next w β H'.get H'.next w' := by
  have hover : VR β (.tuple [.bool false]) (.tuple #[.bool false]) := .tuple (.cons (.bool _) .nil)
  unfold nextA at h
  split at h
  · rename_i rb
    cases hx with
    | @ptr _ p _ hp =>
    split at h
    · rename_i since seen last hg
      cases h
      obtain ⟨q, hq, hb0, ho⟩ := hw.obj rb _ hg
      rw [hp] at hq; cases hq
      refine ⟨w, .tuple #[.bool false], ?_, hover, hw, Tran.refl _ _ _ _⟩
      have hgo : (getObj p.c).run P w = .ok (.mapIter none since seen.toArray last) w := by simp [getObj, Sem.run, ho]
      simp [Instr.next, hb0, hgo]
    · rename_i m since seen last hg
      obtain ⟨q, hq, hb0, qm, hqm, ho⟩ := hw.obj rb _ hg
      rw [hp] at hq; cases hq
      have hgo : (getObj p.c).run P w = .ok (.mapIter (some qm.c) since seen.toArray last) w := by simp [getObj, Sem.run, ho]
      split at h
      · rename_i es clock hm
        obtain ⟨ces, h1, h2⟩ := map_at hw hm hqm
        have hgm : (getObj qm.c).run P w = .ok (.map ces clock) w := by simp [getObj, Sem.run, h1]
        split at h
        · cases h
        · rename_i hstop
          have hall := h2.all fun b => decide (last ≤ b)
          have hstop' : (!seen.toArray.isEmpty && !ces.isEmpty && ces.all fun e => decide (e.born ≥ last)) = false := by
            have e1 : seen.toArray.isEmpty = seen.isEmpty := by simp
            have e2 : ces.isEmpty = es.isEmpty := by rw [hall.2]; simp
            have e3 : (ces.all fun e => decide (e.born ≥ last)) = es.all fun e => decide (last ≤ e.born) := by rw [hall.1, Array.all_toList]
            rw [e1, e2, e3]
            simpa using hstop
          have hfil := h2.filter fun b => !seen.contains b
          have hleft : (ces.filter fun e => !seen.toArray.contains e.born).toList = ces.toList.filter fun e => !seen.contains e.born := by
            rw [Array.toList_filter]; simp
          split at h
          · rename_i hnone
            cases h
            have hl0 : (ces.filter fun e => !seen.toArray.contains e.born) = #[] := by
              apply Array.ext'
              rw [hleft]
              have e : (es.filter fun e => !seen.contains e.born) = [] := hnone
              rw [e] at hfil
              generalize (ces.toList.filter fun e => !seen.contains e.born) = z at hfil
              cases hfil
              rfl
            refine ⟨w, .tuple #[.bool false], ?_, hover, hw, Tran.refl _ _ _ _⟩
            simp only [Instr.next, hb0, Nat.add_zero, Sem.run_bind, hgo, hgm, Result.andThen_ok, hstop', Bool.false_eq_true, if_false, hl0]
            simp [Question.forced]
          · rename_i e hone
            split at h
            · rename_i hold
              cases h
              have e1 : (es.filter fun e => !seen.contains e.born) = [e] := hone
              rw [e1] at hfil
              have hl1 : ∃ m0, (ces.filter fun e => !seen.toArray.contains e.born) = #[m0] ∧ VR β e.key m0.key ∧ VR β e.val m0.val ∧ e.born = m0.born := by
                generalize hz : (ces.toList.filter fun e => !seen.contains e.born) = z at hfil
                cases hfil with
                | @cons _ m0 _ _ hk hv hb hs =>
                  cases hs
                  exact ⟨m0, by apply Array.ext'; rw [hleft, hz], hk, hv, hb⟩
              obtain ⟨m0, hl1, hk, hv, hb⟩ := hl1
              have hold' : m0.born < since := by omega
              have hlt : p.c < w.heap.size := hw.bound _ _ hp
              have hset : (setObj p.c (.mapIter (some qm.c) since (seen ++ [m0.born]).toArray clock)).run P w = .ok () (w.putObj p.c (.mapIter (some qm.c) since (seen ++ [m0.born]).toArray clock)) := by simp [setObj, Sem.run, ho, World.putObj]
              have hturn := hw.turn hg rfl hp (w' := w.putObj p.c (.mapIter (some qm.c) since (seen ++ [m0.born]).toArray clock)) (o' := .miter (some m) since (seen ++ [e.born]) clock) (by simp) (fun c hc => World.putObj_heap_other hc) rfl rfl rfl
                ⟨hb0, qm, hqm, by rw [World.putObj_heap_same hlt, hb]⟩
              refine ⟨w.putObj p.c (.mapIter (some qm.c) since (seen ++ [m0.born]).toArray clock), .tuple #[.bool true, m0.key, m0.val], ?_, .tuple (.cons (.bool _) (.cons hk (.cons hv .nil))), ?_⟩
              · have hn2 : ¬ (m0.born ≥ since) := by omega
                simp only [Instr.next, hb0, Nat.add_zero, Sem.run_bind, hgo, hgm, Result.andThen_ok, hstop', Bool.false_eq_true, if_false, hl1]
                simp [hold', hn2, Question.forced, hset]
              · rw [AHeap.get_set, AHeap.next_set]; exact hturn
            · cases h
          · cases h
      · cases h
    · cases h
  · cases h
theorem entryA_run {it r : AV} {v : Value} (hw : WR G β H.get H.next w) (h : entryA H it = some r) (hx : VR β it v) : ∃ z, (Instr.entry v).run P w = .ok z w ∧ VR β r z := by
  unfold entryA at h
  split at h
  · rename_i rb
    cases hx with
    | @ptr _ p _ hp =>
    split at h
    · rename_i m since seen stepped hg
      obtain ⟨q, hq, hb0, qm, hqm, ho⟩ := hw.obj rb _ hg
      rw [hp] at hq; cases hq
      have hgo : (getObj p.c).run P w = .ok (.mapIter (some qm.c) since seen.toArray stepped) w := by simp [getObj, Sem.run, ho]
      split at h
      · rename_i stamp es clock hs hm
        obtain ⟨ces, h1, h2⟩ := map_at hw hm hqm
        have hgm : (getObj qm.c).run P w = .ok (.map ces clock) w := by simp [getObj, Sem.run, h1]
        split at h
        · rename_i hc
          subst hc
          rw [Option.map_eq_some_iff] at h
          obtain ⟨e, he, rfl⟩ := h
          obtain ⟨m0, hm0, hk, hv⟩ := h2.find (fun b => b == stamp) he
          refine ⟨.tuple #[m0.key, m0.val], ?_, .tuple (.cons hk (.cons hv .nil))⟩
          have hback : seen.toArray.back? = some stamp := by simpa using hs
          have hfa : ces.find? (fun e => e.born == stamp) = some m0 := by rw [← Array.find?_toList]; exact hm0
          simp [Instr.entry, hb0, hgo, hgm, hback, hfa]
        · cases h
      · cases h
    · cases h
  · cases h
end
end Go.Tc
