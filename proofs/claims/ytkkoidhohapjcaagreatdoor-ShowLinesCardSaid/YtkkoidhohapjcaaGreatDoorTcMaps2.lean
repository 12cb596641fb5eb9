/- The operations on maps. -/
import Derived.Test.YtkkoidhohapjcaaGreatDoorTcMaps
set_option linter.unusedSimpArgs false
set_option linter.unusedVariables false
set_option linter.unusedSectionVars false
namespace Go.Tc
variable [Val]

section
variable {P : Program} {G : Nat} {β : Pl} {H : AHeap} {w : World}

/-- what was found, on both sides. -/
structure Found (β : Pl) (k : AV) (es : List AEnt) (ms : List MapEntry) (i : Nat) (x : AV) (m : MapEntry) : Prop where
  ent : ∃ e, es[i]? = some e ∧ e.key = k ∧ e.val = x ∧ e.born = m.born
  at_ : ms[i]? = some m
  key : VR β k m.key
  val : VR β x m.val

theorem findKey_run {n : Nat} (hw : WR G β H.get n w) {kt : TypeId} {k : AV} {v : Value} (hk : VR β k v) {es : List AEnt} {ms : List MapEntry} {r : Option (Nat × AV)} (he : EntsR β es ms)
    (h : findA (keyEqA P H kt) es k 0 = some r) (hd : (undT P kt).isSome = true) :
    match r with
    | none => (Instr.findKey kt v ms).run P w = .ok none w
    | some (i, x) => ∃ m, Found β k es ms i x m ∧ (Instr.findKey kt v ms).run P w = .ok (some (i, m.val)) w := by
  obtain ⟨d, hd⟩ := Option.isSome_iff_exists.1 hd
  by_cases hs : ∃ fs, d = .struct fs
  · obtain ⟨fs, rfl⟩ := hs
    have := findA_asking hw hd hk es ms 0 r he h
    cases he with
    | nil =>
      cases h
      simp only [Instr.findKey, Sem.run_bind, run_underlying (undT_und hd), Result.andThen_ok, Instr.findNow, Sem.run_pure]
    | cons h1 h2 h3 h4 =>
      rename_i e m es ms
      have hn : ∀ i, Instr.findNow (.struct fs) v (m :: ms) i = none := by intro i; simp [Instr.findNow, Instr.sameNow]
      cases r with
      | none => simp only [Instr.findKey, Sem.run_bind, run_underlying (undT_und hd), Result.andThen_ok, hn]; exact this
      | some p =>
        obtain ⟨j, x⟩ := p
        obtain ⟨e', m', g1, g2, g3, g4, g5, g6, g7, g8, g9⟩ := this
        refine ⟨m', ⟨⟨e', g1, g4, g5, g8⟩, g2, g6, g7⟩, ?_⟩
        simp only [Instr.findKey, Sem.run_bind, run_underlying (undT_und hd), Result.andThen_ok, hn]; exact g9
  · have hns : ∀ fs, d ≠ .struct fs := fun fs e => hs ⟨fs, e⟩
    have := findA_now hd hns hk es ms 0 r he h
    cases r with
    | none => simp only [Instr.findKey, Sem.run_bind, run_underlying (undT_und hd), Result.andThen_ok, this, Sem.run_pure]
    | some p =>
      obtain ⟨j, x⟩ := p
      obtain ⟨e', m', g1, g2, g3, g4, g5, g6, g7, g8, g9⟩ := this
      refine ⟨m', ⟨⟨e', g1, g4, g5, g8⟩, g2, g6, g7⟩, ?_⟩
      simp only [Instr.findKey, Sem.run_bind, run_underlying (undT_und hd), Result.andThen_ok, g9, Sem.run_pure]

omit [Val] in
theorem keyOk_und {t : TypeId} {k : AV} (h : keyOk P t k = true) : (undT P t).isSome = true := by
  unfold keyOk at h
  rw [Bool.and_eq_true] at h
  cases hu : undT P t with
  | some d => rfl
  | none => rw [hu] at h; simp [scalarT, hu] at h

theorem map_at {n b : Nat} {es : List AEnt} {clock : Nat} {p : Place} (hw : WR G β H.get n w) (h : mapOf H b = some (es, clock)) (hp : β b = some p) :
    ∃ ces, w.heap[p.c]? = some (.map ces clock) ∧ EntsR β es ces.toList := by
  obtain ⟨q, hq, ces, h1, h2⟩ := hw.obj b _ (mapOf_get h)
  rw [hp] at hq; cases hq
  exact ⟨ces, h1, h2⟩

theorem lookupA_run {n : Nat} {t : TypeId} {x ix r : AV} {ok : Bool} {v u : Value} (hw : WR G β H.get n w) (h : lookupA P H t x ix ok = some r) (hx : VR β x v) (hi : VR β ix u) :
    ∃ z, (Instr.lookup t v u ok).run P w = .ok z w ∧ VR β r z := by
  unfold lookupA at h
  split at h
  · rename_i k e hu
    split at h
    · cases h
    · rename_i hk
      have hk : keyOk P k ix = true := by simpa using hk
      split at h
      · rename_i es hes
        have hm : ∃ ces : Array MapEntry, EntsR β es ces.toList ∧ ∀ q : Option (Nat × Value), (Instr.findKey k u ces.toList).run P w = .ok q w →
            (Instr.lookup t v u ok).run P w = (do
              let (y, b) ← match q with
                | some (_, y) => pure (y, true)
                | none => do pure (← zeroValue e, false)
              pure (if ok then .tuple #[y, .bool b] else y) : Sem Value).run P w := by
          cases hx <;> try (simp at hes; done)
          · simp only [Option.some.injEq] at hes
            subst hes
            refine ⟨#[], .nil, fun q hq => ?_⟩
            have hck : (Instr.checkKey (#[] : Array MapEntry).isEmpty 10000 k u).run P w = .ok () w := keyOk_checkKey (n := 9998) hk hi
            simp only [Instr.lookup, Sem.run_bind, run_underlying (undT_und hu), Result.andThen_ok, Sem.run_pure, hck, hq]
            rcases q with _ | ⟨_, _⟩ <;> rfl
          · rename_i b p hp
            simp only [Option.map_eq_some_iff] at hes
            obtain ⟨⟨es', clock⟩, hm, rfl⟩ := hes
            obtain ⟨ces, h1, h2⟩ := map_at hw hm hp
            refine ⟨ces, h2, fun q hq => ?_⟩
            have hg : (getObj p.c).run P w = .ok (.map ces clock) w := by simp [getObj, Sem.run, h1]
            have hck : (Instr.checkKey ces.isEmpty 10000 k u).run P w = .ok () w := keyOk_checkKey (n := 9998) hk hi
            simp only [Instr.lookup, Sem.run_bind, run_underlying (undT_und hu), Result.andThen_ok, Sem.run_pure, hg, hck, hq]
            rcases q with _ | ⟨_, _⟩ <;> rfl
        obtain ⟨ces, hm2, hrun⟩ := hm
        split at h
        · rename_i j y hf
          cases h
          obtain ⟨m, hfd, hfk⟩ := findKey_run hw hi hm2 hf (keyOk_und hk)
          refine ⟨if ok then .tuple #[m.val, .bool true] else m.val, ?_, ?_⟩
          · rw [hrun _ hfk]; rfl
          · cases ok
            · exact hfd.val
            · exact .tuple (.cons hfd.val (.cons (.bool true) .nil))
        · rename_i hf
          have hfk := findKey_run hw hi hm2 hf (keyOk_und hk)
          rw [Option.map_eq_some_iff] at h
          obtain ⟨z, hz, rfl⟩ := h
          obtain ⟨zv, h1, h2⟩ := zeroT_run (P := P) (β := β) (w := w) hz
          refine ⟨if ok then .tuple #[zv, .bool false] else zv, ?_, ?_⟩
          · rw [hrun _ hfk]; simp only [Sem.run_bind, h1, Result.andThen_ok, Sem.run_pure]
          · cases ok
            · exact h2
            · exact .tuple (.cons h2 (.cons (.bool false) .nil))
        · cases h
      · cases h
  · cases h

/-- an unknown key that is none of those that are there. -/
theorem absent_now {nf : Tm → Tm} (hn : ∀ t, (nf t).den = t.den) {d : TypeDesc} {ix : AV} {v : Value} (hk : VR β ix v) : ∀ {es : List AEnt} {ms : List MapEntry} (i : Nat), EntsR β es ms → absentA nf d ix es = true → Instr.findNow d v ms i = some none
  | [], _, i, he, h => by cases he; rfl
  | e :: es, _, i, he, h => by
    cases he with
    | cons h1 h2 h3 h4 =>
    rename_i m ms
    have hrest : absentA nf d ix es = true := by
      unfold absentA at h ⊢
      split at h
      · simp only [List.all_cons, Bool.and_eq_true] at h; exact h.2
      · simp only [List.all_cons, Bool.and_eq_true] at h; exact h.2
      · cases h
    have ih := absent_now hn hk (i + 1) h4 hrest
    have hs : Instr.sameNow d v m.key = some false := by
      unfold absentA at h
      split at h
      · rename_i k s
        simp only [List.all_cons, Bool.and_eq_true] at h
        obtain ⟨h, -⟩ := h
        split at h
        · rename_i j n hkey
          rw [hkey] at h1
          generalize m.key = mk at h1
          cases h1
          simp only [Bool.and_eq_true, decide_eq_true_eq] at h
          obtain ⟨rfl, h⟩ := h
          cases hk with | sy hcell =>
          generalize hd : s.den = dd at hcell
          cases hcell with | int _ x =>
          split at h
          · rename_i hm
            have := mkT_den hn (.bin .eql .i64) [s, .int n]
            rw [hm] at this
            simp only [Tm.den, Tm.dens, hd, TOp.den, intD, D.bool.injEq] at this
            simp only [Instr.sameNow, if_true, ← this]
          · cases h
        · cases h
      · rename_i s
        simp only [List.all_cons, Bool.and_eq_true] at h
        obtain ⟨h, -⟩ := h
        split at h
        · rename_i n hkey
          rw [hkey] at h1
          generalize m.key = mk at h1
          obtain ⟨sb, rfl, rfl⟩ : ∃ sb : ByteArray, mk = .string sb ∧ n = BS.of sb := by cases h1; exact ⟨_, rfl, rfl⟩
          cases hk with | sy hcell =>
          generalize hd : s.den = dd at hcell
          cases hcell with | str x =>
          split at h
          · rename_i hm
            have := mkT_den hn (.sbin .eql) [s, .str (BS.of sb)]
            rw [hm] at this
            simp only [Tm.den, Tm.dens, hd, TOp.den, strD, D.bool.injEq] at this
            rw [BS.eq_of, ← beq_toListBytes] at this
            exact congrArg some this.symm
          · cases h
        · cases h
      · cases h
    simp only [Instr.findNow, hs]; exact ih

theorem lookupS_run {nf : Tm → Tm} (hn : ∀ t, (nf t).den = t.den) {n : Nat} {t : TypeId} {x ix r : AV} {ok : Bool} {v u : Value} (hw : WR G β H.get n w) (h : lookupS P nf H t x ix ok = some r) (hx : VR β x v) (hi : VR β ix u) :
    ∃ z, (Instr.lookup t v u ok).run P w = .ok z w ∧ VR β r z := by
  unfold lookupS at h
  split at h
  · rename_i k e hu
    split at h
    · rename_i d es hd hes
      split at h
      · rename_i hab
        have hsc : scalarT P k = true := by
          unfold absentA at hab
          unfold scalarT
          rw [hd]
          split at hab
          · rfl
          · rfl
          · cases hab
        have hm : ∃ ces : Array MapEntry, EntsR β es ces.toList ∧ ∀ q : Option (Nat × Value), (Instr.findKey k u ces.toList).run P w = .ok q w →
            (Instr.lookup t v u ok).run P w = (do
              let (y, b) ← match q with
                | some (_, y) => pure (y, true)
                | none => do pure (← zeroValue e, false)
              pure (if ok then .tuple #[y, .bool b] else y) : Sem Value).run P w := by
          cases hx <;> try (simp at hes; done)
          · simp only [Option.some.injEq] at hes
            subst hes
            refine ⟨#[], .nil, fun q hq => ?_⟩
            have hck : (Instr.checkKey (#[] : Array MapEntry).isEmpty 10000 k u).run P w = .ok () w := scalar_checkKey (n := 9999) hsc
            simp only [Instr.lookup, Sem.run_bind, run_underlying (undT_und hu), Result.andThen_ok, Sem.run_pure, hck, hq]
            rcases q with _ | ⟨_, _⟩ <;> rfl
          · rename_i b p hp
            simp only [Option.map_eq_some_iff] at hes
            obtain ⟨⟨es', clock⟩, hm, rfl⟩ := hes
            obtain ⟨ces, h1, h2⟩ := map_at hw hm hp
            refine ⟨ces, h2, fun q hq => ?_⟩
            have hg : (getObj p.c).run P w = .ok (.map ces clock) w := by simp [getObj, Sem.run, h1]
            have hck : (Instr.checkKey ces.isEmpty 10000 k u).run P w = .ok () w := scalar_checkKey (n := 9999) hsc
            simp only [Instr.lookup, Sem.run_bind, run_underlying (undT_und hu), Result.andThen_ok, Sem.run_pure, hg, hck, hq]
            rcases q with _ | ⟨_, _⟩ <;> rfl
        obtain ⟨ces, hm2, hrun⟩ := hm
        have hfk : (Instr.findKey k u ces.toList).run P w = .ok none w := by
          simp only [Instr.findKey, Sem.run_bind, run_underlying (undT_und hd), Result.andThen_ok, absent_now hn hi 0 hm2 hab, Sem.run_pure]
        rw [Option.map_eq_some_iff] at h
        obtain ⟨z, hz, rfl⟩ := h
        obtain ⟨zv, h1, h2⟩ := zeroT_run (P := P) (β := β) (w := w) hz
        refine ⟨if ok then .tuple #[zv, .bool false] else zv, ?_, ?_⟩
        · rw [hrun _ hfk]; simp only [Sem.run_bind, h1, Result.andThen_ok, Sem.run_pure]
        · cases ok
          · exact h2
          · exact .tuple (.cons h2 (.cons (.bool false) .nil))
      · cases h
    · cases h
  · cases h

theorem EntsR.append {a b : List AEnt} {m n : List MapEntry} (h : EntsR β a m) (k : EntsR β b n) : EntsR β (a ++ b) (m ++ n) := by
  induction h with
  | nil => exact k
  | cons hk hv hb _ ih => exact .cons hk hv hb ih
theorem EntsR.setVal {x : AV} {v : Value} (hx : VR β x v) : ∀ {a : List AEnt} {m : List MapEntry} (i : Nat), EntsR β a m → EntsR β (setVal a i x) (m.modify i fun e => { e with val := v })
  | [], _, i, h => by cases h; cases i <;> exact .nil
  | _ :: _, _, 0, h => by cases h with | cons hk hv hb hs => exact .cons hk hx hb hs
  | _ :: _, _, i + 1, h => by cases h with | cons hk hv hb hs => exact .cons hk hv hb (EntsR.setVal hx i hs)
theorem EntsR.delAt : ∀ {a : List AEnt} {m : List MapEntry} (i : Nat), EntsR β a m → EntsR β (delAt a i) (m.eraseIdx i)
  | [], _, i, h => by cases h; exact .nil
  | _ :: _, _, 0, h => by cases h with | cons hk hv hb hs => exact hs
  | _ :: _, _, i + 1, h => by cases h with | cons hk hv hb hs => exact .cons hk hv hb (EntsR.delAt i hs)

/-- a map's block is laid anew. -/
theorem map_set {b : Nat} {es es' : List AEnt} {ces' : Array MapEntry} {clock clock' : Nat} {p : Place} (hw : WR G β H.get H.next w) (h : mapOf H b = some (es, clock)) (hp : β b = some p) (he : EntsR β es' ces'.toList) :
    (setObj p.c (.map ces' clock')).run P w = .ok () (w.putObj p.c (.map ces' clock')) ∧ WR G β (H.set b (.map es' clock')).get (H.set b (.map es' clock')).next (w.putObj p.c (.map ces' clock')) ∧
      Tran β H.get H.next w β (H.set b (.map es' clock')).get (H.set b (.map es' clock')).next (w.putObj p.c (.map ces' clock')) := by
  obtain ⟨ces, h1, h2⟩ := map_at hw h hp
  have hlt : p.c < w.heap.size := (Array.getElem?_eq_some_iff.1 h1).1
  refine ⟨by simp [setObj, Sem.run, h1, World.putObj], ?_⟩
  have := hw.turn (mapOf_get h) rfl hp (w' := w.putObj p.c (.map ces' clock')) (o' := .map es' clock') (by simp) (fun c hc => World.putObj_heap_other hc) rfl rfl rfl ⟨ces', World.putObj_heap_same hlt, he⟩
  rw [AHeap.get_set, AHeap.next_set]
  exact this

omit [Val] in
theorem modify_self (m : MapEntry) (ces : Array MapEntry) (i : Nat) (h : ces[i]? = some m) : (ces.modify i fun e => { e with key := m.key }) = ces := by
  apply Array.ext
  · simp
  · intro j h1 h2
    rw [Array.getElem_modify]
    split
    · rename_i e; subst e
      have : ces[i] = m := Option.some.inj ((Array.getElem?_eq_getElem h2).symm.trans h)
      rw [this]
    · rfl

theorem mapUpdateA_run {t : TypeId} {x k y : AV} {v u z : Value} {H' : AHeap} (hw : WR G β H.get H.next w) (h : mapUpdateA P H t x k y = some H') (hx : VR β x v) (hk : VR β k u) (hy : VR β y z) :
    ∃ w', (Instr.mapUpdate t v u z).run P w = .ok () w' ∧ WR G β H'.get H'.next w' ∧ Tran β H.get H.next w β H'.get H'.next w' := by
  unfold mapUpdateA at h
  split at h
  · rename_i kt e b hu
    cases hx with
    | @map _ p hp =>
    split at h
    · cases h
    · rename_i hko
      have hko : keyOk P kt k = true := by simpa using hko
      split at h
      · rename_i es clock hm
        obtain ⟨ces, h1, h2⟩ := map_at hw hm hp
        have hg : (getObj p.c).run P w = .ok (.map ces clock) w := by simp [getObj, Sem.run, h1]
        have hck : (Instr.checkKey false 10000 kt u).run P w = .ok () w := keyOk_checkKey (n := 9998) hko hk
        split at h
        · rename_i i y0 hf
          cases h
          obtain ⟨m, hfd, hfk⟩ := findKey_run hw hk h2 hf (keyOk_und hko)
          have hpk : plainKey 3 k = true := by unfold keyOk at hko; rw [Bool.and_eq_true] at hko; exact hko.1
          obtain ⟨hsame, hbits⟩ := plainKey_same 3 k hpk _ _ hfd.key hk
          have hat : ces[i]? = some m := by simpa using hfd.at_
          have hmod : (ces.modify i fun e => { e with key := u, val := z }) = ces.modify i fun e => { e with val := z } := by
            apply Array.ext
            · simp
            · intro j k1 k2
              rw [Array.getElem_modify, Array.getElem_modify]
              split
              · rename_i e; subst e
                have : ces[i]'(by simpa using k1) = m := Option.some.inj ((Array.getElem?_eq_getElem (by simpa using k1)).symm.trans hat)
                rw [this, ← hsame]
              · rfl
          have hs := map_set (P := P) (clock' := clock) (ces' := ces.modify i fun e => { e with val := z }) hw hm hp (es' := setVal es i y) (by rw [Array.toList_modify]; exact EntsR.setVal hy i h2)
          refine ⟨_, ?_, hs.2⟩
          have hkt : (Instr.keyThatStays m.key u).run P w = .ok u w := by simp [Instr.keyThatStays, hbits 10000 (by omega)]
          simp only [Instr.mapUpdate, Sem.run_bind, run_underlying (undT_und hu), Result.andThen_ok, hg, hck, hfk]
          simp only [hat, Option.map_some, Option.getD_some, hkt, Result.andThen_ok, hmod, hs.1]
        · rename_i hf
          cases h
          have hfk := findKey_run hw hk h2 hf (keyOk_und hko)
          have hs := map_set (P := P) (clock' := clock + 1) (ces' := ces.push { key := u, val := z, born := clock }) hw hm hp (es' := es ++ [⟨k, y, clock⟩]) (by rw [Array.toList_push]; exact h2.append (.cons hk hy rfl .nil))
          refine ⟨_, ?_, hs.2⟩
          simp only [Instr.mapUpdate, Sem.run_bind, run_underlying (undT_und hu), Result.andThen_ok, hg, hck, hfk]
          exact hs.1
        · cases h
      · cases h
  · cases h

theorem mapEntryA_run {t : TypeId} {x k r : AV} {v u : Value} {H' : AHeap} (hw : WR G β H.get H.next w) (h : mapEntryA P H t x k = some (r, H')) (hx : VR β x v) (hk : VR β k u) :
    ∃ z w', (Instr.mapEntry t v u).run P w = .ok z w' ∧ VR β r z ∧ WR G β H'.get H'.next w' ∧ Tran β H.get H.next w β H'.get H'.next w' := by
  unfold mapEntryA at h
  split at h
  · rename_i kt e b hu
    cases hx with
    | @map _ p hp =>
    split at h
    · cases h
    · rename_i hko
      have hko : keyOk P kt k = true := by simpa using hko
      split at h
      · rename_i es clock hm
        obtain ⟨ces, h1, h2⟩ := map_at hw hm hp
        have hg : (getObj p.c).run P w = .ok (.map ces clock) w := by simp [getObj, Sem.run, h1]
        have hck : (Instr.checkKey false 10000 kt u).run P w = .ok () w := keyOk_checkKey (n := 9998) hko hk
        split at h
        · cases h
        · rename_i i y0 hf
          split at h
          · rename_i en hen
            simp only [Option.some.injEq, Prod.mk.injEq] at h
            obtain ⟨rfl, rfl⟩ := h
            obtain ⟨m, hfd, hfk⟩ := findKey_run hw hk h2 hf (keyOk_und hko)
            obtain ⟨en', g1, g2, g3, g4⟩ := hfd.ent
            rw [hen] at g1; cases g1
            have hpk : plainKey 3 k = true := by unfold keyOk at hko; rw [Bool.and_eq_true] at hko; exact hko.1
            obtain ⟨hsame, hbits⟩ := plainKey_same 3 k hpk _ _ hfd.key hk
            have hat : ces[i]? = some m := by simpa using hfd.at_
            have hkt : (Instr.keyThatStays m.key u).run P w = .ok u w := by simp [Instr.keyThatStays, hbits 10000 (by omega)]
            have hmod : (ces.modify i fun e => { e with key := u }) = ces := by rw [← hsame]; exact modify_self m ces i hat
            have hput : w.putObj p.c (.map ces clock) = w := by
              have hlt : p.c < w.heap.size := (Array.getElem?_eq_some_iff.1 h1).1
              have hv : w.heap[p.c] = .map ces clock := (Array.getElem?_eq_some_iff.1 h1).2
              unfold World.putObj
              rw [show w.heap.setIfInBounds p.c (.map ces clock) = w.heap from by
                apply Array.ext
                · simp
                · intro j k1 k2
                  rw [Array.getElem_setIfInBounds]
                  split
                  · rename_i e; subst e; exact hv.symm
                  · rfl]
            refine ⟨.tuple #[m.val, goInt m.born], w, ?_, ?_, hw, Tran.refl _ _ _ _⟩
            · have hs : (setObj p.c (.map ces clock)).run P w = .ok () w := by
                have : (setObj p.c (.map ces clock)).run P w = .ok () (w.putObj p.c (.map ces clock)) := by simp [setObj, Sem.run, h1, World.putObj]
                rw [this, hput]
              simp only [Instr.mapEntry, Sem.run_bind, run_underlying (undT_und hu), Result.andThen_ok, hg, hck, hfk]
              simp only [hat, Option.map_some, Option.getD_some, hkt, Result.andThen_ok, hmod, hs, Sem.run_pure]
            · rw [g4]
              exact .tuple (.cons hfd.val (.cons (.int _ _) .nil))
          · cases h
        · rename_i hf
          split at h
          · rename_i z0 hz
            simp only [Option.some.injEq, Prod.mk.injEq] at h
            obtain ⟨rfl, rfl⟩ := h
            obtain ⟨zv, k1, k2⟩ := zeroT_run (P := P) (β := β) (w := w) hz
            have hfk := findKey_run hw hk h2 hf (keyOk_und hko)
            have hs := map_set (P := P) (clock' := clock + 1) (ces' := ces.push { key := u, val := zv, born := clock }) hw hm hp (es' := es ++ [⟨k, z0, clock⟩]) (by rw [Array.toList_push]; exact h2.append (.cons hk k2 rfl .nil))
            refine ⟨.tuple #[zv, goInt clock], _, ?_, .tuple (.cons k2 (.cons (.int _ _) .nil)), hs.2⟩
            simp only [Instr.mapEntry, Sem.run_bind, run_underlying (undT_und hu), Result.andThen_ok, hg, hck, hfk, k1, hs.1, Sem.run_pure]
          · cases h
      · cases h
  · cases h

theorem findBorn_run {born : Int} : ∀ (es : List AEnt) (ms : List MapEntry) (i j : Nat), EntsR β es ms → findBorn es born i = some j → i ≤ j ∧ ms.findIdx? (fun e => (e.born : Int) == born) = some (j - i)
  | [], _, i, j, he, h => by simp [findBorn] at h
  | e :: es, _, i, j, he, h => by
    cases he with
    | cons h1 h2 h3 h4 =>
    rename_i m ms
    simp only [findBorn] at h
    rw [List.findIdx?_cons]
    split at h
    · rename_i hb
      cases h
      rw [h3] at hb
      simp [hb]
    · rename_i hb
      obtain ⟨g1, g2⟩ := findBorn_run es ms (i + 1) j h4 h
      rw [h3] at hb
      refine ⟨by omega, ?_⟩
      rw [if_neg hb, g2, Option.map_some, show j - (i + 1) + 1 = j - i from by omega]

theorem entryStoreA_run {t : TypeId} {x s y : AV} {v u z : Value} {H' : AHeap} (hw : WR G β H.get H.next w) (h : entryStoreA H x s y = some H') (hx : VR β x v) (hs : VR β s u) (hy : VR β y z) :
    ∃ w', (Instr.entryStore t v u z).run P w = .ok () w' ∧ WR G β H'.get H'.next w' ∧ Tran β H.get H.next w β H'.get H'.next w' := by
  unfold entryStoreA at h
  split at h
  · rename_i b k n
    cases hx with
    | @map _ p hp =>
    cases hs
    split at h
    · rename_i es clock hm
      split at h
      · rename_i i hf
        cases h
        obtain ⟨ces, h1, h2⟩ := map_at hw hm hp
        have hg : (getObj p.c).run P w = .ok (.map ces clock) w := by simp [getObj, Sem.run, h1]
        obtain ⟨-, hidx⟩ := findBorn_run es ces.toList 0 i h2 hf
        have hidx : ces.findIdx? (fun e => (e.born : Int) == n) = some i := by obtain ⟨l⟩ := ces; simpa using hidx
        have hst := map_set (P := P) (clock' := clock) (ces' := ces.modify i fun e => { e with val := z }) hw hm hp (es' := setVal es i y) (by rw [Array.toList_modify]; exact EntsR.setVal hy i h2)
        refine ⟨_, ?_, hst.2⟩
        simp only [Instr.entryStore, Sem.run_bind, hg, Result.andThen_ok, asInt, asIntOf, Sem.run_pure, hidx]
        exact hst.1
      · cases h
    · cases h
  · cases h

theorem deleteA_run {t ty : TypeId} {ts : List TypeId} {x k : AV} {v u : Value} {H' : AHeap} (hw : WR G β H.get H.next w) (h : deleteA P H t x k = some H') (hx : VR β x v) (hk : VR β k u) :
    ∃ w', (Builtin.delete_ (t :: ts).toArray ty #[v, u]).run P w = .ok (.tuple #[]) w' ∧ WR G β H'.get H'.next w' ∧ Tran β H.get H.next w β H'.get H'.next w' := by
  unfold deleteA at h
  split at h
  · rename_i kt e hu
    cases hx
    split at h
    · rename_i hko
      cases h
      have hck : (Instr.checkKey true 10000 kt u).run P w = .ok () w := keyOk_checkKey (n := 9998) hko hk
      refine ⟨w, ?_, hw, Tran.refl _ _ _ _⟩
      simp [Builtin.delete_, run_underlying (undT_und hu), hck]
    · cases h
  · rename_i kt e b hu
    cases hx with
    | @map _ p hp =>
    split at h
    · cases h
    · rename_i hko
      have hko : keyOk P kt k = true := by simpa using hko
      split at h
      · rename_i es clock hm
        obtain ⟨ces, h1, h2⟩ := map_at hw hm hp
        have hg : (getObj p.c).run P w = .ok (.map ces clock) w := by simp [getObj, Sem.run, h1]
        have hck : (Instr.checkKey ces.isEmpty 10000 kt u).run P w = .ok () w := keyOk_checkKey (n := 9998) hko hk
        split at h
        · rename_i i y0 hf
          cases h
          obtain ⟨m, hfd, hfk⟩ := findKey_run hw hk h2 hf (keyOk_und hko)
          have hlt : i < ces.size := (Array.getElem?_eq_some_iff.1 (show ces[i]? = some m by simpa using hfd.at_)).1
          have hs := map_set (P := P) (clock' := clock) (ces' := ces.eraseIdxIfInBounds i) hw hm hp (es' := delAt es i) (by
            rw [Array.toList_eraseIdxIfInBounds]; exact EntsR.delAt i h2)
          refine ⟨_, ?_, hs.2⟩
          simp [Builtin.delete_, run_underlying (undT_und hu), hg, hck, hfk, hs.1]
        · rename_i hf
          cases h
          have hfk := findKey_run hw hk h2 hf (keyOk_und hko)
          have hlt : p.c < w.heap.size := (Array.getElem?_eq_some_iff.1 h1).1
          have hv : w.heap[p.c] = .map ces clock := (Array.getElem?_eq_some_iff.1 h1).2
          have hs : (setObj p.c (.map ces clock)).run P w = .ok () w := by
            have e1 : (setObj p.c (.map ces clock)).run P w = .ok () (w.putObj p.c (.map ces clock)) := by simp [setObj, Sem.run, h1, World.putObj]
            rw [e1]
            unfold World.putObj
            rw [show w.heap.setIfInBounds p.c (.map ces clock) = w.heap from by
              apply Array.ext
              · simp
              · intro j k1 k2
                rw [Array.getElem_setIfInBounds]
                split
                · rename_i e; subst e; exact hv.symm
                · rfl]
          refine ⟨w, ?_, hw, Tran.refl _ _ _ _⟩
          simp [Builtin.delete_, run_underlying (undT_und hu), hg, hck, hfk, hs]
        · cases h
      · cases h
  · cases h

end
end Go.Tc
