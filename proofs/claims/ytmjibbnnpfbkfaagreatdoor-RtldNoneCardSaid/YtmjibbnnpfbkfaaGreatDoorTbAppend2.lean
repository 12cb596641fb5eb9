/- append, copy and their kin, on the evaluator's side. -/
import Derived.Test.YtmjibbnnpfbkfaaGreatDoorTbAppend
set_option linter.unusedSimpArgs false
set_option linter.unusedVariables false
set_option linter.unusedSectionVars false
namespace Go.Tb

section
variable {P : Program} {G : Nat} {β : Pl} {H : AHeap} {w : World}

theorem sizeT_all {t n : Nat} (h : sizeT P t = some n) (w : World) : (sizeOf t).run P w = .ok n w := sizeT_run h

theorem srcCells_len {x : AV} {n size : Nat} {l : List AV} (h : srcCells H n size x = some l) (hn : srcLen x = some n) : l.length = n * size := by
  unfold srcCells at h
  split at h
  · split at h
    · rename_i h0; cases h; simp [h0]
    · cases h
  · split at h
    · rename_i h0; cases h; simp [h0]
    · cases h
  · split at h
    · rename_i h0; cases h; simp [h0]
    · unfold loadN at h
      split at h
      · obtain ⟨rfl, hl⟩ := takeN_take _ _ _ h
        simp; rw [List.length_drop] at hl; omega
      · cases h
  · rename_i s
    split at h
    · rename_i h0
      cases h
      simp only [srcLen, Option.some.injEq] at hn
      subst hn
      have : ∀ (s : BS) (k : Nat), (s.nats k).length = k := by
        intro s k; induction k with
        | zero => rfl
        | succ k ih => simp [BS.nats, ih]
      rw [List.length_map, List.length_take, this]
      rcases h0 with h0 | h0
      · rw [h0]; simp
      · rw [h0]; simp
    · cases h
  · cases h

theorem VRs.replicate_junk (n : Nat) (f : Nat → Nat) (hf : ∀ i, f i < 256) : VRs β (List.replicate n .junk) ((List.range n).map fun i => Value.int .u8 (f i)) := by
  refine VRs.of_get (by simp) fun i x hx => ?_
  have hlt : i < n := by have := (List.getElem?_eq_some_iff.1 hx).1; simpa using this
  have : x = .junk := by simpa [hlt] using hx.symm
  subst this
  exact ⟨.int .u8 (f i), by simp [hlt], .junk _ (hf i)⟩

/-- the new row of an append: its value, heap and world. -/
theorem grow_value {e : TypeId} {base : Option Addr} {len c n size by8 : Nat} {A : Value → Sem Value} {oldA newA : List AV} {old new : List Value} {fz : Nat} {sish : Bool} {g0 : Nat → Option AObj} {z : AV}
    (hw : WR G β H.get H.next w) (hg : ∀ b o, g0 b = some o → H.get b = some o) (hz : zeroT P e = some z) (hzl : z.cells.length = size) (h0 : size ≠ 0) (hle : (len + n) * by8 ≤ 2 ^ 40) (hle2 : len + n ≤ 2 ^ 40) (hgt : c < len + n)
    (hold : (Builtin.firstCells size len (.slice base len c)).run P w.drew = .ok old.toArray w.drew)
    (hgrow : ∀ zv, (∀ w, (zeroValue e).run P w = .ok zv w) → ∀ (base : Option Addr) (len c : Nat) (old : List Value), c < len + n → (len + n) * by8 ≤ 2 ^ 40 → len + n ≤ 2 ^ 40 → (Builtin.firstCells size len (.slice base len c)).run P w.drew = .ok old.toArray w.drew →
      (A (.slice base len c)).run P w = .ok (.slice (some ⟨w.heap.size, 0, none⟩) (len + n) (drawnCap w (len + n) c e)) (w.drew.alloc (.cells (old ++ new ++ (Builtin.zeroCells zv.cells (drawnCap w (len + n) c e - (len + n))).toList).toArray e)))
    (ho : VRs β oldA old) (hn2 : VRs β newA new) (hol : old.length = len * size) (hnl : new.length = n * size) :
    ∃ β' w' u, (A (.slice base len c)).run P w = .ok u w' ∧ VR β' (.slice H.next 0 (len + n) (.opn size)) u ∧
      WR G β' (fun x => if x = H.next then some (.row (oldA ++ newA) e (.buf fz sish)) else g0 x) (H.next + 1) w' ∧
      Tran β H.get H.next w β' (fun x => if x = H.next then some (.row (oldA ++ newA) e (.buf fz sish)) else g0 x) (H.next + 1) w' := by
  obtain ⟨iz, zv, hz1, hz2, hz3⟩ := zeroT_info (β := β) hz
  have hzr : ∀ w, (zeroValue e).run P w = .ok zv w := fun w => by simp [zeroValue, typeInfo, hz1, hz2]
  have hrun := hgrow zv hzr base len c old hgt hle hle2 hold
  have hzs : zv.cells.size = size := by rw [← hzl, hz3.cells.length]; simp
  obtain ⟨k1, k2⟩ := grow_lay (e := e) (fz := fz) (sish := sish) (rest := (Builtin.zeroCells zv.cells (drawnCap w (len + n) c e - (len + n))).toList) hw hg (ho.append hn2)
  have hge := drawnCap_ge w (len + n) c e
  have hsz : (old ++ new).length + (Builtin.zeroCells zv.cells (drawnCap w (len + n) c e - (len + n))).toList.length = drawnCap w (len + n) c e * size := by
    have := zeroCells_size zv.cells (drawnCap w (len + n) c e - (len + n))
    rw [List.length_append, hol, hnl, Array.length_toList, this, hzs, ← Nat.add_mul, ← Nat.add_mul]
    congr 1; omega
  rw [hsz] at k1 k2
  refine ⟨_, _, _, hrun, ?_, k1, k2⟩
  refine .slice 0 (len + n) (Pl.put_same β H.next _) ⟨by omega, by simp, ?_⟩ hge
  simp only [Nat.add_zero, Nat.zero_add, Nat.add_mul, Nat.one_mul]
  omega

/-- cells behind a slice: however the model's append comes by them. -/
theorem appendCells_run {e : TypeId} {n size by8 : Nat} {A : Value → Sem Value} {s r : AV} {v : Value} {newA : List AV} {new new' : List Value} {H' : AHeap} {z : AV} (hw : WR G β H.get H.next w) (h : appendCells H e size by8 n newA s = some (r, H')) (hs : VR β s v)
    (hz : zeroT P e = some z) (hzl : z.cells.length = size) (hsz0 : size ≠ 0) (hn0 : n ≠ 0) (hnv : VRs β newA new) (hnl : new.length = n * size) (hnv' : VRs β newA new') (hnl' : new'.length = n * size)
    (hgrow : ∀ zv, (∀ w, (zeroValue e).run P w = .ok zv w) → ∀ (base : Option Addr) (len c : Nat) (old : List Value), c < len + n → (len + n) * by8 ≤ 2 ^ 40 → len + n ≤ 2 ^ 40 → (Builtin.firstCells size len (.slice base len c)).run P w.drew = .ok old.toArray w.drew →
      (A (.slice base len c)).run P w = .ok (.slice (some ⟨w.heap.size, 0, none⟩) (len + n) (drawnCap w (len + n) c e)) (w.drew.alloc (.cells (old ++ new' ++ (Builtin.zeroCells zv.cells (drawnCap w (len + n) c e - (len + n))).toList).toArray e)))
    (hwithin : ∀ (a : Addr) (len c : Nat) (w' : World), len + n ≤ c → (len + n) * by8 ≤ 2 ^ 40 → len + n ≤ 2 ^ 40 → (storeCells (a.add (len * size)) new).run P w = .ok () w' → (A (.slice (some a) len c)).run P w = .ok (.slice (some a) (len + n) c) w') :
    ∃ β' w' z, (A v).run P w = .ok z w' ∧ VR β' r z ∧ WR G β' H'.get H'.next w' ∧ Tran β H.get H.next w β' H'.get H'.next w' := by
  unfold appendCells at h
  split at h
  · -- onto nothing
    split at h
    · rename_i hb
      simp only [Option.some.injEq, Prod.mk.injEq] at h
      obtain ⟨rfl, rfl⟩ := h
      cases hs
      obtain ⟨β', w', z', k1, k2, k3, k4⟩ := grow_value (A := A) (base := none) (len := 0) (c := 0) (oldA := []) (old := []) (fz := 0) (sish := false) (g0 := H.get) hw (fun _ _ h => h) hz hzl hsz0 (by rw [Nat.zero_add]; exact hb.1) (by omega) (by omega) rfl hgrow .nil hnv' (by simp) hnl'
      refine ⟨β', w', z', k1, ?_, ?_⟩
      · rw [Nat.zero_add] at k2; exact k2
      · rw [AHeap.get_new, AHeap.next_new]; exact ⟨k3, k4⟩
    · cases h
  · rename_i b off len cap
    cases hs with
    | @slice _ p _ _ _ c hp hc hl =>
    split at h
    · rename_i hbig
      unfold appendTo at h
      -- within the capacity
      have within : ∀ H1, storeN H b (off + len * size) newA = some H1 → len + n ≤ c →
          ∃ β' w' z, (A (.slice (some ⟨p.c, p.base + off, none⟩) len c)).run P w = .ok z w' ∧ VR β' (.slice b off (len + n) cap) z ∧ WR G β' H1.get H1.next w' ∧ Tran β H.get H.next w β' H1.get H1.next w' := by
        intro H1 hst hle2
        obtain ⟨w', q1, q2, q3, q4⟩ := storeN_run (P := P) hw hst hnv hp
        refine ⟨β, w', _, hwithin _ _ _ _ hle2 hbig.1 hbig.2 ?_, .slice _ _ hp hc hle2, ?_, ?_⟩
        · rw [addr_add, Nat.add_assoc]; exact q1
        · rw [q4]; exact q2
        · rw [q4]; exact q3
      split at h
      · rename_i k
        have hck : c = k := hc
        split at h
        · rename_i hle1
          rw [Option.map_eq_some_iff] at h
          obtain ⟨H1, hst, he⟩ := h
          simp only [Prod.mk.injEq] at he
          obtain ⟨rfl, rfl⟩ := he
          exact within H1 hst (by omega)
        · rename_i hgt
          split at h
          · rename_i oldA hold
            simp only [Option.some.injEq, Prod.mk.injEq] at h
            obtain ⟨rfl, rfl⟩ := h
            obtain ⟨q, vs, hq, hvl, hrun, hvs⟩ := loadN_run (P := P) hw.drew hold
            rw [hp] at hq; cases hq
            obtain ⟨β', w', z', k1, k2, k3, k4⟩ := grow_value (A := A) (base := some ⟨p.c, p.base + off, none⟩) (len := len) (c := c) (fz := 0) (sish := false) (g0 := H.get) hw (fun _ _ h => h) hz hzl hsz0 hbig.1 hbig.2 (by omega) hrun hgrow hvs hnv' hvl hnl'
            refine ⟨β', w', z', k1, k2, ?_⟩
            rw [AHeap.get_new, AHeap.next_new]; exact ⟨k3, k4⟩
          · cases h
      · rename_i es
        obtain ⟨c1, c2, c3⟩ := hc
        split at h
        · rename_i hes
          subst hes
          split at h
          · rename_i cells e' fz sish hr
            obtain ⟨q, cc, lo, hi, hq, r1, r2, r3, r4, r5, r6⟩ := row_at hw hr
            rw [hp] at hq; cases hq
            split at h
            · rename_i hin
              rw [Option.map_eq_some_iff] at h
              obtain ⟨H1, hst, he⟩ := h
              simp only [Prod.mk.injEq] at he
              obtain ⟨rfl, rfl⟩ := he
              refine within H1 hst ?_
              have : (len + n) * es < (c + 1) * es := by omega
              have := Nat.lt_of_mul_lt_mul_right this
              omega
            · split at h
              · rename_i hch
                obtain ⟨hend, hfz, hone, hee⟩ := hch
                subst hee
                split at h
                · rename_i oldA hold
                  simp only [Option.some.injEq, Prod.mk.injEq] at h
                  obtain ⟨rfl, rfl⟩ := h
                  have hload : loadN H b off (len * es) = some oldA := by unfold loadN; rw [hr]; exact hold
                  have hkill : ∀ x o, (H.kill b).get x = some o → H.get x = some o := by
                    intro x o hx'
                    rw [AHeap.get_kill] at hx'
                    simp only at hx'
                    split at hx'
                    · cases hx'
                    · exact hx'
                  by_cases hcap : len + n ≤ c
                  · -- in place, behind what is known
                    obtain ⟨q, vs, hq, hvl, hrun, hvs⟩ := loadN_run (P := P) hw hload
                    rw [hp] at hq; cases hq
                    have hfit : p.base + off + (len + n) * es ≤ p.size := by
                      have := Nat.mul_le_mul_right es hcap; omega
                    have hnl : new.length = n * es := hnl
                    have hmul : (len + n) * es = len * es + n * es := Nat.add_mul _ _ _
                    have hst := storeCells_row (P := P) p.c (p.base + off + len * es) e (lo, hi) new 0 cc w r1 (by omega) (by
                      intro j j1 j2
                      exact r5 j (by omega) (by omega)) (hnv.one hone)
                    simp only [Nat.add_zero] at hst
                    have hb := rowOf_get hr
                    refine ⟨β.put H.next ⟨p.c, p.base + off, p.size⟩, _, _, hwithin _ _ _ _ hcap hbig.1 hbig.2 (by rw [addr_add]; exact hst), ?_, ?_, ?_⟩
                    · have := VR.slice (β := β.put H.next ⟨p.c, p.base + off, p.size⟩) (p := ⟨p.c, p.base + off, p.size⟩) 0 (len + n) (cap := .opn es) (c := c) (Pl.put_same β H.next _) ⟨c1, by simpa using c2, by simpa using c3⟩ hcap
                      simpa using this
                    · have hw0 : WR G β (H.kill b).get H.next w := hw.less hkill
                      have hlt := hw.bound b p hp
                      have := hw0.lay (w' := w.setRow p.c (cc.toList.take (p.base + off + len * es) ++ new ++ cc.toList.drop (p.base + off + len * es + new.length)).toArray) ⟨p.c, p.base + off, p.size⟩ (.row (oldA ++ newA) e (.buf (fz - off) sish)) (by simpa using hlt) (by simp) (by
                        intro b' o' q' hb' hq'
                        refine setRow_other _ _ _ _ ?_
                        intro e1
                        have := hw.inj b' b o' _ q' p (hkill _ _ hb') hb hq' hp e1
                        subst this
                        rw [AHeap.get_kill] at hb'
                        simp at hb') (by
                        intro b' o' q' hb' hq' e1
                        have := hw.inj b' b o' _ q' p (hkill _ _ hb') hb hq' hp e1
                        subst this
                        rw [AHeap.get_kill] at hb'
                        simp at hb') ?_
                      · rw [AHeap.get_new, AHeap.next_new, AHeap.next_kill]
                        exact this
                      · have he := Pl.put_ext (β := β) ⟨p.c, p.base + off, p.size⟩ (hw.fresh _ (Nat.le_refl _))
                        have hol := hvs.length
                        have hnw := hnv.length
                        have hcl : cc.toList.length = p.size := by simpa using r2
                        refine ⟨_, lo, hi, setRow_heap w p.c cc _ e _ r1, ?_, ?_, ?_, ?_, ?_⟩
                        · simp; omega
                        · simp; omega
                        · have hvs2 : vs = (cc.toList.drop (p.base + off)).take (len * es) := by
                            have h1 := run_loadCells_list (P := P) w ⟨p.c, p.base + off, none⟩ ((cc.toList.drop (p.base + off)).take (len * es)) (fun j v hj => by
                              rw [addr_add]
                              have hjn : j < len * es := by
                                have := (List.getElem?_eq_some_iff.1 hj).1
                                simp at this; omega
                              rw [List.getElem?_take_of_lt hjn, List.getElem?_drop] at hj
                              simp only [World.cell?, r1]
                              simpa using hj)
                            have hlen2 : ((cc.toList.drop (p.base + off)).take (len * es)).length = len * es := by simp; omega
                            rw [hlen2] at h1
                            rw [h1] at hrun
                            have := (Result.ok.inj hrun).1
                            exact (List.toArray_inj this).symm
                          have : (((cc.toList.take (p.base + off + len * es) ++ new ++ cc.toList.drop (p.base + off + len * es + new.length)).toArray.toList.drop (p.base + off)).take (oldA ++ newA).length) = vs ++ new := by
                            rw [List.toList_toArray, hvs2]
                            apply List.ext_getElem?
                            intro i
                            simp only [List.getElem?_take, List.getElem?_drop, List.getElem?_append, List.length_append, List.length_take, List.length_drop]
                            rw [Nat.min_eq_left (show p.base + off + len * es ≤ cc.toList.length by omega), Nat.min_eq_left (show len * es ≤ cc.toList.length - (p.base + off) by omega)]
                            by_cases i1 : i < len * es
                            · simp [i1, show i < oldA.length + newA.length by omega, show p.base + off + i < p.base + off + len * es + new.length by omega]
                            · by_cases i2 : i < len * es + new.length
                              · simp [i1, show i < oldA.length + newA.length by omega, show p.base + off + i < p.base + off + len * es + new.length by omega, show p.base + off + i - (p.base + off + len * es) = i - len * es by omega]
                              · rw [if_neg (by omega), if_neg i1, List.getElem?_eq_none (by omega)]
                          show VRs _ _ (List.take _ (List.drop _ _))
                          rw [this]
                          exact (hvs.append hnv).mono he
                        · intro o o1 o2
                          exact r5 o (by simp only at o1; omega) o2
                        · intro hf
                          rcases r6 hf with h1 | h1
                          · exact .inl h1
                          · exact .inr (by simp only; omega)
                    · refine ⟨Pl.put_ext _ (hw.fresh _ (Nat.le_refl _)), by rw [AHeap.next_new, AHeap.next_kill]; omega, by simp, ?_, ?_, ?_, ?_, rfl, rfl, rfl⟩
                      · intro c' hc' hno
                        exact setRow_other _ _ _ _ fun e1 => hno b _ p hb rfl hp e1.symm
                      · intro b' hb' h0
                        show (if b' = H.next then some (⟨p.c, p.base + off, p.size⟩ : Place) else β b') = none
                        rw [if_neg (by omega)]; exact h0
                      · intro b' hb' h0
                        rw [AHeap.get_new, AHeap.next_kill]
                        simp only [if_neg (Nat.ne_of_lt hb')]
                        cases h1 : (H.kill b).get b' with
                        | none => rfl
                        | some o => rw [hkill _ _ h1] at h0; cases h0
                      · intro b' o' p' hb' hp' hlt
                        rw [AHeap.get_new, AHeap.next_kill] at hb'
                        change (if b' = H.next then some (⟨p.c, p.base + off, p.size⟩ : Place) else β b') = some p' at hp'
                        by_cases e1 : b' = H.next
                        · rw [if_pos e1] at hp'; cases hp'
                          exact ⟨b, _, p, hb, fun _ => rfl, hp, rfl⟩
                        · rw [if_neg e1] at hp'
                          simp only [if_neg e1] at hb'
                          exact ⟨b', o', p', hkill _ _ hb', fun h => h, hp', rfl⟩
                  · obtain ⟨q, vs, hq, hvl, hrun, hvs⟩ := loadN_run (P := P) hw.drew hload
                    rw [hp] at hq; cases hq
                    obtain ⟨β', w', z', k1, k2, k3, k4⟩ := grow_value (A := A) (base := some ⟨p.c, p.base + off, none⟩) (len := len) (c := c) (fz := fz - off) (sish := sish) (g0 := (H.kill b).get) hw hkill hz hzl hsz0 hbig.1 hbig.2 (by omega) hrun hgrow hvs hnv' hvl hnl'
                    refine ⟨β', w', z', k1, k2, ?_⟩
                    rw [AHeap.get_new, AHeap.next_new, AHeap.next_kill]; exact ⟨k3, k4⟩
                · cases h
              · cases h
          · cases h
        · cases h
    · cases h
  · cases h

theorem appendA_run {t xt ty : TypeId} {ts : List TypeId} {s x r : AV} {v u : Value} {H' : AHeap} {xd : TypeDesc} (hw : WR G β H.get H.next w) (h : appendA P H t s x = some (r, H')) (hxt : undT P xt = some xd) (hxi : ∀ k, xd ≠ .int k) (hs : VR β s v) (hx : VR β x u) :
    ∃ β' w' z, (Builtin.append_ (t :: xt :: ts).toArray ty #[v, u]).run P w = .ok z w' ∧ VR β' r z ∧ WR G β' H'.get H'.next w' ∧ Tran β H.get H.next w β' H'.get H'.next w' := by
  unfold appendA at h
  split at h
  · rename_i e hu
    split at h
    · rename_i size by8 n hsz hby hn
      split at h
      · cases h
      · rename_i hc0
        obtain ⟨hsz0, hzl⟩ := not_or.1 hc0
        have hzl : (zeroT P e).map (·.cells.length) = some size := by simpa using hzl
        rw [Option.map_eq_some_iff] at hzl
        obtain ⟨z, hz, hzl⟩ := hzl
        have hlen := srcLen_run (P := P) (w := w) hn hx
        split at h
        · rename_i hn0
          subst hn0
          -- nothing is appended
          have hnew : (Builtin.firstCells size 0 u).run P w = .ok ([] : List Value).toArray w := by
            cases hx <;> try (simp [srcLen] at hn; done)
            · simp only [Builtin.firstCells, Sem.run_pure]; congr 1; apply Array.ext'; simp [ByteArray.data_extract, List.extract_eq_take_drop]
            · simp [Builtin.firstCells]
            · simp [Builtin.firstCells, loadCells, loadCellsFrom]
            · simp [Builtin.firstCells, loadCells, loadCellsFrom]
          split at h
          · simp only [Option.some.injEq, Prod.mk.injEq] at h
            obtain ⟨rfl, rfl⟩ := h
            cases hs
            refine ⟨β, w, .slice none 0 0, ?_, .nilSlice, hw, Tran.refl _ _ _ _⟩
            have hun := run_underlying (undT_und hu) w
            simp only [Builtin.append_, List.getElem?_toArray, List.getElem?_cons_zero, List.getElem?_cons_succ, Sem.run_bind, hun, Result.andThen_ok, sizeT_run hsz, run_underlying (undT_und hxt), Sem.run_pure]
            cases xd <;> first
              | exact absurd rfl (hxi _)
              | simp [hlen, hnew]
          · simp only [Option.some.injEq, Prod.mk.injEq] at h
            obtain ⟨rfl, rfl⟩ := h
            rename_i b off len cap
            cases hs with
            | @slice _ p _ _ _ c hp hc hl =>
            refine ⟨β, w, _, ?_, .slice _ _ hp hc hl, hw, Tran.refl _ _ _ _⟩
            have := append_within_run (P := P) (ts := ts) (ty := ty) (a := ⟨p.c, p.base + off, none⟩) (w' := w) (undT_und hu) (undT_und hxt) hxi (sizeT_run hsz) hlen hl hnew rfl
            simpa using this
          · cases h
        · rename_i hn0
          split at h
          · cases h
          · rename_i newA hsrc
            have hle : ∀ k, srcLen x = some k → n ≤ k := fun k hk => by rw [hn] at hk; cases hk; exact Nat.le_refl _
            obtain ⟨new, hnew, hnv⟩ := firstCells_run (P := P) hw hsrc hx hle
            obtain ⟨new', hnew', hnv'⟩ := firstCells_run (P := P) hw.drew hsrc hx hle
            have hnl' : new'.length = n * size := by rw [← hnv'.length]; exact srcCells_len hsrc hn
            have hnl : new.length = n * size := by rw [← hnv.length]; exact srcCells_len hsrc hn
            obtain ⟨iz, zv0, hz1, hz2, hz3⟩ := zeroT_info (β := β) hz
            have hinf : ∀ w, (typeInfo e).run P w = .ok iz w := fun w => by simp [typeInfo, hz1]
            have hib : iz.bytes = by8 := by
              obtain ⟨i2, k1, k2⟩ := bytesT_run (P := P) (w := w) hby
              rw [hinf] at k1; cases k1; exact k2
            exact appendCells_run (A := fun s => Builtin.append_ (t :: xt :: ts).toArray ty #[s, u]) hw h hs hz hzl hsz0 hn0 hnv hnl hnv' hnl'
              (fun zv hzr base len c old hgt hle hle2 hold => append_grow_run (P := P) (w := w) (ts := ts) (ty := ty) (undT_und hu) (undT_und hxt) hxi (sizeT_all hsz) hinf hib hzr hlen hgt hle hle2 hold hnew')
              (fun a len c w' hle _ _ hst => append_within_run (P := P) (ts := ts) (ty := ty) (undT_und hu) (undT_und hxt) hxi (sizeT_run hsz) hlen hle hnew hst)
    · cases h
  · cases h

/-- an append of zeros. -/
theorem appendZerosA_run {t xt ty : TypeId} {ts : List TypeId} {s x r : AV} {v u : Value} {H' : AHeap} {k : IntKind} (hw : WR G β H.get H.next w) (h : appendZerosA P H t s x = some (r, H')) (hxt : undT P xt = some (.int k)) (hs : VR β s v) (hx : VR β x u) :
    ∃ β' w' z, (Builtin.append_ (t :: xt :: ts).toArray ty #[v, u]).run P w = .ok z w' ∧ VR β' r z ∧ WR G β' H'.get H'.next w' ∧ Tran β H.get H.next w β' H'.get H'.next w' := by
  unfold appendZerosA at h
  split at h
  · rename_i e hu
    split at h
    · rename_i size by8 z n hsz hby hz
      split at h
      · cases h
      · rename_i hc0
        obtain ⟨hsz0, hzl⟩ := not_or.1 hc0
        have hzl : z.cells.length = size := by simpa using hzl
        cases hx
        split at h
        · rename_i hn0
          subst hn0
          split at h
          · simp only [Option.some.injEq, Prod.mk.injEq] at h
            obtain ⟨rfl, rfl⟩ := h
            cases hs
            refine ⟨β, w, .slice none 0 0, ?_, .nilSlice, hw, Tran.refl _ _ _ _⟩
            obtain ⟨inf, i1, i2⟩ := bytesT_run (P := P) (w := w) hby
            exact append_zeros0_run (undT_und hu) (undT_und hxt) (sizeT_run hsz) i1 (Nat.zero_le _) trivial
          · simp only [Option.some.injEq, Prod.mk.injEq] at h
            obtain ⟨rfl, rfl⟩ := h
            rename_i b off len cap
            cases hs with
            | @slice _ p _ _ _ c hp hc hl =>
            refine ⟨β, w, _, ?_, .slice _ _ hp hc hl, hw, Tran.refl _ _ _ _⟩
            obtain ⟨inf, i1, i2⟩ := bytesT_run (P := P) (w := w) hby
            exact append_zeros0_run (undT_und hu) (undT_und hxt) (sizeT_run hsz) i1 hl trivial
          · cases h
        · rename_i hn0
          obtain ⟨iz, zv0, hz1, hz2, hz3⟩ := zeroT_info (β := β) hz
          have hinf : ∀ w, (typeInfo e).run P w = .ok iz w := fun w => by simp [typeInfo, hz1]
          have hib : iz.bytes = by8 := by
            obtain ⟨i2, k1, k2⟩ := bytesT_run (P := P) (w := w) hby
            rw [hinf] at k1; cases k1; exact k2
          have hzr0 : ∀ w, (zeroValue e).run P w = .ok zv0 w := fun w => by simp [zeroValue, typeInfo, hz1, hz2]
          have hzv : VRs β (repeatL z.cells n) (Builtin.zeroCells zv0.cells n).toList := by
            have := zeros_VRs (n := n) hz3.cells hzl hsz0
            have hzs : zv0.cells.size = size := by rw [← hzl, hz3.cells.length]; simp
            rw [← hzs] at this
            exact this
          have hnl : (Builtin.zeroCells zv0.cells n).toList.length = n * size := by
            have hzs : zv0.cells.size = size := by rw [← hzl, hz3.cells.length]; simp
            rw [Array.length_toList, zeroCells_size, hzs]
          exact appendCells_run (A := fun s => Builtin.append_ (t :: xt :: ts).toArray ty #[s, .int .i64 (Int.ofNat n)]) hw h hs hz hzl hsz0 hn0 hzv hnl hzv hnl
            (fun zv hzr base len c old hgt hle hle2 hold => by
              have e1 : zv0 = zv := by have := (hzr0 w).symm.trans (hzr w); cases this; rfl
              subst e1
              exact append_grow_zeros (P := P) (w := w) (ts := ts) (ty := ty) (undT_und hu) (undT_und hxt) (sizeT_all hsz) hinf hib hzr0 hn0 hsz0 hgt hle hle2 hold)
            (fun a len c w' hle hle1 hle2 hst => append_within_zeros (P := P) (ts := ts) (ty := ty) (undT_und hu) (undT_und hxt) (sizeT_run hsz) (hinf w) hib hzr0 hn0 hsz0 hle hle1 hle2 hst)
    · cases h
  · cases h

theorem clearA_run {t ty : TypeId} {ts : List TypeId} {x r : AV} {u : Value} {H' : AHeap} (hw : WR G β H.get H.next w) (h : clearA P H t x = some (r, H')) (hx : VR β x u) :
    ∃ w' z, (Builtin.clear_ (t :: ts).toArray ty #[u]).run P w = .ok z w' ∧ VR β r z ∧ WR G β H'.get H'.next w' ∧ Tran β H.get H.next w β H'.get H'.next w' := by
  have hvr : VR β undefA (.tuple #[]) := .tuple .nil
  unfold clearA at h
  split at h
  · rename_i d hu
    cases h
    cases hx
    refine ⟨w, .tuple #[], ?_, hvr, hw, Tran.refl _ _ _ _⟩
    simp [Builtin.clear_, run_underlying (undT_und hu) w]
  · rename_i e b off len cap hu
    cases hx with
    | @slice _ p _ _ _ c hp hc hl =>
    split at h
    · rename_i h0
      subst h0
      cases h
      refine ⟨w, .tuple #[], ?_, hvr, hw, Tran.refl _ _ _ _⟩
      simp [Builtin.clear_, run_underlying (undT_und hu) w]
    · rename_i h0
      split at h
      · rename_i z hz
        split at h
        · cases h
        · rename_i hzl
          rw [Option.map_eq_some_iff] at h
          obtain ⟨H1, h1, he⟩ := h
          cases he
          obtain ⟨iz, zv0, hz1, hz2, hz3⟩ := zeroT_info (β := β) hz
          have hzr0 : ∀ w, (zeroValue e).run P w = .ok zv0 w := fun w => by simp [zeroValue, typeInfo, hz1, hz2]
          have hzs : zv0.cells.size = z.cells.length := by rw [hz3.cells.length]; simp
          have hzv : VRs β (repeatL z.cells len) (Builtin.zeroCells zv0.cells len).toList := by
            have := zeros_VRs (n := len) hz3.cells rfl hzl
            rw [← hzs] at this
            exact this
          obtain ⟨w', q1, q2, q3, q4⟩ := storeN_run (P := P) hw h1 hzv hp
          refine ⟨w', .tuple #[], ?_, hvr, by rw [q4]; exact q2, by rw [q4]; exact q3⟩
          obtain ⟨k, rfl⟩ := Nat.exists_eq_succ_of_ne_zero h0
          simp only [Builtin.clear_, List.getElem?_toArray, List.getElem?_cons_zero, Sem.run_bind, run_underlying (undT_und hu) w, Result.andThen_ok, hzr0, q1, Sem.run_pure]
      · cases h
  · cases h

end
end Go.Tb
