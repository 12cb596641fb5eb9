/- regions that draw their order: the step, the end. -/
import Derived.Test.YtkkoidhohapjcaaGreatDoorTcDraw3
import Derived.Test.YtkkoidhohapjcaaGreatDoorTcCall
set_option linter.unusedSimpArgs false
set_option linter.unusedVariables false
set_option linter.unusedSectionVars false
namespace Go.Tc
variable [Val]

omit [Val] in
theorem filter_le {p : Nat → Bool} : ∀ {es : List Nat} {j : Nat}, (∀ (m k : Nat), es[m]? = some k → p k = true → m < j) → (es.filter p).length ≤ j
  | [], j, _ => by simp
  | x :: r, j, h => by
    by_cases hx : p x = true
    · have h0 := h 0 x rfl hx
      obtain ⟨j, rfl⟩ : ∃ j', j = j' + 1 := ⟨j - 1, by omega⟩
      have := filter_le (es := r) (j := j) fun m k hm hk => by have := h (m + 1) k (by simpa using hm) hk; omega
      rw [List.filter_cons_of_pos hx]; simp; exact this
    · have := filter_le (es := r) (j := j) fun m k hm hk => by have := h (m + 1) k (by simpa using hm) hk; omega
      rw [List.filter_cons_of_neg hx]; exact this
omit [Val] in
theorem le_filter {p : Nat → Bool} : ∀ {es : List Nat} {j : Nat}, j ≤ es.length → (∀ (m k : Nat), es[m]? = some k → m < j → p k = true) → j ≤ (es.filter p).length
  | [], j, hj, _ => by simpa using hj
  | x :: r, 0, _, _ => by omega
  | x :: r, j + 1, hj, h => by
    have hx := h 0 x rfl (by omega)
    have := le_filter (es := r) (j := j) (by simpa using hj) fun m k hm hk => h (m + 1) k (by simpa using hm) (by omega)
    rw [List.filter_cons_of_pos hx]; simp; exact this

section
variable {P : Program} {G : Nat} {E : Env} {S : Evs} {c : Ctx} {ops : Array Oper} {n0 : Nat} {st : Nat → DSt}
variable {β0 : Pl} {g0 : Nat → Option AObj} {w0 : World} {listed : Array Bool} {j : Nat} {β : Pl} {g : Nat → Option AObj} {n : Nat} {a : Act} {w : World}

theorem DInv.notAbs (hI : DInv P G E S c ops n0 st β0 g0 w0 listed j β g n a w) {i : Nat} (hun : listed[i]? ≠ some true) : ¬ AbsE c ops st i j := by
  rintro ⟨k, k1, k2, k3, -, k5⟩
  exact hun (hI.closed k i ((hI.effs k k1 k2).2 k3) k5)

theorem DInv.turn (tr : Trace P E S c ops n0 st) (hI : DInv P G E S c ops n0 st β0 g0 w0 listed j β g n a w) {i : Nat} (hi : i < ops.size) (he : isEff ops i = true) (hun : listed[i]? ≠ some true) (hb : ∀ k, Bef ops i k → listed[k]? = some true) : ne ops i = j := by
  have h1 : ¬ ne ops i < j := fun h => hun ((hI.effs i hi he).2 h)
  by_cases h2 : ne ops i = j
  · exact h2
  · exfalso
    have hat := eff_at hi he
    have hlen := (List.getElem?_eq_some_iff.1 hat).1
    have hm : (effectsOf ops)[ne ops i - 1]? = some ((effectsOf ops)[ne ops i - 1]'(by omega)) := List.getElem?_eq_getElem (by omega)
    obtain ⟨k1, k2, k3⟩ := eff_index hm
    have hc := chained_get tr.ok.chain hm (by rw [show ne ops i - 1 + 1 = ne ops i from by omega]; exact hat)
    have := (hI.effs _ k1 k2).1 (hb _ hc)
    omega

theorem DInv.step (hE : EnvOk P G E) (hS : Sound P G S) (hg : c.glob = G) (tr : Trace P E S c ops n0 st) (hI : DInv P G E S c ops n0 st β0 g0 w0 listed j β g n a w) {i : Nat} (hr : i ∈ Region.ready .any ops listed)
    {r : Option Nat} {m : Nat} {K : Act → World → Prop} {Q : Exit → Act → World → Prop}
    (hK : ∀ j' β' g' n' a' w', DInv P G E S c ops n0 st β0 g0 w0 (listed.setIfInBounds i true) j' β' g' n' a' w' → a'.defers = a.defers → K a' w') : wpOpIn (Fen r) m P ops Q i K a w := by
  obtain ⟨hun0, o, ho, hed⟩ := mem_ready.1 hr
  have hi : i < ops.size := (Array.getElem?_eq_some_iff.1 ho).1
  have hun : listed[i]? ≠ some true := fun h => by
    rw [Array.getD_eq_getD_getElem?, h] at hun0; cases hun0
  have hb : ∀ k, Bef ops i k → listed[k]? = some true := by
    intro k hk
    obtain ⟨o', e, ho', he, hbd, h⟩ := before_bit hk
    rw [ho] at ho'; cases ho'
    have hl : listed[e.on]? = some true := by
      have := hed e he hbd
      rw [Array.getD_eq_getD_getElem?] at this
      cases hx : listed[e.on]? with
      | none => rw [hx] at this; cases this
      | some b => rw [hx] at this; simp only [Option.getD_some] at this; rw [this]
    rcases h with rfl | h
    · exact hl
    · exact hI.closed _ _ hl h
  obtain ⟨o', v, ho', hl, hs⟩ := tr.step i hi
  rw [ho] at ho'; cases ho'
  have hrd := hI.reads tr ho hun hb
  have hρ : OpsR β c (st i).T a.eval o.op.operands := fun x hx v hv => aeval_of (fun t ht v hv => hrd t (by
    unfold readsOf
    refine List.mem_append_left _ (List.mem_filterMap.2 ⟨x, by simpa using hx, by rw [ht]⟩)) v hv) hg hI.wr hv
  have hwd : ∀ b, wantedA c ops (st i).T o = some b → Region.wanted o (yielded ops a.tmps) = b := fun b h => wanted_of h fun gd want d hgd hdd v hv => hrd d (by
    unfold readsOf
    refine List.mem_append_right _ ?_
    simp only [hgd, hdd]; simp) v hv
  have hnab := hI.notAbs hun
  have heo := effOf ho
  unfold Go.wpOpIn
  simp only [ho]
  have dead : ∀ {b : Bool}, Region.wanted o (yielded ops a.tmps) = b → (if b = true then Oper.wpIn (Fen r) m P o a w K Q else (∀ f, o.about P w a.eval = some f → (Fen r).fn f) ∧ K (a.put o.dst undef) w) →
      (if Region.wanted o (yielded ops a.tmps) = true then Oper.wpIn (Fen r) m P o a w K Q else (∀ f, o.about P w a.eval = some f → (Fen r).fn f) ∧ K (a.put o.dst undef) w) := fun h1 h2 => by rw [h1]; exact h2
  have same : ∀ u, VR β v u → isEff ops i ≠ true → (∀ ob, ¬ Al P E S c ops n0 st i ob) → K (a.put o.dst u) w := by
    intro u hv hne hna
    refine hK j β g n _ w (hI.adv tr ho hb hl (Ext.refl β) hv hI.wr hI.tran (fun k hk hke => ?_) hI.jle hI.nle hI.ver (fun x ox hx hal => ?_) (fun x hx _ hxl => hI.non x hx hxl)) (put_defers _ _ _)
    · rw [← hI.effs k hk hke]
      constructor
      · rintro (h | h)
        · subst h; exact absurd hke hne
        · exact h
      · exact .inr
    · rcases hx with rfl | hx
      · exact absurd hal (hna ox)
      · exact hI.pen x ox hx hal
  have noAl : cls o.op ≠ .alloc → ∀ ob, ¬ Al P E S c ops n0 st i ob := by
    rintro hc ob ⟨o', v', k1, k2, -, -⟩
    rw [ho] at k1; cases k1; exact hc k2
  obtain ⟨HV, hv1, hv2, hv3, hv4⟩ := hI.ver
  cases hs with
  | off hw hv h1 h2 h3 h4 =>
    subst hv
    refine dead (hwd _ hw) ?_
    simp only [Bool.false_eq_true, if_false]
    refine ⟨fun f _ => Fen_fn r f, ?_⟩
    have hna : ∀ ob, ¬ Al P E S c ops n0 st i ob := by
      rintro ob ⟨o', v', k1, -, k3, -⟩
      rw [ho] at k1; cases k1; rw [hw] at k3; cases k3
    by_cases he : isEff ops i = true
    · have hj := hI.turn tr hi he hun hb
      have hne : ne ops (i + 1) = j + 1 := by rw [ne_succ, if_pos he, hj]
      have hH : HV = (st i).H := by
        have := tr.ver (show i ≤ ops.size by omega)
        rw [hj, hv1] at this; cases this; rfl
      have habs : ∀ x, AbsE c ops st x (j + 1) → AbsE c ops st x j := by
        rintro x ⟨k, k1, k2, k3, k4, k5⟩
        refine ⟨k, k1, k2, ?_, k4, k5⟩
        rcases Nat.lt_succ_iff_lt_or_eq.1 k3 with h | h
        · exact h
        · exfalso
          have hki : k = i := by
            have e1 := eff_at k1 k2
            have e2 := eff_at hi he
            rw [h, ← hj, e2] at e1; cases e1; rfl
          subst hki
          obtain ⟨o', q1, q2⟩ := k4
          rw [ho] at q1; cases q1; rw [hw] at q2; cases q2
      refine hK (j + 1) β g n _ w (hI.adv tr ho hb hl (Ext.refl β) undefA_VR hI.wr hI.tran (fun k hk hke => ?_) ?_ hI.nle ⟨HV, ?_, hv2, hv3, fun x hx hab => hv4 x hx fun h => hab ?_⟩ (fun x ox hx hal hab => ?_) (fun x hx _ hxl => hI.non x hx hxl)) (put_defers _ _ _)
      · have := hI.effs k hk hke
        constructor
        · rintro (h | h)
          · subst h; omega
          · have := this.1 h; omega
        · intro h
          rcases Nat.lt_succ_iff_lt_or_eq.1 h with h | h
          · exact .inr (this.2 h)
          · left
            have e1 := eff_at hk hke
            have e2 := eff_at hi he
            rw [h, ← hj, e2] at e1; cases e1; rfl
      · have := ne_mono ops (show i + 1 ≤ ops.size by omega); omega
      · have := tr.ver (show i + 1 ≤ ops.size by omega)
        rw [hne, h1] at this; rw [hH]; exact this
      · obtain ⟨k, k1, k2, k3, k4, k5⟩ := h
        exact ⟨k, k1, k2, by omega, k4, k5⟩
      · rcases hx with rfl | hx
        · exact absurd hal (hna ox)
        · refine hI.pen x ox hx hal fun h => hab ?_
          obtain ⟨k, k1, k2, k3, k4, k5⟩ := h
          exact ⟨k, k1, k2, by omega, k4, k5⟩
    · exact same undef undefA_VR he hna
  | pure hw hc H1 hv h1 h2 h3 h4 =>
    refine dead (hwd _ hw) ?_
    simp only [if_true]
    obtain ⟨-, u, k1, k2⟩ := pure_run (w := w) hE.nf hc hv hρ
    exact wp_value (cls_defer hc (by simp)) k1 (same u k2 (by rw [ne_eq, heo, hc]; simp) (noAl (by rw [hc]; simp)))
  | fresh hw hc Hs hf hv h1 h2 h3 h4 =>
    refine dead (hwd _ hw) ?_
    simp only [if_true]
    have hsub : WR G β Hs.get n w := by
      refine hI.wr.less fun x ox hx => ?_
      unfold freshOf at hf
      split at hf
      · rename_i sr ds xo hop
        split at hf
        · rename_i b off len cap hxv
          split at hf
          · cases hf
          · split at hf
            · rename_i j0 ob hfind
              split at hf
              · rename_i hall
                cases hf
                have hx' : x = b ∧ ox = ob := by
                  have := Tr.get_put (Tr.leaf : Tr AObj) b x ob
                  change (Tr.leaf.put b ob).get x = some ox at hx
                  rw [this] at hx
                  split at hx
                  · rename_i e; cases hx; exact ⟨e, rfl⟩
                  · cases hx
                obtain ⟨rfl, rfl⟩ := hx'
                have hmem := List.mem_of_find?_eq_some hfind
                have hkey := List.find?_some hfind
                simp only [beq_iff_eq] at hkey
                subst hkey
                obtain ⟨q1, q2, q3⟩ := (tr.pend_at i (by omega) j0 ox).1 hmem
                have hj0 : j0 < ops.size := by omega
                have hvr := hρ xo (by rw [hop]; simp [Op.operands]) _ hxv
                have hpl : ∃ p, β (n0 + j0) = some p := by
                  generalize a.eval xo = vx at hvr
                  cases hvr with
                  | slice _ _ hp => exact ⟨_, hp⟩
                obtain ⟨p, hp⟩ := hpl
                have hlj : listed[j0]? = some true := by
                  by_cases h : listed[j0]? = some true
                  · exact h
                  · rw [hI.non j0 hj0 h] at hp; cases hp
                refine hI.pen j0 ox hlj q2 ?_
                rintro ⟨k, k1, k2, k3, -, k5⟩
                rw [List.all_eq_true] at hall
                have := hall k (List.mem_of_getElem? (eff_at k1 k2))
                rw [show ((Region.before ops).getD k 0).testBit j0 = true from k5] at this
                simp only [Bool.not_true, Bool.false_or] at this
                exact hun (hI.closed k i ((hI.effs k k1 k2).2 k3) this)
              · cases hf
            · cases hf
        · cases hf
      · cases hf
    unfold loadedA at hv
    split at hv
    · rename_i v1 H1 hop
      split at hv
      · rename_i hnx
        cases hv
        obtain ⟨-, u, k1, k2⟩ := load_run (w := w) hE.nf hc (Nat.eq_of_beq_eq_true hnx) hsub hop hρ
        exact wp_value (cls_defer hc (by simp)) k1 (same u k2 (by rw [ne_eq, heo, hc]; simp) (noAl (by rw [hc]; simp)))
      · cases hv
    · cases hv
  | load hw hc hv h1 h2 h3 h4 =>
    refine dead (hwd _ hw) ?_
    simp only [if_true]
    -- the value that is read is the same behind j effects
    have hst := tr.stays
    rw [List.all_eq_true] at hst
    have hin := tr.loads_grow (ops.size - (i + 1)) (i + 1) (by omega) _ (by rw [h3]; exact List.mem_cons_self)
    rw [show i + 1 + (ops.size - (i + 1)) = ops.size from by omega] at hin
    have hst := hst _ hin
    have hlo : winLo ops (Region.before ops) i ≤ j := filter_le fun x k hk hp => by
      obtain ⟨q1, q2, q3⟩ := eff_index hk
      have := (hI.effs k q1 q2).1 (hb k hp); omega
    have hhi : j ≤ winHi ops (Region.before ops) i := le_filter (by rw [← ne_all]; exact hI.jle) fun x k hk hx => by
      obtain ⟨q1, q2, q3⟩ := eff_index hk
      have hkl := (hI.effs k q1 q2).2 (by omega)
      cases hbt : ((Region.before ops).getD k 0).testBit i with
      | false => rfl
      | true => exact absurd (hI.closed k i hkl hbt) hun
    unfold loadStays at hst
    rw [List.all_eq_true] at hst
    have hmemV : HV ∈ ((st ops.size).vers.drop (winLo ops (Region.before ops) i)).take (winHi ops (Region.before ops) i - winLo ops (Region.before ops) i + 1) := by
      refine List.mem_of_getElem? (i := j - winLo ops (Region.before ops) i) ?_
      rw [List.getElem?_take_of_lt (by omega), List.getElem?_drop, show winLo ops (Region.before ops) i + (j - winLo ops (Region.before ops) i) = j from by omega]
      exact hv1
    have hq := hst HV hmemV
    simp only at hq
    split at hq
    · rename_i wv hlv
      have hveq : wv = v := AV.beq_eq wv v hq
      subst hveq
      unfold loadedA at hlv
      split at hlv
      · rename_i v1 H1 hop
        split at hlv
        · rename_i hnx
          cases hlv
          obtain ⟨-, u, k1, k2⟩ := load_run (w := w) hE.nf hc (Nat.eq_of_beq_eq_true hnx) (hI.wr.less hv3) hop hρ
          exact wp_value (cls_defer hc (by simp)) k1 (same u k2 (by rw [ne_eq, heo, hc]; simp) (noAl (by rw [hc]; simp)))
        · cases hlv
      · cases hlv
    · cases hq
  | alloc hw hc ob hv h1 h2 h3 h4 =>
    refine dead (hwd _ hw) ?_
    simp only [if_true]
    have hAl : Al P E S c ops n0 st i ob := ⟨o, v, ho, hc, hw, hv⟩
    have hne : isEff ops i ≠ true := by rw [ne_eq, heo, hc]; simp
    unfold allocA at hv
    split at hv
    · rename_i v1 H1 hop
      split at hv
      · rename_i ob1 hget
        cases hv
        obtain ⟨ob', mm, rfl, hrun, obj, sz, u, k1, k2⟩ := alloc_run (w := w) hE.nf hc hop hρ
        have hob : ob = ob' := by
          rw [AHeap.get_new] at hget
          simp only [if_true, Option.some.injEq] at hget
          exact hget.symm
        subst hob
        have hbn := hI.non i hi hun
        have hnl := hI.nle
        obtain ⟨z1, z2⟩ := k2 (β.put (n0 + i) ⟨w.heap.size, 0, sz⟩) (Pl.put_ext _ hbn) (Pl.put_same _ _ _)
        obtain ⟨y1, y2⟩ := hI.wr.allocAt hbn (show n0 + i < n by omega) obj sz ob z2 (m := n0) (by omega)
        refine wp_value (cls_defer hc (by simp)) (by rw [hrun, k1]; rfl) ?_
        refine hK j _ _ n _ _ (hI.adv tr ho hb hl (Pl.put_ext _ hbn) z1 y1 (hI.tran.trans' y2 (Nat.le_refl _) (by omega)) (fun k hk hke => ?_) hI.jle hnl ⟨HV, hv1, hv2, fun x ox hx => ?_, hv4⟩ (fun x ox hx hal hab => ?_) (fun x hx hxi hxl => ?_)) (put_defers _ _ _)
        · rw [← hI.effs k hk hke]
          constructor
          · rintro (h | h)
            · subst h; exact absurd hke hne
            · exact h
          · exact .inr
        · have hx0 : x ≠ n0 + i := fun e => by rw [e, hv4 i hi hnab] at hx; cases hx
          rw [if_neg hx0]; exact hv3 x ox hx
        · rcases hx with rfl | hx
          · rw [if_pos rfl, hal.inj hAl]
          · have hxi : x ≠ i := fun e => by rw [e] at hx; exact hun hx
            rw [if_neg (by omega)]; exact hI.pen x ox hx hal hab
        · show (if n0 + x = n0 + i then _ else β (n0 + x)) = none
          rw [if_neg (by omega)]; exact hI.non x hx hxl
      · cases hv
    · cases hv
  | effect hw hc H1 ha hv h3 h4 =>
    refine dead (hwd _ hw) ?_
    simp only [if_true]
    have he := heo.2 hc
    have hj := hI.turn tr hi he hun hb
    have hne : ne ops (i + 1) = j + 1 := by rw [ne_succ, if_pos he, hj]
    have hH : HV = (st i).H := by
      have := tr.ver (show i ≤ ops.size by omega)
      rw [hj, hv1] at this; cases this; rfl
    subst hH
    have hWd : Wd c ops st i := ⟨o, ho, hw⟩
    obtain ⟨-, s2, s3⟩ := absorb_spec (bef := (Region.before ops).getD i 0) (n0 := n0) (st i).pend (st i).H
    rw [ha] at s2 s3
    simp only at s2 s3
    have up : ∀ x, AbsE c ops st x j → AbsE c ops st x (j + 1) := fun x ⟨k, k1, k2, k3, k4, k5⟩ => ⟨k, k1, k2, by omega, k4, k5⟩
    have hit : ∀ x, Bef ops i x → AbsE c ops st x (j + 1) := fun x hx => ⟨i, hi, he, by omega, hWd, hx⟩
    have hg1 : ∀ x ox, H1.get x = some ox → g x = some ox := by
      intro x ox hx
      rcases s3 x ox hx with ⟨b, rfl, q2, q3⟩ | q
      · obtain ⟨p1, p2, p3⟩ := (tr.pend_at i (by omega) b ox).1 q2
        rw [hj] at p3
        exact hI.pen b ox (hb b q3) p2 p3
      · exact hv3 x ox q
    have hfree : ∀ x, x < ops.size → ¬ AbsE c ops st x (j + 1) → H1.get (n0 + x) = none := by
      intro x hx hab
      cases hq : H1.get (n0 + x) with
      | none => rfl
      | some ox =>
        exfalso
        rcases s3 _ ox hq with ⟨b, hbx, q2, q3⟩ | q
        · have : x = b := by omega
          subst this; exact hab (hit x q3)
        · rw [hv4 x hx fun h => hab (up x h)] at q; cases q
    have hn1 : H1.next = n := s2.trans hv2
    have hwr1 : WR G β H1.get H1.next w := by rw [hn1]; exact hI.wr.less hg1
    obtain ⟨hd, hcm⟩ := opA_run (ev := a.eval) hE hS hv hwr1 hρ
    refine does_of (G := G) (β := β) (H := H1) (H' := (st (i + 1)).H) (v := v) hd hcm K Q ?_
    rintro u w1 ⟨β1, y1, y2, y3⟩
    classical
    let g2 : Nat → Option AObj := fun x => if ∃ b, x = n0 + b ∧ b < ops.size ∧ listed[b]? = some true ∧ (∃ ob, Al P E S c ops n0 st b ob) ∧ ¬ AbsE c ops st b (j + 1) then g x else none
    have g2sub : ∀ x ox, g2 x = some ox → g x = some ox := by
      intro x ox hx
      simp only [g2] at hx
      split at hx
      · exact hx
      · cases hx
    have g2at : ∀ x ox, g2 x = some ox → ∃ b, x = n0 + b ∧ b < ops.size ∧ ¬ AbsE c ops st b (j + 1) := by
      intro x ox hx
      simp only [g2] at hx
      split at hx
      · rename_i h; obtain ⟨b, q1, q2, -, -, q5⟩ := h; exact ⟨b, q1, q2, q5⟩
      · cases hx
    obtain ⟨z1, z2⟩ := hI.wr.frame hg1 g2sub (fun x ox hx => by obtain ⟨b, rfl, q2, q3⟩ := g2at x ox hx; exact hfree b q2 q3) (hn1 ▸ y3) y2
    have hnl := hI.nle
    have hnx : n ≤ (st (i + 1)).H.next := z2.next
    have hdom : ∀ x, x < ops.size → ¬ AbsE c ops st x (j + 1) → (st (i + 1)).H.get (n0 + x) = none := fun x hx hab => y3.dom _ (by omega) (hfree x hx hab)
    refine hK (j + 1) β1 _ _ _ w1 (hI.adv tr ho hb hl y3.ext y1 z1 (hI.tran.trans' z2 (by omega) (by omega)) (fun k hk hke => ?_) ?_ (by omega) ⟨(st (i + 1)).H, ?_, rfl, fun x ox hx => ?_, hdom⟩ (fun x ox hx hal hab => ?_) (fun x hx hxi hxl => ?_)) (put_defers _ _ _)
    · have := hI.effs k hk hke
      constructor
      · rintro (h | h)
        · subst h; omega
        · have := this.1 h; omega
      · intro h
        rcases Nat.lt_succ_iff_lt_or_eq.1 h with h | h
        · exact .inr (this.2 h)
        · left
          have e1 := eff_at hk hke
          have e2 := eff_at hi he
          rw [h, ← hj, e2] at e1; cases e1; rfl
    · have := ne_mono ops (show i + 1 ≤ ops.size by omega); omega
    · have := tr.ver (show i + 1 ≤ ops.size by omega)
      rw [hne] at this; exact this
    · cases hq : g2 x with
      | none => simp only; exact hx
      | some oy =>
        exfalso
        obtain ⟨b, rfl, q2, q3⟩ := g2at x oy hq
        rw [hdom b q2 q3] at hx; cases hx
    · have hxl : listed[x]? = some true := by
        rcases hx with rfl | hx
        · obtain ⟨o', v', q1, q2, -⟩ := hal
          rw [ho] at q1; cases q1; rw [hc] at q2; cases q2
        · exact hx
      have hxs : x < ops.size := by
        obtain ⟨o', v', q1, -⟩ := hal
        exact (Array.getElem?_eq_some_iff.1 q1).1
      have hgx := hI.pen x ox hxl hal fun h => hab (up x h)
      have : g2 (n0 + x) = some ox := by
        simp only [g2]
        rw [if_pos ⟨x, rfl, hxs, hxl, ⟨ox, hal⟩, hab⟩]; exact hgx
      simp only [this]
    · exact y3.old _ (by omega) (hI.non x hx hxl)

/-- all are done. -/
theorem DInv.done (tr : Trace P E S c ops n0 st) (hI : DInv P G E S c ops n0 st β0 g0 w0 listed j β g n a w) (hr : Region.ready .any ops listed = []) :
    TR β c (st ops.size).T a.tmps ∧ WR G β (settle n0 (st ops.size).pend (st ops.size).H).get (settle n0 (st ops.size).pend (st ops.size).H).next w ∧
    Tran β0 g0 n0 w0 β (settle n0 (st ops.size).pend (st ops.size).H).get (settle n0 (st ops.size).pend (st ops.size).H).next w := by
  have all : ∀ i, i < ops.size → listed[i]? = some true := by
    intro i
    induction i using Nat.strongRecOn with
    | _ i ih =>
      intro hi
      by_cases h : listed[i]? = some true
      · exact h
      · exfalso
        have ho : ops[i]? = some ops[i] := Array.getElem?_eq_getElem hi
        have : i ∈ Region.ready .any ops listed := by
          refine mem_ready.2 ⟨?_, ops[i], ho, fun e he hb => ?_⟩
          · have hl : i < listed.size := by rw [hI.lsz]; exact hi
            rw [Array.getElem?_eq_getElem hl] at h
            rw [Array.getD_eq_getD_getElem?, Array.getElem?_eq_getElem hl]
            simpa using h
          · have hlt := tr.ok.edge i _ ho e he hb
            rw [Array.getD_eq_getD_getElem?, ih e.on hlt (by omega)]; rfl
        rw [hr] at this; cases this
  have hj : j = ne ops ops.size := by
    have h1 := hI.jle
    by_cases h : j = ne ops ops.size
    · exact h
    · exfalso
      have hlt : j < (effectsOf ops).length := by rw [← ne_all]; omega
      obtain ⟨k1, k2, k3⟩ := eff_index (List.getElem?_eq_getElem hlt)
      have := (hI.effs _ k1 k2).1 (all _ k1)
      omega
  subst hj
  obtain ⟨HV, hv1, hv2, hv3, hv4⟩ := hI.ver
  have hH : HV = (st ops.size).H := by
    have := tr.ver (Nat.le_refl ops.size)
    rw [hv1] at this; cases this; rfl
  subst hH
  obtain ⟨s1, s2⟩ := settle_spec (n0 := n0) (st ops.size).pend (st ops.size).H
  have hsub : ∀ x o, (settle n0 (st ops.size).pend (st ops.size).H).get x = some o → g x = some o := by
    intro x o hx
    rcases s2 x o hx with ⟨b, rfl, hb⟩ | h
    · obtain ⟨p1, p2, p3⟩ := (tr.pend_at ops.size (Nat.le_refl _) b o).1 hb
      exact hI.pen b o (all b p1) p2 p3
    · exact hv3 x o h
  rw [s1, hv2]
  refine ⟨⟨hI.size, fun d v hv => ?_⟩, hI.wr.less hsub, hI.tran.less hsub⟩
  by_cases hex : ∃ (k : Nat) (u : Oper), ops[k]? = some u ∧ u.dst = some d
  · obtain ⟨k, u, hk, hkd⟩ := hex
    have hks : k < ops.size := (Array.getElem?_eq_some_iff.1 hk).1
    refine hI.tin k u d (all k hks) hk hkd v ?_
    have := tr.T_same (d := d) (ops.size - (k + 1)) (k + 1) (by omega) (fun k' o' h1 h2 h3 h4 => (tr.ok.dst k u d hk hkd k' o' h3 (by omega)).1 h4)
    rw [show k + 1 + (ops.size - (k + 1)) = ops.size from by omega] at this
    rw [← this]; exact hv
  · refine hI.tout d (fun i o _ h2 h3 => hex ⟨i, o, h2, h3⟩) v ?_
    have := tr.T_same (d := d) ops.size 0 (by omega) (fun k' o' _ h2 h3 h4 => hex ⟨k', o', h3, h4⟩)
    rw [Nat.zero_add] at this
    rw [← this]; exact hv

theorem draw_any (hE : EnvOk P G E) (hS : Sound P G S) (hg : c.glob = G) (tr : Trace P E S c ops n0 st) {r : Option Nat} {m : Nat} {Q : Exit → Act → World → Prop} {df : List Deferred}
    (hQ : ∀ β a w, a.defers = df → TR β c (st ops.size).T a.tmps → WR G β (settle n0 (st ops.size).pend (st ops.size).H).get (settle n0 (st ops.size).pend (st ops.size).H).next w →
      Tran β0 g0 n0 w0 β (settle n0 (st ops.size).pend (st ops.size).H).get (settle n0 (st ops.size).pend (st ops.size).H).next w → Q .normal a w) :
    ∀ (fuel : Nat) (listed : Array Bool) (j : Nat) (β : Pl) (g : Nat → Option AObj) (n : Nat) (a : Act) (w : World), DInv P G E S c ops n0 st β0 g0 w0 listed j β g n a w → listed.toList.count false ≤ fuel → a.defers = df → wpAnyIn (Fen r) m P .any ops Q fuel listed a w := by
  have fin : ∀ (listed : Array Bool) (j : Nat) (β : Pl) (g : Nat → Option AObj) (n : Nat) (a : Act) (w : World), DInv P G E S c ops n0 st β0 g0 w0 listed j β g n a w → a.defers = df → Region.ready .any ops listed = [] → Q .normal a w := by
    intro listed j β g n a w hI hd hr
    obtain ⟨h1, h2, h3⟩ := hI.done tr hr
    exact hQ β a w hd h1 h2 h3
  intro fuel
  induction fuel with
  | zero =>
    intro listed j β g n a w hI hc hd
    have hr : Region.ready .any ops listed = [] := by
      cases hx : Region.ready .any ops listed with
      | nil => rfl
      | cons i l =>
        exfalso
        have hm : i ∈ Region.ready .any ops listed := by rw [hx]; simp
        obtain ⟨hun, o, ho, -⟩ := mem_ready.1 hm
        have hi : i < listed.size := by rw [hI.lsz]; exact (Array.getElem?_eq_some_iff.1 ho).1
        rw [Array.getD_eq_getD_getElem?, Array.getElem?_eq_getElem hi] at hun
        simp only [Option.getD_some] at hun
        have : false ∈ listed.toList := by rw [← hun]; simp
        have := List.count_pos_iff.2 this
        omega
    exact ⟨hr, fin listed j β g n a w hI hd hr⟩
  | succ fuel ih =>
    intro listed j β g n a w hI hc hd
    refine ⟨fun hr => fin listed j β g n a w hI hd hr, fun i hi => ?_⟩
    refine hI.step hE hS hg tr hi fun j' β' g' n' a' w' hI' hd' => ih _ j' β' g' n' a' w' hI' ?_ (hd'.trans hd)
    obtain ⟨hun, o, ho, -⟩ := mem_ready.1 hi
    have hil : i < listed.size := by rw [hI.lsz]; exact (Array.getElem?_eq_some_iff.1 ho).1
    rw [Array.getD_eq_getD_getElem?, Array.getElem?_eq_getElem hil] at hun
    simp only [Option.getD_some] at hun
    rw [Array.toList_setIfInBounds, List.count_set (by simpa using hil)]
    have hm : false ∈ listed.toList := by rw [← hun]; simp
    have := List.count_pos_iff.2 hm
    have hget : listed.toList[i]'(by simpa using hil) = false := by simpa using hun
    rw [hget]
    simp only [beq_self_eq_true, if_true, show (true == false) = false from rfl, Bool.false_eq_true, if_false]
    omega

/-- **Regions that draw their order are run rightly.** -/
theorem draw_run (hE : EnvOk P G E) (hS : Sound P G S) : DrawRun P G E S := by
  intro c ops T T' H H' h hg β a w hT hw id m r
  unfold drawA at h
  split at h
  · cases h
  · rename_i hok
    obtain ⟨objs, n0⟩ := H
    simp only at h
    split at h
    · rename_i T1 H1 pend vers loads hds
      split at h
      · rename_i hst
        cases h
        rw [List.range_eq_range'] at hds
        obtain ⟨st, t1, t2, t3⟩ := trace_of _ _ _ _ hds
        rw [Nat.zero_add] at t2
        have tr : Trace P E S c ops n0 st := ⟨drawOk_spec hok, fun i hi => drawStep_spec (t3 i (Nat.zero_le _) (by omega)), by rw [t1], by rw [t1], by rw [t2]; exact hst⟩
        refine wpIn_region_any hE.mixed ?_
        have hI : DInv P G E S c ops n0 st β (AHeap.mk objs n0).get w (Array.replicate ops.size false) 0 β (AHeap.mk objs n0).get (n0 + ops.size) a w.drew := by
          have hno : ∀ i, (Array.replicate ops.size false)[i]? ≠ some true := fun i h => by
            rw [Array.getElem?_replicate] at h
            split at h <;> cases h
          refine ⟨hw.drew.room (Nat.le_add_right _ _), { (Tran.drew (β := β) (g := (AHeap.mk objs n0).get) (n := n0) (w := w)) with next := Nat.le_add_right _ _ }, by simp, hT.1, fun i k h => absurd h (hno i), fun k _ _ => ⟨fun h => absurd h (hno k), fun h => by omega⟩, Nat.zero_le _, Nat.le_refl _, ⟨⟨objs, n0 + ops.size⟩, ?_, rfl, fun x o hx => hx, fun b hb _ => ?_⟩, fun b o h => absurd h (hno b), fun b hb _ => hw.fresh _ (Nat.le_add_right _ _), fun i o d h => absurd h (hno i), fun d _ v hv => ?_⟩
          · have := tr.ver (Nat.zero_le ops.size)
            rw [t1] at this; exact this
          · cases hq : (AHeap.mk objs (n0 + ops.size)).get (n0 + b) with
            | none => rfl
            | some o =>
              rcases hw.some_ (n0 + b) o hq with ⟨p, hp, -⟩ | ⟨-, hlt, -⟩
              · rw [hw.fresh _ (Nat.le_add_right _ _)] at hp; cases hp
              · exact absurd (show n0 + b < n0 from hlt) (by omega)
          · rw [t1] at hv; exact hT.2 d v hv
        refine draw_any hE hS hg tr (β0 := β) (g0 := (AHeap.mk objs n0).get) (w0 := w) (df := a.defers) (fun β' a' w' hd q1 q2 q3 => ?_) ops.size _ 0 β _ _ a _ hI (by simp) rfl
        rw [t2] at q1 q2 q3
        exact ⟨rfl, hd, β', q1, q2, q3⟩
      · cases h
    · cases h

/-- **THE EVALUATOR IS RIGHT.** -/
theorem ev_right (hE : EnvOk P G E) (n : Nat) : Sound P G (ev P E n) := ev_sound hE (fun _ hS => draw_run hE hS) n

end
end Go.Tc

