/- Contracts of which one comes true, whichever order is drawn; ranges over maps of several entries. -/
import Derived.Test.YtjmjbjnbfodalaaGreatTcLib
set_option linter.unusedSimpArgs false
set_option linter.unusedVariables false
set_option linter.unusedSectionVars false
namespace Go.Tc
section
variable [Val]
variable {P : Program} {G : Nat} {E : Env} {S : Evs} {β : Pl} {H : AHeap} {w : World} {c : Ctx} {T : Tmps}
structure FactN.Ok (P : Program) (G : Nat) (x : Fact) (alt : Fact → Prop) : Prop where
  run : ∀ {β : Pl} {w : World} {vs : List Value}, WR G β x.ahead.get x.ahead.next w → VRs β x.args vs →
    (∀ w0, (callFunc x.f vs.toArray).run P w0 = .ok (.enter x.f vs.toArray) w0) ∧ ∀ n, CallsIn Fence.wide n P x.f vs.toArray w fun e w' => ∃ y, alt y ∧ RetPost G β x.ahead w y.r y.behind e w'
def Fact.like (x y : Fact) : Prop := y.f = x.f ∧ y.args = x.args ∧ y.next = x.next ∧ y.pre = x.pre
theorem Fact.framed (hw : WR G β H.get H.next w) {x y : Fact} (hnx : x.next = H.next) (hlie : liesSo H x.pre = true) {u : Value} {w' : World} (he : Out G β x.ahead w y.r y.behind u w') :
    Out G β H w y.r ⟨graft y.objs (wipe x.pre H.objs), y.next'⟩ u w' := by
  have g1 : ∀ b o, x.ahead.get b = some o → (b, o) ∈ x.pre := by
    intro b o hb
    rcases graft_get _ _ b o hb with h | h
    · exact h
    · exact nomatch (show (none : Option AObj) = some o from h)
  have s1 : ∀ b o, x.ahead.get b = some o → H.get b = some o := fun b o hb => liesSo_get hlie b o (g1 b o hb)
  have g2 : ∀ b o, (AHeap.mk (wipe x.pre H.objs) x.next).get b = some o → H.get b = some o ∧ ∀ o', (b, o') ∉ x.pre := fun b o hb => wipe_get _ _ b o hb
  obtain ⟨β1, k1, k2, k3⟩ := he
  have k3' : Tran β x.ahead.get H.next w β1 y.behind.get y.next' w' := by
    have := k3
    change Tran β x.ahead.get x.next w β1 y.behind.get y.next' w' at this
    rwa [hnx] at this
  have k2' : WR G β1 y.behind.get y.next' w' := k2
  have hd : ∀ b o, (AHeap.mk (wipe x.pre H.objs) x.next).get b = some o → x.ahead.get b = none := by
    intro b o hb
    cases hg : x.ahead.get b with
    | none => rfl
    | some o' => exact absurd (g1 b o' hg) ((g2 b o hb).2 o')
  obtain ⟨z1, z2⟩ := hw.frame s1 (fun b o hb => (g2 b o hb).1) hd k3' k2'
  have hsub : ∀ b o, (AHeap.mk (graft y.objs (wipe x.pre H.objs)) y.next').get b = some o → (match (AHeap.mk (wipe x.pre H.objs) x.next).get b with | some o => some o | none => y.behind.get b) = some o := by
    intro b o hb
    cases hg : (AHeap.mk (wipe x.pre H.objs) x.next).get b with
    | none =>
      simp only
      have key : ∀ (l : List (Nat × AObj)) (t t' : Tr AObj), (∀ o, t.get b = some o → t'.get b = some o) → (graft l t).get b = some o → (graft l t').get b = some o := by
        intro l
        induction l with
        | nil => intro t t' ht h; exact ht o h
        | cons q l ih =>
          intro t t' ht h
          obtain ⟨b0, o0⟩ := q
          refine ih _ _ (fun o1 h1 => ?_) h
          rw [Tr.get_put] at h1 ⊢
          split at h1
          · rename_i e; rw [if_pos e]; exact h1
          · rename_i e; rw [if_neg e]; exact ht o1 h1
      exact key y.objs (wipe x.pre H.objs) .leaf (fun o1 h1 => by have : (AHeap.mk (wipe x.pre H.objs) x.next).get b = some o1 := h1; rw [hg] at this; cases this) hb
    | some o2 =>
      simp only
      rcases graft_get _ _ b o hb with h | h
      · exfalso
        have hlt : b < H.next := by
          by_cases hl : b < H.next
          · exact hl
          · rcases hw.some_ b o2 (g2 b o2 hg).1 with ⟨p, hp, -⟩ | ⟨-, hlt, -⟩
            · rw [hw.fresh b (Nat.le_of_not_lt hl)] at hp; cases hp
            · exact absurd hlt hl
        have h0 := k3'.dom b hlt (hd b o2 hg)
        have key : ∀ (l : List (Nat × AObj)) (t : Tr AObj), ((b, o) ∈ l ∨ (t.get b).isSome = true) → ((graft l t).get b).isSome = true := by
          intro l
          induction l with
          | nil => intro t ht; rcases ht with h | h
                   · cases h
                   · exact h
          | cons q l ih =>
            intro t ht
            obtain ⟨b0, o0⟩ := q
            refine ih _ ?_
            rw [Tr.get_put]
            rcases ht with h | h
            · rcases List.mem_cons.1 h with h | h
              · cases h; right; simp
              · exact .inl h
            · right; split
              · rfl
              · exact h
        have := key y.objs .leaf (.inl h)
        rw [show (graft y.objs .leaf).get b = none from h0] at this; cases this
      · have : (AHeap.mk (wipe x.pre H.objs) x.next).get b = some o := h
        rw [hg] at this; exact this
  exact ⟨β1, k1, z1.less hsub, z2.less hsub⟩
def callN (P : Program) (E : Env) (S : Evs) (c : Ctx) (ops : Array Oper) (i : Nat) (y : Fact) (T : Tmps) (H : AHeap) : Option (Tmps × AHeap) :=
  match opsA P E S c ops (List.range i) T H with
  | some (T1, H1) => match ops[i]? with
    | some o => match o.guard, o.op with
      | none, .call ⟨.value fo, args, _⟩ => match aeval c T1 fo, aevals c T1 args.toList with
        | some (.fn (.func g) first captured), some avs => match findFact g (first ++ avs ++ captured) H1 [y] with
          | some (v, H2) => match T1.lay c o.dst v with
            | some T2 => opsA P E S c ops (List.range' (i + 1) (ops.size - (i + 1))) T2 H2
            | none => none
          | none => none
        | _, _ => none
      | _, _ => none
    | none => none
  | none => none
theorem callN_run (hE : EnvOk P G E) (hS : Sound P G S) {x : Fact} {alt : Fact → Prop} (hx : FactN.Ok P G x alt) (hsame : ∀ y, alt y → x.like y) {y0 : Fact} (h0 : alt y0) {ops : Array Oper} {i : Nat} (hr : ∀ y, alt y → ∃ r, callN P E S c ops i y T H = some r)
    (hg : c.glob = G) {r : Option Nat} {n : Nat} {a : Act} (hT : TR β c T a.tmps) (hw : WR G β H.get H.next w) :
    wpOpsIn (Fen r) n P ops (fun e a' w' => ∃ y T' H', alt y ∧ callN P E S c ops i y T H = some (T', H') ∧ RegPost G c β H w a T' H' e a' w') (List.range ops.size) a w := by
  obtain ⟨r0, hr0⟩ := hr y0 h0
  have hr0' := hr0
  unfold callN at hr0'
  split at hr0'
  · rename_i T1 H1 hops
    split at hr0'
    · rename_i o ho
      split at hr0'
      · rename_i fo args ats hgd hop
        split at hr0'
        · rename_i g first captured avs hf hav
          split at hr0'
          · rename_i v0 H20 hff
            obtain ⟨yy, hyy, hyf, hya, hyn, hyl, -⟩ := findFact_mem hff
            rw [List.mem_singleton] at hyy
            subst hyy
            obtain ⟨l1, l2, l3, l4⟩ := hsame yy h0
            have hlt : i < ops.size := (Array.getElem?_eq_some_iff.1 ho).1
            have hrng : List.range ops.size = List.range i ++ i :: List.range' (i + 1) (ops.size - (i + 1)) := by
              rw [List.range_eq_range', List.range_eq_range']
              have e : ops.size = i + (1 + (ops.size - (i + 1))) := by omega
              conv => lhs; rw [e]
              rw [← List.range'_append_1, ← List.range'_append_1]
              simp
            rw [hrng]
            refine wpOpsIn_append _ _ (opsA_run.wpOpsIn_mono' _ (opsA_run (r := r) (n := n) hE hS hg _ hops hT hw) ?_)
            rintro e a1 w1 ⟨rfl, q2, β1, q3, q4, q5⟩
            show wpOpsIn (Fen r) n P ops _ (i :: _) a1 w1
            simp only [wpOpsIn, ho]
            have hwd : Region.wanted o (yielded ops a1.tmps) = true := by unfold Region.wanted; simp only [hgd]
            rw [if_pos hwd]
            refine ⟨fun f _ => Fen_fn r f, ?_⟩
            have hfv := aeval_VR q3 hg q4 hf
            have havs := aevals_of (fun z _ v hv => aeval_VR (a := a1) q3 hg q4 hv) hav
            have hsem : (o.semAt (Fen r).round a1.eval) = execOp a1.eval o := Oper.semAt_eq _ _ _ (fun d hd => by rw [hop] at hd; cases hd)
            rw [hsem]
            have hexec : execOp a1.eval o = (do let d ← Deferred.ofValue (a1.eval fo) (args.map a1.eval); invoke d.target d.args) := by
              obtain ⟨dst, op, type, pos, after, guard⟩ := o
              simp only at hop
              subst hop
              rfl
            have hargs : args.map a1.eval = (args.toList.map a1.eval).toArray := by rw [← Array.toList_map, Array.toArray_toList]
            rw [hexec, hargs]
            generalize a1.eval fo = fv at hfv
            generalize args.toList.map a1.eval = vs at havs
            cases hfv with
            | @fn _ f' _ _ xx yv hF hx1 hy1 =>
            cases hF
            have hall : VRs β1 x.args (xx.toList ++ vs ++ yv.toList) := by
              rw [← l2, hya]; exact (hx1.append havs).append hy1
            have hnx : x.next = H1.next := by rw [← l3]; exact hyn
            have hlie : liesSo H1 x.pre = true := by rw [← l4]; exact hyl
            have hw1 : WR G β1 x.ahead.get x.ahead.next w1 := by
              show WR G β1 x.ahead.get x.next w1
              rw [hnx]
              refine q4.less fun b o hb => ?_
              rcases graft_get _ _ b o hb with h | h
              · exact liesSo_get hlie b o h
              · exact nomatch (show (none : Option AObj) = some o from h)
            obtain ⟨c1, c2⟩ := hx.run hw1 hall
            have hrun : (do let d ← Deferred.ofValue (.func (.func g) xx yv) vs.toArray; invoke d.target d.args : Sem Next).run P w1 = .ok (.enter x.f (xx.toList ++ vs ++ yv.toList).toArray) w1 := by
              simp only [Deferred.ofValue, Sem.run_bind, Sem.run_pure, Result.andThen_ok, invoke]
              have e : xx ++ vs.toArray ++ yv = (xx.toList ++ vs ++ yv.toList).toArray := by simp
              rw [e]
              have : g = x.f := by rw [← l1, hyf]
              rw [this]
              exact c1 w1
            rw [hrun, Oper.uponIn_enter]
            refine ⟨fun h => (by rw [Fen_depth] at h; cases h), Fen_calls (CallsIn.mono (c2 (n - 1)) fun e w2 he => ?_)⟩
            obtain ⟨y, hy, he⟩ := he
            cases e with
            | panicked ch => exact he.elim
            | outgrown => exact he.elim
            | returned u =>
              obtain ⟨m1, m2, m3, m4⟩ := hsame y hy
              obtain ⟨β2, z1, z2, z3⟩ := Fact.framed q4 hnx hlie he
              obtain ⟨⟨T', H'⟩, hry⟩ := hr y hy
              have hry' := hry
              unfold callN at hry'
              have hffy : findFact g (first ++ avs ++ captured) H1 [y] = some (y.r, ⟨graft y.objs (wipe x.pre H1.objs), y.next'⟩) := by
                have e1 : y.f.beq g = true := by rw [m1, ← l1, hyf]; exact Nat.beq_refl g
                have e2 : y.next.beq H1.next = true := by rw [m3, hnx]; exact Nat.beq_refl _
                have e4 : liesSo H1 y.pre = true := by rw [m4]; exact hlie
                have e3 : AV.beqs y.args (first ++ avs ++ captured) = true := by
                  have := hff
                  simp only [findFact] at this
                  split at this
                  · split at this
                    · split at this
                      · rename_i hb
                        rw [m2, ← l2]; exact hb
                      · cases this
                    · cases this
                  · cases this
                simp only [findFact, e1, e2, e3, m4, hlie]
              simp only [hops, ho, hgd, hop, hf, hav, hffy] at hry'
              split at hry'
              · rename_i T2 hlay
                have hT2 : TR β2 c T2 (a1.put o.dst u).tmps := TR.lay (a := a1) (q3.mono z3.ext) hlay z1
                have := opsA_run (r := r) (n := n) hE hS hg _ hry' hT2 z2
                refine opsA_run.wpOpsIn_mono' _ this ?_
                rintro e a3 w3 ⟨j1, j2, β3, j3, j4, j5⟩
                exact ⟨y, T', H', hy, hry, j1, j2.trans ((put_defers _ _ _).trans q2), β3, j3, j4, q5.trans (z3.trans j5)⟩
              · cases hry'
          · cases hr0'
        · cases hr0'
      · cases hr0'
    · cases hr0'
  · cases hr0'
def rangeN (c : Ctx) (y : Fact) (fv : Option AV) (lc : LRef) (T : Tmps) (marks : List Mark) (H : AHeap) : Option Res :=
  match fv with
  | some (.fn (.func g) first captured) =>
    match findFact g (first ++ .fn (.yield (H.new (.dfr true)).next) [] [] :: captured) ((H.new (.dfr true)).new (.loop ⟨.ready, none, c, T, lc, H.next⟩)) [y] with
    | some (_, H3) => match H3.get (H.new (.dfr true)).next with
      | some (.loop ⟨st, pd, c3, t3, b3, d3⟩) => if st = .busy then none else
        match exitOfJump pd with
        | some e => some ⟨e, T, .own H.next :: marks, H3.set (H.new (.dfr true)).next (.loop ⟨.exhausted, pd, c3, t3, b3, d3⟩)⟩
        | none => none
      | _ => none
    | none => none
  | _ => none
theorem rangeN_run {x : Fact} {alt : Fact → Prop} (hx : FactN.Ok P G x alt) (hsame : ∀ y, alt y → x.like y) {y0 : Fact} (h0 : alt y0) {f : Operand} {params : Array Tmp} {assign body : Code} {lc : LRef} {m : List Mark} (hlc : lc.get = ⟨params, assign, body⟩)
    (hr : ∀ y, alt y → ∃ r, rangeN c y (aeval c T f) lc T m H = some r) (hg : c.glob = G) {a : Act} (hT : TR β c T a.tmps) (hm : MarksR β m a.defers) (hw : WR G β H.get H.next w) (n : Nat) :
    (Code.rangeFunc f params assign body).wpIn (Fen none) n P (fun e a' w' => ∃ y res, alt y ∧ rangeN c y (aeval c T f) lc T m H = some res ∧ CodePost G c β H w res e a' w') a w := by
  obtain ⟨r0, hr0⟩ := hr y0 h0
  unfold rangeN at hr0
  split at hr0
  · rename_i g first captured hf
    split at hr0
    · rename_i v0 H30 hff
      obtain ⟨yy, hyy, hyf, hya, hyn, hyl, -⟩ := findFact_mem hff
      rw [List.mem_singleton] at hyy
      subst hyy
      obtain ⟨l1, l2, l3, l4⟩ := hsame yy h0
      have hfv := aeval_VR hT hg hw hf
      refine wpIn_rangeFunc fun fnid _ => ?_
      rw [Fen_round]
      obtain ⟨β1, w1, mark, pl, hrun, hpl, hTR1, hM1, hw1, ht1⟩ : ∃ (β1 : Pl) (w1 : World) (mark : List Deferred) (pl : Place),
          (Instr.enterLoop fnid a.tmps params assign body none).run P w = .ok (pl.c, mark) w1 ∧ β1 (H.new (.dfr true)).next = some pl ∧ TR β1 c T a.tmps ∧ MarksR β1 (.own H.next :: m) (mark ++ a.defers) ∧
          WR G β1 ((H.new (.dfr true)).new (.loop ⟨.ready, none, c, T, lc, H.next⟩)).get ((H.new (.dfr true)).new (.loop ⟨.ready, none, c, T, lc, H.next⟩)).next w1 ∧
          Tran β H.get H.next w β1 ((H.new (.dfr true)).new (.loop ⟨.ready, none, c, T, lc, H.next⟩)).get ((H.new (.dfr true)).new (.loop ⟨.ready, none, c, T, lc, H.next⟩)).next w1 := by
        obtain ⟨j1, j2⟩ := hw.alloc (.deferred (some [])) 0 (.dfr true) (World.alloc_heap_new _ _)
        rw [← AHeap.get_new, ← AHeap.next_new (o := .dfr true)] at j1 j2
        obtain ⟨k1, k2⟩ := j1.alloc (.loop { state := .ready, pending := none, fn := fnid, tmps := a.tmps, params := params, assign, body, defers := w.heap.size }) 0 (.loop ⟨.ready, none, c, T, lc, H.next⟩)
          ⟨_, World.alloc_heap_new _ _, rfl, rfl, (hT.mono j2.ext).mono (Pl.put_ext _ (j1.fresh _ (Nat.le_refl _))), by rw [hlc], by rw [hlc], by rw [hlc], ⟨w.heap.size, 0, 0⟩, by
            refine Pl.put_ext _ (j1.fresh _ (Nat.le_refl _)) _ _ (Pl.put_same β H.next _), rfl⟩
        rw [← AHeap.get_new, ← AHeap.next_new (o := .loop ⟨.ready, none, c, T, lc, H.next⟩)] at k1 k2
        refine ⟨_, _, _, ⟨w.heap.size + 1, 0, 0⟩, run_enterLoop_outer _ _ _ _ _, ?_, (hT.mono j2.ext).mono k2.ext, ?_, k1, j2.trans k2⟩
        · rw [Pl.put_same]; simp
        · exact ⟨⟨⟨w.heap.size, 0, 0⟩, k2.ext _ _ (Pl.put_same β H.next _), rfl⟩, (hm.mono j2.ext).mono k2.ext⟩
      generalize hfe : a.eval f = fe at hfv
      have hfv := hfv.mono ht1.ext
      cases hfv with
      | @fn _ f' _ _ xx yv hF hx1 hy1 =>
      cases hF
      have hargs : VRs β1 (first ++ .fn (.yield (H.new (.dfr true)).next) [] [] :: captured) (xx.toList ++ .func (.yield pl.c) #[] #[] :: yv.toList) := hx1.append (.cons (.fn (.yield hpl) .nil .nil) hy1)
      have hall : VRs β1 x.args (xx.toList ++ .func (.yield pl.c) #[] #[] :: yv.toList) := by rw [← l2, hya]; exact hargs
      have hnx : x.next = ((H.new (.dfr true)).new (.loop ⟨.ready, none, c, T, lc, H.next⟩)).next := by rw [← l3]; exact hyn
      have hlie : liesSo ((H.new (.dfr true)).new (.loop ⟨.ready, none, c, T, lc, H.next⟩)) x.pre = true := by rw [← l4]; exact hyl
      have hw1' : WR G β1 x.ahead.get x.ahead.next w1 := by
        show WR G β1 x.ahead.get x.next w1
        rw [hnx]
        refine hw1.less fun b o hb => ?_
        rcases graft_get _ _ b o hb with h | h
        · exact liesSo_get hlie b o h
        · exact nomatch (show (none : Option AObj) = some o from h)
      obtain ⟨hc1, hc2⟩ := hx.run hw1' hall
      refine ⟨pl.c, mark, w1, { target := .fn (.func g) yv, args := xx ++ #[.func (.yield pl.c) #[] #[]] }, w1, x.f, (xx.toList ++ .func (.yield pl.c) #[] #[] :: yv.toList).toArray, w1, hrun, ?_, fun f' _ => Fen_fn none f', ?_, ?_, ?_⟩
      · simp only [resolve, hfe]
        simp [Deferred.ofValue, Act.eval]
      · have := hc1 w1
        have e : xx ++ #[Value.func (.yield pl.c) #[] #[]] ++ yv = (xx.toList ++ .func (.yield pl.c) #[] #[] :: yv.toList).toArray := by simp
        have eg : g = x.f := by rw [← l1, hyf]
        simp only [invoke, e, eg]
        exact this
      · intro hd; rw [Fen_depth] at hd; cases hd
      · refine CallsIn.mono (Fen_calls (hc2 (n - 1))) ?_
        intro en w3 hen3
        obtain ⟨y, hy, hen3⟩ := hen3
        cases en with
        | panicked ch => exact hen3.elim
        | outgrown => exact hen3.elim
        | returned v' =>
          obtain ⟨m1, m2, m3, m4⟩ := hsame y hy
          obtain ⟨β3, z1, z2, z3⟩ := Fact.framed hw1 hnx hlie hen3
          obtain ⟨res, hry⟩ := hr y hy
          have hry' := hry
          unfold rangeN at hry'
          have hffy : findFact g (first ++ .fn (.yield (H.new (.dfr true)).next) [] [] :: captured) ((H.new (.dfr true)).new (.loop ⟨.ready, none, c, T, lc, H.next⟩)) [y] = some (y.r, ⟨graft y.objs (wipe x.pre ((H.new (.dfr true)).new (.loop ⟨.ready, none, c, T, lc, H.next⟩)).objs), y.next'⟩) := by
            have e1 : y.f.beq g = true := by rw [m1, ← l1, hyf]; exact Nat.beq_refl g
            have e2 : y.next.beq ((H.new (.dfr true)).new (.loop ⟨.ready, none, c, T, lc, H.next⟩)).next = true := by rw [m3, hnx]; exact Nat.beq_refl _
            have e3 : AV.beqs y.args (first ++ .fn (.yield (H.new (.dfr true)).next) [] [] :: captured) = true := by
              have := hff
              simp only [findFact] at this
              split at this
              · split at this
                · split at this
                  · rename_i hb
                    rw [m2, ← l2]; exact hb
                  · cases this
                · cases this
              · cases this
            simp only [findFact, e1, e2, e3, m4, hlie]
          simp only [hf, hffy] at hry'
          split at hry'
          · rename_i st pd c3 t3 b3 d3 hl3
            split at hry'
            · cases hry'
            · rename_i hst
              split at hry'
              · rename_i e hj
                simp only [Option.some.injEq] at hry'
                have hp3 : β3 (H.new (.dfr true)).next = some pl := z3.ext _ _ hpl
                obtain ⟨cl3, e1, e2, e3, -⟩ := loop_at z2 hl3 hp3
                obtain ⟨y1, y2⟩ := loop_turn z2 hl3 hp3 e1 .exhausted pd
                have hel := run_endLoop (P := P) e1 (by rw [e2]; exact hst)
                have hpe : ({ cl3 with state := .exhausted, pending := pd } : Loop) = { cl3 with state := .exhausted } := by rw [← e3]
                rw [hpe] at y1 y2
                refine ⟨pd, w3.putObj pl.c (.loop { cl3 with state := .exhausted }), hel.trans (by rw [e3]), ?_⟩
                have hfin : ∀ ex, ex = e → ∃ y res, alt y ∧ rangeN c y (aeval c T f) lc T m H = some res ∧ CodePost G c β H w res (toExit ex) { a with defers := mark ++ a.defers } (w3.putObj pl.c (.loop { cl3 with state := .exhausted })) := by
                  rintro ex rfl
                  refine ⟨y, res, hy, hry, ?_⟩
                  rw [← hry']
                  exact ⟨rfl, β3, hTR1.mono z3.ext, hM1.mono z3.ext, y1, ht1.trans (z3.trans y2)⟩
                cases pd with
                | none =>
                  simp only [exitOfJump, Option.some.injEq] at hj
                  exact hfin .normal hj
                | some jc =>
                  cases jc <;> simp only [exitOfJump, Option.some.injEq, reduceCtorEq] at hj
                  · exact wpIn_exit (hfin (.exit _) hj)
                  · exact wpIn_goto (hfin (.goto _) hj)
                  · exact wpIn_ret (hfin .ret hj)
              · cases hry'
          · cases hry'
    · cases hr0
  · cases hr0
def nextsA (H : AHeap) (it : AV) : Option (List (AV × AHeap)) :=
  match it with
  | .ptr r 0 => match H.get r with
    | some (.miter (some m) since seen last) => match mapOf H m with
      | some (es, clock) =>
        if (!seen.isEmpty && !es.isEmpty && es.all fun e => decide (last ≤ e.born)) = true then none else
        match es.filter (unseen seen) with
        | [] => some [(.tuple [.bool false], H)]
        | l => if (l.all fun e => decide (e.born < since)) = true then some (l.map fun e => (.tuple [.bool true, e.key, e.val], H.set r (.miter (some m) since (seen ++ [e.born]) clock))) else none
      | none => none
    | _ => none
  | _ => none
theorem EntsR.len {es : List AEnt} {ms : List MapEntry} (h : EntsR β es ms) : es.length = ms.length := by
  induction h with
  | nil => rfl
  | cons _ _ _ _ ih => simp [ih]
theorem EntsR.at_ {es : List AEnt} {ms : List MapEntry} (h : EntsR β es ms) : ∀ j, j < ms.length → ∃ e m, es[j]? = some e ∧ ms[j]? = some m ∧ VR β e.key m.key ∧ VR β e.val m.val ∧ e.born = m.born := by
  induction h with
  | nil => intro j hj; cases hj
  | @cons e m es ms hk hv hb _ ih =>
    intro j hj
    cases j with
    | zero => exact ⟨e, m, rfl, rfl, hk, hv, hb⟩
    | succ j => exact ih j (by simpa using hj)
theorem nextsA_run {it : AV} {v : Value} {ty : TypeId} {l : List (AV × AHeap)} (hw : WR G β H.get H.next w) (h : nextsA H it = some l) (hx : VR β it v) :
    ∃ r H' w' z, (r, H') ∈ l ∧ (Instr.next v false ty).run P w = .ok z w' ∧ VR β r z ∧ WR G β H'.get H'.next w' ∧ Tran β H.get H.next w β H'.get H'.next w' := by
  have hover : VR β (.tuple [.bool false]) (.tuple #[.bool false]) := .tuple (.cons (.bool _) .nil)
  unfold nextsA at h
  split at h
  · rename_i rb
    cases hx with
    | @ptr _ p _ hp =>
    split at h
    · rename_i m since seen last hg
      obtain ⟨q, hq, hb0, qm, hqm, ho⟩ := hw.obj rb _ hg
      rw [hp] at hq; cases hq
      have hgo : (getObj p.c).run P w = .ok (.mapIter (some qm.c) since seen.toArray last) w := by simp [getObj, Sem.run, ho]
      split at h
      · rename_i es clock hm
        obtain ⟨ces, h1, h2⟩ := map_at hw hm hqm
        have hgm : (getObj qm.c).run P w = .ok (.map ces clock) w := by simp [getObj, Sem.run, h1]
        split at h
        · cases h
        · rename_i hstop
          have hall := h2.all fun b => decide (last ≤ b)
          have hstop' : (!seen.toArray.isEmpty && !ces.isEmpty && ces.all fun e => decide (e.born ≥ last)) = false := by
            have e1 : seen.toArray.isEmpty = seen.isEmpty := by simp
            have e2 : ces.isEmpty = es.isEmpty := by rw [hall.2]; simp
            have e3 : (ces.all fun e => decide (e.born ≥ last)) = es.all fun e => decide (last ≤ e.born) := by rw [hall.1, Array.all_toList]
            rw [e1, e2, e3]
            simpa using hstop
          have hfil := h2.filter fun b => !seen.contains b
          have hleft : (ces.filter fun e => !seen.toArray.contains e.born).toList = ces.toList.filter fun e => !seen.contains e.born := by
            rw [Array.toList_filter]; simp
          split at h
          · rename_i hnone
            cases h
            have hl0 : (ces.filter fun e => !seen.toArray.contains e.born) = #[] := by
              apply Array.ext'
              rw [hleft]
              have e : (es.filter fun e => !seen.contains e.born) = [] := hnone
              rw [e] at hfil
              generalize (ces.toList.filter fun e => !seen.contains e.born) = z at hfil
              cases hfil
              rfl
            refine ⟨_, _, w, .tuple #[.bool false], List.mem_singleton.2 rfl, ?_, hover, hw, Tran.refl _ _ _ _⟩
            simp only [Instr.next, hb0, Nat.add_zero, Sem.run_bind, hgo, hgm, Result.andThen_ok, hstop', Bool.false_eq_true, if_false, hl0]
            simp [Question.forced]
          · rename_i hne
            split at h
            · rename_i hold
              cases h
              change EntsR β (es.filter (unseen seen)) _ at hfil
              generalize hq : es.filter (unseen seen) = q at hfil hne hold
              generalize hz : (ces.toList.filter fun e => !seen.contains e.born) = zs at hfil hleft
              generalize hL : (ces.filter fun e => !seen.toArray.contains e.born) = left at hleft
              have hlen := hfil.len
              have hsz : left.size = zs.length := by rw [← hleft]; simp
              have hqn : q ≠ [] := fun e => hne e
              have hpos : 0 < left.size := by
                rw [hsz, ← hlen]
                exact List.length_pos_iff.2 hqn
              have hborn : ∀ x ∈ left, x.born < since := by
                intro x hx
                have hx : x ∈ zs := by rw [← hleft]; exact Array.mem_toList_iff.2 hx
                obtain ⟨j, hj, rfl⟩ := List.mem_iff_getElem.1 hx
                obtain ⟨e, m0, k1, k2, -, -, k3⟩ := hfil.at_ j hj
                rw [List.getElem?_eq_getElem hj] at k2
                cases k2
                have := List.all_eq_true.1 hold e (List.mem_of_getElem? k1)
                rw [← k3]; simpa using this
              have f1 : left.filter (fun e => decide (e.born < since)) = left := by
                rw [Array.filter_eq_self]
                intro x hx; simpa using hborn x hx
              have f2 : left.filter (fun e => decide (e.born ≥ since)) = #[] := by
                rw [Array.filter_eq_empty_iff]
                intro x hx
                have := hborn x hx
                simp; omega
              obtain ⟨j, w0, hj, hch, hheap, hw0, ht0⟩ : ∃ j w0, j < left.size ∧ (choose (.mapNext left.size)).run P w = .ok j w0 ∧ w0.heap = w.heap ∧ WR G β H.get H.next w0 ∧ Tran β H.get H.next w β H.get H.next w0 := by
                rw [run_choose_drew]
                by_cases hf : (Question.mapNext left.size).forced = true
                · exact ⟨0, w, hpos, by rw [if_pos hf], rfl, hw, Tran.refl _ _ _ _⟩
                · refine ⟨_, w.drew, ?_, by rw [if_neg hf], rfl, hw.drew, Tran.drew⟩
                  simp only [Question.cut]
                  exact Nat.mod_lt _ hpos
              obtain ⟨e, m0, k1, k2, kk, kv, kb⟩ := hfil.at_ j (by omega)
              have hlt : p.c < w0.heap.size := by rw [hheap]; exact hw.bound _ _ hp
              have hset : (setObj p.c (.mapIter (some qm.c) since (seen ++ [m0.born]).toArray clock)).run P w0 = .ok () (w0.putObj p.c (.mapIter (some qm.c) since (seen ++ [m0.born]).toArray clock)) := by
                simp [setObj, Sem.run, hheap, ho, World.putObj]
              have hturn := hw0.turn hg rfl hp (w' := w0.putObj p.c (.mapIter (some qm.c) since (seen ++ [m0.born]).toArray clock)) (o' := .miter (some m) since (seen ++ [e.born]) clock) (by simp) (fun c hc => World.putObj_heap_other hc) rfl rfl rfl
                ⟨hb0, qm, hqm, by rw [World.putObj_heap_same hlt, kb]⟩
              refine ⟨.tuple [.bool true, e.key, e.val], H.set rb (.miter (some m) since (seen ++ [e.born]) clock), w0.putObj p.c (.mapIter (some qm.c) since (seen ++ [m0.born]).toArray clock), .tuple #[.bool true, m0.key, m0.val], ?_, ?_, .tuple (.cons (.bool _) (.cons kk (.cons kv .nil))), ?_⟩
              · exact List.mem_map.2 ⟨e, List.mem_of_getElem? k1, rfl⟩
              · have hcand : ((if left.isEmpty = true then #[none] else #[]) ++ (left ++ #[]).map some : Array (Option MapEntry)) = left.map some := by
                  have : left.isEmpty = false := by
                    rw [Array.isEmpty_eq_false_iff]
                    intro e; rw [e] at hpos; simp at hpos
                  rw [this]; simp
                have hat : (left.map some)[j]? = some (some m0) := by
                  have : left[j]? = some m0 := by rw [← Array.getElem?_toList, hleft]; exact k2
                  simp [this]
                simp only [Instr.next, hb0, Nat.add_zero, Sem.run_bind, hgo, hgm, Result.andThen_ok, hstop', Bool.false_eq_true, if_false, hL, f1, f2, hcand, Array.size_map, hch, hat]
                simp [hset]
              · rw [AHeap.get_set, AHeap.next_set]
                exact ⟨hturn.1, ht0.trans hturn.2⟩
            · cases h
      · cases h
    · cases h
  · cases h
def pickOps (ops : Array Oper) : Option (Oper × Operand) :=
  match ops[0]? with
  | some o => match o.guard, o.op with
    | none, .next it false => some (o, it)
    | _, _ => none
  | none => none
def oneB (P : Program) (E : Env) (S : Evs) (c : Ctx) (ops : Array Oper) (o : Oper) (rest : List Code) (v : AV) (m : List Mark) (T : Tmps) (H : AHeap) : Option Res :=
  match T.lay c o.dst v with
  | some T1 => match opsA P E S c ops (List.range' 1 (ops.size - 1)) T1 H with
    | some (T2, H2) => evFlatA S c none rest T2 m H2
    | none => none
  | none => none
def keyOf : AV → List Int
  | .tuple [.bool true, .int _ k, _] => [k]
  | _ => []
def manyB (P : Program) (E : Env) (S : Evs) (c : Ctx) (ops : Array Oper) (rest : List Code) (leaf : List Int → Res → Bool) : Nat → List (Nat × Nat) → List Int → Tmps → List Mark → AHeap → Bool
  | 0, _, _, _, _, _ => false
  | f + 1, pre, path, T, m, H => match pickOps ops with
    | some (o, it) => match aeval c T.fresh it with
      | some a => match nextsA H a with
        | some l => match pre with
          | [] => l.all fun p => match oneB P E S c ops o rest p.1 m T.fresh p.2 with
            | some ⟨.normal, T3, m3, H3⟩ => manyB P E S c ops rest leaf f [] (path ++ keyOf p.1) T3 m3 H3
            | some r => leaf path r
            | none => false
          | (i, k) :: pre' => l.length.beq k && match l[i]? with
            | some p => match oneB P E S c ops o rest p.1 m T.fresh p.2 with
              | some ⟨.normal, T3, m3, H3⟩ => manyB P E S c ops rest leaf f pre' (path ++ keyOf p.1) T3 m3 H3
              | some r => leaf path r
              | none => false
            | none => false
        | none => false
      | none => false
    | none => false
structure Good (P : Program) (G : Nat) (c : Ctx) (bd : Code) (leaf : List Int → Res → Bool) (T : Tmps) (m : List Mark) (H : AHeap) : Prop where
  go_ : ∀ {β : Pl} {w : World} {a : Act}, TR β c T a.tmps → MarksR β m a.defers → WR G β H.get H.next w → ∀ n, LoopIn (Fen none) n P bd (fun e a' w' => ∃ path r, leaf path r = true ∧ CodePost G c β H w r e a' w') a w
theorem good_step (hE : EnvOk P G E) (hS : Sound P G S) (hg : c.glob = G) {bd : Code} {rid : Nat} {ops : Array Oper} {rest : List Code} (hfl : flat bd = .region rid ops false :: rest) {leaf : List Int → Res → Bool} {T : Tmps} {m : List Mark} {H : AHeap} {o : Oper} {it : Operand} {a0 : AV} {l : List (AV × AHeap)}
    (ho : pickOps ops = some (o, it)) (ha : aeval c T.fresh it = some a0) (hl : nextsA H a0 = some l)
    (hall : ∀ p ∈ l, ∃ r, oneB P E S c ops o rest p.1 m T.fresh p.2 = some r ∧ ((r.exit = .normal ∧ Good P G c bd leaf r.tmps r.marks r.heap) ∨ (r.exit ≠ .normal ∧ ∃ path, leaf path r = true))) : Good P G c bd leaf T m H := by
  refine ⟨?_⟩
  intro β w a hT hm hw n
  refine loopIn_step (wp_of_flat bd ?_)
  rw [hfl]
  -- the region
  have ho0 := ho
  unfold pickOps at ho0
  split at ho0
  · rename_i o1 hget
    split at ho0
    · rename_i it1 hgd hop
      cases ho0
      have hpos : 0 < ops.size := (Array.getElem?_eq_some_iff.1 hget).1
      have hrng : List.range ops.size = 0 :: List.range' 1 (ops.size - 1) := by
        rw [List.range_eq_range', show ops.size = (ops.size - 1) + 1 by omega, List.range'_succ]
        simp
      have hfin : wpOpsIn (Fen none) n P ops (fun e a' w' => ∃ p T1 T2 H2, p ∈ l ∧ T.fresh.lay c o.dst p.1 = some T1 ∧ opsA P E S c ops (List.range' 1 (ops.size - 1)) T1 p.2 = some (T2, H2) ∧ RegPost G c β H w a T2 H2 e a' w') (List.range ops.size) a w := by
        rw [hrng]
        simp only [wpOpsIn, hget]
        have hwd : Region.wanted o (yielded ops a.tmps) = true := by unfold Region.wanted; simp only [hgd]
        rw [if_pos hwd]
        refine ⟨fun f _ => Fen_fn none f, ?_⟩
        have hsem : (o.semAt (Fen none).round a.eval) = execOp a.eval o := Oper.semAt_eq _ _ _ (fun d hd => by rw [hop] at hd; cases hd)
        rw [hsem]
        have hv := aeval_VR (a := a) hT.fresh hg hw ha
        obtain ⟨r, H1, w1, z, k1, k2, k3, k4, k5⟩ := nextsA_run (P := P) (ty := o.type) hw hl hv
        have hexec : (execOp a.eval o).run P w = .ok (.value z) w1 := by
          obtain ⟨dst, op, type, pos, after, guard⟩ := o
          simp only at hop
          subst hop
          simp only [execOp, Sem.run_bind, k2, Result.andThen_ok, Sem.run_pure]
        rw [hexec]
        show wpOpsIn (Fen none) n P ops _ _ (a.put o.dst z) w1
        obtain ⟨r1, hr1, -⟩ := hall (r, H1) k1
        unfold oneB at hr1
        split at hr1
        · rename_i T1 hlay
          split at hr1
          · rename_i T2 H2 hops
            have hT1 : TR β c T1 (a.put o.dst z).tmps := TR.lay (a := a) hT.fresh hlay k3
            refine opsA_run.wpOpsIn_mono' _ (opsA_run (r := none) (n := n) hE hS hg _ hops hT1 k4) ?_
            rintro e a2 w2 ⟨j1, j2, β2, j3, j4, j5⟩
            exact ⟨(r, H1), T1, T2, H2, k1, hlay, hops, j1, j2.trans (put_defers _ _ _), β2, j3, j4, k5.trans j5⟩
          · cases hr1
        · cases hr1
      refine wpIn_mono (wpIn_region hfin) ?_
      rintro e a1 w1 ⟨p, T1, T2, H2, hp, hlay, hops, rfl, q2, β1, q3, q4, q5⟩
      show wpL (Fen none) n P rest _ a1 w1
      obtain ⟨r, hr, hend⟩ := hall p hp
      have hr' := hr
      unfold oneB at hr'
      simp only [hlay, hops] at hr'
      have hm1 : MarksR β1 m a1.defers := by rw [q2]; exact hm.mono q5.ext
      refine wpL_mono (evFlat_run hS hg rest hr' q3 hm1 q4 (r := none) trivial n) ?_
      rintro e a2 w2 ⟨rfl, β2, z1, z2, z3, z4⟩
      rcases hend with ⟨hx, hgood⟩ | ⟨hx, path, hleaf⟩
      · rw [hx]
        show LoopIn _ _ _ _ _ _ _
        refine loopIn_mono (hgood.go_ z1 z2 z3 n) ?_
        rintro e a3 w3 ⟨path, r3, h1, h2⟩
        exact ⟨path, r3, h1, h2.trans (q5.trans z4)⟩
      · have : CodePost G c β H w r (toExit r.exit) a2 w2 := ⟨rfl, β2, z1, z2, z3, q5.trans z4⟩
        cases hrx : r.exit with
        | normal => exact absurd hrx hx
        | exit id => rw [hrx] at this; exact ⟨path, r, hleaf, this⟩
        | goto id => rw [hrx] at this; exact ⟨path, r, hleaf, this⟩
        | ret => rw [hrx] at this; exact ⟨path, r, hleaf, this⟩
    · cases ho0
  · cases ho0
theorem many_good (hE : EnvOk P G E) (hS : Sound P G S) (hg : c.glob = G) {bd : Code} {rid : Nat} {ops : Array Oper} {rest : List Code} (hfl : flat bd = .region rid ops false :: rest) {leaf : List Int → Res → Bool} :
    ∀ f path T m H, manyB P E S c ops rest leaf f [] path T m H = true → Good P G c bd leaf T m H
  | 0, _, _, _, _, h => by cases h
  | f + 1, path, T, m, H, h => by
    simp only [manyB] at h
    split at h
    · rename_i o it ho
      split at h
      · rename_i a0 ha
        split at h
        · rename_i l hl
          refine good_step hE hS hg hfl ho ha hl fun p hp => ?_
          have := List.all_eq_true.1 h p hp
          split at this
          · rename_i T3 m3 H3 h1
            exact ⟨_, h1, .inl ⟨rfl, many_good hE hS hg hfl f _ _ _ _ this⟩⟩
          · rename_i r hne h1
            refine ⟨r, h1, .inr ⟨fun e => ?_, _, this⟩⟩
            obtain ⟨ex, T3, m3, H3⟩ := r
            simp only at e
            subst e
            exact hne T3 m3 H3 rfl
          · cases this
        · cases h
      · cases h
    · cases h
def prods : List Nat → List (List (Nat × Nat))
  | [] => [[]]
  | k :: ks => (List.range k).flatMap fun i => (prods ks).map fun p => (i, k) :: p
theorem prods_ne : ∀ (ks : List Nat), (∀ k ∈ ks, 0 < k) → ∃ p, p ∈ prods ks
  | [], _ => ⟨[], List.mem_singleton.2 rfl⟩
  | k :: ks, h => by
    obtain ⟨p, hp⟩ := prods_ne ks fun k hk => h k (List.mem_cons_of_mem _ hk)
    exact ⟨(0, k) :: p, List.mem_flatMap.2 ⟨0, List.mem_range.2 (h k (List.mem_cons_self)), List.mem_map.2 ⟨p, hp, rfl⟩⟩⟩
theorem prods_good (hE : EnvOk P G E) (hS : Sound P G S) (hg : c.glob = G) {bd : Code} {rid : Nat} {ops : Array Oper} {rest : List Code} (hfl : flat bd = .region rid ops false :: rest) {leaf : List Int → Res → Bool} :
    ∀ ks, (∀ k ∈ ks, 0 < k) → ∀ f path T m H, (∀ p ∈ prods ks, manyB P E S c ops rest leaf f p path T m H = true) → Good P G c bd leaf T m H
  | [], _, f, path, T, m, H, h => many_good hE hS hg hfl f path T m H (h [] (List.mem_singleton.2 rfl))
  | k :: ks, hk, f, path, T, m, H, h => by
    have hks : ∀ x ∈ ks, 0 < x := fun x hx => hk x (List.mem_cons_of_mem _ hx)
    have hk0 := hk k List.mem_cons_self
    obtain ⟨p0, hp0⟩ := prods_ne ks hks
    have at_ : ∀ i, i < k → ∀ p ∈ prods ks, manyB P E S c ops rest leaf f ((i, k) :: p) path T m H = true := fun i hi p hp =>
      h _ (List.mem_flatMap.2 ⟨i, List.mem_range.2 hi, List.mem_map.2 ⟨p, hp, rfl⟩⟩)
    have h0 := at_ 0 hk0 p0 hp0
    cases f with
    | zero => cases h0
    | succ f =>
      simp only [manyB] at h0 at_
      split at h0
      · rename_i o it ho
        split at h0
        · rename_i a0 ha
          split at h0
          · rename_i l hl
            rw [Bool.and_eq_true] at h0
            have hlen := Nat.eq_of_beq_eq_true h0.1
            refine good_step hE hS hg hfl ho ha hl fun p hp => ?_
            obtain ⟨i, hi, rfl⟩ := List.mem_iff_getElem.1 hp
            have hi' : i < k := by omega
            have each := at_ i hi'
            simp only [ho, ha, hl, List.getElem?_eq_getElem hi, Bool.and_eq_true] at each
            have e0 := (each p0 hp0).2
            split at e0
            · rename_i T3 m3 H3 h1
              refine ⟨_, h1, .inl ⟨rfl, prods_good hE hS hg hfl ks hks f (path ++ keyOf l[i].1) T3 m3 H3 fun q hq => ?_⟩⟩
              have := (each q hq).2
              simpa only [h1] using this
            · rename_i r hne h1
              refine ⟨r, h1, .inr ⟨fun e => ?_, _, e0⟩⟩
              obtain ⟨ex, T3, m3, H3⟩ := r
              simp only at e
              subst e
              exact hne T3 m3 H3 rfl
            · cases e0
          · cases h0
        · cases h0
      · cases h0
end
section
variable {P : Program} {G : Nat} {E : Env} {V : Val} {c : Ctx} {k0 : Nat}
theorem by_v (V : Val) : V.by Tm.v = V := rfl
def exB (P : Program) (E : Env) (n : Nat) (c : Ctx) (k0 i : Nat) (l : List Code) (id : Nat) (ops : Array Oper) (rest : List Code) (pp : List Int → Bool) (ln : List (Nat × Nat)) (σp : List Int → St) (f : Nat) (pre : List (Nat × Nat)) (σ : St) : Bool :=
  match evFlatA (ev P E n) c none (l.take i) σ.tmps (σ.marks.map .own) σ.heap with
  | some ⟨.normal, T1, m1, H1⟩ => manyB P E (ev P E n) c ops rest (fun path r => match r with
    | ⟨.exit j, T2, m2, H2⟩ => j.beq id && pp path && isStateM E.nf c.glob k0 c Tm.v ln T2 m2 H2 (σp path)
    | _ => false) f pre [] T1 m1 H1
  | _ => false
theorem TriL.explore (hE : @EnvOk V P G E) (hg : c.glob = G) (i : Nat) {n : Nat} {l l2 : List Code} {id : Nat} {bd : Code} (hl : l.drop i = .block id (.loop bd) :: l2) {rid : Nat} {ops : Array Oper} {rest : List Code} (hfl : flat bd = .region rid ops false :: rest) {pp : List Int → Bool} {ln : List (Nat × Nat)}
    {σp : List Int → St} {f : Nat} {σ : St} (hk : k0 ≤ σ.next) (ks : List Nat) (hks : ∀ k ∈ ks, 0 < k) (h : ∀ p ∈ prods ks, exB P E n c k0 i l id ops rest pp ln σp f p σ = true) {Q : Val → AExit → St → Prop}
    (hQ : ∀ path, pp path = true → TriL P G V c none k0 l2 (σp path) Q) : TriL P G V c none k0 l σ Q := by
  letI := V
  obtain ⟨p0, hp0⟩ := prods_ne ks hks
  have h0 := h p0 hp0
  unfold exB at h0 h
  split at h0
  · rename_i T1 m1 H1 hev
    simp only [hev] at h
    refine ⟨?_⟩
    intro β a w r hs hr k
    cases r with
    | some r => exact hr.elim
    | none =>
    have q := evFlat_run (ev_right hE n) hg (l.take i) hev hs.tr (@OwnR.marks V _ _ _ hs.mks) hs.wr (r := none) trivial k
    rw [← List.take_append_drop i l]
    refine wpL_append (wpL_mono q ?_)
    rintro e a1 w1 ⟨rfl, β1, q1, q2, q3, q4⟩
    show wpL (Fen none) k P (l.drop i) _ a1 w1
    rw [hl]
    have hgood := prods_good hE (ev_right hE n) hg hfl ks hks f [] T1 m1 H1 h
    refine wpIn_block (wpIn_mono (show CodeIn (Fen none) k P (.loop bd) _ a1 w1 from hgood.go_ q1 q2 q3 k).wpIn ?_)
    rintro e a2 w2 ⟨path, res, hleaf, rfl, β2, z1, z2, z3, z4⟩
    split at hleaf
    · rename_i j T2 m2 H2
      simp only [Bool.and_eq_true] at hleaf
      obtain ⟨⟨e1, e2⟩, e3⟩ := hleaf
      have e1 := Nat.eq_of_beq_eq_true e1
      subst e1
      simp only [toExit, Exit.inBlock, if_true]
      show wpL (Fen none) k P l2 _ a2 w2
      rw [hg] at e3
      obtain ⟨n1, hn1, e3⟩ := isStateM_own e3
      have z2' := MarksR.owns hn1 z2
      obtain ⟨β3, y1, y2, y3⟩ := isState_ok (V := V) hE.nf e3 z1 z2' z3
      rw [by_v] at y1
      refine wpL_mono ((hQ path e2).go_ y1 (r := none) trivial k) ?_
      rintro e a3 w3 ⟨V', ex, σ', β', p1, p2, p3, p4, p5⟩
      refine ⟨V', ex, σ', β', p1, p2, p3, fun b hb => ?_, ((Fr.of q4).trans (Fr.of z4)).trans (y3.trans p5)⟩
      rw [p4 b hb, y2 b hb]
      have hx : ∀ {β β' : Pl} {n1 n2 : Nat} {g g' : Nat → Option AObj} {w w' : World}, Tran β g n1 w β' g' n2 w' → b < n1 → β' b = β b := by
        intro β β' n1 n2 g g' w w' t hlt
        cases hp : β b with
        | some p => exact t.ext _ _ hp
        | none => exact t.old b hlt hp
      have hlt : b < σ.next := Nat.lt_of_lt_of_le hb hk
      rw [hx z4 (Nat.lt_of_lt_of_le hlt q4.next), hx q4 hlt]
    · cases hleaf
  · cases h0
def rgB (nf : Tm → Tm) (c : Ctx) (y : Fact) (f : Operand) (lc : LRef) (k0 : Nat) (σ : St) (ln : List (Nat × Nat)) (σ' : St) : Bool :=
  match rangeN c y (aeval c σ.tmps f) lc σ.tmps (σ.marks.map .own) σ.heap with
  | some ⟨.normal, T, m, H⟩ => isStateM nf c.glob k0 c Tm.v ln T m H σ'
  | _ => false
theorem Tri.rangeN (hE : @EnvOk V P G E) (hg : c.glob = G) {x : Fact} {alt : Fact → Prop} (hx : @FactN.Ok V P G x alt) (hsame : ∀ y, alt y → x.like y) {y0 : Fact} (h0 : alt y0) {f : Operand} {params : Array Tmp} {assign body : Code} {lc : LRef} (hlc : @LRef.get V lc = ⟨params, assign, body⟩)
    {σ : St} (hk : k0 ≤ σ.next) {ln : List (Nat × Nat)} {σy : Fact → St} (h : ∀ y, alt y → rgB E.nf c y f lc k0 σ ln (σy y) = true) :
    Tri P G V c none k0 (.rangeFunc f params assign body) σ fun V' ex σ' => V' = V ∧ ex = .normal ∧ ∃ y, alt y ∧ σ' = σy y := by
  letI := V
  refine ⟨?_⟩
  intro β a w r hs hr k
  cases r with
  | some r => exact hr.elim
  | none =>
  have hall : ∀ y, alt y → ∃ T m H, Go.Tc.rangeN c y (aeval c σ.tmps f) lc σ.tmps (σ.marks.map .own) σ.heap = some ⟨.normal, T, m, H⟩ ∧ isStateM E.nf c.glob k0 c Tm.v ln T m H (σy y) = true := by
    intro y hy
    have := h y hy
    unfold rgB at this
    split at this
    · rename_i T m H e; exact ⟨T, m, H, e, this⟩
    · cases this
  have q := rangeN_run hx hsame h0 hlc (fun y hy => (by obtain ⟨T, m, H, e, -⟩ := hall y hy; exact ⟨_, e⟩)) hg hs.tr (@OwnR.marks V _ _ _ hs.mks) hs.wr k
  refine wpIn_mono q ?_
  rintro e a2 w2 ⟨y, res, hy, hres, rfl, β2, z1, z2, z3, z4⟩
  obtain ⟨T, m, H, e1, e3⟩ := hall y hy
  rw [e1] at hres
  cases hres
  rw [hg] at e3
  obtain ⟨n1, hn1, e3⟩ := isStateM_own e3
  have z2' := MarksR.owns hn1 z2
  obtain ⟨β3, y1, y2, y3⟩ := isState_ok (V := V) hE.nf e3 z1 z2' z3
  rw [by_v] at y1
  refine ⟨V, .normal, σy y, β3, ⟨rfl, rfl, y, hy, rfl⟩, rfl, y1, fun b hb => ?_, (Fr.of z4).trans y3⟩
  rw [y2 b hb]
  cases hp : β b with
  | some p => exact z4.ext _ _ hp
  | none => exact z4.old b (Nat.lt_of_lt_of_le hb hk) hp
def clB (P : Program) (E : Env) (n : Nat) (c : Ctx) (k0 : Nat) (ops : Array Oper) (i : Nat) (y : Fact) (σ : St) (ln : List (Nat × Nat)) (σ' : St) : Bool :=
  match callN P E (ev P E n) c ops i y σ.tmps.fresh σ.heap with
  | some (T, H) => isStateM E.nf c.glob k0 c Tm.v ln T (σ.marks.map .own) H σ'
  | none => false
theorem Tri.callN (hE : @EnvOk V P G E) (hg : c.glob = G) {x : Fact} {alt : Fact → Prop} (hx : @FactN.Ok V P G x alt) (hsame : ∀ y, alt y → x.like y) {y0 : Fact} (h0 : alt y0) {rid : Nat} {ops : Array Oper} {i n : Nat}
    {σ : St} (hk : k0 ≤ σ.next) {ln : List (Nat × Nat)} {σy : Fact → St} (h : ∀ y, alt y → clB P E n c k0 ops i y σ ln (σy y) = true) :
    Tri P G V c none k0 (.region rid ops false) σ fun V' ex σ' => V' = V ∧ ex = .normal ∧ ∃ y, alt y ∧ σ' = σy y := by
  letI := V
  refine ⟨?_⟩
  intro β a w r hs hr k
  cases r with
  | some r => exact hr.elim
  | none =>
  have hall : ∀ y, alt y → ∃ T H, Go.Tc.callN P E (Go.Tc.ev P E n) c ops i y σ.tmps.fresh σ.heap = some (T, H) ∧ isStateM E.nf c.glob k0 c Tm.v ln T (σ.marks.map .own) H (σy y) = true := by
    intro y hy
    have := h y hy
    unfold clB at this
    split at this
    · rename_i T H e; exact ⟨T, H, e, this⟩
    · cases this
  have q := callN_run hE (ev_right hE n) hx hsame h0 (r := none) (n := k) (fun y hy => (by obtain ⟨T, H, e, -⟩ := hall y hy; exact ⟨_, e⟩)) hg hs.tr.fresh hs.wr
  refine wpIn_mono (wpIn_region q) ?_
  rintro e a2 w2 ⟨y, T', H', hy, hres, rfl, q2, β2, z1, z3, z4⟩
  obtain ⟨T, H, e1, e3⟩ := hall y hy
  rw [e1] at hres
  cases hres
  rw [hg] at e3
  obtain ⟨n1, hn1, e3⟩ := isStateM_own e3
  have z2 : MarksR β2 (σ.marks.map .own) a2.defers := by rw [q2]; exact (@OwnR.marks V _ _ _ hs.mks).mono z4.ext
  have z2' := MarksR.owns hn1 z2
  obtain ⟨β3, y1, y2, y3⟩ := isState_ok (V := V) hE.nf e3 z1 z2' z3
  rw [by_v] at y1
  refine ⟨V, .normal, σy y, β3, ⟨rfl, rfl, y, hy, rfl⟩, rfl, y1, fun b hb => ?_, (Fr.of z4).trans y3⟩
  rw [y2 b hb]
  cases hp : β b with
  | some p => exact z4.ext _ _ hp
  | none => exact z4.old b (Nat.lt_of_lt_of_le hb hk) hp
theorem FactN.ok_tri {x : Fact} {alt : Fact → Prop} {fn : Func} {cd : Code} (hE : @EnvOk V P G E) (hf : P.funcs[x.f]? = some fn) (hb : fn.body = some cd) {Q : Val → AExit → St → Prop}
    (tri : Tri P G V (cxOf P fn cd x.args.length) none x.next cd (startSt x) Q)
    (hQ : ∀ V' ex σ', Q V' ex σ' → V' = V ∧ (ex = .normal ∨ ex = .ret) ∧ ∃ y, alt y ∧ x.like y ∧ endsSo P E (cxOf P fn cd x.args.length) fn y σ' = true) : @FactN.Ok V P G x alt := by
  refine ⟨?_⟩
  intro β w vs hw ha
  refine ⟨fun w0 => ?_, fun n => ?_⟩
  · have hn := hE.names x.f fn hf (by simp [hb])
    simp [callFunc, hf, hb, hn]
  · have hT : @TR V β (cxOf P fn cd x.args.length) ⟨argTmps x.args 0, []⟩ (vs.toArray ++ Array.replicate (fn.ntmps - vs.toArray.size) undef) := @argTmps_TR V _ _ _ _ _ _ ha
    refine callsIn_of_wp_marks hf hb trivial ?_
    have hS : @Sat V G (cxOf P fn cd x.args.length) (startSt x) β ⟨vs.toArray ++ Array.replicate (fn.ntmps - vs.toArray.size) undef, []⟩ w := @Sat.mk V _ _ _ _ _ _ hT trivial hw
    refine wpIn_mono (tri.go_ hS (r := none) trivial n).wpIn ?_
    rintro e a' w' ⟨V', ex, σ', β', q1, rfl, q2, q3, q4⟩
    obtain ⟨rfl, hex, y, hy, ⟨l1, l2, l3, l4⟩, hend⟩ := hQ _ _ _ q1
    have hah : y.ahead = x.ahead := by unfold Fact.ahead; rw [l3, l4]
    have fin : LeavesInM Fence.wide n P fn a'.tmps (fun e w' => ∃ y, alt y ∧ @RetPost V' G β x.ahead w y.r y.behind e w') a'.defers .returning w' := by
      unfold endsSo at hend
      split at hend
      · rename_i H2 hl
        split at hend
        · rename_i rs hrs
          simp only [Bool.and_eq_true] at hend
          obtain ⟨⟨⟨⟨⟨e1, e2⟩, e3⟩, e4⟩, e6⟩, e5⟩ := hend
          have e1 := AV.beq_eq _ _ e1
          have e3 := Nat.eq_of_beq_eq_true e3
          have e4 := Nat.le_of_ble_eq_true e4
          have e6 := Nat.eq_of_beq_eq_true e6
          refine @leaves_own P V' _ _ _ _ G _ _ _ _ _ _ hl q2.mks q2.wr fun w2 k1 k2 => ?_
          obtain ⟨u, u1, u2⟩ := @results_run V' P G _ _ _ _ _ hE.nf _ _ _ _ k1 q2.tr hrs
          rw [e1] at u2
          have hbe : ∀ b o, y.behind.get b = some o → H2.get b = some o := by
            intro b o hbo
            rcases graft_get _ _ b o hbo with h | h
            · exact liesSo_get e2 b o h
            · exact nomatch (show (none : Option AObj) = some o from h)
          have hfr : Fr β x.ahead.get w β' H2.get w2 := q4.trans (Fr.of k2)
          have hk1 : @WR V' G β' y.behind.get y.next' w2 := by
            rw [← e6]; exact @WR.less V' G β' _ _ _ _ k1 hbe
          refine ⟨u, u1, y, hy, β', u2, hk1, ?_⟩
          refine ⟨⟨fun b p hp => ?_, hfr.zone⟩, by rw [← hah]; exact e4, hfr.size, fun c hc hno => hfr.kept c hc fun ⟨b, o, p, h1, h2, h3, h4⟩ => hno b o p h1 h2 h3 h4, fun b hlt h0 => (q3 b hlt).trans h0, fun b hlt h0 => ?_, fun b o p hbo hp hlt => ?_, hfr.os, hfr.out, hfr.tape, hfr.zn⟩
          · have hlt : b < x.next := by
              by_cases h : b < x.next
              · exact h
              · have := hw.fresh b (Nat.le_of_not_lt h); rw [hp] at this; cases this
            rw [q3 b hlt]; exact hp
          · cases hg : y.behind.get b with
            | none => rfl
            | some o =>
              rcases graft_get _ _ b o hg with h | h
              · have h5 := List.all_eq_true.1 e5 (b, o) h
                simp only [Bool.or_eq_true] at h5
                rcases h5 with h5 | h5
                · have := Nat.le_of_ble_eq_true h5
                  have h6 : b < x.next := hlt
                  omega
                · rw [hah, h0] at h5; cases h5
              · exact nomatch (show (none : Option AObj) = some o from h)
          · cases hwr : o.wr with
            | true =>
              obtain ⟨b0, o0, p0, h1, h2, h3, h4⟩ := hfr.newW p.c ⟨b, o, p, hbe _ _ hbo, hwr, hp, rfl⟩ hlt
              exact ⟨b0, o0, p0, h1, fun _ => h2, h3, h4⟩
            | false =>
              obtain ⟨b0, o0, p0, h1, h2, h3⟩ := hfr.newA p.c ⟨b, o, p, hbe _ _ hbo, hp, rfl⟩ hlt
              exact ⟨b0, o0, p0, h1, (fun h => nomatch h), h2, h3⟩
        · cases hend
      · cases hend
    rcases hex with rfl | rfl
    · exact fin
    · exact fin
end
end Go.Tc
