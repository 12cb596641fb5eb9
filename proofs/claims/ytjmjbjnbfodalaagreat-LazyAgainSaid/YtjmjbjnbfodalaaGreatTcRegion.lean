/- regions in their text's order. -/
import Derived.Test.YtjmjbjnbfodalaaGreatTcOps1
import Derived.Scope
set_option linter.unusedSimpArgs false
set_option linter.unusedVariables false
set_option linter.unusedSectionVars false
namespace Go.Tc
variable [Val]
section
variable {P : Program} {G : Nat} {β : Pl} {H H' : AHeap} {w : World} {E : Env} {S : Evs} {c : Ctx} {T T' : Tmps} {v : AV}
def RegPost (G : Nat) (c : Ctx) (β : Pl) (H : AHeap) (w : World) (a : Act) (T' : Tmps) (H' : AHeap) : Exit → Act → World → Prop := fun e a' w' =>
  e = .normal ∧ a'.defers = a.defers ∧ ∃ β', TR β' c T' a'.tmps ∧ WR G β' H'.get H'.next w' ∧ Tran β H.get H.next w β' H'.get H'.next w'
omit [Val] in
theorem put_defers (a : Act) (d : Option Tmp) (u : Value) : (a.put d u).defers = a.defers := by cases d <;> rfl
theorem wanted_of {ops : Array Oper} {o : Oper} {a : Act} {b : Bool} (h : wantedA c ops T o = some b)
    (hg : ∀ g want d, o.guard = some (g, want) → (ops[g]?).bind (·.dst) = some d → ∀ v, T.get c d = some v → ∃ u, a.tmps[d]? = some u ∧ VR β v u) : Region.wanted o (yielded ops a.tmps) = b := by
  unfold wantedA at h
  unfold Region.wanted
  cases hgd : o.guard with
  | none => simp only [hgd, Option.some.injEq] at h; subst h; rfl
  | some gw =>
    obtain ⟨g, want⟩ := gw
    simp only [hgd] at h ⊢
    cases hd : (ops[g]?).bind (·.dst) with
    | none => simp [hd] at h
    | some d =>
      simp only [hd] at h
      cases ht : T.get c d with
      | none => simp [ht] at h
      | some v =>
        obtain ⟨u, h1, h2⟩ := hg g want d hgd hd v ht
        simp only [yielded, hd, Option.bind_some, h1]
        cases h2 <;> simp_all
theorem guard_of {ops : Array Oper} {o : Oper} {a : Act} (hT : TR β c T a.tmps) : ∀ g want d, o.guard = some (g, want) → (ops[g]?).bind (·.dst) = some d → ∀ v, T.get c d = some v → ∃ u, a.tmps[d]? = some u ∧ VR β v u :=
  fun _ _ d _ _ v hv => hT.2 d v hv
theorem opsR_of {n : Nat} {a : Act} (hT : TR β c T a.tmps) (hg : c.glob = G) (hw : WR G β H.get n w) (l : Array Operand) : OpsR β c T a.eval l := fun _ _ _ h => aeval_VR hT hg hw h
theorem opsA_run (hE : EnvOk P G E) (hS : Sound P G S) {ops : Array Oper} {r : Option Nat} {n : Nat} (hg : c.glob = G) : ∀ (l : List Nat) {T : Tmps} {H : AHeap} {β : Pl} {a : Act} {w : World}, opsA P E S c ops l T H = some (T', H') → TR β c T a.tmps → WR G β H.get H.next w →
    wpOpsIn (Fen r) n P ops (RegPost G c β H w a T' H') l a w
  | [], T, H, β, a, w, h, hT, hw => by
    cases h
    exact ⟨rfl, rfl, β, hT, hw, Tran.refl _ _ _ _⟩
  | i :: l, T, H, β, a, w, h, hT, hw => by
    simp only [opsA] at h
    simp only [wpOpsIn]
    cases ho : ops[i]? with
    | none => simp only [ho] at h; exact opsA_run hE hS hg l h hT hw
    | some o =>
      simp only [ho] at h
      cases hwa : wantedA c ops T o with
      | none => simp [hwa] at h
      | some b =>
        have hwd := wanted_of (a := a) hwa (guard_of hT)
        simp only [hwa] at h
        simp only [hwd]
        cases b with
        | true =>
          simp only at h
          split at h
          · rename_i v H1 hop
            split at h
            · rename_i T1 hl
              obtain ⟨hd, hc⟩ := opA_run (ev := a.eval) hE hS hop hw (opsR_of hT hg hw _)
              simp only [if_true]
              refine does_of (G := G) (β := β) (H := H) (H' := H1) (v := v) hd hc _ _ ?_
              rintro u w1 ⟨β1, k1, k2, k3⟩
              have := opsA_run (r := r) (n := n) hE hS hg l h (TR.lay (a := a) (hT.mono k3.ext) hl k1) k2
              exact wpOpsIn_mono' l this fun e a' w' ⟨q1, q2, β', q3, q4, q5⟩ => ⟨q1, q2.trans (put_defers _ _ _), β', q3, q4, k3.trans q5⟩
            · cases h
          · cases h
        | false =>
          simp only at h
          split at h
          · rename_i T1 hl
            simp only [Bool.false_eq_true, if_false]
            refine ⟨fun f _ => Fen_fn r f, ?_⟩
            have := opsA_run (r := r) (n := n) hE hS hg l h (TR.lay (a := a) hT hl undefA_VR) hw
            exact wpOpsIn_mono' l this fun e a' w' ⟨q1, q2, β', q3, q4, q5⟩ => ⟨q1, q2.trans (put_defers _ _ _), β', q3, q4, q5⟩
          · cases h
where
  wpOpsIn_mono' {F : Fence} {n : Nat} {ops : Array Oper} {Q Q' : Exit → Act → World → Prop} : ∀ (l : List Nat) {a : Act} {w : World}, wpOpsIn F n P ops Q l a w → (∀ e a w, Q e a w → Q' e a w) → wpOpsIn F n P ops Q' l a w
  | [], _, _, h, hq => hq _ _ _ h
  | i :: l, a, w, h, hq => by
    simp only [wpOpsIn] at h ⊢
    split
    · rename_i ho; simp only [ho] at h; exact wpOpsIn_mono' l h hq
    · rename_i o ho
      simp only [ho] at h
      split
      · rename_i hw
        simp only [hw, if_true] at h
        unfold Oper.wpIn at *
        refine ⟨h.1, ?_⟩
        have h := h.2
        have hlo : LetsOut Q → LetsOut Q' := fun ⟨a, w, k⟩ => ⟨a, w, hq _ _ _ k⟩
        generalize (o.semAt F.round a.eval).run P w = r at *
        cases r with
        | ok x w' =>
          cases x <;> simp only [Oper.uponIn] at h ⊢ <;>
            first
              | exact wpOpsIn_mono' l h hq
              | exact ⟨h.1, CallsIn.mono h.2 (fun e w'' he => by cases e <;> first | exact wpOpsIn_mono' l he hq | exact hq _ _ _ he | exact hlo he)⟩
              | exact ⟨h.1, RowsIn.mono h.2 (fun _ _ he => wpOpsIn_mono' l he hq)⟩
              | exact ⟨h.1, RoundIn.mono h.2 (fun e w'' he => by cases e <;> first | exact wpOpsIn_mono' l he hq | exact hq _ _ _ he | exact hlo he)⟩
        | halt x w' => cases x <;> simp only [Oper.uponIn] at h ⊢ <;> first | exact hq _ _ _ h | exact h
      · rename_i hw
        simp only [hw, if_false] at h
        exact ⟨h.1, wpOpsIn_mono' l h.2 hq⟩
omit [Val] in
theorem wpOpsIn_append {F : Fence} {n : Nat} {ops : Array Oper} {Q : Exit → Act → World → Prop} (m : List Nat) : ∀ (l : List Nat) {a : Act} {w : World}, wpOpsIn F n P ops (fun e a w => match e with | .normal => wpOpsIn F n P ops Q m a w | e => Q e a w) l a w → wpOpsIn F n P ops Q (l ++ m) a w
  | [], _, _, h => h
  | i :: l, a, w, h => by
    simp only [List.cons_append, wpOpsIn] at h ⊢
    split
    · rename_i ho; simp only [ho] at h; exact wpOpsIn_append m l h
    · rename_i o ho
      simp only [ho] at h
      split
      · rename_i hw
        simp only [hw, if_true] at h
        unfold Oper.wpIn at *
        refine ⟨h.1, ?_⟩
        have h := h.2
        generalize (o.semAt F.round a.eval).run P w = r at *
        cases r with
        | ok x w' =>
          cases x <;> simp only [Oper.uponIn] at h ⊢ <;>
            first
              | exact wpOpsIn_append m l h
              | exact ⟨h.1, CallsIn.mono h.2 (fun e w'' he => by cases e <;> first | exact wpOpsIn_append m l he | exact he)⟩
              | exact ⟨h.1, RowsIn.mono h.2 (fun _ _ he => wpOpsIn_append m l he)⟩
              | exact ⟨h.1, RoundIn.mono h.2 (fun e w'' he => by cases e <;> first | exact wpOpsIn_append m l he | exact he)⟩
        | halt x w' => cases x <;> simp only [Oper.uponIn] at h ⊢ <;> first | exact h
      · rename_i hw
        simp only [hw, if_false] at h
        exact ⟨h.1, wpOpsIn_append m l h.2⟩
omit [Val] in
theorem deferOf_eq {ops : Array Oper} {o : Oper} {f : Operand} (h : deferOf ops = some (o, f)) : ops[ops.size - 1]? = some o ∧ o.guard = none ∧ ∃ q, o.op = .defer q ∧ q.args = #[] ∧ q.callee = .value f := by
  unfold deferOf at h
  split at h
  · rename_i o1 ho
    split at h
    · cases h
    · rename_i hg
      split at h
      · rename_i q hq
        split at h
        · rename_i ha
          split at h
          · rename_i f1 hf
            cases h
            exact ⟨ho, hg, q, hq, by simpa using ha, hf⟩
          · cases h
        · cases h
      · cases h
  · cases h
theorem deferA_run (hE : EnvOk P G E) (hS : Sound P G S) (hg : c.glob = G) {ops : Array Oper} {o : Oper} {f : Operand} (ho : deferOf ops = some (o, f)) {m : List Mark} {res : Res} (h : deferA P E S c ops o f T m H = some res) {a : Act}
    (hT : TR β c T a.tmps) (hm : MarksR β m a.defers) (hw : WR G β H.get H.next w) (n : Nat) : wpOpsIn (Fen none) n P ops (CodePost G c β H w res) (List.range ops.size) a w := by
  obtain ⟨ho1, hgd, q, hq, hqa, hqc⟩ := deferOf_eq ho
  unfold deferA at h
  split at h
  · rename_i T1 H1 hops
    split at h
    · rename_i g first captured hf
      split at h
      · rename_i T2 hl
        cases h
        have hsz : 0 < ops.size := by
          have := (Array.getElem?_eq_some_iff.1 ho1).1
          omega
        have hr : List.range ops.size = List.range (ops.size - 1) ++ [ops.size - 1] := by
          conv => lhs; rw [show ops.size = (ops.size - 1) + 1 by omega]
          exact List.range_succ
        rw [hr]
        refine wpOpsIn_append _ _ (opsA_run.wpOpsIn_mono' _ (opsA_run (r := none) (n := n) hE hS hg _ hops hT hw) ?_)
        rintro e a' w' ⟨rfl, q2, β', q3, q4, q5⟩
        show wpOpsIn (Fen none) n P ops _ [ops.size - 1] a' w'
        have hv := aeval_VR q3 hg q4 hf
        simp only [wpOpsIn, ho1]
        have hwd : Region.wanted o (yielded ops a'.tmps) = true := by unfold Region.wanted; simp only [hgd]
        rw [if_pos hwd]
        refine ⟨fun f _ => Fen_fn none f, ?_⟩
        generalize hx : a'.eval f = fv at hv
        cases hv with
        | @fn _ f' _ _ x y hF hx1 hy =>
        cases hF
        have hrun : (o.semAt (Fen none).round a'.eval).run P w' = .ok (.defer { target := .fn (.func g) y, args := x }) w' := by
          show (execOp a'.eval o).run P w' = _
          simp [execOp, hq, resolve, hqc, hqa, hx, Deferred.ofValue, Result.andThen]
        rw [hrun]
        rw [Oper.uponIn_defer]
        have hd : (({ a' with defers := { target := .fn (.func g) y, args := x } :: a'.defers } : Act).put o.dst undef).defers = { target := .fn (.func g) y, args := x } :: a'.defers := put_defers _ _ _
        refine ⟨rfl, β', TR.lay (a := { a' with defers := { target := .fn (.func g) y, args := x } :: a'.defers }) q3 hl undefA_VR, ?_, q4, q5⟩
        rw [hd, q2]
        exact ⟨⟨x, y, rfl, hx1.append hy⟩, hm.mono q5.ext⟩
      · cases h
    · cases h
  · cases h
end
end Go.Tc
namespace Go.Tc
variable [Val]
section
variable {P : Program} {G : Nat} {β : Pl} {H H' : AHeap} {w : World} {E : Env} {S : Evs} {c : Ctx} {T T' : Tmps} {v : AV}
def DrawRun (P : Program) (G : Nat) (E : Env) (S : Evs) : Prop :=
  ∀ {c : Ctx} {ops : Array Oper} {T T' : Tmps} {H H' : AHeap}, drawA P E S c ops T H = some (T', H') → c.glob = G → ∀ {β : Pl} {a : Act} {w : World}, TR β c T a.tmps → WR G β H.get H.next w →
    ∀ (id n : Nat) (r : Option Nat), (Code.region id ops true).wpIn (Fen r) n P (RegPost G c β H w a T' H') a w
theorem CodePost.trans {β1 : Pl} {H1 : AHeap} {w1 : World} {res : Res} {e : Exit} {a' : Act} {w' : World} (h : CodePost G c β1 H1 w1 res e a' w') (t : Tran β H.get H.next w β1 H1.get H1.next w1) : CodePost G c β H w res e a' w' :=
  let ⟨h1, β', h2, h3, h4, h5⟩ := h; ⟨h1, β', h2, h3, h4, t.trans h5⟩
theorem rangeA_run (hS : Sound P G S) {around : Option Nat} {f : Operand} {params : Array Tmp} {assign body : Code} {lc : LRef} {m : List Mark} {res : Res} (hlc : lc.get = ⟨params, assign, body⟩) (h : rangeA P S c around (aeval c T f) lc T m H = some res) (hg : c.glob = G)
    {a : Act} {r : Option Nat} (hT : TR β c T a.tmps) (hm : MarksR β m a.defers) (hw : WR G β H.get H.next w) (hr : AroundR β around r) (n : Nat) :
    (Code.rangeFunc f params assign body).wpIn (Fen r) n P (CodePost G c β H w res) a w := by
  unfold rangeA at h
  split at h
  · cases h
  · rename_i dfr marks' H1 hen
    split at h
    · rename_i g first captured hf
      split at h
      · rename_i fn hfn
        split at h
        · cases h
        · dsimp only at h
          split at h
          · rename_i v3 H3 hcall
            split at h
            · rename_i st pd c3 t3 b3 d3 hl3
              split at h
              · cases h
              · rename_i hst
                split at h
                · rename_i e hj
                  simp only [Option.some.injEq] at h
                  subst h
                  have hfv := aeval_VR hT hg hw hf
                  refine wpIn_rangeFunc fun fnid _ => ?_
                  rw [Fen_round]
                  -- the loop is entered
                  obtain ⟨β1, w1, mark, pl, hrun, hpl, hTR1, hM1, hw1, ht1⟩ : ∃ (β1 : Pl) (w1 : World) (mark : List Deferred) (pl : Place),
                      (Instr.enterLoop fnid a.tmps params assign body r).run P w = .ok (pl.c, mark) w1 ∧ β1 H1.next = some pl ∧ TR β1 c T a.tmps ∧ MarksR β1 marks' (mark ++ a.defers) ∧
                      WR G β1 (H1.new (.loop ⟨.ready, none, c, T, lc, dfr⟩)).get (H1.new (.loop ⟨.ready, none, c, T, lc, dfr⟩)).next w1 ∧
                      Tran β H.get H.next w β1 (H1.new (.loop ⟨.ready, none, c, T, lc, dfr⟩)).get (H1.new (.loop ⟨.ready, none, c, T, lc, dfr⟩)).next w1 := by
                    cases around with
                    | none =>
                      cases r with
                      | some r => exact hr.elim
                      | none =>
                        simp only [Option.some.injEq, Prod.mk.injEq] at hen
                        obtain ⟨rfl, rfl, rfl⟩ := hen
                        obtain ⟨j1, j2⟩ := hw.alloc (.deferred (some [])) 0 (.dfr true) (World.alloc_heap_new _ _)
                        rw [← AHeap.get_new, ← AHeap.next_new (o := .dfr true)] at j1 j2
                        obtain ⟨k1, k2⟩ := j1.alloc (.loop { state := .ready, pending := none, fn := fnid, tmps := a.tmps, params := params, assign, body, defers := w.heap.size }) 0 (.loop ⟨.ready, none, c, T, lc, H.next⟩)
                          ⟨_, World.alloc_heap_new _ _, rfl, rfl, (hT.mono j2.ext).mono (Pl.put_ext _ (j1.fresh _ (Nat.le_refl _))), by rw [hlc], by rw [hlc], by rw [hlc], ⟨w.heap.size, 0, 0⟩, by
                            refine Pl.put_ext _ (j1.fresh _ (Nat.le_refl _)) _ _ (Pl.put_same β H.next _), rfl⟩
                        rw [← AHeap.get_new, ← AHeap.next_new (o := .loop ⟨.ready, none, c, T, lc, H.next⟩)] at k1 k2
                        refine ⟨_, _, _, ⟨w.heap.size + 1, 0, 0⟩, run_enterLoop_outer _ _ _ _ _, ?_, (hT.mono j2.ext).mono k2.ext, ?_, k1, j2.trans k2⟩
                        · rw [Pl.put_same]; simp
                        · exact ⟨⟨⟨w.heap.size, 0, 0⟩, k2.ext _ _ (Pl.put_same β H.next _), rfl⟩, (hm.mono j2.ext).mono k2.ext⟩
                    | some l0 =>
                      cases r with
                      | none => exact hr.elim
                      | some r =>
                        obtain ⟨p0, hp0, rfl⟩ := hr
                        simp only at hen
                        split at hen
                        · rename_i r0 hl0
                          simp only [Option.some.injEq, Prod.mk.injEq] at hen
                          obtain ⟨rfl, rfl, rfl⟩ := hen
                          obtain ⟨st0, pd0, c0, t0, b0, d0⟩ := r0
                          obtain ⟨cl, q1, -, -, -, -, -, -, q, q2, q3⟩ := loop_at hw hl0 hp0
                          have hx := Pl.put_ext (β := β) ⟨w.heap.size, 0, 0⟩ (hw.fresh H.next (Nat.le_refl _))
                          obtain ⟨k1, k2⟩ := hw.alloc (.loop { state := .ready, pending := none, fn := fnid, tmps := a.tmps, params := params, assign, body, defers := cl.defers }) 0 (.loop ⟨.ready, none, c, T, lc, d0⟩)
                            ⟨_, World.alloc_heap_new _ _, rfl, rfl, hT.mono hx, by rw [hlc], by rw [hlc], by rw [hlc], q, hx _ _ q2, q3⟩
                          rw [← AHeap.get_new, ← AHeap.next_new (o := .loop ⟨.ready, none, c, T, lc, d0⟩)] at k1 k2
                          refine ⟨_, _, [], ⟨w.heap.size, 0, 0⟩, run_enterLoop_inner q1 _ _ _ _ _, Pl.put_same _ _ _, hT.mono k2.ext, hm.mono k2.ext, k1, k2⟩
                        · cases hen
                  generalize hfe : a.eval f = fe at hfv
                  have hfv := hfv.mono ht1.ext
                  cases hfv with
                  | @fn _ f' _ _ x y hF hx hy =>
                  cases hF
                  have hargs : VRs β1 (first ++ .fn (.yield H1.next) [] [] :: captured) (x.toList ++ .func (.yield pl.c) #[] #[] :: y.toList) := hx.append (.cons (.fn (.yield hpl) .nil .nil) hy)
                  obtain ⟨hc1, hc2⟩ := hS.call hcall hw1 hargs
                  refine ⟨pl.c, mark, w1, { target := .fn (.func g) y, args := x ++ #[.func (.yield pl.c) #[] #[]] }, w1, g, (x.toList ++ .func (.yield pl.c) #[] #[] :: y.toList).toArray, w1, hrun, ?_, fun f' _ => Fen_fn r f', ?_, ?_, ?_⟩
                  · simp only [resolve, hfe]
                    simp [Deferred.ofValue, Act.eval]
                  · have := hc1 w1
                    have e : x ++ #[Value.func (.yield pl.c) #[] #[]] ++ y = (x.toList ++ .func (.yield pl.c) #[] #[] :: y.toList).toArray := by simp
                    simp only [invoke, e]
                    exact this
                  · intro hd; rw [Fen_depth] at hd; cases hd
                  · refine CallsIn.mono (Fen_calls (hc2 (n - 1))) ?_
                    intro en w3 hen3
                    cases en with
                    | panicked ch => exact hen3.elim
                    | outgrown => exact hen3.elim
                    | returned v' =>
                      obtain ⟨β3, z1, z2, z3⟩ := hen3
                      have hp3 : β3 H1.next = some pl := z3.ext _ _ hpl
                      obtain ⟨cl3, e1, e2, e3, -⟩ := loop_at z2 hl3 hp3
                      obtain ⟨y1, y2⟩ := loop_turn z2 hl3 hp3 e1 .exhausted pd
                      have hel := run_endLoop (P := P) e1 (by rw [e2]; exact hst)
                      have hpe : ({ cl3 with state := .exhausted, pending := pd } : Loop) = { cl3 with state := .exhausted } := by rw [← e3]
                      rw [hpe] at y1 y2
                      refine ⟨pd, w3.putObj pl.c (.loop { cl3 with state := .exhausted }), hel.trans (by rw [e3]), ?_⟩
                      have hfin : ∀ ex, ex = e → CodePost G c β H w ⟨e, T, marks', H3.set H1.next (.loop ⟨.exhausted, pd, c3, t3, b3, d3⟩)⟩ (toExit ex) { a with defers := mark ++ a.defers } (w3.putObj pl.c (.loop { cl3 with state := .exhausted })) := by
                        rintro ex rfl
                        exact ⟨rfl, β3, hTR1.mono z3.ext, hM1.mono z3.ext, y1, ht1.trans (z3.trans y2)⟩
                      cases pd with
                      | none =>
                        simp only [exitOfJump, Option.some.injEq] at hj
                        exact hfin .normal hj
                      | some jc =>
                        cases jc <;> simp only [exitOfJump, Option.some.injEq, reduceCtorEq] at hj
                        · exact wpIn_exit (hfin (.exit _) hj)
                        · exact wpIn_goto (hfin (.goto _) hj)
                        · exact wpIn_ret (hfin .ret hj)
                · cases h
            · cases h
          · cases h
      · cases h
    · cases h
omit [Val] in
theorem stepR_scope {b : Frame} {a : Act} {k : List Item} {cs : List Frame} {w : World} {c : Code} : step P (lone (b.atR a (.code (.scope c) :: k)) cs w) = .next (lone (b.atR a (.code c :: .inScope c :: k)) cs w) :=
  step_lone_go (by simp [stepG, stepG.exec, Frame.atR])
omit [Val] in
theorem stepR_inScope {b : Frame} {a : Act} {k : List Item} {cs : List Frame} {w : World} {c : Code} : step P (lone (b.atR a (.inScope c :: k)) cs w) = .next (lone (b.atR a k) cs w) :=
  step_lone_go (by simp [stepG, stepG.exec, Frame.atR])
omit [Val] in
theorem wpIn_scope' {F : Fence} {n : Nat} {c : Code} {Q : Exit → Act → World → Prop} {a : Act} {w : World} (h : c.wpIn F n P (Exit.noGoto Q) a w) : (Code.scope c).wpIn F n P Q a w := by
  intro b k cs hro hb hr
  have h0 : (lone (b.atR a (.code (.scope c) :: k)) cs w).fenced P F := fenced_calm hb hr rfl
  obtain ⟨e, a₁, w₁, hq, harr⟩ := h b (.inScope c :: k) cs hro hb hr
  cases e with
  | normal => exact ⟨.normal, a₁, w₁, hq, .head h0 stepR_scope (StepsIn.trans harr (.one (fenced_calm hb hr rfl) stepR_inScope))⟩
  | exit id =>
    have hx : exitTo id (.inScope c :: k) = exitTo id k := by simp [exitTo]
    exact ⟨.exit id, a₁, w₁, hq, fun k' hk => .head h0 stepR_scope (harr.1 k' (by rw [hx]; exact hk)),
      fun hr' hk => let ⟨k₁, h1, h2⟩ := harr.2 hr' (by rw [hx]; exact hk); ⟨k₁, h1, .head h0 stepR_scope h2⟩⟩
  | goto l => exact hq.elim
  | ret => exact ⟨_, a₁, w₁, hq, .of_steps (.one h0 stepR_scope) harr⟩
  | panic ch => exact ⟨_, a₁, w₁, hq, .of_steps (.one h0 stepR_scope) harr⟩
  | outgrown => exact ⟨_, a₁, w₁, hq, .of_steps (.one h0 stepR_scope) harr⟩
theorem codeA_run (hE : EnvOk P G E) (hS : Sound P G S) (hD : DrawRun P G E S) : ∀ (cd : Code) {c : Ctx} {around : Option Nat} {T : Tmps} {m : List Mark} {H : AHeap} {res : Res}, codeA P E S c around cd T m H = some res → c.glob = G →
    ∀ {β : Pl} {w : World} {a : Act} {r : Option Nat}, TR β c T a.tmps → MarksR β m a.defers → WR G β H.get H.next w → AroundR β around r → ∀ n, CodeIn (Fen r) n P cd (CodePost G c β H w res) a w := by
  intro cd
  induction cd with
  | skip =>
    intro c around T m H res h hg β w a r hT hm hw hr n
    cases h; exact wpIn_skip ⟨rfl, β, hT, hm, hw, Tran.refl _ _ _ _⟩
  | label l =>
    intro c around T m H res h hg β w a r hT hm hw hr n
    cases h; exact wpIn_label ⟨rfl, β, hT, hm, hw, Tran.refl _ _ _ _⟩
  | exit id =>
    intro c around T m H res h hg β w a r hT hm hw hr n
    cases h; exact wpIn_exit ⟨rfl, β, hT, hm, hw, Tran.refl _ _ _ _⟩
  | goto l =>
    intro c around T m H res h hg β w a r hT hm hw hr n
    cases h; exact wpIn_goto ⟨rfl, β, hT, hm, hw, Tran.refl _ _ _ _⟩
  | ret =>
    intro c around T m H res h hg β w a r hT hm hw hr n
    cases h; exact wpIn_ret ⟨rfl, β, hT, hm, hw, Tran.refl _ _ _ _⟩
  | region id ops draw =>
    intro c around T m H res h hg β w a r hT hm hw hr n
    simp only [codeA] at h
    split at h
    · rename_i o f hdf
      split at hdf
      · cases r with
        | some l => exact hr.elim
        | none => exact wpIn_region (deferA_run hE hS hg hdf h hT.fresh hm hw n)
      · cases hdf
    split at h
    · rename_i T1 H1 hx
      simp only [Option.some.injEq] at h
      subst h
      have fin : ∀ e a' w', RegPost G c β H w a T1 H1 e a' w' → CodePost G c β H w ⟨.normal, T1, m, H1⟩ e a' w' := fun e a' w' ⟨q1, q2, β', q3, q4, q5⟩ => ⟨q1, β', q3, by rw [q2]; exact hm.mono q5.ext, q4, q5⟩
      cases draw with
      | true => exact wpIn_mono (hD hx hg hT.fresh hw id n r) fin
      | false => exact wpIn_mono (wpIn_region (opsA_run hE hS hg _ hx hT.fresh hw)) fin
    · cases h
  | seq x y ihx ihy =>
    intro c around T m H res h hg β w a r hT hm hw hr n
    simp only [codeA] at h
    refine wpIn_seq ?_
    cases hx : codeA P E S c around x T m H with
    | none => simp [hx] at h
    | some r1 =>
      obtain ⟨ex, T1, m1, H1⟩ := r1
      refine wpIn_mono (ihx hx hg hT hm hw hr n).wpIn ?_
      rintro e a' w' ⟨rfl, β1, q1, q2, q3, q4⟩
      rw [hx] at h
      cases ex with
      | normal => exact wpIn_mono (ihy h hg q1 q2 q3 (hr.mono q4.ext) n).wpIn fun e a'' w'' hp => hp.trans q4
      | exit id => cases h; exact ⟨rfl, β1, q1, q2, q3, q4⟩
      | goto id => cases h; exact ⟨rfl, β1, q1, q2, q3, q4⟩
      | ret => cases h; exact ⟨rfl, β1, q1, q2, q3, q4⟩
  | cond q x y ihx ihy =>
    intro c around T m H res h hg β w a r hT hm hw hr n
    simp only [codeA] at h
    split at h
    · rename_i hq
      have hv := aeval_VR hT hg hw hq
      generalize hqe : a.eval q = vq at hv
      cases hv
      exact wpIn_cond hqe (ihx h hg hT hm hw hr n).wpIn
    · rename_i hq
      have hv := aeval_VR hT hg hw hq
      generalize hqe : a.eval q = vq at hv
      cases hv
      exact wpIn_cond hqe (ihy h hg hT hm hw hr n).wpIn
    · cases h
  | block id b ih =>
    intro c around T m H res h hg β w a r hT hm hw hr n
    simp only [codeA] at h
    refine wpIn_block ?_
    cases hx : codeA P E S c around b T m H with
    | none => simp [hx] at h
    | some r1 =>
      obtain ⟨ex, T1, m1, H1⟩ := r1
      refine wpIn_mono (ih hx hg hT hm hw hr n).wpIn ?_
      rintro e a' w' ⟨rfl, β1, q1, q2, q3, q4⟩
      rw [hx] at h
      cases ex with
      | exit j =>
        simp only at h
        simp only [toExit, Exit.inBlock]
        split at h
        · rename_i hj; cases h; rw [if_pos hj]; exact ⟨rfl, β1, q1, q2, q3, q4⟩
        · rename_i hj; cases h; rw [if_neg hj]; exact ⟨rfl, β1, q1, q2, q3, q4⟩
      | normal => cases h; exact ⟨rfl, β1, q1, q2, q3, q4⟩
      | goto id => cases h; exact ⟨rfl, β1, q1, q2, q3, q4⟩
      | ret => cases h; exact ⟨rfl, β1, q1, q2, q3, q4⟩
  | loop b ih =>
    intro c around T m H res h hg β w a r hT hm hw hr n
    simp only [codeA] at h
    refine loopIn_step ?_
    cases hx : codeA P E S c around b T m H with
    | none => simp [hx] at h
    | some r1 =>
      obtain ⟨ex, T1, m1, H1⟩ := r1
      refine wpIn_mono (ih hx hg hT hm hw hr n).wpIn ?_
      rintro e a' w' ⟨rfl, β1, q1, q2, q3, q4⟩
      rw [hx] at h
      cases ex with
      | normal => exact loopIn_mono (hS.code h hg q1 q2 q3 (hr.mono q4.ext) n) fun e a'' w'' hp => hp.trans q4
      | exit id => cases h; exact ⟨rfl, β1, q1, q2, q3, q4⟩
      | goto id => cases h; exact ⟨rfl, β1, q1, q2, q3, q4⟩
      | ret => cases h; exact ⟨rfl, β1, q1, q2, q3, q4⟩
  | rangeFunc f ps assign body =>
    intro c around T m H res h hg β w a r hT hm hw hr n
    exact rangeA_run hS rfl h hg hT hm hw hr n
  | scope b ih =>
    intro c around T m H res h hg β w a r hT hm hw hr n
    simp only [codeA] at h
    refine wpIn_scope' ?_
    cases hx : codeA P E S c around b T m H with
    | none => simp [hx] at h
    | some r1 =>
      obtain ⟨ex, T1, m1, H1⟩ := r1
      refine wpIn_mono (ih hx hg hT hm hw hr n).wpIn ?_
      rintro e a' w' ⟨rfl, β1, q1, q2, q3, q4⟩
      rw [hx] at h
      cases ex with
      | goto id => cases h
      | normal => cases h; exact ⟨rfl, β1, q1, q2, q3, q4⟩
      | exit id => cases h; exact ⟨rfl, β1, q1, q2, q3, q4⟩
      | ret => cases h; exact ⟨rfl, β1, q1, q2, q3, q4⟩
  | refuse s => intro c around T m H res h; cases h
end
end Go.Tc
namespace Go.Tc
variable [Val]
section
variable {P : Program} {G : Nat} {β : Pl} {H H' : AHeap} {w : World} {E : Env} {S : Evs} {c : Ctx} {T T' : Tmps} {v : AV}
omit [Val] in
theorem assoc_args : ∀ (l : List AV) (i t : Nat), assoc (argTmps l i) t = if i ≤ t then l[t - i]? else none
  | [], i, t => by simp [argTmps, assoc]
  | v :: r, i, t => by
    simp only [argTmps, assoc, Bool.cond_eq_ite, Nat.beq_eq, assoc_args r (i + 1) t]
    by_cases e : i = t
    · subst e; simp
    · rw [if_neg e]
      by_cases h : i ≤ t
      · have h1 : i + 1 ≤ t := by omega
        rw [if_pos h, if_pos h1, show t - i = (t - (i + 1)) + 1 from by omega]
        simp
      · rw [if_neg h, if_neg (by omega)]
theorem argTmps_TR {args : List AV} {vs : List Value} {k mask gl : Nat} (ha : VRs β args vs) : TR β ⟨mask, max args.length k, gl⟩ ⟨argTmps args 0, []⟩ (vs.toArray ++ Array.replicate (k - vs.toArray.size) undef) := by
  have hlen := ha.length
  refine ⟨by simp; omega, fun t a ht => ?_⟩
  unfold Tmps.get at ht
  simp only [Bool.cond_eq_ite, assoc_args, Nat.zero_le, if_true, Nat.sub_zero] at ht
  split at ht
  · have hlt := (List.getElem?_eq_some_iff.1 ht).1
    obtain ⟨u, h1, h2⟩ := ha.get ht
    refine ⟨u, ?_, h2⟩
    rw [Array.getElem?_append_left (by simp; omega)]
    simpa using h1
  · cases ht
def resF (tmps : Array Value) : ResultVar → Sem Value
  | .tmp t => pure (tmps.getD t undef)
  | .cell a t => do loadVar t (← asAddr (tmps.getD a undef))
omit [Val] in
theorem results_def (fn : Func) (tmps : Array Value) : results fn tmps = (do
    let vs ← fn.results.mapM (resF tmps)
    pure (if h : vs.size = 1 then vs[0] else .tuple vs)) := by
  unfold results
  congr 2
theorem mapM_results (hnf : ∀ t, (E.nf t).den = t.den) {cx : Ctx} {tmps : Array Value} (hw : WR G β H.get H.next w) (hT : TR β cx T tmps) : ∀ (l : List ResultVar) (vs : List AV), resultsA P E cx H T l = some vs →
    ∃ us : List Value, (l.mapM (resF tmps)).run P w = .ok us w ∧ VRs β vs us
  | [], vs, h => by cases h; exact ⟨[], by simp, .nil⟩
  | r :: l, vs, h => by
    simp only [resultsA] at h
    split at h
    · rename_i v vs' hv hvs
      cases h
      obtain ⟨us, h1, h2⟩ := mapM_results hnf hw hT l vs' hvs
      have hr : ∃ u, (resF tmps r).run P w = .ok u w ∧ VR β v u := by
        cases r with
        | tmp t =>
          obtain ⟨u, k1, k2⟩ := hT.2 t v hv
          exact ⟨u, by simp [resF, Array.getD_eq_getD_getElem?, k1], k2⟩
        | cell a t =>
          simp only [Option.bind_eq_some_iff] at hv
          obtain ⟨x, hx, hl⟩ := hv
          obtain ⟨u, k1, k2⟩ := hT.2 a x hx
          obtain ⟨z, z1, z2⟩ := loadA_run (P := P) hnf hw hl k2
          refine ⟨z, ?_, z2⟩
          simp only [resF, Array.getD_eq_getD_getElem?, k1, Option.getD_some]
          cases k2 <;> first | (simp [loadA] at hl; done) | (simpa [Instr.loadAt, Instr.sureAddr, asAddr] using z1)
      obtain ⟨u, k1, k2⟩ := hr
      exact ⟨u :: us, by simp [List.mapM_cons, k1, h1, Result.andThen], .cons k2 h2⟩
    · cases h
def retOf : List AV → AV
  | [v] => v
  | vs => .tuple vs
theorem results_run (hnf : ∀ t, (E.nf t).den = t.den) {cx : Ctx} {tmps : Array Value} {fn : Func} {vs : List AV} (hw : WR G β H.get H.next w) (hT : TR β cx T tmps) (h : resultsA P E cx H T fn.results.toList = some vs) :
    ∃ u, (results fn tmps).run P w = .ok u w ∧ VR β (retOf vs) u := by
  obtain ⟨us, h1, h2⟩ := mapM_results hnf hw hT _ _ h
  rw [results_def, Array.mapM_eq_mapM_toList]
  refine ⟨if hh : us.toArray.size = 1 then us.toArray[0] else .tuple us.toArray, by simp [h1, Result.andThen], ?_⟩
  cases h2 with
  | nil => exact .tuple .nil
  | cons hx hs => cases hs with
    | nil => exact hx
    | cons hy hs => 
      simp only [List.size_toArray, List.length_cons]
      rw [dif_neg (by omega)]
      exact .tuple (.cons hx (.cons hy hs))
theorem leaves_run {P : Program} {G : Nat} {E : Env} {S : Evs} (hE : EnvOk P G E) (hS : Sound P G S) {n : Nat} {fn : Func} {tmps : Array Value} {R : Ending → World → Prop} : ∀ (m : List Mark) {β : Pl} {H H2 : AHeap} {w : World} (ds : List Deferred), leaveA P E S m H = some H2 → MarksR β m ds → WR G β H.get H.next w →
    (∀ β2 w2, Ext β β2 → WR G β2 H2.get H2.next w2 → Tran β H.get H.next w β2 H2.get H2.next w2 → ∃ v, (results fn tmps).run P w2 = .ok v w2 ∧ R (.returned v) w2) → LeavesInM Fence.wide n P fn tmps R ds .returning w
  | [], β, H, H2, w, ds, h, hm, hw, hk => by
    cases ds with
    | cons d ds => exact hm.elim
    | nil => cases h; exact hk β w (Ext.refl β) hw (Tran.refl _ _ _ _)
  | .own x :: m, β, H, H2, w, ds, h, hm, hw, hk => by
    cases ds with
    | nil => exact hm.elim
    | cons d ds =>
      obtain ⟨⟨p, hp, rfl⟩, hm⟩ := hm
      simp only [leaveA] at h
      split at h
      · rename_i hb
        obtain ⟨q, hq, ho⟩ := hw.obj _ _ hb
        rw [hp] at hq; cases hq
        have hlt := hw.bound _ _ hp
        obtain ⟨j1, j2⟩ := hw.turn hb rfl hp (w' := w.putObj p.c (.deferred none)) (o' := .dfr false) (by simp) (fun c hc => World.putObj_heap_other hc) rfl rfl rfl (World.putObj_heap_same hlt)
        rw [← AHeap.get_set, ← AHeap.next_set (b := x) (o := .dfr false)] at j1
        refine ⟨by simp, .inl ⟨p.c, _, rfl, run_takeDeferred ho, ?_⟩⟩
        refine leaves_run hE hS m ds h hm j1 fun β2 w2 he k1 k2 => hk β2 w2 he k1 ?_
        rw [AHeap.get_set, AHeap.next_set] at k2
        exact j2.trans k2
      · cases h
  | .clo f args :: m, β, H, H2, w, ds, h, hm, hw, hk => by
    cases ds with
    | nil => exact hm.elim
    | cons d ds =>
      obtain ⟨⟨x, y, rfl, ha⟩, hm⟩ := hm
      simp only [leaveA] at h
      split at h
      · rename_i fn1 hfn1
        have hf1 := fnsOf_funcs hfn1
        split at h
        · rename_i cd hb1
          have hcx : (⟨funcMask fn1 cd args.length, max args.length fn1.ntmps, P.globals.size⟩ : Ctx).glob = G := hE.glob
          have hargs : (x ++ y).toList = x.toList ++ y.toList := by simp
          have hT : TR β ⟨funcMask fn1 cd args.length, max args.length fn1.ntmps, P.globals.size⟩ ⟨argTmps args 0, []⟩ ((x ++ y) ++ Array.replicate (fn1.ntmps - (x ++ y).size) undef) := by
            have := argTmps_TR (β := β) (args := args) (vs := (x ++ y).toList) (k := fn1.ntmps) (mask := funcMask fn1 cd args.length) (gl := P.globals.size) (by rw [hargs]; exact ha)
            rwa [Array.toArray_toList] at this
          have enter : (invoke (.fn (.func f) y) x).run P w = .ok (.enter f (x ++ y)) w := by
            have hn := hE.names f fn1 hf1 (by simp [hb1])
            simp [invoke, callFunc, hf1, hb1, hn]
          have go : ∀ (e0 : AExit) (T : Tmps) (H1 : AHeap), (e0 = .normal ∨ e0 = .ret) → S.code ⟨funcMask fn1 cd args.length, max args.length fn1.ntmps, P.globals.size⟩ none cd ⟨argTmps args 0, []⟩ [] H = some ⟨e0, T, [], H1⟩ →
              (match resultsA P E ⟨funcMask fn1 cd args.length, max args.length fn1.ntmps, P.globals.size⟩ H1 T fn1.results.toList with | some _ => leaveA P E S m H1 | none => none) = some H2 →
              LeavesInM Fence.wide n P fn tmps R ({ target := .fn (.func f) y, args := x } :: ds) .returning w := by
            intro e0 T H1 he0 hcode hres
            split at hres
            · rename_i rs hrs
              refine ⟨by simp, .inr ⟨(fun h => by cases h), .func f, y, f, x ++ y, rfl, enter, fun _ _ => trivial, ?_⟩⟩
              have q := (hS.code hcode hcx (a := ⟨(x ++ y) ++ Array.replicate (fn1.ntmps - (x ++ y).size) undef, []⟩) (r := none) hT trivial hw trivial (n - 1)).wpIn
              have := callsDIn_of_wp (F := Fence.wide) (n := n - 1) (u := .returning) (R := fun e w' => match e with
                | .returned _ => LeavesInM Fence.wide n P fn tmps R ds .returning w'
                | _ => False) hf1 hb1 trivial (wpIn_mono q ?_)
              · refine ⟨this.1, fun c0 cs hc hr => ?_⟩
                obtain ⟨e, u', w', fr, ⟨hu, hR⟩, rest⟩ := this.2 c0 cs hc hr
                refine ⟨e, u', w', fr, ?_, rest⟩
                subst hu
                cases e with
                | returned v => exact hR
                | panicked ch => exact hR.elim
                | outgrown => exact hR.elim
              · rintro e a' w' ⟨rfl, β1, q1, q2, q3, q4⟩
                have hd : a'.defers = [] := by
                  cases hd : a'.defers with
                  | nil => rfl
                  | cons => rw [hd] at q2; exact q2.elim
                obtain ⟨u, u1, -⟩ := results_run hE.nf q3 q1 hrs
                have fin : LeavesInM Fence.wide n P fn tmps R ds .returning w' := leaves_run hE hS m ds hres (hm.mono q4.ext) q3 fun β2 w2 he k1 k2 => hk β2 w2 (q4.ext.trans he) k1 (q4.trans k2)
                rcases he0 with rfl | rfl
                · exact ⟨hd, u, u1, fin⟩
                · exact ⟨hd, u, u1, fin⟩
            · cases hres
          split at h
          · rename_i T H1 hcode; exact go .normal T H1 (.inl rfl) hcode h
          · rename_i T H1 hcode; exact go .ret T H1 (.inr rfl) hcode h
          · cases h
        · cases h
      · cases h
theorem callA_run (hE : EnvOk P G E) (hS : Sound P G S) (hD : DrawRun P G E S) {f : FuncId} {args : List AV} {vs : List Value} (h : callA P E S f args H = some (v, H')) (hw : WR G β H.get H.next w) (ha : VRs β args vs) :
    (∀ w0, (callFunc f vs.toArray).run P w0 = .ok (.enter f vs.toArray) w0) ∧ ∀ n, CallsIn Fence.wide n P f vs.toArray w (RetPost G β H w v H') := by
  unfold callA at h
  split at h
  · rename_i v1 hp
    cases h
    exact hE.prim hp hw ha
  · split at h
    · rename_i fn hfn
      have hf := fnsOf_funcs hfn
      split at h
      · rename_i cd hb
        refine ⟨fun w0 => ?_, fun n => ?_⟩
        · have hn := hE.names f fn hf (by simp [hb])
          simp [callFunc, hf, hb, hn]
        · dsimp only at h
          have hcx : (⟨funcMask fn cd args.length, max args.length fn.ntmps, P.globals.size⟩ : Ctx).glob = G := hE.glob
          have hT : TR β ⟨funcMask fn cd args.length, max args.length fn.ntmps, P.globals.size⟩ ⟨argTmps args 0, []⟩ (vs.toArray ++ Array.replicate (fn.ntmps - vs.toArray.size) undef) := argTmps_TR ha
          refine callsIn_of_wp_marks hf hb trivial ?_
          cases hx : codeA P E S ⟨funcMask fn cd args.length, max args.length fn.ntmps, P.globals.size⟩ none cd ⟨argTmps args 0, []⟩ [] H with
          | none => simp [hx] at h
          | some r =>
            obtain ⟨ex, T1, m1, H1⟩ := r
            refine wpIn_mono (codeA_run hE hS hD cd hx hcx (a := ⟨vs.toArray ++ Array.replicate (fn.ntmps - vs.toArray.size) undef, []⟩) (r := none) hT trivial hw trivial n).wpIn ?_
            rintro e a' w' ⟨rfl, β1, q1, q2, q3, q4⟩
            rw [hx] at h
            have fin : (match leaveA P E S m1 H1 with
                | some H2 => match resultsA P E ⟨funcMask fn cd args.length, max args.length fn.ntmps, P.globals.size⟩ H2 T1 fn.results.toList with
                  | some [v] => some (v, H2)
                  | some vs => some (.tuple vs, H2)
                  | none => none
                | none => none) = some (v, H') → LeavesInM Fence.wide n P fn a'.tmps (RetPost G β H w v H') a'.defers .returning w' := by
              intro h
              split at h
              · rename_i H2 hl
                refine leaves_run hE hS m1 _ hl q2 q3 fun β2 w2 he2 k1 k2 => ?_
                cases hrs : resultsA P E ⟨funcMask fn cd args.length, max args.length fn.ntmps, P.globals.size⟩ H2 T1 fn.results.toList with
                | none => simp [hrs] at h
                | some rs =>
                  obtain ⟨u, u1, u2⟩ := results_run hE.nf k1 (q1.mono he2) hrs
                  have : v = retOf rs ∧ H' = H2 := by
                    rw [hrs] at h
                    match rs, h with
                    | [x], h => cases h; exact ⟨rfl, rfl⟩
                    | [], h => cases h; exact ⟨rfl, rfl⟩
                    | x :: y :: z, h => cases h; exact ⟨rfl, rfl⟩
                  obtain ⟨rfl, rfl⟩ := this
                  exact ⟨u, u1, β2, u2, k1, q4.trans k2⟩
              · cases h
            cases ex with
            | normal => exact fin h
            | ret => exact fin h
            | exit id => cases h
            | goto id => cases h
      · cases h
    · cases h
theorem ev_sound (hE : EnvOk P G E) (hD : ∀ S, Sound P G S → DrawRun P G E S) : ∀ n, Sound P G (ev P E n)
  | 0 => Sound.none P G
  | n + 1 => by
    have ih := ev_sound hE hD n
    exact ⟨fun h _ _ _ hw ha => callA_run hE ih (hD _ ih) h hw ha, fun h hg _ _ _ _ hT hm hw hr k => codeA_run hE ih (hD _ ih) _ h hg hT hm hw hr k⟩
end
end Go.Tc
