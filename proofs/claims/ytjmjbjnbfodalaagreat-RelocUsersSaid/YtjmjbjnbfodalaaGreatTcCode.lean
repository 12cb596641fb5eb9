/- code, functions: the evaluator is right. -/
import Derived.Test.YtjmjbjnbfodalaaGreatTcRegion
import Derived.Scope
set_option linter.unusedSimpArgs false
set_option linter.unusedVariables false
set_option linter.unusedSectionVars false
namespace Go.Tc
variable [Val]

section
variable {P : Program} {G : Nat} {β : Pl} {H H' : AHeap} {w : World} {E : Env} {S : Evs} {c : Ctx} {T T' : Tmps} {v : AV}

/-- regions that draw their order. -/
def DrawRun (P : Program) (G : Nat) (E : Env) (S : Evs) : Prop :=
  ∀ {c : Ctx} {ops : Array Oper} {T T' : Tmps} {H H' : AHeap}, drawA P E S c ops T H = some (T', H') → c.glob = G → ∀ {β : Pl} {a : Act} {w : World}, TR β c T a.tmps → WR G β H.get H.next w →
    ∀ (id n : Nat) (r : Option Nat), (Code.region id ops true).wpIn (Fen r) n P (RegPost G c β H w a T' H') a w

theorem CodePost.trans {β1 : Pl} {H1 : AHeap} {w1 : World} {res : Res} {e : Exit} {a' : Act} {w' : World} (h : CodePost G c β1 H1 w1 res e a' w') (t : Tran β H.get H.next w β1 H1.get H1.next w1) : CodePost G c β H w res e a' w' :=
  let ⟨h1, β', h2, h3, h4, h5⟩ := h; ⟨h1, β', h2, h3, h4, t.trans h5⟩

theorem rangeA_run (hS : Sound P G S) {around : Option Nat} {f : Operand} {params : Array Tmp} {assign body : Code} {lc : LRef} {m : List Mark} {res : Res} (hlc : lc.get = ⟨params, assign, body⟩) (h : rangeA P S c around (aeval c T f) lc T m H = some res) (hg : c.glob = G)
    {a : Act} {r : Option Nat} (hT : TR β c T a.tmps) (hm : MarksR β m a.defers) (hw : WR G β H.get H.next w) (hr : AroundR β around r) (n : Nat) :
    (Code.rangeFunc f params assign body).wpIn (Fen r) n P (CodePost G c β H w res) a w := by
  unfold rangeA at h
  split at h
  · cases h
  · rename_i dfr marks' H1 hen
    split at h
    · rename_i g first captured hf
      split at h
      · rename_i fn hfn
        split at h
        · cases h
        · dsimp only at h
          split at h
          · rename_i v3 H3 hcall
            split at h
            · rename_i st pd c3 t3 b3 d3 hl3
              split at h
              · cases h
              · rename_i hst
                split at h
                · rename_i e hj
                  simp only [Option.some.injEq] at h
                  subst h
                  have hfv := aeval_VR hT hg hw hf
                  refine wpIn_rangeFunc fun fnid _ => ?_
                  rw [Fen_round]
                  -- the loop is entered
                  obtain ⟨β1, w1, mark, pl, hrun, hpl, hTR1, hM1, hw1, ht1⟩ : ∃ (β1 : Pl) (w1 : World) (mark : List Deferred) (pl : Place),
                      (Instr.enterLoop fnid a.tmps params assign body r).run P w = .ok (pl.c, mark) w1 ∧ β1 H1.next = some pl ∧ TR β1 c T a.tmps ∧ MarksR β1 marks' (mark ++ a.defers) ∧
                      WR G β1 (H1.new (.loop ⟨.ready, none, c, T, lc, dfr⟩)).get (H1.new (.loop ⟨.ready, none, c, T, lc, dfr⟩)).next w1 ∧
                      Tran β H.get H.next w β1 (H1.new (.loop ⟨.ready, none, c, T, lc, dfr⟩)).get (H1.new (.loop ⟨.ready, none, c, T, lc, dfr⟩)).next w1 := by
                    cases around with
                    | none =>
                      cases r with
                      | some r => exact hr.elim
                      | none =>
                        simp only [Option.some.injEq, Prod.mk.injEq] at hen
                        obtain ⟨rfl, rfl, rfl⟩ := hen
                        obtain ⟨j1, j2⟩ := hw.alloc (.deferred (some [])) 0 (.dfr true) (World.alloc_heap_new _ _)
                        rw [← AHeap.get_new, ← AHeap.next_new (o := .dfr true)] at j1 j2
                        obtain ⟨k1, k2⟩ := j1.alloc (.loop { state := .ready, pending := none, fn := fnid, tmps := a.tmps, params := params, assign, body, defers := w.heap.size }) 0 (.loop ⟨.ready, none, c, T, lc, H.next⟩)
                          ⟨_, World.alloc_heap_new _ _, rfl, rfl, (hT.mono j2.ext).mono (Pl.put_ext _ (j1.fresh _ (Nat.le_refl _))), by rw [hlc], by rw [hlc], by rw [hlc], ⟨w.heap.size, 0, 0⟩, by
                            refine Pl.put_ext _ (j1.fresh _ (Nat.le_refl _)) _ _ (Pl.put_same β H.next _), rfl⟩
                        rw [← AHeap.get_new, ← AHeap.next_new (o := .loop ⟨.ready, none, c, T, lc, H.next⟩)] at k1 k2
                        refine ⟨_, _, _, ⟨w.heap.size + 1, 0, 0⟩, run_enterLoop_outer _ _ _ _ _, ?_, (hT.mono j2.ext).mono k2.ext, ?_, k1, j2.trans k2⟩
                        · rw [Pl.put_same]; simp
                        · exact ⟨⟨⟨w.heap.size, 0, 0⟩, k2.ext _ _ (Pl.put_same β H.next _), rfl⟩, (hm.mono j2.ext).mono k2.ext⟩
                    | some l0 =>
                      cases r with
                      | none => exact hr.elim
                      | some r =>
                        obtain ⟨p0, hp0, rfl⟩ := hr
                        simp only at hen
                        split at hen
                        · rename_i r0 hl0
                          simp only [Option.some.injEq, Prod.mk.injEq] at hen
                          obtain ⟨rfl, rfl, rfl⟩ := hen
                          obtain ⟨st0, pd0, c0, t0, b0, d0⟩ := r0
                          obtain ⟨cl, q1, -, -, -, -, -, -, q, q2, q3⟩ := loop_at hw hl0 hp0
                          have hx := Pl.put_ext (β := β) ⟨w.heap.size, 0, 0⟩ (hw.fresh H.next (Nat.le_refl _))
                          obtain ⟨k1, k2⟩ := hw.alloc (.loop { state := .ready, pending := none, fn := fnid, tmps := a.tmps, params := params, assign, body, defers := cl.defers }) 0 (.loop ⟨.ready, none, c, T, lc, d0⟩)
                            ⟨_, World.alloc_heap_new _ _, rfl, rfl, hT.mono hx, by rw [hlc], by rw [hlc], by rw [hlc], q, hx _ _ q2, q3⟩
                          rw [← AHeap.get_new, ← AHeap.next_new (o := .loop ⟨.ready, none, c, T, lc, d0⟩)] at k1 k2
                          refine ⟨_, _, [], ⟨w.heap.size, 0, 0⟩, run_enterLoop_inner q1 _ _ _ _ _, Pl.put_same _ _ _, hT.mono k2.ext, hm.mono k2.ext, k1, k2⟩
                        · cases hen
                  generalize hfe : a.eval f = fe at hfv
                  have hfv := hfv.mono ht1.ext
                  cases hfv with
                  | @fn _ f' _ _ x y hF hx hy =>
                  cases hF
                  have hargs : VRs β1 (first ++ .fn (.yield H1.next) [] [] :: captured) (x.toList ++ .func (.yield pl.c) #[] #[] :: y.toList) := hx.append (.cons (.fn (.yield hpl) .nil .nil) hy)
                  obtain ⟨hc1, hc2⟩ := hS.call hcall hw1 hargs
                  refine ⟨pl.c, mark, w1, { target := .fn (.func g) y, args := x ++ #[.func (.yield pl.c) #[] #[]] }, w1, g, (x.toList ++ .func (.yield pl.c) #[] #[] :: y.toList).toArray, w1, hrun, ?_, fun f' _ => Fen_fn r f', ?_, ?_, ?_⟩
                  · simp only [resolve, hfe]
                    simp [Deferred.ofValue, Act.eval]
                  · have := hc1 w1
                    have e : x ++ #[Value.func (.yield pl.c) #[] #[]] ++ y = (x.toList ++ .func (.yield pl.c) #[] #[] :: y.toList).toArray := by simp
                    simp only [invoke, e]
                    exact this
                  · intro hd; rw [Fen_depth] at hd; cases hd
                  · refine CallsIn.mono (Fen_calls (hc2 (n - 1))) ?_
                    intro en w3 hen3
                    cases en with
                    | panicked ch => exact hen3.elim
                    | outgrown => exact hen3.elim
                    | returned v' =>
                      obtain ⟨β3, z1, z2, z3⟩ := hen3
                      have hp3 : β3 H1.next = some pl := z3.ext _ _ hpl
                      obtain ⟨cl3, e1, e2, e3, -⟩ := loop_at z2 hl3 hp3
                      obtain ⟨y1, y2⟩ := loop_turn z2 hl3 hp3 e1 .exhausted pd
                      have hel := run_endLoop (P := P) e1 (by rw [e2]; exact hst)
                      have hpe : ({ cl3 with state := .exhausted, pending := pd } : Loop) = { cl3 with state := .exhausted } := by rw [← e3]
                      rw [hpe] at y1 y2
                      refine ⟨pd, w3.putObj pl.c (.loop { cl3 with state := .exhausted }), hel.trans (by rw [e3]), ?_⟩
                      have hfin : ∀ ex, ex = e → CodePost G c β H w ⟨e, T, marks', H3.set H1.next (.loop ⟨.exhausted, pd, c3, t3, b3, d3⟩)⟩ (toExit ex) { a with defers := mark ++ a.defers } (w3.putObj pl.c (.loop { cl3 with state := .exhausted })) := by
                        rintro ex rfl
                        exact ⟨rfl, β3, hTR1.mono z3.ext, hM1.mono z3.ext, y1, ht1.trans (z3.trans y2)⟩
                      cases pd with
                      | none =>
                        simp only [exitOfJump, Option.some.injEq] at hj
                        exact hfin .normal hj
                      | some jc =>
                        cases jc <;> simp only [exitOfJump, Option.some.injEq, reduceCtorEq] at hj
                        · exact wpIn_exit (hfin (.exit _) hj)
                        · exact wpIn_goto (hfin (.goto _) hj)
                        · exact wpIn_ret (hfin .ret hj)
                · cases h
            · cases h
          · cases h
      · cases h
    · cases h

omit [Val] in
theorem stepR_scope {b : Frame} {a : Act} {k : List Item} {cs : List Frame} {w : World} {c : Code} : step P (lone (b.atR a (.code (.scope c) :: k)) cs w) = .next (lone (b.atR a (.code c :: .inScope c :: k)) cs w) :=
  step_lone_go (by simp [stepG, stepG.exec, Frame.atR])
omit [Val] in
theorem stepR_inScope {b : Frame} {a : Act} {k : List Item} {cs : List Frame} {w : World} {c : Code} : step P (lone (b.atR a (.inScope c :: k)) cs w) = .next (lone (b.atR a k) cs w) :=
  step_lone_go (by simp [stepG, stepG.exec, Frame.atR])

omit [Val] in
theorem wpIn_scope' {F : Fence} {n : Nat} {c : Code} {Q : Exit → Act → World → Prop} {a : Act} {w : World} (h : c.wpIn F n P (Exit.noGoto Q) a w) : (Code.scope c).wpIn F n P Q a w := by
  intro b k cs hro hb hr
  have h0 : (lone (b.atR a (.code (.scope c) :: k)) cs w).fenced P F := fenced_calm hb hr rfl
  obtain ⟨e, a₁, w₁, hq, harr⟩ := h b (.inScope c :: k) cs hro hb hr
  cases e with
  | normal => exact ⟨.normal, a₁, w₁, hq, .head h0 stepR_scope (StepsIn.trans harr (.one (fenced_calm hb hr rfl) stepR_inScope))⟩
  | exit id =>
    have hx : exitTo id (.inScope c :: k) = exitTo id k := by simp [exitTo]
    exact ⟨.exit id, a₁, w₁, hq, fun k' hk => .head h0 stepR_scope (harr.1 k' (by rw [hx]; exact hk)),
      fun hr' hk => let ⟨k₁, h1, h2⟩ := harr.2 hr' (by rw [hx]; exact hk); ⟨k₁, h1, .head h0 stepR_scope h2⟩⟩
  | goto l => exact hq.elim
  | ret => exact ⟨_, a₁, w₁, hq, .of_steps (.one h0 stepR_scope) harr⟩
  | panic ch => exact ⟨_, a₁, w₁, hq, .of_steps (.one h0 stepR_scope) harr⟩
  | outgrown => exact ⟨_, a₁, w₁, hq, .of_steps (.one h0 stepR_scope) harr⟩

theorem codeA_run (hE : EnvOk P G E) (hS : Sound P G S) (hD : DrawRun P G E S) : ∀ (cd : Code) {c : Ctx} {around : Option Nat} {T : Tmps} {m : List Mark} {H : AHeap} {res : Res}, codeA P E S c around cd T m H = some res → c.glob = G →
    ∀ {β : Pl} {w : World} {a : Act} {r : Option Nat}, TR β c T a.tmps → MarksR β m a.defers → WR G β H.get H.next w → AroundR β around r → ∀ n, CodeIn (Fen r) n P cd (CodePost G c β H w res) a w := by
  intro cd
  induction cd with
  | skip =>
    intro c around T m H res h hg β w a r hT hm hw hr n
    cases h; exact wpIn_skip ⟨rfl, β, hT, hm, hw, Tran.refl _ _ _ _⟩
  | label l =>
    intro c around T m H res h hg β w a r hT hm hw hr n
    cases h; exact wpIn_label ⟨rfl, β, hT, hm, hw, Tran.refl _ _ _ _⟩
  | exit id =>
    intro c around T m H res h hg β w a r hT hm hw hr n
    cases h; exact wpIn_exit ⟨rfl, β, hT, hm, hw, Tran.refl _ _ _ _⟩
  | goto l =>
    intro c around T m H res h hg β w a r hT hm hw hr n
    cases h; exact wpIn_goto ⟨rfl, β, hT, hm, hw, Tran.refl _ _ _ _⟩
  | ret =>
    intro c around T m H res h hg β w a r hT hm hw hr n
    cases h; exact wpIn_ret ⟨rfl, β, hT, hm, hw, Tran.refl _ _ _ _⟩
  | region id ops draw =>
    intro c around T m H res h hg β w a r hT hm hw hr n
    simp only [codeA] at h
    split at h
    · rename_i o f hdf
      split at hdf
      · cases r with
        | some l => exact hr.elim
        | none => exact wpIn_region (deferA_run hE hS hg hdf h hT.fresh hm hw n)
      · cases hdf
    split at h
    · rename_i T1 H1 hx
      simp only [Option.some.injEq] at h
      subst h
      have fin : ∀ e a' w', RegPost G c β H w a T1 H1 e a' w' → CodePost G c β H w ⟨.normal, T1, m, H1⟩ e a' w' := fun e a' w' ⟨q1, q2, β', q3, q4, q5⟩ => ⟨q1, β', q3, by rw [q2]; exact hm.mono q5.ext, q4, q5⟩
      cases draw with
      | true => exact wpIn_mono (hD hx hg hT.fresh hw id n r) fin
      | false => exact wpIn_mono (wpIn_region (opsA_run hE hS hg _ hx hT.fresh hw)) fin
    · cases h
  | seq x y ihx ihy =>
    intro c around T m H res h hg β w a r hT hm hw hr n
    simp only [codeA] at h
    refine wpIn_seq ?_
    cases hx : codeA P E S c around x T m H with
    | none => simp [hx] at h
    | some r1 =>
      obtain ⟨ex, T1, m1, H1⟩ := r1
      refine wpIn_mono (ihx hx hg hT hm hw hr n).wpIn ?_
      rintro e a' w' ⟨rfl, β1, q1, q2, q3, q4⟩
      rw [hx] at h
      cases ex with
      | normal => exact wpIn_mono (ihy h hg q1 q2 q3 (hr.mono q4.ext) n).wpIn fun e a'' w'' hp => hp.trans q4
      | exit id => cases h; exact ⟨rfl, β1, q1, q2, q3, q4⟩
      | goto id => cases h; exact ⟨rfl, β1, q1, q2, q3, q4⟩
      | ret => cases h; exact ⟨rfl, β1, q1, q2, q3, q4⟩
  | cond q x y ihx ihy =>
    intro c around T m H res h hg β w a r hT hm hw hr n
    simp only [codeA] at h
    split at h
    · rename_i hq
      have hv := aeval_VR hT hg hw hq
      generalize hqe : a.eval q = vq at hv
      cases hv
      exact wpIn_cond hqe (ihx h hg hT hm hw hr n).wpIn
    · rename_i hq
      have hv := aeval_VR hT hg hw hq
      generalize hqe : a.eval q = vq at hv
      cases hv
      exact wpIn_cond hqe (ihy h hg hT hm hw hr n).wpIn
    · cases h
  | block id b ih =>
    intro c around T m H res h hg β w a r hT hm hw hr n
    simp only [codeA] at h
    refine wpIn_block ?_
    cases hx : codeA P E S c around b T m H with
    | none => simp [hx] at h
    | some r1 =>
      obtain ⟨ex, T1, m1, H1⟩ := r1
      refine wpIn_mono (ih hx hg hT hm hw hr n).wpIn ?_
      rintro e a' w' ⟨rfl, β1, q1, q2, q3, q4⟩
      rw [hx] at h
      cases ex with
      | exit j =>
        simp only at h
        simp only [toExit, Exit.inBlock]
        split at h
        · rename_i hj; cases h; rw [if_pos hj]; exact ⟨rfl, β1, q1, q2, q3, q4⟩
        · rename_i hj; cases h; rw [if_neg hj]; exact ⟨rfl, β1, q1, q2, q3, q4⟩
      | normal => cases h; exact ⟨rfl, β1, q1, q2, q3, q4⟩
      | goto id => cases h; exact ⟨rfl, β1, q1, q2, q3, q4⟩
      | ret => cases h; exact ⟨rfl, β1, q1, q2, q3, q4⟩
  | loop b ih =>
    intro c around T m H res h hg β w a r hT hm hw hr n
    simp only [codeA] at h
    refine loopIn_step ?_
    cases hx : codeA P E S c around b T m H with
    | none => simp [hx] at h
    | some r1 =>
      obtain ⟨ex, T1, m1, H1⟩ := r1
      refine wpIn_mono (ih hx hg hT hm hw hr n).wpIn ?_
      rintro e a' w' ⟨rfl, β1, q1, q2, q3, q4⟩
      rw [hx] at h
      cases ex with
      | normal => exact loopIn_mono (hS.code h hg q1 q2 q3 (hr.mono q4.ext) n) fun e a'' w'' hp => hp.trans q4
      | exit id => cases h; exact ⟨rfl, β1, q1, q2, q3, q4⟩
      | goto id => cases h; exact ⟨rfl, β1, q1, q2, q3, q4⟩
      | ret => cases h; exact ⟨rfl, β1, q1, q2, q3, q4⟩
  | rangeFunc f ps assign body =>
    intro c around T m H res h hg β w a r hT hm hw hr n
    exact rangeA_run hS rfl h hg hT hm hw hr n
  | scope b ih =>
    intro c around T m H res h hg β w a r hT hm hw hr n
    simp only [codeA] at h
    refine wpIn_scope' ?_
    cases hx : codeA P E S c around b T m H with
    | none => simp [hx] at h
    | some r1 =>
      obtain ⟨ex, T1, m1, H1⟩ := r1
      refine wpIn_mono (ih hx hg hT hm hw hr n).wpIn ?_
      rintro e a' w' ⟨rfl, β1, q1, q2, q3, q4⟩
      rw [hx] at h
      cases ex with
      | goto id => cases h
      | normal => cases h; exact ⟨rfl, β1, q1, q2, q3, q4⟩
      | exit id => cases h; exact ⟨rfl, β1, q1, q2, q3, q4⟩
      | ret => cases h; exact ⟨rfl, β1, q1, q2, q3, q4⟩
  | refuse s => intro c around T m H res h; cases h

end
end Go.Tc
