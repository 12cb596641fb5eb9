/- regions in their text's order. -/
import Derived.Test.YtjmjbjnbfodalaaGreatTcOps4
set_option linter.unusedSimpArgs false
set_option linter.unusedVariables false
set_option linter.unusedSectionVars false
namespace Go.Tc
variable [Val]

section
variable {P : Program} {G : Nat} {β : Pl} {H H' : AHeap} {w : World} {E : Env} {S : Evs} {c : Ctx} {T T' : Tmps} {v : AV}

/-- what a region leaves. -/
def RegPost (G : Nat) (c : Ctx) (β : Pl) (H : AHeap) (w : World) (a : Act) (T' : Tmps) (H' : AHeap) : Exit → Act → World → Prop := fun e a' w' =>
  e = .normal ∧ a'.defers = a.defers ∧ ∃ β', TR β' c T' a'.tmps ∧ WR G β' H'.get H'.next w' ∧ Tran β H.get H.next w β' H'.get H'.next w'

omit [Val] in
theorem put_defers (a : Act) (d : Option Tmp) (u : Value) : (a.put d u).defers = a.defers := by cases d <;> rfl

theorem wanted_of {ops : Array Oper} {o : Oper} {a : Act} {b : Bool} (h : wantedA c ops T o = some b)
    (hg : ∀ g want d, o.guard = some (g, want) → (ops[g]?).bind (·.dst) = some d → ∀ v, T.get c d = some v → ∃ u, a.tmps[d]? = some u ∧ VR β v u) : Region.wanted o (yielded ops a.tmps) = b := by
  unfold wantedA at h
  unfold Region.wanted
  cases hgd : o.guard with
  | none => simp only [hgd, Option.some.injEq] at h; subst h; rfl
  | some gw =>
    obtain ⟨g, want⟩ := gw
    simp only [hgd] at h ⊢
    cases hd : (ops[g]?).bind (·.dst) with
    | none => simp [hd] at h
    | some d =>
      simp only [hd] at h
      cases ht : T.get c d with
      | none => simp [ht] at h
      | some v =>
        obtain ⟨u, h1, h2⟩ := hg g want d hgd hd v ht
        simp only [yielded, hd, Option.bind_some, h1]
        cases h2 <;> simp_all

theorem guard_of {ops : Array Oper} {o : Oper} {a : Act} (hT : TR β c T a.tmps) : ∀ g want d, o.guard = some (g, want) → (ops[g]?).bind (·.dst) = some d → ∀ v, T.get c d = some v → ∃ u, a.tmps[d]? = some u ∧ VR β v u :=
  fun _ _ d _ _ v hv => hT.2 d v hv

theorem opsR_of {n : Nat} {a : Act} (hT : TR β c T a.tmps) (hg : c.glob = G) (hw : WR G β H.get n w) (l : Array Operand) : OpsR β c T a.eval l := fun _ _ _ h => aeval_VR hT hg hw h

theorem opsA_run (hE : EnvOk P G E) (hS : Sound P G S) {ops : Array Oper} {r : Option Nat} {n : Nat} (hg : c.glob = G) : ∀ (l : List Nat) {T : Tmps} {H : AHeap} {β : Pl} {a : Act} {w : World}, opsA P E S c ops l T H = some (T', H') → TR β c T a.tmps → WR G β H.get H.next w →
    wpOpsIn (Fen r) n P ops (RegPost G c β H w a T' H') l a w
  | [], T, H, β, a, w, h, hT, hw => by
    cases h
    exact ⟨rfl, rfl, β, hT, hw, Tran.refl _ _ _ _⟩
  | i :: l, T, H, β, a, w, h, hT, hw => by
    simp only [opsA] at h
    simp only [wpOpsIn]
    cases ho : ops[i]? with
    | none => simp only [ho] at h; exact opsA_run hE hS hg l h hT hw
    | some o =>
      simp only [ho] at h
      cases hwa : wantedA c ops T o with
      | none => simp [hwa] at h
      | some b =>
        have hwd := wanted_of (a := a) hwa (guard_of hT)
        simp only [hwa] at h
        simp only [hwd]
        cases b with
        | true =>
          simp only at h
          split at h
          · rename_i v H1 hop
            split at h
            · rename_i T1 hl
              obtain ⟨hd, hc⟩ := opA_run (ev := a.eval) hE hS hop hw (opsR_of hT hg hw _)
              simp only [if_true]
              refine does_of (G := G) (β := β) (H := H) (H' := H1) (v := v) hd hc _ _ ?_
              rintro u w1 ⟨β1, k1, k2, k3⟩
              have := opsA_run (r := r) (n := n) hE hS hg l h (TR.lay (a := a) (hT.mono k3.ext) hl k1) k2
              exact wpOpsIn_mono' l this fun e a' w' ⟨q1, q2, β', q3, q4, q5⟩ => ⟨q1, q2.trans (put_defers _ _ _), β', q3, q4, k3.trans q5⟩
            · cases h
          · cases h
        | false =>
          simp only at h
          split at h
          · rename_i T1 hl
            simp only [Bool.false_eq_true, if_false]
            refine ⟨fun f _ => Fen_fn r f, ?_⟩
            have := opsA_run (r := r) (n := n) hE hS hg l h (TR.lay (a := a) hT hl undefA_VR) hw
            exact wpOpsIn_mono' l this fun e a' w' ⟨q1, q2, β', q3, q4, q5⟩ => ⟨q1, q2.trans (put_defers _ _ _), β', q3, q4, q5⟩
          · cases h
where
  wpOpsIn_mono' {F : Fence} {n : Nat} {ops : Array Oper} {Q Q' : Exit → Act → World → Prop} : ∀ (l : List Nat) {a : Act} {w : World}, wpOpsIn F n P ops Q l a w → (∀ e a w, Q e a w → Q' e a w) → wpOpsIn F n P ops Q' l a w
  | [], _, _, h, hq => hq _ _ _ h
  | i :: l, a, w, h, hq => by
    simp only [wpOpsIn] at h ⊢
    split
    · rename_i ho; simp only [ho] at h; exact wpOpsIn_mono' l h hq
    · rename_i o ho
      simp only [ho] at h
      split
      · rename_i hw
        simp only [hw, if_true] at h
        unfold Oper.wpIn at *
        refine ⟨h.1, ?_⟩
        have h := h.2
        have hlo : LetsOut Q → LetsOut Q' := fun ⟨a, w, k⟩ => ⟨a, w, hq _ _ _ k⟩
        generalize (o.semAt F.round a.eval).run P w = r at *
        cases r with
        | ok x w' =>
          cases x <;> simp only [Oper.uponIn] at h ⊢ <;>
            first
              | exact wpOpsIn_mono' l h hq
              | exact ⟨h.1, CallsIn.mono h.2 (fun e w'' he => by cases e <;> first | exact wpOpsIn_mono' l he hq | exact hq _ _ _ he | exact hlo he)⟩
              | exact ⟨h.1, RowsIn.mono h.2 (fun _ _ he => wpOpsIn_mono' l he hq)⟩
              | exact ⟨h.1, RoundIn.mono h.2 (fun e w'' he => by cases e <;> first | exact wpOpsIn_mono' l he hq | exact hq _ _ _ he | exact hlo he)⟩
        | halt x w' => cases x <;> simp only [Oper.uponIn] at h ⊢ <;> first | exact hq _ _ _ h | exact h
      · rename_i hw
        simp only [hw, if_false] at h
        exact ⟨h.1, wpOpsIn_mono' l h.2 hq⟩

omit [Val] in
theorem wpOpsIn_append {F : Fence} {n : Nat} {ops : Array Oper} {Q : Exit → Act → World → Prop} (m : List Nat) : ∀ (l : List Nat) {a : Act} {w : World}, wpOpsIn F n P ops (fun e a w => match e with | .normal => wpOpsIn F n P ops Q m a w | e => Q e a w) l a w → wpOpsIn F n P ops Q (l ++ m) a w
  | [], _, _, h => h
  | i :: l, a, w, h => by
    simp only [List.cons_append, wpOpsIn] at h ⊢
    split
    · rename_i ho; simp only [ho] at h; exact wpOpsIn_append m l h
    · rename_i o ho
      simp only [ho] at h
      split
      · rename_i hw
        simp only [hw, if_true] at h
        unfold Oper.wpIn at *
        refine ⟨h.1, ?_⟩
        have h := h.2
        generalize (o.semAt F.round a.eval).run P w = r at *
        cases r with
        | ok x w' =>
          cases x <;> simp only [Oper.uponIn] at h ⊢ <;>
            first
              | exact wpOpsIn_append m l h
              | exact ⟨h.1, CallsIn.mono h.2 (fun e w'' he => by cases e <;> first | exact wpOpsIn_append m l he | exact he)⟩
              | exact ⟨h.1, RowsIn.mono h.2 (fun _ _ he => wpOpsIn_append m l he)⟩
              | exact ⟨h.1, RoundIn.mono h.2 (fun e w'' he => by cases e <;> first | exact wpOpsIn_append m l he | exact he)⟩
        | halt x w' => cases x <;> simp only [Oper.uponIn] at h ⊢ <;> first | exact h
      · rename_i hw
        simp only [hw, if_false] at h
        exact ⟨h.1, wpOpsIn_append m l h.2⟩

omit [Val] in
theorem deferOf_eq {ops : Array Oper} {o : Oper} {f : Operand} (h : deferOf ops = some (o, f)) : ops[ops.size - 1]? = some o ∧ o.guard = none ∧ ∃ q, o.op = .defer q ∧ q.args = #[] ∧ q.callee = .value f := by
  unfold deferOf at h
  split at h
  · rename_i o1 ho
    split at h
    · cases h
    · rename_i hg
      split at h
      · rename_i q hq
        split at h
        · rename_i ha
          split at h
          · rename_i f1 hf
            cases h
            exact ⟨ho, hg, q, hq, by simpa using ha, hf⟩
          · cases h
        · cases h
      · cases h
  · cases h

/-- a call is deferred. -/
theorem deferA_run (hE : EnvOk P G E) (hS : Sound P G S) (hg : c.glob = G) {ops : Array Oper} {o : Oper} {f : Operand} (ho : deferOf ops = some (o, f)) {m : List Mark} {res : Res} (h : deferA P E S c ops o f T m H = some res) {a : Act}
    (hT : TR β c T a.tmps) (hm : MarksR β m a.defers) (hw : WR G β H.get H.next w) (n : Nat) : wpOpsIn (Fen none) n P ops (CodePost G c β H w res) (List.range ops.size) a w := by
  obtain ⟨ho1, hgd, q, hq, hqa, hqc⟩ := deferOf_eq ho
  unfold deferA at h
  split at h
  · rename_i T1 H1 hops
    split at h
    · rename_i g first captured hf
      split at h
      · rename_i T2 hl
        cases h
        have hsz : 0 < ops.size := by
          have := (Array.getElem?_eq_some_iff.1 ho1).1
          omega
        have hr : List.range ops.size = List.range (ops.size - 1) ++ [ops.size - 1] := by
          conv => lhs; rw [show ops.size = (ops.size - 1) + 1 by omega]
          exact List.range_succ
        rw [hr]
        refine wpOpsIn_append _ _ (opsA_run.wpOpsIn_mono' _ (opsA_run (r := none) (n := n) hE hS hg _ hops hT hw) ?_)
        rintro e a' w' ⟨rfl, q2, β', q3, q4, q5⟩
        show wpOpsIn (Fen none) n P ops _ [ops.size - 1] a' w'
        have hv := aeval_VR q3 hg q4 hf
        simp only [wpOpsIn, ho1]
        have hwd : Region.wanted o (yielded ops a'.tmps) = true := by unfold Region.wanted; simp only [hgd]
        rw [if_pos hwd]
        refine ⟨fun f _ => Fen_fn none f, ?_⟩
        generalize hx : a'.eval f = fv at hv
        cases hv with
        | @fn _ f' _ _ x y hF hx1 hy =>
        cases hF
        have hrun : (o.semAt (Fen none).round a'.eval).run P w' = .ok (.defer { target := .fn (.func g) y, args := x }) w' := by
          show (execOp a'.eval o).run P w' = _
          simp [execOp, hq, resolve, hqc, hqa, hx, Deferred.ofValue, Result.andThen]
        rw [hrun]
        rw [Oper.uponIn_defer]
        have hd : (({ a' with defers := { target := .fn (.func g) y, args := x } :: a'.defers } : Act).put o.dst undef).defers = { target := .fn (.func g) y, args := x } :: a'.defers := put_defers _ _ _
        refine ⟨rfl, β', TR.lay (a := { a' with defers := { target := .fn (.func g) y, args := x } :: a'.defers }) q3 hl undefA_VR, ?_, q4, q5⟩
        rw [hd, q2]
        exact ⟨⟨x, y, rfl, hx1.append hy⟩, hm.mono q5.ext⟩
      · cases h
    · cases h
  · cases h

end
end Go.Tc
