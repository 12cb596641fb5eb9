/- a function's call; the evaluator is right. -/
import Derived.Test.YtjmjbjnbfodalaaGreatTcCode
set_option linter.unusedSimpArgs false
set_option linter.unusedVariables false
set_option linter.unusedSectionVars false
namespace Go.Tc
variable [Val]

section
variable {P : Program} {G : Nat} {β : Pl} {H H' : AHeap} {w : World} {E : Env} {S : Evs} {c : Ctx} {T T' : Tmps} {v : AV}

omit [Val] in
theorem assoc_args : ∀ (l : List AV) (i t : Nat), assoc (argTmps l i) t = if i ≤ t then l[t - i]? else none
  | [], i, t => by simp [argTmps, assoc]
  | v :: r, i, t => by
    simp only [argTmps, assoc, Bool.cond_eq_ite, Nat.beq_eq, assoc_args r (i + 1) t]
    by_cases e : i = t
    · subst e; simp
    · rw [if_neg e]
      by_cases h : i ≤ t
      · have h1 : i + 1 ≤ t := by omega
        rw [if_pos h, if_pos h1, show t - i = (t - (i + 1)) + 1 from by omega]
        simp
      · rw [if_neg h, if_neg (by omega)]

theorem argTmps_TR {args : List AV} {vs : List Value} {k mask gl : Nat} (ha : VRs β args vs) : TR β ⟨mask, max args.length k, gl⟩ ⟨argTmps args 0, []⟩ (vs.toArray ++ Array.replicate (k - vs.toArray.size) undef) := by
  have hlen := ha.length
  refine ⟨by simp; omega, fun t a ht => ?_⟩
  unfold Tmps.get at ht
  simp only [Bool.cond_eq_ite, assoc_args, Nat.zero_le, if_true, Nat.sub_zero] at ht
  split at ht
  · have hlt := (List.getElem?_eq_some_iff.1 ht).1
    obtain ⟨u, h1, h2⟩ := ha.get ht
    refine ⟨u, ?_, h2⟩
    rw [Array.getElem?_append_left (by simp; omega)]
    simpa using h1
  · cases ht

def resF (tmps : Array Value) : ResultVar → Sem Value
  | .tmp t => pure (tmps.getD t undef)
  | .cell a t => do loadVar t (← asAddr (tmps.getD a undef))

omit [Val] in
theorem results_def (fn : Func) (tmps : Array Value) : results fn tmps = (do
    let vs ← fn.results.mapM (resF tmps)
    pure (if h : vs.size = 1 then vs[0] else .tuple vs)) := by
  unfold results
  congr 2

theorem mapM_results (hnf : ∀ t, (E.nf t).den = t.den) {cx : Ctx} {tmps : Array Value} (hw : WR G β H.get H.next w) (hT : TR β cx T tmps) : ∀ (l : List ResultVar) (vs : List AV), resultsA P E cx H T l = some vs →
    ∃ us : List Value, (l.mapM (resF tmps)).run P w = .ok us w ∧ VRs β vs us
  | [], vs, h => by cases h; exact ⟨[], by simp, .nil⟩
  | r :: l, vs, h => by
    simp only [resultsA] at h
    split at h
    · rename_i v vs' hv hvs
      cases h
      obtain ⟨us, h1, h2⟩ := mapM_results hnf hw hT l vs' hvs
      have hr : ∃ u, (resF tmps r).run P w = .ok u w ∧ VR β v u := by
        cases r with
        | tmp t =>
          obtain ⟨u, k1, k2⟩ := hT.2 t v hv
          exact ⟨u, by simp [resF, Array.getD_eq_getD_getElem?, k1], k2⟩
        | cell a t =>
          simp only [Option.bind_eq_some_iff] at hv
          obtain ⟨x, hx, hl⟩ := hv
          obtain ⟨u, k1, k2⟩ := hT.2 a x hx
          obtain ⟨z, z1, z2⟩ := loadA_run (P := P) hnf hw hl k2
          refine ⟨z, ?_, z2⟩
          simp only [resF, Array.getD_eq_getD_getElem?, k1, Option.getD_some]
          cases k2 <;> first | (simp [loadA] at hl; done) | (simpa [Instr.loadAt, Instr.sureAddr, asAddr] using z1)
      obtain ⟨u, k1, k2⟩ := hr
      exact ⟨u :: us, by simp [List.mapM_cons, k1, h1, Result.andThen], .cons k2 h2⟩
    · cases h

def retOf : List AV → AV
  | [v] => v
  | vs => .tuple vs

theorem results_run (hnf : ∀ t, (E.nf t).den = t.den) {cx : Ctx} {tmps : Array Value} {fn : Func} {vs : List AV} (hw : WR G β H.get H.next w) (hT : TR β cx T tmps) (h : resultsA P E cx H T fn.results.toList = some vs) :
    ∃ u, (results fn tmps).run P w = .ok u w ∧ VR β (retOf vs) u := by
  obtain ⟨us, h1, h2⟩ := mapM_results hnf hw hT _ _ h
  rw [results_def, Array.mapM_eq_mapM_toList]
  refine ⟨if hh : us.toArray.size = 1 then us.toArray[0] else .tuple us.toArray, by simp [h1, Result.andThen], ?_⟩
  cases h2 with
  | nil => exact .tuple .nil
  | cons hx hs => cases hs with
    | nil => exact hx
    | cons hy hs => 
      simp only [List.size_toArray, List.length_cons]
      rw [dif_neg (by omega)]
      exact .tuple (.cons hx (.cons hy hs))

theorem leaves_run {P : Program} {G : Nat} {E : Env} {S : Evs} (hE : EnvOk P G E) (hS : Sound P G S) {n : Nat} {fn : Func} {tmps : Array Value} {R : Ending → World → Prop} : ∀ (m : List Mark) {β : Pl} {H H2 : AHeap} {w : World} (ds : List Deferred), leaveA P E S m H = some H2 → MarksR β m ds → WR G β H.get H.next w →
    (∀ β2 w2, Ext β β2 → WR G β2 H2.get H2.next w2 → Tran β H.get H.next w β2 H2.get H2.next w2 → ∃ v, (results fn tmps).run P w2 = .ok v w2 ∧ R (.returned v) w2) → LeavesInM Fence.wide n P fn tmps R ds .returning w
  | [], β, H, H2, w, ds, h, hm, hw, hk => by
    cases ds with
    | cons d ds => exact hm.elim
    | nil => cases h; exact hk β w (Ext.refl β) hw (Tran.refl _ _ _ _)
  | .own x :: m, β, H, H2, w, ds, h, hm, hw, hk => by
    cases ds with
    | nil => exact hm.elim
    | cons d ds =>
      obtain ⟨⟨p, hp, rfl⟩, hm⟩ := hm
      simp only [leaveA] at h
      split at h
      · rename_i hb
        obtain ⟨q, hq, ho⟩ := hw.obj _ _ hb
        rw [hp] at hq; cases hq
        have hlt := hw.bound _ _ hp
        obtain ⟨j1, j2⟩ := hw.turn hb rfl hp (w' := w.putObj p.c (.deferred none)) (o' := .dfr false) (by simp) (fun c hc => World.putObj_heap_other hc) rfl rfl rfl (World.putObj_heap_same hlt)
        rw [← AHeap.get_set, ← AHeap.next_set (b := x) (o := .dfr false)] at j1
        refine ⟨by simp, .inl ⟨p.c, _, rfl, run_takeDeferred ho, ?_⟩⟩
        refine leaves_run hE hS m ds h hm j1 fun β2 w2 he k1 k2 => hk β2 w2 he k1 ?_
        rw [AHeap.get_set, AHeap.next_set] at k2
        exact j2.trans k2
      · cases h
  | .clo f args :: m, β, H, H2, w, ds, h, hm, hw, hk => by
    cases ds with
    | nil => exact hm.elim
    | cons d ds =>
      obtain ⟨⟨x, y, rfl, ha⟩, hm⟩ := hm
      simp only [leaveA] at h
      split at h
      · rename_i fn1 hfn1
        have hf1 := fnsOf_funcs hfn1
        split at h
        · rename_i cd hb1
          have hcx : (⟨funcMask fn1 cd args.length, max args.length fn1.ntmps, P.globals.size⟩ : Ctx).glob = G := hE.glob
          have hargs : (x ++ y).toList = x.toList ++ y.toList := by simp
          have hT : TR β ⟨funcMask fn1 cd args.length, max args.length fn1.ntmps, P.globals.size⟩ ⟨argTmps args 0, []⟩ ((x ++ y) ++ Array.replicate (fn1.ntmps - (x ++ y).size) undef) := by
            have := argTmps_TR (β := β) (args := args) (vs := (x ++ y).toList) (k := fn1.ntmps) (mask := funcMask fn1 cd args.length) (gl := P.globals.size) (by rw [hargs]; exact ha)
            rwa [Array.toArray_toList] at this
          have enter : (invoke (.fn (.func f) y) x).run P w = .ok (.enter f (x ++ y)) w := by
            have hn := hE.names f fn1 hf1 (by simp [hb1])
            simp [invoke, callFunc, hf1, hb1, hn]
          have go : ∀ (e0 : AExit) (T : Tmps) (H1 : AHeap), (e0 = .normal ∨ e0 = .ret) → S.code ⟨funcMask fn1 cd args.length, max args.length fn1.ntmps, P.globals.size⟩ none cd ⟨argTmps args 0, []⟩ [] H = some ⟨e0, T, [], H1⟩ →
              (match resultsA P E ⟨funcMask fn1 cd args.length, max args.length fn1.ntmps, P.globals.size⟩ H1 T fn1.results.toList with | some _ => leaveA P E S m H1 | none => none) = some H2 →
              LeavesInM Fence.wide n P fn tmps R ({ target := .fn (.func f) y, args := x } :: ds) .returning w := by
            intro e0 T H1 he0 hcode hres
            split at hres
            · rename_i rs hrs
              refine ⟨by simp, .inr ⟨(fun h => by cases h), .func f, y, f, x ++ y, rfl, enter, fun _ _ => trivial, ?_⟩⟩
              have q := (hS.code hcode hcx (a := ⟨(x ++ y) ++ Array.replicate (fn1.ntmps - (x ++ y).size) undef, []⟩) (r := none) hT trivial hw trivial (n - 1)).wpIn
              have := callsDIn_of_wp (F := Fence.wide) (n := n - 1) (u := .returning) (R := fun e w' => match e with
                | .returned _ => LeavesInM Fence.wide n P fn tmps R ds .returning w'
                | _ => False) hf1 hb1 trivial (wpIn_mono q ?_)
              · refine ⟨this.1, fun c0 cs hc hr => ?_⟩
                obtain ⟨e, u', w', fr, ⟨hu, hR⟩, rest⟩ := this.2 c0 cs hc hr
                refine ⟨e, u', w', fr, ?_, rest⟩
                subst hu
                cases e with
                | returned v => exact hR
                | panicked ch => exact hR.elim
                | outgrown => exact hR.elim
              · rintro e a' w' ⟨rfl, β1, q1, q2, q3, q4⟩
                have hd : a'.defers = [] := by
                  cases hd : a'.defers with
                  | nil => rfl
                  | cons => rw [hd] at q2; exact q2.elim
                obtain ⟨u, u1, -⟩ := results_run hE.nf q3 q1 hrs
                have fin : LeavesInM Fence.wide n P fn tmps R ds .returning w' := leaves_run hE hS m ds hres (hm.mono q4.ext) q3 fun β2 w2 he k1 k2 => hk β2 w2 (q4.ext.trans he) k1 (q4.trans k2)
                rcases he0 with rfl | rfl
                · exact ⟨hd, u, u1, fin⟩
                · exact ⟨hd, u, u1, fin⟩
            · cases hres
          split at h
          · rename_i T H1 hcode; exact go .normal T H1 (.inl rfl) hcode h
          · rename_i T H1 hcode; exact go .ret T H1 (.inr rfl) hcode h
          · cases h
        · cases h
      · cases h

theorem callA_run (hE : EnvOk P G E) (hS : Sound P G S) (hD : DrawRun P G E S) {f : FuncId} {args : List AV} {vs : List Value} (h : callA P E S f args H = some (v, H')) (hw : WR G β H.get H.next w) (ha : VRs β args vs) :
    (∀ w0, (callFunc f vs.toArray).run P w0 = .ok (.enter f vs.toArray) w0) ∧ ∀ n, CallsIn Fence.wide n P f vs.toArray w (RetPost G β H w v H') := by
  unfold callA at h
  split at h
  · rename_i v1 hp
    cases h
    exact hE.prim hp hw ha
  · split at h
    · rename_i fn hfn
      have hf := fnsOf_funcs hfn
      split at h
      · rename_i cd hb
        refine ⟨fun w0 => ?_, fun n => ?_⟩
        · have hn := hE.names f fn hf (by simp [hb])
          simp [callFunc, hf, hb, hn]
        · dsimp only at h
          have hcx : (⟨funcMask fn cd args.length, max args.length fn.ntmps, P.globals.size⟩ : Ctx).glob = G := hE.glob
          have hT : TR β ⟨funcMask fn cd args.length, max args.length fn.ntmps, P.globals.size⟩ ⟨argTmps args 0, []⟩ (vs.toArray ++ Array.replicate (fn.ntmps - vs.toArray.size) undef) := argTmps_TR ha
          refine callsIn_of_wp_marks hf hb trivial ?_
          cases hx : codeA P E S ⟨funcMask fn cd args.length, max args.length fn.ntmps, P.globals.size⟩ none cd ⟨argTmps args 0, []⟩ [] H with
          | none => simp [hx] at h
          | some r =>
            obtain ⟨ex, T1, m1, H1⟩ := r
            refine wpIn_mono (codeA_run hE hS hD cd hx hcx (a := ⟨vs.toArray ++ Array.replicate (fn.ntmps - vs.toArray.size) undef, []⟩) (r := none) hT trivial hw trivial n).wpIn ?_
            rintro e a' w' ⟨rfl, β1, q1, q2, q3, q4⟩
            rw [hx] at h
            have fin : (match leaveA P E S m1 H1 with
                | some H2 => match resultsA P E ⟨funcMask fn cd args.length, max args.length fn.ntmps, P.globals.size⟩ H2 T1 fn.results.toList with
                  | some [v] => some (v, H2)
                  | some vs => some (.tuple vs, H2)
                  | none => none
                | none => none) = some (v, H') → LeavesInM Fence.wide n P fn a'.tmps (RetPost G β H w v H') a'.defers .returning w' := by
              intro h
              split at h
              · rename_i H2 hl
                refine leaves_run hE hS m1 _ hl q2 q3 fun β2 w2 he2 k1 k2 => ?_
                cases hrs : resultsA P E ⟨funcMask fn cd args.length, max args.length fn.ntmps, P.globals.size⟩ H2 T1 fn.results.toList with
                | none => simp [hrs] at h
                | some rs =>
                  obtain ⟨u, u1, u2⟩ := results_run hE.nf k1 (q1.mono he2) hrs
                  have : v = retOf rs ∧ H' = H2 := by
                    rw [hrs] at h
                    match rs, h with
                    | [x], h => cases h; exact ⟨rfl, rfl⟩
                    | [], h => cases h; exact ⟨rfl, rfl⟩
                    | x :: y :: z, h => cases h; exact ⟨rfl, rfl⟩
                  obtain ⟨rfl, rfl⟩ := this
                  exact ⟨u, u1, β2, u2, k1, q4.trans k2⟩
              · cases h
            cases ex with
            | normal => exact fin h
            | ret => exact fin h
            | exit id => cases h
            | goto id => cases h
      · cases h
    · cases h

/-- **The evaluator is right**, if regions that draw their order are. -/
theorem ev_sound (hE : EnvOk P G E) (hD : ∀ S, Sound P G S → DrawRun P G E S) : ∀ n, Sound P G (ev P E n)
  | 0 => Sound.none P G
  | n + 1 => by
    have ih := ev_sound hE hD n
    exact ⟨fun h _ _ _ hw ha => callA_run hE ih (hD _ ih) h hw ha, fun h hg _ _ _ _ hT hm hw hr k => codeA_run hE ih (hD _ ih) _ h hg hT hm hw hr k⟩

end
end Go.Tc
