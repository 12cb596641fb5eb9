/- a row's proof, where the evaluator tells that the law answers true: the frame. -/
import Derived.Test.YtjmjbjnbfodalaaGreatTcStart
import Derived.ProofKit
import Derived.Stop.Joined
import Derived.MakeChecks
set_option linter.unusedSimpArgs false
set_option linter.unusedVariables false
set_option linter.unusedSectionVars false
namespace Go.Tc
variable [Val]

section
variable {H : Type} {enc : TypeId × Value → H}

omit [Val] in
/-- a row's contract may lean on the memory's shape: the program's variables lie in it. -/
theorem handed_shaped {a : Assume} {C : Checked} {os : Os} {f : FuncId} {fn : Func} {s : ChangeSpec} {conds : List PathCond} {apart fresh handsOn again : Bool}
    (own : ownKnob C.prog.godebug = none) (started : os.Started) (noInit : C.prog.inits.idxOf? f = none) (hfn : C.prog.funcs[f]? = some fn)
    (witness : ∃ (w : World) (tape : Tape) (i : Input), w.os = os ∧ (w.forCall tape i).Shaped C.prog ∧ i.vars = [] ∧ Input.okWide C.prog (w.forCall tape i) .any w.heap.size f i ∧
      s.pre6 enc C.prog fn conds apart (w.forCall tape i).memory i.args ∧ a.holds C.prog (lone (Frame.enter C.prog f i.args .normal) [] (w.forCall tape i)))
    (contract : ∀ (W : World) (base : Nat) (args : Array Value) (ds gs : List (DataW H)) (before : List MemPlace), W.ShapedOpen C.prog →
      (∀ (j : Nat) t v, fn.params[j]? = some t → args[j]? = some v → Value.okWide C.prog W .any base t v) →
      DataW.Whole enc C.prog fn.params.toList s.vars apart W args.toList ds gs before →
      Calls C.prog f args W fun e W' => ∃ v, e = .returned v ∧ s.post enc C.prog fn apart fresh handsOn again W args v W') :
    ReturnsInHanded a C os f .any (s.pre6 enc C.prog fn conds apart) (s.post enc C.prog fn apart fresh handsOn again) := by
  refine returnsInHanded_of_calls own started noInit witness ?_
  intro w tape i _ hsh _ hok hpre _
  obtain ⟨_, _, _, fn', hfn', _, _, _, _, hval⟩ := hok
  have e : fn' = fn := Option.some.inj (hfn'.symm.trans hfn)
  subst e
  obtain ⟨⟨ds, gs, before, hw, -⟩, -⟩ := hpre
  have hw' := DataW.Whole.of_heap (w' := w.forCall tape i) (by rfl) hw
  refine (contract (w.forCall tape i) w.heap.size i.args ds gs before hsh hval hw').mono fun e W' ⟨v, he, hp⟩ => ?_
  subst he
  exact ChangeSpec.post_blind hp

omit [Val] in
/-- the same, where variables are laid. -/
theorem handed_laid {a : Assume} {C : Checked} {os : Os} {f : FuncId} {fn : Func} {s : ChangeSpec} {conds : List PathCond} {apart fresh handsOn again : Bool} {l : List (String × DataW Unit)}
    (own : ownKnob C.prog.godebug = none) (started : os.Started) (noInit : C.prog.inits.idxOf? f = none) (hfn : C.prog.funcs[f]? = some fn)
    (witness : ∃ (w : World) (tape : Tape) (i : Input), w.os = os ∧ (w.forCall tape i).Shaped C.prog ∧ i.vars = [] ∧ Input.okWide C.prog (w.forCall tape i) .any w.heap.size f i ∧
      ((s.pre enc C.prog fn conds apart (w.forCall tape i).memory i.args ∧ laidMetH C.prog l (w.forCall tape i).memory) ∧ sizedMet enc C.prog fn (OpenSpec.ofChange s) apart (w.forCall tape i).memory i.args) ∧ a.holds C.prog (lone (Frame.enter C.prog f i.args .normal) [] (w.forCall tape i)))
    (contract : ∀ (W : World) (base : Nat) (args : Array Value) (ds gs : List (DataW H)) (before : List MemPlace), W.ShapedOpen C.prog → laidMetH C.prog l W →
      (∀ (j : Nat) t v, fn.params[j]? = some t → args[j]? = some v → Value.okWide C.prog W .any base t v) →
      DataW.Whole enc C.prog fn.params.toList s.vars apart W args.toList ds gs before →
      Calls C.prog f args W fun e W' => ∃ v, e = .returned v ∧ s.post enc C.prog fn apart fresh handsOn again W args v W') :
    ReturnsInHanded a C os f .any (fun w args => (s.pre enc C.prog fn conds apart w args ∧ laidMetH C.prog l w) ∧ sizedMet enc C.prog fn (OpenSpec.ofChange s) apart w args) (s.post enc C.prog fn apart fresh handsOn again) := by
  refine returnsInHanded_of_calls own started noInit witness ?_
  intro w tape i _ hsh _ hok hpre _
  obtain ⟨_, _, _, fn', hfn', _, _, _, _, hval⟩ := hok
  have e : fn' = fn := Option.some.inj (hfn'.symm.trans hfn)
  subst e
  obtain ⟨⟨⟨ds, gs, before, hw, -⟩, hx⟩, -⟩ := hpre
  have hw' := DataW.Whole.of_heap (w' := w.forCall tape i) (by rfl) hw
  refine (contract (w.forCall tape i) w.heap.size i.args ds gs before hsh (hx.of_heap (by rfl)) hval hw').mono fun e W' ⟨v, he, hp⟩ => ?_
  subst he
  exact ChangeSpec.post_blind hp
end

omit [Val] in
/-- the memory's shape gives that the variables lie. -/
theorem ShapedOpen.lies {P : Program} {w : World} (h : w.ShapedOpen P) {g : Nat} (hg : (decide (g < P.globals.size) && (((begin P (fun _ _ => 0) default).world.heap[g]?).bind Obj.row?).isSome) = true) : g < w.heap.size := by
  rw [Bool.and_eq_true, decide_eq_true_eq] at hg
  obtain ⟨h1, h2⟩ := hg
  obtain ⟨⟨zero, t⟩, hz⟩ := Option.isSome_iff_exists.1 h2
  obtain ⟨cs, hcs, -⟩ := h.1 g zero t h1 hz
  by_cases hl : g < w.heap.size
  · exact hl
  · rw [Array.getElem?_eq_none (by omega)] at hcs; cases hcs

omit [Val] in
/-- and of which type a variable's cells are. -/
theorem ShapedOpen.typed {P : Program} {w : World} (h : w.ShapedOpen P) {g : Nat} {t : TypeId} (hg : (decide (g < P.globals.size) && ((((begin P (fun _ _ => 0) default).world.heap[g]?).bind Obj.row?).any fun x => x.2 == t)) = true) : ∃ cs, w.heap[g]? = some (.cells cs t (0, 0)) := by
  rw [Bool.and_eq_true, decide_eq_true_eq] at hg
  obtain ⟨h1, h2⟩ := hg
  cases hz : ((begin P (fun _ _ => 0) default).world.heap[g]?).bind Obj.row? with
  | none => rw [hz] at h2; cases h2
  | some x =>
    rw [hz] at h2
    obtain ⟨zero, t'⟩ := x
    have : t' = t := by simpa using h2
    subst this
    obtain ⟨cs, hcs, -⟩ := h.1 g zero t' h1 hz
    exact ⟨cs, hcs⟩

omit [Val] in
/-- what a list of laid variables tells of each. -/
theorem LaidVars_mem {P : Program} {w : World} : ∀ {l : List (String × DataW Unit)} {ps : List MemPlace}, DataW.LaidVars P w l ps → ∀ {n : String} {d : DataW Unit}, (n, d) ∈ l →
    ∃ g t cs fuel p, P.globalNamed n = some g ∧ (P.globals[g]?).map (·.type) = some t ∧ w.var? P n = some cs ∧ DataW.trod (fun _ => ()) P w 0 (fun _ => true) false fuel t cs.toList = some (d, p)
  | [], _, _, _, _, hm => by cases hm
  | (n0, d0) :: r, ps, h, n, d, hm => by
    obtain ⟨g, t, cs, fuel, p, q, h1, h2, h3, h4, h5, -⟩ := h
    rcases List.mem_cons.1 hm with e | e
    · cases e; exact ⟨g, t, cs, fuel, p, h1, h2, h3, h4⟩
    · exact LaidVars_mem h5 e

omit [Val] in
/-- the cells of a laid variable. -/
theorem laid_cells {P : Program} {w : World} {l : List (String × DataW Unit)} (h : laidMetH P l w) (hp : (l.all fun x => x.2.handleName?.isNone) = true) (hs : w.ShapedOpen P) {n : String} {d : DataW Unit} (hm : (n, d) ∈ l) {i : Nat} {t : TypeId}
    (hg : P.globalNamed n = some i) (ht : (P.globals[i]?).map (·.type) = some t)
    (ht2 : (decide (i < P.globals.size) && ((((begin P (fun _ _ => 0) default).world.heap[i]?).bind Obj.row?).any fun x => x.2 == t)) = true) :
    ∃ cs fuel p, w.heap[i]? = some (.cells cs t (0, 0)) ∧ DataW.trod (fun _ => ()) P w 0 (fun _ => true) false fuel t cs.toList = some (d, p) := by
  rw [MakeChecks.laidMetH_plain _ _ _ hp] at h
  obtain ⟨ps, h1, -⟩ := h
  obtain ⟨g, t', cs, fuel, p, k1, k2, k3, k4⟩ := LaidVars_mem h1 hm
  obtain rfl := Option.some.inj (hg.symm.trans k1)
  obtain rfl := Option.some.inj (ht.symm.trans k2)
  obtain ⟨cs', hc⟩ := ShapedOpen.typed hs ht2
  have : cs = cs' := by
    simp only [World.var?, hg, Option.bind_some, hc, Option.some.injEq] at k3
    exact k3.symm
  subst this
  exact ⟨cs, fuel, p, hc, k4⟩

/-- does a law answer true? -/
def saysTrue : Option (AV × AHeap) → Bool
  | some (.bool b, _) => b
  | _ => false
omit [Val] in
theorem saysTrue_some {o : Option (AV × AHeap)} (h : saysTrue o = true) : ∃ H1, o = some (.bool true, H1) := by
  unfold saysTrue at h
  split at h
  · subst h; exact ⟨_, rfl⟩
  · cases h

/-- **A law's contract, computed.** -/
theorem calls_true {P : Program} {G : Nat} {E : Env} (hE : EnvOk P G E) {n : Nat} {f : FuncId} {args : List AV} {l : List (Nat × List AV × TypeId)} (h : saysTrue ((ev P E n).call f args (startHeap G l)) = true) {w : World} {vs : List Value}
    (hw : WR G (startPl G w) (startHeap G l).get (startHeap G l).next w) (ha : VRs (startPl G w) args vs) :
    Calls P f vs.toArray w fun e w' => e = .returned (.bool true) ∧ ∀ may, w.keptBut w' may := by
  obtain ⟨H1, h1⟩ := saysTrue_some h
  refine (calls_of_ev hE h1 (startHeap_fixed G l) hw ha).mono fun e w' ⟨β', u, he, hu, _, hk, ho, hout⟩ => ?_
  cases hu
  exact ⟨he, fun may => keptBut_of_kept ho hout hk⟩

omit [Val] in
theorem and_i {a b : Bool} (h : a = true) (k : b = true) : (a && b) = true := by rw [h, k]; rfl

omit [Val] in
/-- the closed facts of the program alone, and those of a row, joined. -/
theorem joinedFacts_of {P : Program} {f : FuncId} {fn : Func} {s : ChangeSpec} {c : OpenClaim}
    (prog : (laidOutB P && mapsRowed P && (P.stops == []) && (P.stopKnobs == []) && P.stopsHeard && P.mayEnter) = true)
    (plain : (c.plainKeys == P.plainKeys) = true) (lift : (c.lifted == P.liftsFinal) = true) (make : (P.make == some c.make) = true)
    (place : (c.inPlace == P.inPlace f) = true) (unf : (c.unfollowed == P.unfollowed f) = true) (rec : (c.recurses == P.recurses f) = true) (named : (c.named == P.varsNamed f) = true)
    (a : (c.wf (OpenSpec.ofChange s) && fn.params.all (P.readableRec ·) && namedTie P c.named s.vars && (c.stops == []) && (c.knobs == [])) = true)
    (b : ((c.maps == (fn.params.toList ++ s.plain.varTypes P).any (P.mapsRec ·)) && (c.ifaces == (fn.params.toList ++ s.plain.varTypes P).any (P.ifacesRec ·)) && (c.mapsOut == P.mapsAmong fn.resultTypes.toList) &&
      (c.loops == (fn.params.toList ++ s.plain.varTypes P).any (P.loopsFrom ·)) && (c.wideKeys == (fn.params.toList ++ s.plain.varTypes P ++ fn.resultTypes.toList).any (P.wideKeysFrom ·))) = true)
    (d : (s.vars.all (P.varReadable ·) && fn.resultTypes.all (fun t => P.readableRec t && decide (t < P.types.size)) && (c.ifacesOut == fn.resultTypes.toList.any (P.ifacesRec ·)) && (c.loopsOut == fn.resultTypes.toList.any (P.loopsFrom ·)) && c.shortTexts.isNone) = true)
    (e : ((c.kinds == (if c.domain.isEmpty then [] else fn.params.toList.map fun t => match P.underlying t with | some (.int k) => some k | _ => none)) && (c.pinned == c.pinnedBy) &&
      (c.veiled == (fn.params.toList ++ s.plain.varTypes P ++ fn.resultTypes.toList).any (P.veiledRec ·)) && c.veiledFits P fn.params.toList (fn.params.toList ++ s.plain.varTypes P ++ fn.resultTypes.toList)) = true) :
    joinedFacts P f fn s c = true := by
  simp only [Bool.and_eq_true] at prog a b d e
  obtain ⟨⟨⟨⟨⟨p1, p2⟩, p3⟩, p4⟩, p5⟩, p6⟩ := prog
  obtain ⟨⟨⟨⟨a1, a2⟩, a3⟩, a4⟩, a5⟩ := a
  obtain ⟨⟨⟨⟨b1, b2⟩, b3⟩, b4⟩, b5⟩ := b
  obtain ⟨⟨⟨⟨d1, d2⟩, d3⟩, d4⟩, d5⟩ := d
  obtain ⟨⟨⟨e1, e2⟩, e3⟩, e4⟩ := e
  exact and_i (and_i (and_i (and_i (and_i (and_i (and_i (and_i (and_i (and_i (and_i (and_i (and_i (and_i (and_i (and_i (and_i (and_i (and_i (and_i (and_i (and_i (and_i (and_i (and_i (and_i (and_i (and_i (and_i (and_i (and_i a1 p1) p2) a2) a3) a4) p3) a5) p4) place) unf) rec) named) b1) b2) b3) b4) b5) d1) d2) d3) d4) plain) d5) p5) p6) lift) make) e1) e2) e3) e4

end Go.Tc
