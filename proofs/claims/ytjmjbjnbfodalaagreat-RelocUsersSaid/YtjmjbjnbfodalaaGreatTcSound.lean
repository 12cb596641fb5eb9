/- what it means for the evaluator to be right; calls. -/
import Derived.Test.YtjmjbjnbfodalaaGreatTcOps1
import Derived.RangeFuncNested
set_option linter.unusedSimpArgs false
set_option linter.unusedVariables false
set_option linter.unusedSectionVars false
namespace Go.Tc
variable [Val]

/-! ### fences -/
def Fen : Option Nat → Fence
  | none => Fence.wide
  | some l => Fence.wide.inRound l
omit [Val] in
theorem Fen_fn (r : Option Nat) (f : FuncId) : (Fen r).fn f := by cases r <;> trivial
omit [Val] in
theorem Fen_depth (r : Option Nat) : (Fen r).depth = none := by cases r <;> rfl
omit [Val] in
theorem Fen_round (r : Option Nat) : (Fen r).round = r := by cases r <;> rfl
omit [Val] in
theorem Fen_room (r : Option Nat) (n : Nat) : (Fen r).room n := by cases r <;> exact room_wide n
omit [Val] in
theorem Fen_calls {r : Option Nat} {n : Nat} {P : Program} {f : FuncId} {args : Array Value} {w : World} {R : Ending → World → Prop} (h : CallsIn Fence.wide n P f args w R) : CallsIn (Fen r) n P f args w R := by
  cases r <;> exact h
omit [Val] in
theorem Fen_rounds {r : Option Nat} {n : Nat} {P : Program} {l : Nat} {f : FuncId} {tmps : Array Value} {x y : Code} {w : World} {R : Ending → World → Prop} (h : RoundIn Fence.wide n P l f tmps x y w R) : RoundIn (Fen r) n P l f tmps x y w R := by
  cases r <;> exact h

/-! ### a loop, under way -/
def LoopIn (F : Fence) (n : Nat) (P : Program) (c : Code) (Q : Exit → Act → World → Prop) (a : Act) (w : World) : Prop :=
  ∀ (b : Frame) (k : List Item) (cs : List Frame), b.roundOf = F.round → F.fn b.fn → F.room (cs.length + 1 + n) →
    ∃ e a' w', Q e a' w' ∧ ArrivesIn (Machine.fenced P F) P (lone (b.atR a (.code c :: .inLoop c :: k)) cs w) b k cs e a' w'

omit [Val] in
theorem loopIn_step {F : Fence} {n : Nat} {P : Program} {c : Code} {Q : Exit → Act → World → Prop} {a : Act} {w : World} (h : c.wpIn F n P (Exit.then (LoopIn F n P c Q) Q) a w) : LoopIn F n P c Q a w := by
  intro b k cs hro hb hr
  obtain ⟨e, a₁, w₁, hq, harr⟩ := h b (.inLoop c :: k) cs hro hb hr
  cases e with
  | normal =>
    obtain ⟨e₂, a₂, w₂, hq₂, harr₂⟩ := hq b k cs hro hb hr
    exact ⟨e₂, a₂, w₂, hq₂, .of_steps (StepsIn.trans harr (.one (fenced_calm hb hr rfl) stepR_inLoop)) harr₂⟩
  | exit id => exact ⟨_, a₁, w₁, hq, .pass (x := .inLoop c) rfl (fun _ _ => .inl (by simp)) harr⟩
  | goto l => exact ⟨_, a₁, w₁, hq, .pass (x := .inLoop c) rfl (fun _ _ => .inl (by simp)) harr⟩
  | ret => exact ⟨_, a₁, w₁, hq, .pass (x := .inLoop c) rfl (fun _ _ => .inl (by simp)) harr⟩
  | panic ch => exact ⟨_, a₁, w₁, hq, .pass (x := .inLoop c) rfl (fun _ _ => .inl (by simp)) harr⟩
  | outgrown => exact ⟨_, a₁, w₁, hq, .pass (x := .inLoop c) rfl (fun _ _ => .inl (by simp)) harr⟩
omit [Val] in
theorem wpIn_of_loopIn {F : Fence} {n : Nat} {P : Program} {c : Code} {Q : Exit → Act → World → Prop} {a : Act} {w : World} (h : LoopIn F n P c Q a w) : (Code.loop c).wpIn F n P Q a w := by
  intro b k cs hro hb hr
  obtain ⟨e, a', w', hq, harr⟩ := h b k cs hro hb hr
  exact ⟨e, a', w', hq, .of_steps (.one (fenced_calm hb hr rfl) stepR_loop) harr⟩
omit [Val] in
theorem loopIn_mono {F : Fence} {n : Nat} {P : Program} {c : Code} {Q Q' : Exit → Act → World → Prop} {a : Act} {w : World} (h : LoopIn F n P c Q a w) (hq : ∀ e a w, Q e a w → Q' e a w) : LoopIn F n P c Q' a w :=
  fun b k cs hro hb hr => let ⟨e, a', w', q, r⟩ := h b k cs hro hb hr; ⟨e, a', w', hq _ _ _ q, r⟩

/-- code's walk; of a loop: that of the loop under way. -/
def CodeIn (F : Fence) (n : Nat) (P : Program) (cd : Code) (Q : Exit → Act → World → Prop) (a : Act) (w : World) : Prop :=
  match cd with
  | .loop c => LoopIn F n P c Q a w
  | cd => cd.wpIn F n P Q a w
omit [Val] in
theorem CodeIn.wpIn {F : Fence} {n : Nat} {P : Program} {cd : Code} {Q : Exit → Act → World → Prop} {a : Act} {w : World} (h : CodeIn F n P cd Q a w) : cd.wpIn F n P Q a w := by
  cases cd <;> first | exact h | exact wpIn_of_loopIn h

/-! ### relations -/
def OwnR (β : Pl) : List Nat → List Deferred → Prop
  | [], [] => True
  | m :: ms, d :: ds => (∃ p, β m = some p ∧ d = { target := .collected p.c, args := #[] }) ∧ OwnR β ms ds
  | _, _ => False
omit [Val] in
theorem OwnR.mono {β β' : Pl} (e : Ext β β') : ∀ {ms : List Nat} {ds : List Deferred}, OwnR β ms ds → OwnR β' ms ds
  | [], [], _ => trivial
  | [], _ :: _, h => h
  | _ :: _, [], h => h
  | _ :: _, _ :: _, ⟨⟨p, h1, h2⟩, h3⟩ => ⟨⟨p, e _ _ h1, h2⟩, h3.mono e⟩

def MarksR (β : Pl) : List Mark → List Deferred → Prop
  | [], [] => True
  | .own m :: ms, d :: ds => (∃ p, β m = some p ∧ d = { target := .collected p.c, args := #[] }) ∧ MarksR β ms ds
  | .clo f l :: ms, d :: ds => (∃ x y : Array Value, d = { target := .fn (.func f) y, args := x } ∧ VRs β l (x.toList ++ y.toList)) ∧ MarksR β ms ds
  | _, _ => False
theorem MarksR.mono {β β' : Pl} (e : Ext β β') : ∀ {ms : List Mark} {ds : List Deferred}, MarksR β ms ds → MarksR β' ms ds
  | [], [], _ => trivial
  | [], _ :: _, h => h
  | .own _ :: _, [], h => h
  | .clo _ _ :: _, [], h => h
  | .own _ :: _, _ :: _, ⟨⟨p, h1, h2⟩, h3⟩ => ⟨⟨p, e _ _ h1, h2⟩, h3.mono e⟩
  | .clo _ _ :: _, _ :: _, ⟨⟨x, y, h1, h2⟩, h3⟩ => ⟨⟨x, y, h1, VRs.mono e h2⟩, h3.mono e⟩
theorem OwnR.marks {β : Pl} : ∀ {m : List Nat} {ds : List Deferred}, OwnR β m ds → MarksR β (m.map .own) ds
  | [], [], _ => trivial
  | [], _ :: _, h => h
  | _ :: _, [], h => h
  | _ :: _, _ :: _, ⟨h1, h2⟩ => ⟨h1, h2.marks⟩
theorem MarksR.owns {β : Pl} : ∀ {m : List Mark} {n : List Nat} {ds : List Deferred}, ownsOf m = some n → MarksR β m ds → OwnR β n ds
  | [], n, [], h, _ => by cases h; trivial
  | [], _, _ :: _, _, h => h.elim
  | .own _ :: _, _, [], _, h => h.elim
  | .clo _ _ :: _, _, _, h, _ => by cases h
  | .own b :: r, n, d :: ds, h, hm => by
    simp only [ownsOf] at h
    split at h
    · rename_i l hl
      cases h
      exact ⟨hm.1, MarksR.owns hl hm.2⟩
    · cases h

def AroundR (β : Pl) : Option Nat → Option Nat → Prop
  | none, none => True
  | some l, some r => ∃ p, β l = some p ∧ p.c = r
  | _, _ => False
omit [Val] in
theorem AroundR.mono {β β' : Pl} (e : Ext β β') {a r : Option Nat} (h : AroundR β a r) : AroundR β' a r := by
  cases a <;> cases r <;> first | exact h | exact (let ⟨p, h1, h2⟩ := h; ⟨p, e _ _ h1, h2⟩)

def toExit : AExit → Exit
  | .normal => .normal
  | .exit id => .exit id
  | .goto l => .goto l
  | .ret => .ret

/-- a value, a heap, behind a run. -/
def Out (G : Nat) (β : Pl) (H : AHeap) (w : World) (r : AV) (H' : AHeap) (u : Value) (w' : World) : Prop :=
  ∃ β', VR β' r u ∧ WR G β' H'.get H'.next w' ∧ Tran β H.get H.next w β' H'.get H'.next w'

def RetPost (G : Nat) (β : Pl) (H : AHeap) (w : World) (r : AV) (H' : AHeap) : Ending → World → Prop
  | .returned u, w' => Out G β H w r H' u w'
  | _, _ => False

def CodePost (G : Nat) (c : Ctx) (β : Pl) (H : AHeap) (w : World) (res : Res) : Exit → Act → World → Prop := fun e a' w' =>
  e = toExit res.exit ∧ ∃ β', TR β' c res.tmps a'.tmps ∧ MarksR β' res.marks a'.defers ∧ WR G β' res.heap.get res.heap.next w' ∧ Tran β H.get H.next w β' res.heap.get res.heap.next w'

structure Sound (P : Program) (G : Nat) (S : Evs) : Prop where
  call : ∀ {f : FuncId} {args : List AV} {H : AHeap} {r : AV} {H' : AHeap}, S.call f args H = some (r, H') → ∀ {β : Pl} {w : World} {vs : List Value}, WR G β H.get H.next w → VRs β args vs →
    (∀ w0, (callFunc f vs.toArray).run P w0 = .ok (.enter f vs.toArray) w0) ∧ ∀ n, CallsIn Fence.wide n P f vs.toArray w (RetPost G β H w r H')
  code : ∀ {c : Ctx} {around : Option Nat} {cd : Code} {T : Tmps} {m : List Mark} {H : AHeap} {res : Res}, S.code c around cd T m H = some res → c.glob = G → ∀ {β : Pl} {w : World} {a : Act} {r : Option Nat},
    TR β c T a.tmps → MarksR β m a.defers → WR G β H.get H.next w → AroundR β around r → ∀ n, CodeIn (Fen r) n P cd (CodePost G c β H w res) a w

theorem Sound.none (P : Program) (G : Nat) : Sound P G Evs.none := ⟨fun h => (by cases h), fun h => (by cases h)⟩

/-- what the functions that are given beside the program must be. -/
structure EnvOk (P : Program) (G : Nat) (E : Env) : Prop where
  glob : P.globals.size = G
  mixed : P.follows .mixedOrders = true
  nf : ∀ t, (E.nf t).den = t.den
  ext : ∀ f x, E.ext f = some x → ExtOk P f x
  code : ∀ f p c, E.code f p = some c → Val.code f p = c
  names : ∀ (f : FuncId) (fn : Func), P.funcs[f]? = some fn → fn.body.isSome = true → fn.name ≠ "runtime.NumGoroutine"
  prim : ∀ {f : FuncId} {args : List AV} {H : AHeap} {r : AV} {H' : AHeap}, E.prim f args H = some (r, H') → ∀ {β : Pl} {w : World} {vs : List Value}, WR G β H.get H.next w → VRs β args vs →
    (∀ w0, (callFunc f vs.toArray).run P w0 = .ok (.enter f vs.toArray) w0) ∧ ∀ n, CallsIn Fence.wide n P f vs.toArray w (RetPost G β H w r H')

/-! ### one operation in a region -/
def Does (G : Nat) (P : Program) (n : Nat) (r : Option Nat) (o : Oper) (a : Act) (β : Pl) (H : AHeap) (w : World) (v : AV) (H' : AHeap) : Prop :=
  ∀ K Q, (∀ u w', Out G β H w v H' u w' → K (a.put o.dst u) w') → o.wpIn (Fen r) n P a w K Q

/-- how an operation's run may come out. -/
def Comes (G : Nat) (P : Program) (β : Pl) (H : AHeap) (w : World) (v : AV) (H' : AHeap) (res : Result Next) : Prop :=
  (∃ u w', res = .ok (.value u) w' ∧ Out G β H w v H' u w') ∨
  (∃ w', res = .ok .skip w' ∧ Out G β H w v H' undef w') ∨
  (∃ f args, res = .ok (.enter f args) w ∧ ∀ n, CallsIn Fence.wide n P f args w (RetPost G β H w v H')) ∨
  (∃ l f tmps x y, res = .ok (.round l f tmps x y) w ∧ ∀ n, RoundIn Fence.wide n P l f tmps x y w (RetPost G β H w v H'))

section
variable {P : Program} {G : Nat} {β : Pl} {H H' : AHeap} {w : World} {E : Env} {S : Evs} {v : AV}

theorem does_of {n : Nat} {r : Option Nat} {o : Oper} {a : Act} (hd : ∀ c, o.op ≠ .defer c) (h : Comes G P β H w v H' ((execOp a.eval o).run P w)) : Does G P n r o a β H w v H' := by
  intro K Q hK
  refine ⟨fun f _ => Fen_fn r f, ?_⟩
  rw [Oper.semAt_eq _ _ _ hd]
  have hdep : ∀ m, (Fen r).depth.isSome = true → 1 ≤ m := fun m h => by rw [Fen_depth] at h; cases h
  rcases h with ⟨u, w', h1, h2⟩ | ⟨w', h1, h2⟩ | ⟨f, args, h1, h2⟩ | ⟨l, f, tmps, x, y, h1, h2⟩
  · rw [h1]; exact hK u w' h2
  · rw [h1]; exact hK undef w' h2
  · rw [h1]
    refine ⟨hdep n, Fen_calls (CallsIn.mono (h2 (n - 1)) fun e w'' he => ?_)⟩
    cases e with
    | returned u => exact hK u w'' he
    | panicked ch => exact he.elim
    | outgrown => exact he.elim
  · rw [h1]
    refine ⟨hdep n, Fen_rounds (RoundIn.mono (h2 (n - 1)) fun e w'' he => ?_)⟩
    cases e with
    | returned u => exact hK u w'' he
    | panicked ch => exact he.elim
    | outgrown => exact he.elim

theorem callFuncA_run (hE : EnvOk P G E) (hS : Sound P G S) {f : FuncId} {args : List AV} {vs : List Value} (h : callFuncA P E S f args H = some (v, H')) (hw : WR G β H.get H.next w) (ha : VRs β args vs) :
    Comes G P β H w v H' ((callFunc f vs.toArray).run P w) := by
  unfold callFuncA at h
  split at h
  · rename_i x hx
    obtain ⟨β', w', z, h1, h2, h3, h4⟩ := extA_run hE.nf (hE.ext f x hx) hw h ha
    exact .inl ⟨z, w', h1, β', h2, h3, h4⟩
  · obtain ⟨h1, h2⟩ := hS.call h hw ha
    exact .inr (.inr (.inl ⟨f, vs.toArray, h1 w, h2⟩))

theorem callMethodA_run (hE : EnvOk P G E) (hS : Sound P G S) {recv : AV} {name : String} {args : List AV} {x : Value} {vs : List Value} (h : callMethodA P E S recv name args H = some (v, H')) (hw : WR G β H.get H.next w) (hx : VR β recv x) (ha : VRs β args vs) :
    Comes G P β H w v H' ((callMethod x name vs.toArray).run P w) := by
  unfold callMethodA at h
  split at h
  · rename_i t y
    cases hx with | iface _ hy =>
    rename_i y'
    split at h
    · rename_i i hi
      split at h
      · rename_i m hm
        split at h
        · rename_i hp
          have hpl : m.path.toList = [] := by simpa using hp
          have hti : ∀ w, (typeInfo t).run P w = .ok i w := fun w => by simp [typeInfo, infoT_info hi]
          have key : ∀ f b d, m.func = some (f, b) → undT P t = some d → (match d, b with | .pointer _, false => False | .pointer _, true => True | _, false => True | _, true => False) → callFuncA P E S f (y :: args) H = some (v, H') →
              Comes G P β H w v H' ((callMethod (.iface t y') name vs.toArray).run P w) := by
            intro f b d hf hu hdb hc
            have hget : ∀ w, (method (P.types.size + Made.depth) t y' name).run P w = .ok (f, y') w := by
              intro w
              have hd : P.types.size + Made.depth = (P.types.size + (Made.depth - 1)) + 1 := by
                have : 1 ≤ Made.depth := by decide
                omega
              rw [hd]
              simp only [method, Sem.run_bind, hti, Result.andThen_ok, hm, hpl, follow, Sem.run_pure, hf, receiverAt, run_underlying (undT_und hu)]
              cases d <;> cases b <;> simp_all [Place.get]
            have := callFuncA_run hE hS hc hw (VRs.cons hy ha)
            simp only [callMethod, Sem.run_bind, run_program, Result.andThen_ok, hget]
            have e : #[y'] ++ vs.toArray = (y' :: vs).toArray := by simp
            rw [e]; exact this
          split at h
          · rename_i f p hf hu; exact key f true _ hf hu trivial h
          · cases h
          · rename_i f d hd hf hu
            refine key f false d hf hu ?_ h
            cases d <;> first | trivial | exact (hd _ rfl).elim
          · cases h
        · cases h
      · cases h
    · cases h
  · cases h

end
end Go.Tc
