/- Data for the unknown as lists; tables of what is known of them; steps from state to state in one line. -/
import Derived.Test.YtjmjbjnbfodalaaGreatTcIce
set_option linter.unusedSimpArgs false
set_option linter.unusedVariables false
set_option linter.unusedSectionVars false
namespace Go.Tc

/-- unknown data, and the code of loops that are named. -/
@[reducible] def valsC (C : FuncId → List Nat → LCode) (l : List D) : Val := ⟨fun i => l.getD i .bad, C⟩
/-- other data for the unknown. -/
def subs (l : List Tm) (i : Nat) : Tm := l.getD i (.op .not [])
/-- the first so many of unknown data. -/
theorem by_subs (V : Val) (l : List Tm) : V.by (subs l) = valsC V.code (l.map (@Tm.den V)) := by
  unfold Val.by valsC
  congr 1
  funext i
  unfold subs
  simp only [List.getD_eq_getElem?_getD, List.getElem?_map]
  cases l[i]? with
  | none => rfl
  | some t => rfl

section
variable [V : Val]
@[simp] theorem den_int (n : Int) : (Tm.int n).den = .int n := rfl
@[simp] theorem den_bool (n : Bool) : (Tm.bool n).den = .bool n := rfl
@[simp] theorem den_str (n : BS) : (Tm.str n).den = .str n := rfl
@[simp] theorem den_v (i : Nat) : (Tm.v i).den = V.θ i := rfl
@[simp] theorem den_op (o : TOp) (l : List Tm) : (Tm.op o l).den = o.den (Tm.dens l) := rfl
@[simp] theorem dens_nil : Tm.dens [] = [] := rfl
@[simp] theorem dens_cons (t : Tm) (l : List Tm) : Tm.dens (t :: l) = t.den :: Tm.dens l := rfl
end
@[simp] theorem vals_at (C : FuncId → List Nat → LCode) (l : List D) (i : Nat) : (valsC C l).θ i = l.getD i .bad := rfl
@[simp] theorem tden_bin (op : BinOp) (k : IntKind) (a b : Int) : TOp.den (.bin op k) [.int a, .int b] = intD op k a b := rfl
@[simp] theorem tden_shift (op : BinOp) (k : IntKind) (a b : Int) : TOp.den (.shift op k) [.int a, .int b] = shiftD op k a b := rfl
@[simp] theorem tden_conv (k : IntKind) (a : Int) : TOp.den (.conv k) [.int a] = .int (k.wrap a) := rfl
@[simp] theorem tden_not (b : Bool) : TOp.den .not [.bool b] = .bool !b := rfl
@[simp] theorem tden_and (a b : Bool) : TOp.den .and [.bool a, .bool b] = .bool (a && b) := rfl
@[simp] theorem tden_sbin (op : BinOp) (a b : BS) : TOp.den (.sbin op) [.str a, .str b] = strD op a b := rfl
@[simp] theorem tden_slen (s : BS) : TOp.den .slen [.str s] = .int s.len := rfl
@[simp] theorem tden_len (l : List D) : TOp.den .len [.list l] = .int l.length := rfl
@[simp] theorem tden_nth (l : List D) (i : Int) : TOp.den .nth [.list l, .int i] = l.getD i.toNat .bad := rfl
@[simp] theorem tden_fld (j : Nat) (l : List D) : TOp.den (.fld j) [.list l] = l.getD j .bad := rfl
@[simp] theorem tden_mk (l : List D) : TOp.den .mk l = .list l := by cases l <;> rfl
@[simp] theorem tden_cat (a b : List D) : TOp.den .cat [.list a, .list b] = .list (a ++ b) := rfl
@[simp] theorem tden_sub (a : List D) (l h : Int) : TOp.den .sub [.list a, .int l, .int h] = .list ((a.take h.toNat).drop l.toNat) := rfl
@[simp] theorem tden_set (a : List D) (i : Int) (d : D) : TOp.den .set [.list a, .int i, d] = .list (a.set i.toNat d) := rfl
@[simp] theorem tden_setf (j : Nat) (a : List D) (d : D) : TOp.den (.setf j) [.list a, d] = .list (a.set j d) := rfl
@[simp] theorem tden_rep (n : Int) (d : D) : TOp.den .rep [.int n, d] = .list (List.replicate n.toNat d) := rfl
@[simp] theorem tden_sget (s : BS) (i : Int) : TOp.den .sget [.str s, .int i] = .int (s.get i.toNat) := rfl
@[simp] theorem tden_ssub (s : BS) (l h : Int) : TOp.den .ssub [.str s, .int l, .int h] = .str (s.cut l.toNat h.toNat) := rfl
@[simp] theorem tden_ite (b : Bool) (x y : D) : TOp.den .ite [.bool b, x, y] = if b then x else y := rfl
@[simp] theorem tden_bytes (s : BS) : TOp.den .bytes [.str s] = .list ((s.nats s.len).map fun (n : Nat) => .int (n : Int)) := rfl
@[simp] theorem tden_text (l : List D) : TOp.den .text [.list l] = .str (BS.ofNats (natsOfD l)) := rfl
@[simp] theorem tden_fits (a b : BS) : TOp.den .fits [.str a, .str b] = .bool (decide (a.len + b.len ≤ 2 ^ 62)) := rfl
@[simp] theorem tden_nadd (a b : Int) : TOp.den .nadd [.int a, .int b] = .int (a + b) := rfl
@[simp] theorem tden_nsub (a b : Int) : TOp.den .nsub [.int a, .int b] = .int (a - b) := rfl
@[simp] theorem tden_small (a : Int) : TOp.den .small [.int a] = .bool (decide (0 ≤ a ∧ a ≤ 2 ^ 30)) := rfl
@[simp] theorem intD_add (k : IntKind) (a b : Int) : intD .add k a b = .int (k.wrap (a + b)) := rfl
@[simp] theorem intD_sub (k : IntKind) (a b : Int) : intD .sub k a b = .int (k.wrap (a - b)) := rfl
@[simp] theorem intD_mul (k : IntKind) (a b : Int) : intD .mul k a b = .int (k.wrap (a * b)) := rfl
@[simp] theorem intD_quo (k : IntKind) (a b : Int) : intD .quo k a b = .int (k.wrap (a.tdiv b)) := rfl
@[simp] theorem intD_rem (k : IntKind) (a b : Int) : intD .rem k a b = .int (a.tmod b) := rfl
@[simp] theorem intD_eql (k : IntKind) (a b : Int) : intD .eql k a b = .bool (a == b) := rfl
@[simp] theorem intD_neq (k : IntKind) (a b : Int) : intD .neq k a b = .bool (a != b) := rfl
@[simp] theorem intD_lss (k : IntKind) (a b : Int) : intD .lss k a b = .bool (decide (a < b)) := rfl
@[simp] theorem intD_leq (k : IntKind) (a b : Int) : intD .leq k a b = .bool (decide (a ≤ b)) := rfl
@[simp] theorem intD_gtr (k : IntKind) (a b : Int) : intD .gtr k a b = .bool (decide (a > b)) := rfl
@[simp] theorem intD_geq (k : IntKind) (a b : Int) : intD .geq k a b = .bool (decide (a ≥ b)) := rfl
theorem wrap_i64 {n : Int} (h : -2 ^ 63 ≤ n ∧ n < 2 ^ 63) : IntKind.i64.wrap n = n := IntWalk.i64_in _ (by omega)

mutual
/-- data, as terms. -/
def D.tm : D → Tm
  | .int n => .int n
  | .bool b => .bool b
  | .str s => .str s
  | .list l => .op .mk (D.tms l)
  | .bad => .op .not []
def D.tms : List D → List Tm
  | [] => []
  | d :: r => d.tm :: D.tms r
end
mutual
theorem D.tm_den (V : Val) : ∀ d : D, @Tm.den V d.tm = d
  | .int _ | .bool _ | .str _ | .bad => rfl
  | .list l => by
    show TOp.den .mk (@Tm.dens V (D.tms l)) = _
    rw [D.tms_den V l, tden_mk]
theorem D.tms_den (V : Val) : ∀ l : List D, @Tm.dens V (D.tms l) = l
  | [] => rfl
  | d :: r => by
    show @Tm.den V d.tm :: @Tm.dens V (D.tms r) = _
    rw [D.tm_den V d, D.tms_den V r]
end

/-- what is known of unknown data: terms that are the same. -/
def AllEq [Val] : List (Tm × Tm) → Prop
  | [] => True
  | p :: r => p.1.den = p.2.den ∧ AllEq r
theorem AllEq.mem [Val] : ∀ {l : List (Tm × Tm)}, AllEq l → ∀ p ∈ l, p.1.den = p.2.den
  | p :: r, h, q, hq => by
    rcases List.mem_cons.1 hq with e | e
    · rw [e]; exact h.1
    · exact AllEq.mem h.2 q e
  | [], _, q, hq => by cases hq
def Env.tab (E : Env) (l : List (Tm × Tm)) : Env := { exts := E.exts, prim := E.prim, nf := tableNf l, kinds := E.kinds, code := E.code }
/-- a piece of code: 0 1 the parts of a sequence, 2 what a block or a loop holds, 3 4 the branches. -/
def pieceOf : Code → List Nat → Code
  | c, [] => c
  | .seq a _, 0 :: l => pieceOf a l
  | .seq _ b, 1 :: l => pieceOf b l
  | .block _ b, 2 :: l => pieceOf b l
  | .loop b, 2 :: l => pieceOf b l
  | .scope b, 2 :: l => pieceOf b l
  | .cond _ a _, 3 :: l => pieceOf a l
  | .cond _ _ b, 4 :: l => pieceOf b l
  | c, _ => c
section
variable {P : Program} {G : Nat} {E : Env} {V : Val} {c : Ctx} {around : Option Nat} {k0 : Nat}
theorem EnvOk.tab (hE : @EnvOk V P G E) {l : List (Tm × Tm)} (h : @AllEq V l) : @EnvOk V P G (E.tab l) :=
  @EnvOk.mk V P G _ hE.glob hE.mixed (@tableNf_den V l (@AllEq.mem V l h)) hE.ext hE.code hE.names hE.prim

variable {C : FuncId → List Nat → LCode} {ds : List D}
theorem Tri.go (hE : @EnvOk (valsC C ds) P G E) (hg : c.glob = G) {tb : List (Tm × Tm)} (ht : @AllEq (valsC C ds) tb) {cd : Code} {σ σ' : St} {z : List Ice} {ts : List Tm} {l : List (Nat × Nat)} {ex : AExit} (hk : k0 ≤ σ.next)
    (h : evIce P (E.tab tb) 100000 c around k0 cd σ z (subs ts) l ex σ' = true) {Q : Val → AExit → St → Prop} (hQ : Q (valsC C (ts.map (@Tm.den (valsC C ds)))) ex σ') : Tri P G (valsC C ds) c around k0 cd σ Q := by
  refine Tri.mono (Tri.ice (@EnvOk.tab P G E (valsC C ds) hE tb ht) hg hk h) ?_
  rintro V' ex' σ'' ⟨rfl, rfl, rfl⟩
  rw [by_subs]; exact hQ

theorem Tri.goSeq (hE : @EnvOk (valsC C ds) P G E) (hg : c.glob = G) (hs : stays around k0) {tb : List (Tm × Tm)} (ht : @AllEq (valsC C ds) tb) {cd cd' : Code} {σ σ' : St} {z : List Ice} {ts : List Tm} {l : List (Nat × Nat)} (hk : k0 ≤ σ.next)
    (h : evIce P (E.tab tb) 100000 c around k0 cd σ z (subs ts) l .normal σ' = true) {Q : Val → AExit → St → Prop} (hQ : Tri P G (valsC C (ts.map (@Tm.den (valsC C ds)))) c around k0 cd' σ' Q) : Tri P G (valsC C ds) c around k0 (.seq cd cd') σ Q := by
  refine Tri.seq hs (Tri.go (Q := fun V' ex s => V' = valsC C (ts.map (@Tm.den (valsC C ds))) ∧ ex = .normal ∧ s = σ') hE hg ht hk h ⟨rfl, rfl, rfl⟩) ?_ ?_
  · rintro V' σ'' ⟨rfl, -, rfl⟩; exact hQ
  · rintro V' ex σ'' hne ⟨-, rfl, -⟩; exact absurd rfl hne

/-- the code of a loop over a function, by where it stands. -/
def rangeAt : Code → LCode
  | .rangeFunc _ ps a b => ⟨ps, a, b⟩
  | _ => default
def codeAt (P : Program) (f : FuncId) (p : List Nat) : LCode :=
  match (fnsOf P).get f with
  | some fn => match fn.body with
    | some cd => rangeAt (pieceOf cd p)
    | none => default
  | none => default
def Env.named (E : Env) (P : Program) : Env := { exts := E.exts, prim := E.prim, nf := E.nf, kinds := E.kinds, code := fun f p => some (codeAt P f p) }
theorem EnvOk.named (hE : @EnvOk (valsC (codeAt P) ds) P G E) : @EnvOk (valsC (codeAt P) ds) P G (E.named P) :=
  letI : Val := valsC (codeAt P) ds
  ⟨hE.glob, hE.mixed, hE.nf, hE.ext, (fun _ _ _ h => by cases h; rfl), hE.names, hE.prim⟩

/-- **A range over a function**: its loop named by where it stands. -/
theorem Tri.range (hE : @EnvOk (valsC C ds) P G E) (hg : c.glob = G) {tb : List (Tm × Tm)} (ht : @AllEq (valsC C ds) tb) {q : Operand} {cd : Code} (f : FuncId) (p : List Nat) (hcd : cd = .rangeFunc q (C f p).params (C f p).assign (C f p).body) {σ σ' : St} {z : List Ice} {ts : List Tm} {l : List (Nat × Nat)} {ex : AExit} (hk : k0 ≤ σ.next)
    (h : evRange P (E.tab tb) 100000 c around k0 q (.at_ f p) σ z (subs ts) l ex σ' = true) {Q : Val → AExit → St → Prop} (hQ : Q (valsC C (ts.map (@Tm.den (valsC C ds)))) ex σ') : Tri P G (valsC C ds) c around k0 cd σ Q := by
  subst hcd
  refine Tri.mono (Tri.rangeIce (@EnvOk.tab P G E (valsC C ds) hE tb ht) hg (lc := .at_ f p) rfl hk h) ?_
  rintro V' ex' σ'' ⟨rfl, rfl, rfl⟩
  rw [by_subs]; exact hQ
theorem stays_none : stays none k0 := fun _ h => by cases h

/-- what a contract gives a row. -/
theorem calls_of_fact {x : Fact} (hx : @Fact.Ok V P G x) (hf : Fixed x.ahead) {β : Pl} {w : World} {vs : List Value} (hw : @WR V G β x.ahead.get x.ahead.next w) (ha : @VRs V β x.args vs) :
    Calls P x.f vs.toArray w fun e w' => ∃ β' u, e = .returned u ∧ @VR V β' x.r u ∧ w.heap.size ≤ w'.heap.size ∧ (∀ c, c < w.heap.size → w'.heap[c]? = w.heap[c]?) ∧ w'.os = w.os ∧ w'.output = w.output := by
  obtain ⟨-, h2⟩ := @Fact.Ok.run V P G x hx _ _ _ hw ha
  refine callsIn_wide.1 (CallsIn.mono (h2 0) fun e w' he => ?_)
  cases e with
  | panicked ch => exact he.elim
  | outgrown => exact he.elim
  | returned u =>
    obtain ⟨β1, k1, k2, k3⟩ := he
    exact ⟨β1, u, rfl, k1, k3.size, fun c hc => k3.kept c hc fun b o p hb ho => (by rw [hf b o hb] at ho; cases ho), k3.os, k3.out⟩

/-- a contract, used for other data. -/
theorem Fact.use {tb : List (Tm × Tm)} (ht : @AllEq (valsC C ds) tb) {ts : List Tm} {ds' : List D} (he : ts.map (@Tm.den (valsC C ds)) = ds') {l : List (Nat × Nat)} {x y : Fact} (hx : @Fact.Ok (valsC C ds') P G x) (h : usesSo (tableNf tb) G (subs ts) l x y = true) : @Fact.Ok (valsC C ds) P G y :=
  Fact.ok_use (@tableNf_den (valsC C ds) tb (@AllEq.mem (valsC C ds) tb ht)) (s := subs ts) (by rw [by_subs, he]; exact hx) h
end
end Go.Tc
