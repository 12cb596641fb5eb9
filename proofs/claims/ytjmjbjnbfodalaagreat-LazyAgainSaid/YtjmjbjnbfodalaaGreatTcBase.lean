/- Plain lemmas on trees, texts and lists that the evaluator's soundness leans on. -/
import Derived.Test.YtjmjbjnbfodalaaGreatTcDefs
import Derived.Laws.Strings
import Derived.RangeFuncRecord
set_option linter.unusedSimpArgs false
set_option linter.unusedVariables false
set_option linter.unusedSectionVars false
namespace Go.Tc
section tr
variable {α : Type}
theorem Tr.get_set : ∀ (f : Nat) (t : Tr α) (n m : Nat) (v : Option α), n < f → (Tr.set f t n v).get m = if m = n then v else t.get m := by
  intro f
  induction f with
  | zero => intro t n m v h; omega
  | succ f ih =>
    intro t n m v h
    cases t with
    | leaf =>
      simp only [Tr.set]
      by_cases h0 : n = 0
      · subst h0
        simp only [if_true, Tr.get]
        by_cases hm : m = 0
        · simp [hm]
        · simp [hm]
      · rw [if_neg h0]
        by_cases h1 : n % 2 = 1
        · rw [if_pos h1]
          simp only [Tr.get]
          by_cases hm : m = 0
          · rw [if_pos hm, if_neg (by omega)]
          · rw [if_neg hm]
            by_cases hm1 : m % 2 = 1
            · rw [if_pos hm1, ih _ _ _ _ (by omega)]
              by_cases e : m = n
              · subst e; simp
              · rw [if_neg e, if_neg (by omega)]; simp [Tr.get]
            · rw [if_neg hm1, if_neg (by omega)]
        · rw [if_neg h1]
          simp only [Tr.get]
          by_cases hm : m = 0
          · rw [if_pos hm, if_neg (by omega)]
          · rw [if_neg hm]
            by_cases hm1 : m % 2 = 1
            · rw [if_pos hm1, if_neg (by omega)]
            · rw [if_neg hm1, ih _ _ _ _ (by omega)]
              by_cases e : m = n
              · subst e; simp
              · rw [if_neg e, if_neg (by omega)]; simp [Tr.get]
    | node l w r =>
      simp only [Tr.set]
      by_cases h0 : n = 0
      · subst h0
        simp only [if_true, Tr.get]
        by_cases hm : m = 0
        · simp [hm]
        · simp [hm]
      · rw [if_neg h0]
        by_cases h1 : n % 2 = 1
        · rw [if_pos h1]
          simp only [Tr.get]
          by_cases hm : m = 0
          · rw [if_pos hm, if_neg (by omega), if_pos hm]
          · rw [if_neg hm, if_neg hm]
            by_cases hm1 : m % 2 = 1
            · rw [if_pos hm1, if_pos hm1, ih _ _ _ _ (by omega)]
              by_cases e : m = n
              · subst e; simp
              · rw [if_neg e, if_neg (by omega)]
            · rw [if_neg hm1, if_neg hm1, if_neg (by omega)]
        · rw [if_neg h1]
          simp only [Tr.get]
          by_cases hm : m = 0
          · rw [if_pos hm, if_neg (by omega), if_pos hm]
          · rw [if_neg hm, if_neg hm]
            by_cases hm1 : m % 2 = 1
            · rw [if_pos hm1, if_pos hm1, if_neg (by omega)]
            · rw [if_neg hm1, if_neg hm1, ih _ _ _ _ (by omega)]
              by_cases e : m = n
              · subst e; simp
              · rw [if_neg e, if_neg (by omega)]
theorem Tr.get_put (t : Tr α) (n m : Nat) (v : α) : (t.put n v).get m = if m = n then some v else t.get m := Tr.get_set _ _ _ _ _ (by omega)
theorem Tr.get_del (t : Tr α) (n m : Nat) : (t.del n).get m = if m = n then none else t.get m := Tr.get_set _ _ _ _ _ (by omega)
mutual
theorem evens_get : ∀ (l : List α) (i : Nat), (evens l)[i]? = l[2 * i]?
  | [], i => by simp [evens]
  | a :: r, 0 => by simp [evens]
  | a :: r, i + 1 => by
    show (odds r)[i]? = (a :: r)[2 * (i + 1)]?
    rw [odds_get r i, show 2 * (i + 1) = (2 * i + 1) + 1 from by omega, List.getElem?_cons_succ]
theorem odds_get : ∀ (l : List α) (i : Nat), (odds l)[i]? = l[2 * i + 1]?
  | [], i => by simp [odds]
  | a :: r, i => by
    show (evens r)[i]? = (a :: r)[2 * i + 1]?
    rw [evens_get r i, List.getElem?_cons_succ]
end
theorem Tr.get_ofList : ∀ (f : Nat) (l : List α) (i : Nat) (a : α), (Tr.ofList f l).get i = some a → l[i]? = some a := by
  intro f
  induction f with
  | zero => intro l i a h; simp [Tr.ofList, Tr.get] at h
  | succ f ih =>
    intro l i a h
    cases l with
    | nil => simp [Tr.ofList, Tr.get] at h
    | cons x r =>
      simp only [Tr.ofList, Tr.get] at h
      by_cases h0 : i = 0
      · subst h0; simpa using h
      · rw [if_neg h0] at h
        obtain ⟨j, rfl⟩ : ∃ j, i = j + 1 := ⟨i - 1, by omega⟩
        rw [List.getElem?_cons_succ]
        by_cases h1 : (j + 1) % 2 = 1
        · rw [if_pos h1] at h
          have := ih _ _ _ h
          rw [evens_get] at this
          rwa [show 2 * ((j + 1) / 2) = j from by omega] at this
        · rw [if_neg h1] at h
          have := ih _ _ _ h
          rw [odds_get] at this
          rwa [show 2 * ((j + 1) / 2 - 1) + 1 = j from by omega] at this
end tr
theorem infoT_info {P : Program} {t : TypeId} {i : TypeInfo} (h : infoT P t = some i) : P.info? t = some i := by
  have := Tr.get_ofList _ _ _ _ h
  rw [Array.getElem?_toList] at this
  have hlt : t < P.types.size := (Array.getElem?_eq_some_iff.1 this).1
  simp only [Tables.info?, if_pos hlt, this]
theorem undT_und {P : Program} {t : TypeId} {d : TypeDesc} (h : undT P t = some d) : P.underlying t = some d := by
  unfold undT at h
  unfold Program.underlying
  cases hi : infoT P t with
  | none => simp [hi] at h
  | some i =>
    rw [infoT_info hi]
    rw [hi] at h
    obtain ⟨desc, s1, s2, s3, s4, s5, s6, s7, s8, s9⟩ := i
    cases desc with
    | named nm u =>
      simp only at h ⊢
      cases hu : infoT P u with
      | none => simp [hu] at h
      | some j => rw [infoT_info hu]; rwa [hu] at h
    | _ => exact h
theorem fnsOf_funcs {P : Program} {f : FuncId} {fn : Func} (h : (fnsOf P).get f = some fn) : P.funcs[f]? = some fn := by
  have := Tr.get_ofList _ _ _ _ h
  simpa using this
theorem sizeT_info {P : Program} {t n : Nat} (h : sizeT P t = some n) : ∃ i, P.info? t = some i ∧ i.size = n := by
  unfold sizeT at h
  cases hi : infoT P t with
  | none => simp [hi] at h
  | some i => exact ⟨i, infoT_info hi, by simpa [hi] using h⟩
end Go.Tc
namespace Go.Tc
structure Place where
  c : Nat
  base : Nat
  size : Nat
structure Pl where
  at_ : Nat → Option Place
  zone : Nat → Option Obj
instance : CoeFun Pl (fun _ => Nat → Option Place) := ⟨Pl.at_⟩
variable [Val]
def CapR (p : Place) (off : Nat) : SCap → Nat → Prop
  | .exact k, c => c = k
  | .opn es, c => 1 ≤ es ∧ p.base + off + c * es ≤ p.size ∧ p.size < p.base + off + (c + 1) * es
def LCapR (p : Place) (off es : Nat) : LCap → Nat → Prop
  | .opn, c => CapR p off (.opn es) c
  | .exact t, c => t.den = .int (c : Int)
  | .rd, _ => True
inductive FnR (β : Pl) : AFn → Fn → Prop
  | func (f : FuncId) : FnR β (.func f) (.func f)
  | method (n : String) : FnR β (.method n) (.method n)
  | methodOf (t : TypeId) (n : String) : FnR β (.methodOf t n) (.methodOf t n)
  | via (t : TypeId) (p : Array FieldStep) (f : FuncId) (b : Bool) : FnR β (.via t p f b) (.via t p f b)
  | yield {l : Nat} {p : Place} (h : β l = some p) : FnR β (.yield l) (.yield p.c)
mutual
inductive VR (β : Pl) : AV → Value → Prop
  | bool (b : Bool) : VR β (.bool b) (.bool b)
  | int (k : IntKind) (n : Int) : VR β (.int k n) (.int k n)
  | str (s : ByteArray) : VR β (.str (BS.of s)) (.string s)
  | nilPtr : VR β .nilPtr (.pointer none)
  | ptr {b : Nat} {p : Place} (off : Nat) (h : β b = some p) : VR β (.ptr b off) (.pointer (some ⟨p.c, p.base + off, none⟩))
  | nilSlice : VR β .nilSlice (.slice none 0 0)
  | slice {b : Nat} {p : Place} (off len : Nat) {cap : SCap} {c : Nat} (h : β b = some p) (hc : CapR p off cap c) (hl : len ≤ c) :
      VR β (.slice b off len cap) (.slice (some ⟨p.c, p.base + off, none⟩) len c)
  | nilMap : VR β .nilMap (.map none)
  | map {b : Nat} {p : Place} (h : β b = some p) : VR β (.map b) (.map (some p.c))
  | fn {f : AFn} {f' : Fn} {x y : List AV} {x' y' : Array Value} (h : FnR β f f') (hx : VRs β x x'.toList) (hy : VRs β y y'.toList) : VR β (.fn f x y) (.func f' x' y')
  | nilFn : VR β .nilFn .nilFunc
  | iface (t : TypeId) {v : AV} {v' : Value} (h : VR β v v') : VR β (.iface t v) (.iface t v')
  | nilIface : VR β .nilIface .nilIface
  | agg {l : List AV} {a : Array Value} (h : VRs β l a.toList) : VR β (.agg l) (.agg a)
  | tuple {l : List AV} {a : Array Value} (h : VRs β l a.toList) : VR β (.tuple l) (.tuple a)
  | junk (n : Nat) (h : n < 256) : VR β .junk (.int .u8 n)
  | esl (a : Addr) (c : Nat) : VR β .esl (.slice (some a) 0 c)
  | rng (k : IntKind) {lo hi n : Int} (h1 : lo ≤ n) (h2 : n ≤ hi) : VR β (.rng k lo hi) (.int k n)
  | strU (s : ByteArray) : VR β (.strU s.size) (.string s)
  | boolU (b : Bool) : VR β .boolU (.bool b)
  | sy {ck : CK} {t : Tm} {v : Value} (h : CellR β.zone ck t.den v) : VR β (.sy ck t) v
  | lsl {b es : Nat} {lo len : Tm} {cm : LCap} {l n c : Nat} {p : Place} (hl : lo.den = .int (l : Int)) (hn : len.den = .int (n : Int)) (h : β b = some p) (hc : LCapR p (l * es) es cm c) (hle : n ≤ c) :
      VR β (.lsl b es lo len cm) (.slice (some ⟨p.c, p.base + l * es, none⟩) n c)
  | lsl0 {b es : Nat} {lo len : Tm} {cm : LCap} {l : Nat} (hl : lo.den = .int (l : Int)) (hn : len.den = .int 0) : VR β (.lsl b es lo len cm) (.slice none 0 0)
  | lslE {b es : Nat} {lo len : Tm} {cm : LCap} {l : Nat} (a : Addr) (c : Nat) (hl : lo.den = .int (l : Int)) (hn : len.den = .int 0) (hc : c = 0 ∨ cm = .rd) : VR β (.lsl b es lo len cm) (.slice (some a) 0 c)
  | eptr {b es : Nat} {ti : Tm} {i : Nat} {p : Place} (j : Nat) (hi : ti.den = .int (i : Int)) (h : β b = some p) : VR β (.eptr b es ti j) (.pointer (some ⟨p.c, p.base + (i * es + j), none⟩))
  | iptr {ks : List CK} {t ti : Tm} {i b o n c : Nat} (j : Nat) (h : CellR β.zone (.isl ks) t.den (.slice (some ⟨b, o, none⟩) n c)) (hi : ti.den = .int (i : Int)) (hlt : i < n) :
      VR β (.iptr ks t ti j) (.pointer (some ⟨b, o + (i * ks.length + j), none⟩))
inductive VRs (β : Pl) : List AV → List Value → Prop
  | nil : VRs β [] []
  | cons {x : AV} {y : Value} {xs : List AV} {ys : List Value} (h : VR β x y) (hs : VRs β xs ys) : VRs β (x :: xs) (y :: ys)
end
structure Ext (β β' : Pl) : Prop where
  at_ : ∀ b p, β b = some p → β' b = some p
  zone : ∀ c o, β.zone c = some o → β'.zone c = some o
instance (β β' : Pl) : CoeFun (Ext β β') (fun _ => ∀ b p, β b = some p → β' b = some p) := ⟨Ext.at_⟩
omit [Val] in
theorem Ext.refl (β : Pl) : Ext β β := ⟨fun _ _ h => h, fun _ _ h => h⟩
omit [Val] in
theorem Ext.trans {a b c : Pl} (h : Ext a b) (k : Ext b c) : Ext a c := ⟨fun x p e => k x p (h x p e), fun x p e => k.zone x p (h.zone x p e)⟩
omit [Val] in
theorem FnR.mono {β β' : Pl} (e : Ext β β') {f : AFn} {f' : Fn} (h : FnR β f f') : FnR β' f f' := by
  cases h with
  | func f => exact .func f
  | method n => exact .method n
  | methodOf t n => exact .methodOf t n
  | via t p f b => exact .via t p f b
  | yield h => exact .yield (e _ _ h)
mutual
theorem VR.mono {β β' : Pl} (e : Ext β β') {a : AV} {v : Value} : VR β a v → VR β' a v
  | .bool b => .bool b
  | .int k n => .int k n
  | .str s => .str s
  | .nilPtr => .nilPtr
  | .ptr off h => .ptr off (e _ _ h)
  | .nilSlice => .nilSlice
  | .slice off len h hc hl => .slice off len (e _ _ h) hc hl
  | .nilMap => .nilMap
  | .map h => .map (e _ _ h)
  | .fn h hx hy => .fn (h.mono e) (VRs.mono e hx) (VRs.mono e hy)
  | .nilFn => .nilFn
  | .iface t h => .iface t (VR.mono e h)
  | .nilIface => .nilIface
  | .agg h => .agg (VRs.mono e h)
  | .tuple h => .tuple (VRs.mono e h)
  | .junk n h => .junk n h
  | .esl a c => .esl a c
  | .rng k h1 h2 => .rng k h1 h2
  | .strU s => .strU s
  | .boolU b => .boolU b
  | .sy h => .sy (h.mono e.zone)
  | .lsl hl hn h hc hle => .lsl hl hn (e _ _ h) hc hle
  | .lsl0 hl hn => .lsl0 hl hn
  | .lslE a c hl hn hc => .lslE a c hl hn hc
  | .eptr j hi h => .eptr j hi (e _ _ h)
  | .iptr j h hi hlt => .iptr j (h.mono e.zone) hi hlt
theorem VRs.mono {β β' : Pl} (e : Ext β β') {a : List AV} {v : List Value} : VRs β a v → VRs β' a v
  | .nil => .nil
  | .cons h hs => .cons (VR.mono e h) (VRs.mono e hs)
end
section lists
variable {β : Pl}
theorem VRs.length {a : List AV} {v : List Value} (h : VRs β a v) : a.length = v.length := by
  induction a generalizing v with
  | nil => cases h; rfl
  | cons x xs ih => cases h with | cons _ hs => simp [ih hs]
theorem VRs.append {a b : List AV} {v u : List Value} (h : VRs β a v) (k : VRs β b u) : VRs β (a ++ b) (v ++ u) := by
  induction a generalizing v with
  | nil => cases h; exact k
  | cons x xs ih => cases h with | cons h hs => exact .cons h (ih hs)
theorem VRs.drop {a : List AV} {v : List Value} (n : Nat) (h : VRs β a v) : VRs β (a.drop n) (v.drop n) := by
  induction n generalizing a v with
  | zero => exact h
  | succ n ih => cases h with
    | nil => exact .nil
    | cons _ hs => exact ih hs
theorem VRs.take {a : List AV} {v : List Value} (n : Nat) (h : VRs β a v) : VRs β (a.take n) (v.take n) := by
  induction n generalizing a v with
  | zero => exact .nil
  | succ n ih => cases h with
    | nil => exact .nil
    | cons h hs => exact .cons h (ih hs)
theorem VRs.get {a : List AV} {v : List Value} (h : VRs β a v) {i : Nat} {x : AV} (hi : a[i]? = some x) : ∃ y, v[i]? = some y ∧ VR β x y := by
  induction i generalizing a v with
  | zero => cases h with
    | nil => simp at hi
    | cons h hs => exact ⟨_, rfl, by simp at hi; exact hi ▸ h⟩
  | succ i ih => cases h with
    | nil => simp at hi
    | cons h hs => exact ih hs (by simpa using hi)
omit [Val] in
theorem takeN_take : ∀ (n : Nat) (l r : List AV), takeN n l = some r → r = l.take n ∧ n ≤ l.length := by
  intro n
  induction n with
  | zero => intro l r h; simp [takeN] at h; simp [h]
  | succ n ih =>
    intro l r h
    cases l with
    | nil => simp [takeN] at h
    | cons x l =>
      simp only [takeN, Option.map_eq_some_iff] at h
      obtain ⟨m, hm, rfl⟩ := h
      obtain ⟨rfl, hl⟩ := ih _ _ hm
      simp; omega
omit [Val] in
theorem takeN_of_le : ∀ (n : Nat) (l : List AV), n ≤ l.length → takeN n l = some (l.take n)
  | 0, l, _ => by simp [takeN]
  | n + 1, [], h => by simp at h
  | n + 1, x :: l, h => by simp [takeN, takeN_of_le n l (by simpa using h)]
omit [Val] in
theorem layOver_eq : ∀ (c : List AV) (off : Nat) (vs r : List AV), layOver c off vs = some r → vs ≠ [] → r = c.take off ++ vs ++ c.drop (off + vs.length) ∧ off + vs.length ≤ c.length := by
  intro c
  induction c with
  | nil => intro off vs r h hv; cases vs with | nil => exact absurd rfl hv | cons v vs => simp [layOver] at h
  | cons x c ih =>
    intro off vs r h hv
    cases vs with
    | nil => exact absurd rfl hv
    | cons v vs =>
      cases off with
      | zero =>
        simp only [layOver, Option.map_eq_some_iff] at h
        obtain ⟨m, hm, rfl⟩ := h
        by_cases hvs : vs = []
        · subst hvs
          have : m = c := by cases c <;> simp [layOver] at hm <;> first | exact hm | exact hm.symm
          subst this
          simp
        · obtain ⟨rfl, hl⟩ := ih _ _ _ hm hvs
          simp at hl ⊢; omega
      | succ off =>
        simp only [layOver, Option.map_eq_some_iff] at h
        obtain ⟨m, hm, rfl⟩ := h
        obtain ⟨rfl, hl⟩ := ih _ _ _ hm hv
        simp at hl ⊢
        refine ⟨?_, by omega⟩
        rw [show off + 1 + (vs.length + 1) = (off + (vs.length + 1)) + 1 from by omega, List.drop_succ_cons]
end lists
inductive EntsR (β : Pl) : List AEnt → List MapEntry → Prop
  | nil : EntsR β [] []
  | cons {e : AEnt} {m : MapEntry} {es : List AEnt} {ms : List MapEntry} (hk : VR β e.key m.key) (hv : VR β e.val m.val) (hb : e.born = m.born) (hs : EntsR β es ms) : EntsR β (e :: es) (m :: ms)
theorem EntsR.mono {β β' : Pl} (e : Ext β β') {a : List AEnt} {m : List MapEntry} (h : EntsR β a m) : EntsR β' a m := by
  induction h with
  | nil => exact .nil
  | cons hk hv hb _ ih => exact .cons (hk.mono e) (hv.mono e) hb ih
inductive PairsR (Z : Nat → Option Obj) (kk vk : CK) : Nat → List D → List MapEntry → Prop
  | nil (i : Nat) : PairsR Z kk vk i [] []
  | cons {i : Nat} {a b : D} {m : MapEntry} {L : List D} {ms : List MapEntry} (hk : CellR Z kk a m.key) (hv : CellR Z vk b m.val) (hb : m.born = i) (hs : PairsR Z kk vk (i + 1) L ms) : PairsR Z kk vk i (.list [a, b] :: L) (m :: ms)
omit [Val] in
theorem PairsR.mono {Z Z' : Nat → Option Obj} (hZ : ∀ c o, Z c = some o → Z' c = some o) {kk vk : CK} {i : Nat} {L : List D} {ms : List MapEntry} (h : PairsR Z kk vk i L ms) : PairsR Z' kk vk i L ms := by
  induction h with
  | nil i => exact .nil i
  | cons hk hv hb _ ih => exact .cons (hk.mono hZ) (hv.mono hZ) hb ih
def TR (β : Pl) (c : Ctx) (T : Tmps) (tmps : Array Value) : Prop :=
  tmps.size = c.n ∧ ∀ t a, T.get c t = some a → ∃ v, tmps[t]? = some v ∧ VR β a v
theorem TR.mono {β β' : Pl} (e : Ext β β') {c : Ctx} {T : Tmps} {tmps : Array Value} (h : TR β c T tmps) : TR β' c T tmps :=
  ⟨h.1, fun t a ht => let ⟨v, h1, h2⟩ := h.2 t a ht; ⟨v, h1, h2.mono e⟩⟩
def KindR (p : Place) (n lo hi : Nat) : RK → Prop
  | .solid => p.base = 0 ∧ p.size = n ∧ lo = 0 ∧ hi = 0
  | .glob => p.base = 0
  | .buf fz sish => (∀ o, p.base + fz ≤ o → o < p.size → ¬ (lo ≤ o ∧ o < hi)) ∧ (sish = false → lo = hi ∨ hi ≤ p.base + fz)
def RowR (β : Pl) (w : World) (p : Place) (cells : List AV) (elem : TypeId) (k : RK) : Prop :=
  ∃ cc lo hi, w.heap[p.c]? = some (.cells cc elem (lo, hi)) ∧ cc.size = p.size ∧ p.base + cells.length ≤ p.size ∧
      VRs β cells ((cc.toList.drop p.base).take cells.length) ∧ KindR p cells.length lo hi k
def expandL (ks : List CK) (t : Tm) (n : Nat) : List AV := (List.range n).flatMap fun (i : Nat) => eltCells id ks (.op .nth [t, .int (i : Int)]) ks 0
def LRef.get : LRef → LCode
  | .here c => c
  | .at_ f p => Val.code f p
def ObjR (β : Pl) (w : World) (p : Place) : AObj → Prop
  | .row cells elem k => RowR β w p cells elem k
  | .lrow ks t elem k => ∃ L, t.den = .list L ∧ ks ≠ [] ∧ RowR β w p (expandL ks t L.length) elem k
  | .map es clock => ∃ ces, w.heap[p.c]? = some (.map ces clock) ∧ EntsR β es ces.toList
  | .lmap kk vk t => ∃ L ces, t.den = .list L ∧ w.heap[p.c]? = some (.map ces L.length) ∧ PairsR β.zone kk vk 0 L ces.toList
  | .loop l => ∃ cl : Loop, w.heap[p.c]? = some (.loop cl) ∧ cl.state = l.state ∧ cl.pending = l.pending ∧ TR β l.ctx l.tmps cl.tmps ∧ cl.params = l.code.get.params ∧ cl.assign = l.code.get.assign ∧ cl.body = l.code.get.body ∧
      ∃ q, β l.defers = some q ∧ q.c = cl.defers
  | .dfr true => w.heap[p.c]? = some (.deferred (some []))
  | .dfr false => w.heap[p.c]? = some (.deferred none)
  | .siter s pos => w.heap[p.c]? = some (.stringIter s pos)
  | .miter none since seen last => p.base = 0 ∧ w.heap[p.c]? = some (.mapIter none since seen.toArray last)
  | .miter (some b) since seen last => p.base = 0 ∧ ∃ q, β b = some q ∧ w.heap[p.c]? = some (.mapIter (some q.c) since seen.toArray last)
theorem ObjR.mono {β β' : Pl} (e : Ext β β') {w w' : World} {p : Place} {o : AObj} (hw : w'.heap[p.c]? = w.heap[p.c]?) (h : ObjR β w p o) : ObjR β' w' p o := by
  cases o with
  | row cells elem k => obtain ⟨cc, lo, hi, h1, h2, h3, h4, h5⟩ := h; exact ⟨cc, lo, hi, hw.trans h1, h2, h3, h4.mono e, h5⟩
  | lrow ks t elem k => obtain ⟨L, k1, k2, cc, lo, hi, h1, h2, h3, h4, h5⟩ := h; exact ⟨L, k1, k2, cc, lo, hi, hw.trans h1, h2, h3, h4.mono e, h5⟩
  | map es clock => obtain ⟨ces, h1, h2⟩ := h; exact ⟨ces, hw.trans h1, h2.mono e⟩
  | lmap kk vk t => obtain ⟨L, ces, h0, h1, h2⟩ := h; exact ⟨L, ces, h0, hw.trans h1, h2.mono e.zone⟩
  | loop l => obtain ⟨cl, h1, h2, h3, h4, h5, h6, h7, q, h8, h9⟩ := h; exact ⟨cl, hw.trans h1, h2, h3, h4.mono e, h5, h6, h7, q, e _ _ h8, h9⟩
  | dfr b => cases b <;> exact hw.trans h
  | siter s pos => exact hw.trans h
  | miter m since seen last =>
    cases m with
    | none => exact ⟨h.1, hw.trans h.2⟩
    | some b => obtain ⟨h0, q, h1, h2⟩ := h; exact ⟨h0, q, e _ _ h1, hw.trans h2⟩
def AObj.wr : AObj → Bool
  | .row _ _ .glob => false
  | .lrow _ _ _ .glob => false
  | _ => true
def AObj.absent : AObj → Prop
  | .lrow _ t _ (.buf 0 _) => t.den = .list []
  | _ => False
structure WR (G : Nat) (β : Pl) (g : Nat → Option AObj) (next : Nat) (w : World) : Prop where
  fresh : ∀ b, next ≤ b → β b = none
  bound : ∀ b p, β b = some p → p.c < w.heap.size
  some_ : ∀ b o, g b = some o → (∃ p, β b = some p ∧ ObjR β w p o) ∨ (β b = none ∧ b < next ∧ o.absent)
  inj : ∀ b b' o o' p p', g b = some o → g b' = some o' → β b = some p → β b' = some p' → p.c = p'.c → b = b'
  glob : ∀ i, i < G → ∃ sz, β i = some ⟨i, 0, sz⟩
  gn : G ≤ next
  keep : ∀ c o, β.zone c = some o → w.heap[c]? = some o ∧ ∀ b ob p, g b = some ob → ob.wr = true → β b = some p → p.c ≠ c
theorem WR.obj {G : Nat} {β : Pl} {g : Nat → Option AObj} {n : Nat} {w : World} (h : WR G β g n w) (b : Nat) (o : AObj) (hb : g b = some o) (hn : ¬ o.absent := by exact id) : ∃ p, β b = some p ∧ ObjR β w p o := by
  rcases h.some_ b o hb with h | ⟨-, -, h⟩
  · exact h
  · exact absurd h hn
theorem WR.objAt {G : Nat} {β : Pl} {g : Nat → Option AObj} {n : Nat} {w : World} (h : WR G β g n w) {b : Nat} {o : AObj} {p : Place} (hb : g b = some o) (hp : β b = some p) : ObjR β w p o := by
  rcases h.some_ b o hb with ⟨q, h1, h2⟩ | ⟨h1, -⟩
  · rw [hp] at h1; cases h1; exact h2
  · rw [hp] at h1; cases h1
structure Tran (β : Pl) (g : Nat → Option AObj) (nx : Nat) (w : World) (β' : Pl) (g' : Nat → Option AObj) (nx' : Nat) (w' : World) : Prop where
  ext : Ext β β'
  next : nx ≤ nx'
  size : w.heap.size ≤ w'.heap.size
  kept : ∀ c, c < w.heap.size → (∀ b o p, g b = some o → o.wr = true → β b = some p → p.c ≠ c) → w'.heap[c]? = w.heap[c]?
  old : ∀ b, b < nx → β b = none → β' b = none
  dom : ∀ b, b < nx → g b = none → g' b = none
  new : ∀ b o p, g' b = some o → β' b = some p → p.c < w.heap.size → ∃ b0 o0 p0, g b0 = some o0 ∧ (o.wr = true → o0.wr = true) ∧ β b0 = some p0 ∧ p0.c = p.c
  os : w'.os = w.os
  out : w'.output = w.output
  tape : w'.tape = w.tape
  zn : ∀ c x, β'.zone c = some x → β.zone c = some x ∨ w.heap.size ≤ c ∨ ∃ b o p, g b = some o ∧ o.wr = true ∧ β b = some p ∧ p.c = c
omit [Val] in
theorem Tran.refl (β : Pl) (g : Nat → Option AObj) (next : Nat) (w : World) : Tran β g next w β g next w :=
  ⟨Ext.refl β, Nat.le_refl _, Nat.le_refl _, fun _ _ _ => rfl, fun _ _ h => h, fun _ _ h => h, fun b o p h1 h2 _ => ⟨b, o, p, h1, fun h => h, h2, rfl⟩, rfl, rfl, rfl, fun _ _ h => .inl h⟩
omit [Val] in
theorem Tran.trans {β β' β'' : Pl} {g g' g'' : Nat → Option AObj} {n n' n'' : Nat} {w w' w'' : World} (h : Tran β g n w β' g' n' w') (k : Tran β' g' n' w' β'' g'' n'' w'') : Tran β g n w β'' g'' n'' w'' := by
  refine ⟨h.ext.trans k.ext, Nat.le_trans h.next k.next, Nat.le_trans h.size k.size, ?_, fun b hb h0 => k.old b (Nat.lt_of_lt_of_le hb h.next) (h.old b hb h0), fun b hb h0 => k.dom b (Nat.lt_of_lt_of_le hb h.next) (h.dom b hb h0), ?_, k.os.trans h.os, k.out.trans h.out, k.tape.trans h.tape, fun c x hx => ?_⟩
  · intro c hc hno
    rw [k.kept c (Nat.lt_of_lt_of_le hc h.size) ?_, h.kept c hc hno]
    intro b o p hb ho hp e
    obtain ⟨b0, o0, p0, h1, h2, h3, h4⟩ := h.new b o p hb hp (by omega)
    exact hno b0 o0 p0 h1 (h2 ho) h3 (h4.trans e)
  · intro b o p hb hp hlt
    obtain ⟨b0, o0, p0, h1, h2, h3, h4⟩ := k.new b o p hb hp (Nat.lt_of_lt_of_le hlt h.size)
    obtain ⟨b1, o1, p1, k1, k2, k3, k4⟩ := h.new b0 o0 p0 h1 h3 (by omega)
    exact ⟨b1, o1, p1, k1, fun e => k2 (h2 e), k3, by omega⟩
  · rcases k.zn c x hx with h0 | h0 | ⟨b, o, p, q1, q2, q3, q4⟩
    · exact h.zn c x h0
    · exact .inr (.inl (Nat.le_trans h.size h0))
    · by_cases hlt : c < w.heap.size
      · obtain ⟨b1, o1, p1, k1, k2, k3, k4⟩ := h.new b o p q1 q3 (by omega)
        exact .inr (.inr ⟨b1, o1, p1, k1, k2 q2, k3, by omega⟩)
      · exact .inr (.inl (by omega))
theorem WR.drew {G : Nat} {β : Pl} {g : Nat → Option AObj} {n : Nat} {w : World} (h : WR G β g n w) : WR G β g n w.drew :=
  ⟨h.fresh, h.bound, fun b o hb => (h.some_ b o hb).imp (fun ⟨p, h1, h2⟩ => ⟨p, h1, h2.mono (Ext.refl β) rfl⟩) id, h.inj, h.glob, h.gn, h.keep⟩
omit [Val] in
theorem Tran.drew {β : Pl} {g : Nat → Option AObj} {n : Nat} {w : World} : Tran β g n w β g n w.drew :=
  ⟨Ext.refl β, Nat.le_refl _, Nat.le_refl _, fun _ _ _ => rfl, fun _ _ h => h, fun _ _ h => h, fun b o p h1 h2 _ => ⟨b, o, p, h1, fun h => h, h2, rfl⟩, rfl, rfl, rfl, fun _ _ h => .inl h⟩
omit [Val] in
theorem Tran.less {β β' : Pl} {g g' g'' : Nat → Option AObj} {m n' : Nat} {w w' : World} (h : Tran β g m w β' g' n' w') (hl : ∀ b o, g'' b = some o → g' b = some o) : Tran β g m w β' g'' n' w' :=
  ⟨h.ext, h.next, h.size, h.kept, h.old, fun b hb h0 => (by
    have := h.dom b hb h0
    cases hx : g'' b with
    | none => rfl
    | some o => rw [hl b o hx] at this; cases this), fun b o p hb => h.new b o p (hl b o hb), h.os, h.out, h.tape, h.zn⟩
def Pl.put (β : Pl) (b : Nat) (p : Place) : Pl := ⟨fun x => if x = b then some p else β x, β.zone⟩
omit [Val] in
theorem Pl.put_same (β : Pl) (b : Nat) (p : Place) : β.put b p b = some p := if_pos rfl
omit [Val] in
theorem Pl.put_ext {β : Pl} {b : Nat} (p : Place) (h : β b = none) : Ext β (β.put b p) := by
  refine ⟨?_, fun _ _ h => h⟩
  intro x q hx
  show (if x = b then some p else β x) = some q
  rw [if_neg ?_]; exact hx
  rintro rfl; rw [h] at hx; cases hx
theorem WR.lay {G : Nat} {β : Pl} {g : Nat → Option AObj} {n : Nat} {w w' : World} (h : WR G β g n w) (p : Place) (o : AObj)
    (hp : p.c < w'.heap.size) (hsz : w.heap.size ≤ w'.heap.size) (hkeep : ∀ b o q, g b = some o → β b = some q → w'.heap[q.c]? = w.heap[q.c]?)
    (hfree : ∀ b o q, g b = some o → β b = some q → q.c ≠ p.c) (hzone : ∀ c x, β.zone c = some x → c ≠ p.c ∧ w'.heap[c]? = some x) (ho : ObjR (β.put n p) w' p o) :
    WR G (β.put n p) (fun x => if x = n then some o else g x) (n + 1) w' := by
  have hn : β n = none := h.fresh n (Nat.le_refl _)
  have he := Pl.put_ext (β := β) p hn
  refine ⟨?_, ?_, ?_, ?_, ?_, by have := h.gn; omega, ?_⟩
  · intro b hb
    show (if b = n then some p else β b) = none
    rw [if_neg (by omega)]; exact h.fresh b (by omega)
  · intro b q hq
    change (if b = n then some p else β b) = some q at hq
    by_cases e : b = n
    · rw [if_pos e] at hq; injection hq with hq; exact hq ▸ hp
    · rw [if_neg e] at hq; exact Nat.lt_of_lt_of_le (h.bound b q hq) hsz
  · intro b o' hb
    by_cases e : b = n
    · subst e
      simp only [if_true, Option.some.injEq] at hb
      exact .inl ⟨p, Pl.put_same _ _ _, hb ▸ ho⟩
    · simp only [if_neg e] at hb
      rcases h.some_ b o' hb with ⟨q, h1, h2⟩ | ⟨h1, h3, h2⟩
      · exact .inl ⟨q, he _ _ h1, h2.mono he (hkeep b o' q hb h1)⟩
      · refine .inr ⟨?_, by omega, h2⟩
        show (if b = n then some p else β b) = none
        rw [if_neg e]; exact h1
  · intro b b' o1 o2 q q' hb hb' hq hq' hc
    change (if b = n then some p else β b) = some q at hq
    change (if b' = n then some p else β b') = some q' at hq'
    by_cases e : b = n <;> by_cases e' : b' = n
    · omega
    · rw [if_pos e] at hq; rw [if_neg e'] at hq' hb'
      injection hq with hq; subst hq
      exact absurd hc.symm (hfree b' o2 q' hb' hq')
    · rw [if_neg e] at hq hb; rw [if_pos e'] at hq'
      injection hq' with hq'; subst hq'
      exact absurd hc (hfree b o1 q hb hq)
    · rw [if_neg e] at hq hb; rw [if_neg e'] at hq' hb'
      exact h.inj b b' o1 o2 q q' hb hb' hq hq' hc
  · intro i hi
    obtain ⟨sz, hs⟩ := h.glob i hi
    exact ⟨sz, he _ _ hs⟩
  · intro c x hx
    refine ⟨(hzone c x hx).2, fun b ob q hb hw hq => ?_⟩
    change (if b = n then some p else β b) = some q at hq
    by_cases e : b = n
    · rw [if_pos e] at hq; injection hq with hq; subst hq; exact (hzone c x hx).1.symm
    · rw [if_neg e] at hq; simp only [if_neg e] at hb; exact (h.keep c x hx).2 b ob q hb hw hq
omit [Val] in
theorem AHeap.get_new (H : AHeap) (o : AObj) : (H.new o).get = fun x => if x = H.next then some o else H.get x := by
  funext x; cases H; exact Tr.get_put _ _ _ _
omit [Val] in
theorem AHeap.next_new (H : AHeap) (o : AObj) : (H.new o).next = H.next + 1 := by cases H; rfl
omit [Val] in
theorem AHeap.get_set (H : AHeap) (b : Nat) (o : AObj) : (H.set b o).get = fun x => if x = b then some o else H.get x := by
  funext x; cases H; exact Tr.get_put _ _ _ _
omit [Val] in
theorem AHeap.next_set (H : AHeap) (b : Nat) (o : AObj) : (H.set b o).next = H.next := by cases H; rfl
omit [Val] in
theorem AHeap.get_kill (H : AHeap) (b : Nat) : (H.kill b).get = fun x => if x = b then none else H.get x := by
  funext x; cases H; exact Tr.get_del _ _ _
omit [Val] in
theorem AHeap.next_kill (H : AHeap) (b : Nat) : (H.kill b).next = H.next := by cases H; rfl
theorem WR.alloc {G : Nat} {β : Pl} {g : Nat → Option AObj} {n : Nat} {w : World} (h : WR G β g n w) (ob : Obj) (sz : Nat) (o : AObj)
    (ho : ObjR (β.put n ⟨w.heap.size, 0, sz⟩) (w.alloc ob) ⟨w.heap.size, 0, sz⟩ o) :
    WR G (β.put n ⟨w.heap.size, 0, sz⟩) (fun x => if x = n then some o else g x) (n + 1) (w.alloc ob) ∧
    Tran β g n w (β.put n ⟨w.heap.size, 0, sz⟩) (fun x => if x = n then some o else g x) (n + 1) (w.alloc ob) := by
  have hold : ∀ c, c < w.heap.size → (w.alloc ob).heap[c]? = w.heap[c]? := by
    intro c hc
    show (w.heap.push ob)[c]? = _
    rw [Array.getElem?_push, if_neg (by omega)]
  have hzn : ∀ c x, β.zone c = some x → c < w.heap.size := fun c x hx => (Array.getElem?_eq_some_iff.1 (h.keep c x hx).1).1
  refine ⟨h.lay _ o (by simp) (by simp) (fun b o q _ hq => hold _ (h.bound b q hq)) (fun b o q _ hq => Nat.ne_of_lt (h.bound b q hq)) (fun c x hx => ⟨Nat.ne_of_lt (hzn c x hx), (hold c (hzn c x hx)).trans (h.keep c x hx).1⟩) ho, ?_⟩
  refine ⟨Pl.put_ext _ (h.fresh n (Nat.le_refl _)), by omega, by simp, fun c hc _ => hold c hc, ?_, fun b hb h0 => (by simp only [if_neg (Nat.ne_of_lt hb)]; exact h0), ?_, rfl, rfl, rfl, fun _ _ h => .inl h⟩
  · intro b hb h0
    show (if b = n then some (⟨w.heap.size, 0, sz⟩ : Place) else β b) = none
    rw [if_neg (by omega)]; exact h0
  intro b o' p hb hp hlt
  change (if b = n then some (⟨w.heap.size, 0, sz⟩ : Place) else β b) = some p at hp
  by_cases e : b = n
  · rw [if_pos e] at hp; injection hp with hp; subst hp; simp at hlt
  · rw [if_neg e] at hp hb
    exact ⟨b, o', p, hb, fun h => h, hp, rfl⟩
theorem WR.turn {G : Nat} {β : Pl} {g : Nat → Option AObj} {n : Nat} {w w' : World} (h : WR G β g n w) {b : Nat} {o o' : AObj} {p : Place} (hb : g b = some o) (hw : o.wr = true) (hp : β b = some p)
    (hsz : w'.heap.size = w.heap.size) (hother : ∀ c, c ≠ p.c → w'.heap[c]? = w.heap[c]?) (hos : w'.os = w.os) (hout : w'.output = w.output) (ht : w'.tape = w.tape) (ho : ObjR β w' p o') :
    WR G β (fun x => if x = b then some o' else g x) n w' ∧ Tran β g n w β (fun x => if x = b then some o' else g x) n w' := by
  refine ⟨⟨h.fresh, fun b p hb => by rw [hsz]; exact h.bound b p hb, ?_, ?_, h.glob, h.gn, ?_⟩, ⟨Ext.refl β, Nat.le_refl _, by omega, ?_, fun _ _ h => h, ?_, ?_, hos, hout, ht, fun _ _ h => .inl h⟩⟩
  · intro x ox hx
    by_cases e : x = b
    · subst e
      simp only [if_true, Option.some.injEq] at hx
      exact .inl ⟨p, hp, hx ▸ ho⟩
    · simp only [if_neg e] at hx
      rcases h.some_ x ox hx with ⟨q, h1, h2⟩ | h1
      · exact .inl ⟨q, h1, h2.mono (Ext.refl β) (hother _ fun e' => e (h.inj x b ox o q p hx hb h1 hp e'))⟩
      · exact .inr h1
  · intro x y ox oy q q' hx hy hq hq' hc
    refine h.inj x y (if x = b then o else ox) (if y = b then o else oy) q q' ?_ ?_ hq hq' hc
    · by_cases e : x = b
      · subst e; simpa using hb
      · simp only [if_neg e] at hx ⊢; exact hx
    · by_cases e : y = b
      · subst e; simpa using hb
      · simp only [if_neg e] at hy ⊢; exact hy
  · intro c x hx
    obtain ⟨z1, z2⟩ := h.keep c x hx
    refine ⟨(hother c fun e => z2 b o p hb hw hp e.symm).trans z1, fun y oy q hy hyw hq => ?_⟩
    by_cases e : y = b
    · subst e; rw [hp] at hq; cases hq; exact z2 _ o p hb hw hp
    · simp only [if_neg e] at hy; exact z2 y oy q hy hyw hq
  · intro c hc hno
    exact hother c fun e => hno b o p hb hw hp e.symm
  · intro x hx h0
    have e : x ≠ b := fun e => by rw [e, hb] at h0; cases h0
    simp only [if_neg e]; exact h0
  · intro x ox q hx hq hlt
    by_cases e : x = b
    · subst e; exact ⟨x, o, p, hb, fun _ => hw, hp, by rw [hp] at hq; injection hq with hq; rw [hq]⟩
    · simp only [if_neg e] at hx; exact ⟨x, ox, q, hx, fun h => h, hq, rfl⟩
theorem WR.less {G : Nat} {β : Pl} {g g' : Nat → Option AObj} {n : Nat} {w : World} (h : WR G β g n w) (hl : ∀ b o, g' b = some o → g b = some o) : WR G β g' n w :=
  ⟨h.fresh, h.bound, fun b o hb => h.some_ b o (hl b o hb), fun b b' o o' p p' hb hb' => h.inj b b' o o' p p' (hl b o hb) (hl b' o' hb'), h.glob, h.gn, fun c x hx => ⟨(h.keep c x hx).1, fun b ob p hb => (h.keep c x hx).2 b ob p (hl b ob hb)⟩⟩
end Go.Tc
