/- Terms over unknown data: what the evaluator computes with where a value is not known. -/
import Derived.Test.YtjmjbjnbfodalaaGreatTcBs
set_option linter.unusedSimpArgs false
set_option linter.unusedVariables false
set_option linter.unusedSectionVars false
namespace Go.Tc

/-- What a term may stand for. -/
inductive D where
  | int (n : Int)
  | bool (b : Bool)
  | str (s : BS)
  | list (l : List D)
  | bad
  deriving Inhabited

/-- Operations on data that are known to the evaluator. -/
inductive TOp where
  | bin (op : BinOp) (k : IntKind)
  | shift (op : BinOp) (k : IntKind)
  | conv (k : IntKind)
  | not | and
  | sbin (op : BinOp)
  | slen | sget | ssub
  | len | nth | fld (j : Nat) | mk | cat | sub | set | setf (j : Nat) | rep
  | bytes | text
  | ite
  | nadd | nsub | fits | small
  | idx | cnt | byte | mfind
  deriving DecidableEq, Repr

inductive Tm where
  | int (n : Int)
  | bool (b : Bool)
  | str (s : BS)
  | v (i : Nat)
  | op (o : TOp) (l : List Tm)
  deriving Inhabited, Repr

mutual
def Tm.beq : Tm → Tm → Bool
  | .int a, .int b => a == b
  | .bool a, .bool b => a == b
  | .str a, .str b => a.eq b
  | .v a, .v b => a.beq b
  | .op o l, .op p m => match decide (o = p) with
    | true => Tm.beqs l m
    | false => false
  | _, _ => false
def Tm.beqs : List Tm → List Tm → Bool
  | [], [] => true
  | a :: r, b :: s => match Tm.beq a b with
    | true => Tm.beqs r s
    | false => false
  | _, _ => false
end

mutual
theorem Tm.beq_eq : ∀ (a b : Tm), Tm.beq a b = true → a = b
  | .int a, .int b, h => by simp only [Tm.beq, beq_iff_eq] at h; rw [h]
  | .bool a, .bool b, h => by simp only [Tm.beq, beq_iff_eq] at h; rw [h]
  | .str ⟨a, x⟩, .str ⟨b, y⟩, h => by
    simp only [Tm.beq, BS.eq, Bool.and_eq_true, beq_iff_eq] at h
    rw [h.1, h.2]
  | .v a, .v b, h => by simp only [Tm.beq] at h; rw [Nat.eq_of_beq_eq_true h]
  | .op o l, .op p m, h => by
    simp only [Tm.beq] at h
    split at h
    · rename_i e; rw [of_decide_eq_true e, Tm.beqs_eq l m h]
    · cases h
  | .int _, .bool _, h | .int _, .str _, h | .int _, .v _, h | .int _, .op _ _, h => by cases h
  | .bool _, .int _, h | .bool _, .str _, h | .bool _, .v _, h | .bool _, .op _ _, h => by cases h
  | .str _, .int _, h | .str _, .bool _, h | .str _, .v _, h | .str _, .op _ _, h => by cases h
  | .v _, .int _, h | .v _, .bool _, h | .v _, .str _, h | .v _, .op _ _, h => by cases h
  | .op _ _, .int _, h | .op _ _, .bool _, h | .op _ _, .str _, h | .op _ _, .v _, h => by cases h
theorem Tm.beqs_eq : ∀ (a b : List Tm), Tm.beqs a b = true → a = b
  | [], [], _ => rfl
  | a :: r, b :: s, h => by
    simp only [Tm.beqs] at h
    split at h
    · rename_i e; rw [Tm.beq_eq a b e, Tm.beqs_eq r s h]
    · cases h
  | [], _ :: _, h | _ :: _, [], h => by cases h
end

def intD (op : BinOp) (k : IntKind) (a b : Int) : D :=
  match op with
  | .add => .int (k.wrap (a + b))
  | .sub => .int (k.wrap (a - b))
  | .mul => .int (k.wrap (a * b))
  | .quo => .int (k.wrap (a.tdiv b))
  | .rem => .int (a.tmod b)
  | .and => .int (k.wrap (BitVec.ofInt k.bits a &&& BitVec.ofInt k.bits b).toNat)
  | .or => .int (k.wrap (BitVec.ofInt k.bits a ||| BitVec.ofInt k.bits b).toNat)
  | .xor => .int (k.wrap (BitVec.ofInt k.bits a ^^^ BitVec.ofInt k.bits b).toNat)
  | .andNot => .int (k.wrap (BitVec.ofInt k.bits a &&& ~~~BitVec.ofInt k.bits b).toNat)
  | .eql => .bool (a == b)
  | .neq => .bool (a != b)
  | .lss => .bool (decide (a < b))
  | .leq => .bool (decide (a ≤ b))
  | .gtr => .bool (decide (a > b))
  | .geq => .bool (decide (a ≥ b))
  | _ => .bad

def shiftD (op : BinOp) (k : IntKind) (a b : Int) : D :=
  match op with
  | .shl => .int (k.wrap (a * 2 ^ min b.toNat k.bits))
  | .shr => .int (a.fdiv (2 ^ min b.toNat k.bits))
  | _ => .bad

def strD (op : BinOp) (a b : BS) : D :=
  match op with
  | .add => .str (a.app b)
  | .eql => .bool (a.eq b)
  | .neq => .bool (!a.eq b)
  | .lss => .bool (a.lt b)
  | .leq => .bool (a.lt b || a.eq b)
  | .gtr => .bool (!(a.lt b || a.eq b))
  | .geq => .bool (!a.lt b)
  | _ => .bad

/-- where a byte comes first. -/
def findByte (l : List Nat) (c : Nat) (i : Nat) : Option Nat :=
  match l with
  | [] => none
  | x :: r => if x = c then some i else findByte r c (i + 1)
def BS.index (s : BS) (c : Nat) : Int := match findByte (s.nats s.len) c 0 with
  | some i => (i : Int)
  | none => -1

/-- how often a byte stands in a text. -/
def countN (c : Nat) : List Nat → Nat
  | [] => 0
  | x :: r => if x = c then countN c r + 1 else countN c r
def BS.count (s : BS) (c : Nat) : Nat := countN c (s.nats s.len)

def D.nat : D → Nat
  | .int n => n.toNat
  | _ => 0
def D.isTrue : D → Bool
  | .bool b => b
  | _ => false
def natsOfD : List D → List Nat
  | [] => []
  | d :: r => d.nat :: natsOfD r

/-- are two data the same key? -/
def D.keyEq : D → D → Bool
  | .int a, .int b => a == b
  | .str a, .str b => a.eq b
  | .bool a, .bool b => a == b
  | _, _ => false
/-- the place of a key among pairs. -/
def keyIdx (k : D) : List D → Nat → Option Nat
  | [], _ => none
  | .list (a :: _) :: r, i => if k.keyEq a then some i else keyIdx k r (i + 1)
  | _ :: r, i => keyIdx k r (i + 1)

def TOp.den : TOp → List D → D
  | .bin op k, [.int a, .int b] => intD op k a b
  | .shift op k, [.int a, .int b] => shiftD op k a b
  | .conv k, [.int a] => .int (k.wrap a)
  | .not, [.bool b] => .bool !b
  | .and, [.bool a, .bool b] => .bool (a && b)
  | .sbin op, [.str a, .str b] => strD op a b
  | .slen, [.str s] => .int s.len
  | .sget, [.str s, .int i] => .int (s.get i.toNat)
  | .ssub, [.str s, .int l, .int h] => .str (s.cut l.toNat h.toNat)
  | .len, [.list l] => .int l.length
  | .nth, [.list l, .int i] => l.getD i.toNat .bad
  | .fld j, [.list l] => l.getD j .bad
  | .mk, l => .list l
  | .cat, [.list a, .list b] => .list (a ++ b)
  | .sub, [.list a, .int l, .int h] => .list ((a.take h.toNat).drop l.toNat)
  | .set, [.list a, .int i, d] => .list (a.set i.toNat d)
  | .setf j, [.list a, d] => .list (a.set j d)
  | .rep, [.int n, d] => .list (List.replicate n.toNat d)
  | .bytes, [.str s] => .list ((s.nats s.len).map fun (n : Nat) => .int (n : Int))
  | .text, [.list l] => .str (BS.ofNats (natsOfD l))
  | .ite, [.bool b, x, y] => if b then x else y
  | .nadd, [.int a, .int b] => .int (a + b)
  | .nsub, [.int a, .int b] => .int (a - b)
  | .fits, [.str a, .str b] => .bool (decide (a.len + b.len ≤ 2 ^ 62))
  | .small, [.int a] => .bool (decide (0 ≤ a ∧ a ≤ 2 ^ 30))
  | .byte, [d] => .int ((d.nat % 256 : Nat) : Int)
  | .idx, [.str s, .int c] => .int (s.index c.toNat)
  | .cnt, [.str s, .int c] => .int (s.count c.toNat)
  | .mfind, [.list l, k] => .int (match keyIdx k l 0 with | some i => (i : Int) | none => -1)
  | _, _ => .bad

/-- What a loop over a function is: where its values go, what is run each time. -/
structure LCode where
  params : Array Tmp
  assign : Code
  body : Code
instance : Inhabited LCode := ⟨⟨#[], .skip, .skip⟩⟩

/-- What the unknown data are; the code of loops that are named by where they stand. -/
class Val where
  θ : Nat → D
  code : FuncId → List Nat → LCode

mutual
def Tm.den [Val] : Tm → D
  | .int n => .int n
  | .bool b => .bool b
  | .str s => .str s
  | .v i => Val.θ i
  | .op o l => o.den (Tm.dens l)
def Tm.dens [Val] : List Tm → List D
  | [] => []
  | t :: r => t.den :: Tm.dens r
end

/-- literals are reckoned with. -/
def litD : Tm → Option D
  | .int n => some (.int n)
  | .bool b => some (.bool b)
  | .str s => some (.str s)
  | _ => none
def litsD : List Tm → Option (List D)
  | [] => some []
  | t :: r => match litD t with
    | some d => match litsD r with
      | some l => some (d :: l)
      | none => none
    | none => none
def ofLit : D → Option Tm
  | .int n => some (.int n)
  | .bool b => some (.bool b)
  | .str s => some (.str s)
  | _ => none

theorem litD_den [Val] {t : Tm} {d : D} (h : litD t = some d) : t.den = d := by
  cases t <;> simp only [litD, Option.some.injEq, reduceCtorEq] at h <;> subst h <;> rfl
theorem litsD_den [Val] : ∀ {l : List Tm} {d : List D}, litsD l = some d → Tm.dens l = d
  | [], d, h => by simp only [litsD, Option.some.injEq] at h; subst h; rfl
  | t :: r, d, h => by
    simp only [litsD] at h
    split at h
    · rename_i e he
      split at h
      · rename_i m hm
        simp only [Option.some.injEq] at h
        subst h
        simp only [Tm.dens, litD_den he, litsD_den hm]
      · cases h
    · cases h
theorem ofLit_den [Val] {t : Tm} {d : D} (h : ofLit d = some t) : t.den = d := by
  cases d <;> simp only [ofLit, Option.some.injEq, reduceCtorEq] at h <;> subst h <;> rfl

/-- numbers that are written out. -/
def natsTm : List Tm → Option (List Nat)
  | [] => some []
  | .int n :: r => match natsTm r with
    | some l => some (n.toNat :: l)
    | none => none
  | _ :: _ => none
/-- a text of some bytes. -/
def textOf (m : List Tm) : Tm :=
  match natsTm m with
  | some l => .str (BS.ofNats l)
  | none => .op .text [.op .mk m]
def byteT1 : Tm → Tm
  | .int n => .int ((n.toNat % 256 : Nat) : Int)
  | t => .op .byte [t]
/-- parts of lists, of texts that are laid out. -/
def simpT (o : TOp) (l : List Tm) : Option Tm :=
  match o, l with
  | .len, [.op .mk m] => some (.int (m.length : Int))
  | .nth, [.op .mk m, .int (.ofNat i)] => m[i]?
  | .fld j, [.op .mk m] => m[j]?
  | .slen, [.op .text [.op .mk m]] => some (.int (m.length : Int))
  | .sget, [.op .text [.op .mk m], .int (.ofNat i)] => (m[i]?).map byteT1
  | .ssub, [.op .text [.op .mk m], .int (.ofNat a), .int (.ofNat b)] => if a ≤ b ∧ b ≤ m.length then some (textOf ((m.drop a).take (b - a))) else none
  | .sbin .add, [.op .text [.op .mk a], .op .text [.op .mk b]] => some (textOf (a ++ b))
  | _, _ => none
theorem natsTm_den [Val] : ∀ {m : List Tm} {l : List Nat}, natsTm m = some l → natsOfD (Tm.dens m) = l
  | [], l, h => by cases h; rfl
  | .int n :: r, l, h => by
    simp only [natsTm] at h
    split at h
    · rename_i q hq
      cases h
      simp only [Tm.dens, natsOfD, natsTm_den hq, Tm.den, D.nat]
    · cases h
  | .bool _ :: _, _, h | .str _ :: _, _, h | .v _ :: _, _, h | .op _ _ :: _, _, h => by cases h
theorem textOf_den [Val] (m : List Tm) : (textOf m).den = .str (BS.ofNats (natsOfD (Tm.dens m))) := by
  unfold textOf
  split
  · rename_i l hl
    rw [natsTm_den hl]; rfl
  · simp [Tm.den, Tm.dens, TOp.den]
theorem natsOfD_len : ∀ l : List D, (natsOfD l).length = l.length
  | [] => rfl
  | d :: r => by simp [natsOfD, natsOfD_len r]
theorem natsOfD_map : ∀ l : List D, natsOfD l = l.map D.nat
  | [] => rfl
  | d :: r => by simp [natsOfD, natsOfD_map r]
theorem dens_map [Val] : ∀ m : List Tm, Tm.dens m = m.map Tm.den
  | [] => rfl
  | t :: r => by simp [Tm.dens, dens_map r]
theorem byteT1_den [Val] (t : Tm) : (byteT1 t).den = .int ((t.den.nat % 256 : Nat) : Int) := by
  unfold byteT1
  split
  · rfl
  · simp [Tm.den, Tm.dens, TOp.den]
theorem simpT_den [Val] {o : TOp} {l : List Tm} {t : Tm} (h : simpT o l = some t) : t.den = o.den (Tm.dens l) := by
  have dl : ∀ m : List Tm, (Tm.dens m).length = m.length := fun m => by induction m with
    | nil => rfl
    | cons a r ih => simp [Tm.dens, ih]
  have dg : ∀ (m : List Tm) (i : Nat) (t : Tm), m[i]? = some t → (Tm.dens m).getD i .bad = t.den := fun m => by
    induction m with
    | nil => intro i t h; simp at h
    | cons a r ih =>
      intro i t h
      cases i with
      | zero => simp at h; subst h; rfl
      | succ i => exact ih i t (by simpa using h)
  have dm : ∀ m : List Tm, (Tm.op .mk m).den = .list (Tm.dens m) := fun m => by simp [Tm.den, TOp.den]
  unfold simpT at h
  split at h
  · rename_i m
    cases h
    simp [Tm.dens, TOp.den, dl, Tm.den]
  · rename_i m i
    rw [← dg m i t h]
    simp [Tm.dens, TOp.den, Tm.den]
  · rename_i j m
    rw [← dg m j t h]
    simp [Tm.dens, dm, TOp.den]
  · rename_i m
    cases h
    simp [Tm.dens, TOp.den, dl, Tm.den, ofNats_len, natsOfD_len]
  · rename_i m i
    rw [Option.map_eq_some_iff] at h
    obtain ⟨u, hu, rfl⟩ := h
    have hi : i < m.length := (List.getElem?_eq_some_iff.1 hu).1
    have hx : m[i] = u := (List.getElem?_eq_some_iff.1 hu).2
    rw [byteT1_den]
    simp only [Tm.dens, Tm.den, TOp.den, Int.ofNat_eq_natCast, Int.toNat_natCast]
    rw [ofNats_get _ _ (by rw [natsOfD_len, dl]; exact hi)]
    simp [natsOfD_map, dens_map, hx]
  · rename_i m a b
    split at h
    · rename_i hab
      cases h
      rw [textOf_den]
      simp only [Tm.dens, Tm.den, TOp.den, Int.ofNat_eq_natCast, Int.toNat_natCast]
      rw [ofNats_cut _ _ _ hab.1 (by rw [natsOfD_len, dl]; exact hab.2)]
      simp [natsOfD_map, dens_map]
    · cases h
  · rename_i a b
    cases h
    rw [textOf_den]
    simp only [Tm.dens, Tm.den, TOp.den, strD]
    rw [ofNats_app]
    simp [natsOfD_map, dens_map]
  · cases h
/-- an operation, reckoned where its operands are literals; else as the table says. -/
def mkT (nf : Tm → Tm) (o : TOp) (l : List Tm) : Tm :=
  match litsD l with
  | some d => match ofLit (o.den d) with
    | some t => t
    | none => nf (.op o l)
  | none => match simpT o l with
    | some t => t
    | none => nf (.op o l)

theorem mkT_den [Val] {nf : Tm → Tm} (hn : ∀ t, (nf t).den = t.den) (o : TOp) (l : List Tm) : (mkT nf o l).den = o.den (Tm.dens l) := by
  unfold mkT
  split
  · rename_i d hd
    split
    · rename_i t ht
      rw [ofLit_den ht, litsD_den hd]
    · rw [hn]; rfl
  · split
    · rename_i t ht
      exact simpT_den ht
    · rw [hn]; rfl

/-- is a condition known to hold? -/
def holdsT (nf : Tm → Tm) (o : TOp) (l : List Tm) : Bool :=
  match mkT nf o l with
  | .bool true => true
  | _ => false
theorem holdsT_den [Val] {nf : Tm → Tm} (hn : ∀ t, (nf t).den = t.den) {o : TOp} {l : List Tm} (h : holdsT nf o l = true) : o.den (Tm.dens l) = .bool true := by
  unfold holdsT at h
  split at h
  · rename_i e
    rw [← mkT_den hn, e]; rfl
  · cases h
/-- is an index one of so many? -/
def inRangeT (nf : Tm → Tm) (i n : Tm) : Bool :=
  match holdsT nf (.bin .leq .i64) [.int 0, i] with
  | true => holdsT nf (.bin .lss .i64) [i, n]
  | false => false
theorem inRangeT_den [Val] {nf : Tm → Tm} (hn : ∀ t, (nf t).den = t.den) {i n : Tm} {a b : Int} (h : inRangeT nf i n = true) (hi : i.den = .int a) (hb : n.den = .int b) : 0 ≤ a ∧ a < b := by
  unfold inRangeT at h
  split at h
  · rename_i h1
    have h1 := holdsT_den hn h1
    have h2 := holdsT_den hn h
    simp only [Tm.dens, hi, hb, TOp.den, intD, D.bool.injEq, decide_eq_true_eq] at h1 h2
    exact ⟨by simpa [Tm.den, TOp.den, intD] using h1, h2⟩
  · cases h
/-- sums of numbers without bound. -/
def addT (nf : Tm → Tm) (a b : Tm) : Tm :=
  match a with
  | .int 0 => b
  | _ => match b with
    | .int 0 => a
    | _ => mkT nf .nadd [a, b]
theorem addT_den [Val] {nf : Tm → Tm} (hn : ∀ t, (nf t).den = t.den) {a b : Tm} {x y : Int} (ha : a.den = .int x) (hb : b.den = .int y) : (addT nf a b).den = .int (x + y) := by
  unfold addT
  split
  · have : x = 0 := by simpa [Tm.den, eq_comm] using ha
    rw [hb, this, Int.zero_add]
  · split
    · have : y = 0 := by simpa [Tm.den, eq_comm] using hb
      rw [ha, this, Int.add_zero]
    · rw [mkT_den hn]; simp only [Tm.dens, ha, hb, TOp.den]
def subT (nf : Tm → Tm) (a b : Tm) : Tm :=
  match b with
  | .int 0 => a
  | _ => mkT nf .nsub [a, b]
theorem subT_den [Val] {nf : Tm → Tm} (hn : ∀ t, (nf t).den = t.den) {a b : Tm} {x y : Int} (ha : a.den = .int x) (hb : b.den = .int y) : (subT nf a b).den = .int (x - y) := by
  unfold subT
  split
  · have : y = 0 := by simpa [Tm.den, eq_comm] using hb
    rw [ha, this, Int.sub_zero]
  · rw [mkT_den hn]; simp only [Tm.dens, ha, hb, TOp.den]

/-- a table of equal terms. -/
def tableNf : List (Tm × Tm) → Tm → Tm
  | [], t => t
  | (a, b) :: r, t => match Tm.beq a t with
    | true => b
    | false => tableNf r t
theorem tableNf_den [Val] : ∀ {l : List (Tm × Tm)}, (∀ p ∈ l, p.1.den = p.2.den) → ∀ t, (tableNf l t).den = t.den
  | [], _, t => rfl
  | (a, b) :: r, h, t => by
    simp only [tableNf]
    split
    · rename_i e
      rw [← Tm.beq_eq a t e, ← h (a, b) (by simp)]
    · exact tableNf_den (fun p hp => h p (by simp [hp])) t

/-! ### other data for the unknown -/
mutual
def Tm.inst (s : Nat → Tm) : Tm → Tm
  | .int n => .int n
  | .bool b => .bool b
  | .str t => .str t
  | .v i => s i
  | .op o l => .op o (Tm.insts s l)
def Tm.insts (s : Nat → Tm) : List Tm → List Tm
  | [] => []
  | t :: r => t.inst s :: Tm.insts s r
end
/-- the data that terms stand for, as data for the unknown. -/
@[reducible] def Val.by (V : Val) (s : Nat → Tm) : Val := ⟨fun i => @Tm.den V (s i), V.code⟩
mutual
theorem Tm.inst_den (V : Val) (s : Nat → Tm) : ∀ t : Tm, @Tm.den V (t.inst s) = @Tm.den (V.by s) t
  | .int _ | .bool _ | .str _ => rfl
  | .v i => rfl
  | .op o l => by
    show o.den (@Tm.dens V (Tm.insts s l)) = o.den (@Tm.dens (V.by s) l)
    rw [Tm.insts_den V s l]
theorem Tm.insts_den (V : Val) (s : Nat → Tm) : ∀ l : List Tm, @Tm.dens V (Tm.insts s l) = @Tm.dens (V.by s) l
  | [] => rfl
  | t :: r => by
    show @Tm.den V (t.inst s) :: @Tm.dens V (Tm.insts s r) = @Tm.den (V.by s) t :: @Tm.dens (V.by s) r
    rw [Tm.inst_den V s t, Tm.insts_den V s r]
end

/-! ### immutable data in the model's memory -/
/-- what a cell of a row of unknown data holds. -/
inductive CK where
  | int (k : IntKind)
  | bool
  | str
  | isl (ks : List CK)
  | ref (ks : List CK)
  deriving Inhabited, Repr

mutual
def CK.beq : CK → CK → Bool
  | .int k, .int j => k == j
  | .bool, .bool => true
  | .str, .str => true
  | .isl a, .isl b => CK.beqs a b
  | .ref a, .ref b => CK.beqs a b
  | _, _ => false
def CK.beqs : List CK → List CK → Bool
  | [], [] => true
  | a :: r, b :: s => match CK.beq a b with
    | true => CK.beqs r s
    | false => false
  | _, _ => false
end
mutual
theorem CK.beq_eq : ∀ (a b : CK), CK.beq a b = true → a = b
  | .int k, .int j, h => by simp only [CK.beq, beq_iff_eq] at h; rw [h]
  | .bool, .bool, _ => rfl
  | .str, .str, _ => rfl
  | .isl a, .isl b, h => by simp only [CK.beq] at h; rw [CK.beqs_eq a b h]
  | .ref a, .ref b, h => by simp only [CK.beq] at h; rw [CK.beqs_eq a b h]
  | .int _, .bool, h | .int _, .str, h | .int _, .isl _, h | .int _, .ref _, h => by cases h
  | .bool, .int _, h | .bool, .str, h | .bool, .isl _, h | .bool, .ref _, h => by cases h
  | .str, .int _, h | .str, .bool, h | .str, .isl _, h | .str, .ref _, h => by cases h
  | .isl _, .int _, h | .isl _, .bool, h | .isl _, .str, h | .isl _, .ref _, h => by cases h
  | .ref _, .int _, h | .ref _, .bool, h | .ref _, .str, h | .ref _, .isl _, h => by cases h
theorem CK.beqs_eq : ∀ (a b : List CK), CK.beqs a b = true → a = b
  | [], [], _ => rfl
  | a :: r, b :: s, h => by
    simp only [CK.beqs] at h
    split at h
    · rename_i e; rw [CK.beq_eq a b e, CK.beqs_eq r s h]
    · cases h
  | [], _ :: _, h | _ :: _, [], h => by cases h
end

/-- an element's cell. -/
def eltFld (ks : List CK) (d : D) (j : Nat) : D :=
  match ks with
  | [_] => d
  | _ => match d with
    | .list l => l.getD j .bad
    | _ => .bad
def eltTm (nf : Tm → Tm) (ks : List CK) (t : Tm) (j : Nat) : Tm :=
  match ks with
  | [_] => t
  | _ => mkT nf (.fld j) [t]

inductive CellR (Z : Nat → Option Obj) : CK → D → Value → Prop
  | int (k : IntKind) (n : Int) : CellR Z (.int k) (.int n) (.int k n)
  | bool (b : Bool) : CellR Z .bool (.bool b) (.bool b)
  | str (s : ByteArray) : CellR Z .str (.str (BS.of s)) (.string s)
  | nil (ks : List CK) : CellR Z (.isl ks) (.list []) (.slice none 0 0)
  | none (ks : List CK) (a : Addr) (c : Nat) : CellR Z (.isl ks) (.list []) (.slice (some a) 0 c)
  | isl {ks : List CK} {L : List D} {b o n c : Nat} {cc : Array Value} {T : TypeId} {fz : Nat × Nat} {vals : Nat → Nat → Value} (hz : Z b = some (.cells cc T fz)) (hn : n = L.length) (hc : n ≤ c) (hk : ks ≠ [])
      (hv : ∀ i j, i < n → j < ks.length → cc[o + i * ks.length + j]? = some (vals i j))
      (hr : ∀ i j, i < n → j < ks.length → CellR Z (ks.getD j .bool) (eltFld ks (L.getD i .bad) j) (vals i j)) :
      CellR Z (.isl ks) (.list L) (.slice (some ⟨b, o, Option.none⟩) n c)
  | rnil (ks : List CK) : CellR Z (.ref ks) (.list []) (.pointer Option.none)
  | ref {ks : List CK} {L : List D} {b o c : Nat} (h : CellR Z (.isl ks) (.list L) (.slice (some ⟨b, o, Option.none⟩) 1 c)) : CellR Z (.ref ks) (.list L) (.pointer (some ⟨b, o, Option.none⟩))

theorem CellR.mono {Z Z' : Nat → Option Obj} (hZ : ∀ c o, Z c = some o → Z' c = some o) {k : CK} {d : D} {v : Value} (h : CellR Z k d v) : CellR Z' k d v := by
  induction h with
  | int k n => exact .int k n
  | bool b => exact .bool b
  | str s => exact .str s
  | nil ks => exact .nil ks
  | none ks a c => exact .none ks a c
  | isl hz hn hc hk hv _ ih => exact .isl (hZ _ _ hz) hn hc hk hv ih
  | rnil ks => exact .rnil ks
  | ref _ ih => exact .ref ih

theorem eltTm_den [Val] {nf : Tm → Tm} (hn : ∀ t, (nf t).den = t.den) (ks : List CK) (t : Tm) (j : Nat) : (eltTm nf ks t j).den = eltFld ks t.den j := by
  unfold eltTm eltFld
  split
  · rfl
  · rw [mkT_den hn]
    simp only [Tm.dens]
    cases t.den <;> rfl

end Go.Tc
