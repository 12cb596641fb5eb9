/- A deterministic evaluator of the model's code over a logical heap: definitions alone. -/
import Derived.Test.YtjmjbjnbfodalaaGreatTcBs
set_option linter.unusedSimpArgs false
set_option linter.unusedVariables false
set_option linter.unusedSectionVars false
namespace Go.Tc
inductive Tr (α : Type) : Type where
  | leaf
  | node (l : Tr α) (v : Option α) (r : Tr α)
  deriving Inhabited
namespace Tr
variable {α : Type}
def get : Tr α → Nat → Option α
  | .leaf, _ => none
  | .node l v r, n => if n = 0 then v else if n % 2 = 1 then l.get (n / 2) else r.get (n / 2 - 1)
def set : Nat → Tr α → Nat → Option α → Tr α
  | 0, t, _, _ => t
  | f + 1, .leaf, n, v => if n = 0 then .node .leaf v .leaf else if n % 2 = 1 then .node (set f .leaf (n / 2) v) none .leaf else .node .leaf none (set f .leaf (n / 2 - 1) v)
  | f + 1, .node l w r, n, v => if n = 0 then .node l v r else if n % 2 = 1 then .node (set f l (n / 2) v) w r else .node l w (set f r (n / 2 - 1) v)
def put (t : Tr α) (n : Nat) (v : α) : Tr α := set (n + 1) t n (some v)
def del (t : Tr α) (n : Nat) : Tr α := set (n + 1) t n none
end Tr
inductive SCap where
  | exact (c : Nat)
  | opn (es : Nat)
  deriving DecidableEq, Repr, Inhabited
inductive LCap where
  | opn
  | exact (c : Tm)
  | rd
  deriving Inhabited
def LCap.beq : LCap → LCap → Bool
  | .opn, .opn => true
  | .exact a, .exact b => Tm.beq a b
  | .rd, .rd => true
  | _, _ => false
inductive AFn where
  | func (f : FuncId)
  | method (name : String)
  | methodOf (t : TypeId) (name : String)
  | via (t : TypeId) (path : Array FieldStep) (f : FuncId) (pointer : Bool)
  | yield (l : Nat)
  deriving DecidableEq, Inhabited
inductive AV where
  | bool (b : Bool)
  | int (k : IntKind) (n : Int)
  | str (s : BS)
  | nilPtr
  | ptr (b off : Nat)
  | nilSlice
  | slice (b off len : Nat) (cap : SCap)
  | nilMap
  | map (b : Nat)
  | fn (f : AFn) (first captured : List AV)
  | nilFn
  | iface (t : TypeId) (v : AV)
  | nilIface
  | agg (l : List AV)
  | tuple (l : List AV)
  | junk
  | esl
  | rng (k : IntKind) (lo hi : Int)
  | strU (n : Nat)
  | boolU
  | sy (ck : CK) (t : Tm)
  | lsl (b es : Nat) (lo len : Tm) (cm : LCap)
  | eptr (b es : Nat) (i : Tm) (j : Nat)
  | iptr (ks : List CK) (t i : Tm) (j : Nat)
  deriving Inhabited
def undefA : AV := .tuple []
mutual
def AV.beq : AV → AV → Bool
  | .bool a, .bool b => a == b
  | .int k a, .int j b => k == j && a == b
  | .str a, .str b => a.eq b
  | .nilPtr, .nilPtr | .nilSlice, .nilSlice | .nilMap, .nilMap | .nilFn, .nilFn | .nilIface, .nilIface | .esl, .esl | .boolU, .boolU => true
  | .rng k a b, .rng j c d => k == j && a == c && b == d
  | .strU a, .strU b => a == b
  | .sy c a, .sy d b => CK.beq c d && Tm.beq a b
  | .lsl a e l n c, .lsl b f m k d => a == b && e == f && Tm.beq l m && Tm.beq n k && LCap.beq c d
  | .eptr a e i j, .eptr b f k l => a == b && e == f && Tm.beq i k && j == l
  | .iptr a t i j, .iptr b u k l => CK.beqs a b && Tm.beq t u && Tm.beq i k && j == l
  | .ptr a o, .ptr b p => a == b && o == p
  | .slice a o l c, .slice b p m d => a == b && o == p && l == m && decide (c = d)
  | .map a, .map b => a == b
  | .fn f x y, .fn g u v => decide (f = g) && AV.beqs x u && AV.beqs y v
  | .iface t v, .iface u w => t == u && AV.beq v w
  | .agg a, .agg b => AV.beqs a b
  | .tuple a, .tuple b => AV.beqs a b
  | _, _ => false
def AV.beqs : List AV → List AV → Bool
  | [], [] => true
  | a :: r, b :: s => AV.beq a b && AV.beqs r s
  | _, _ => false
end
mutual
def ofValue : Value → Option AV
  | .bool b => some (.bool b)
  | .int k n => some (.int k n)
  | .string s => some (.str (BS.of s))
  | .pointer none => some .nilPtr
  | .slice none 0 0 => some .nilSlice
  | .map none => some .nilMap
  | .nilFunc => some .nilFn
  | .nilIface => some .nilIface
  | .agg cs => (ofArr cs).map .agg
  | .tuple cs => (ofArr cs).map .tuple
  | _ => none
def ofArr : Array Value → Option (List AV)
  | ⟨l⟩ => ofVals l
def ofVals : List Value → Option (List AV)
  | [] => some []
  | v :: r => match ofValue v, ofVals r with
    | some a, some b => some (a :: b)
    | _, _ => none
end
def AV.cells : AV → List AV
  | .agg l => l
  | v => [v]
def AV.one : AV → Bool
  | .agg _ | .tuple _ => false
  | _ => true
inductive RK where
  | solid
  | glob
  | buf (fz : Nat) (sish : Bool)
  deriving DecidableEq, Repr, Inhabited
structure Ctx where
  mask : Nat
  n : Nat
  glob : Nat
  deriving Inhabited
structure Tmps where
  vars : List (Nat × AV)
  loc : List (Nat × AV)
  deriving Inhabited
def assoc : List (Nat × AV) → Nat → Option AV
  | [], _ => none
  | p :: r, t => bif p.1.beq t then some p.2 else assoc r t
def assocPut : List (Nat × AV) → Nat → AV → List (Nat × AV)
  | [], t, v => [(t, v)]
  | p :: r, t, v => bif p.1.beq t then (t, v) :: r else p :: assocPut r t v
def Tmps.get (c : Ctx) (T : Tmps) (t : Nat) : Option AV :=
  match T with
  | ⟨vars, loc⟩ => bif c.mask.testBit t then assoc vars t else assoc loc t
def Tmps.put (c : Ctx) (T : Tmps) (t : Nat) (v : AV) : Tmps :=
  match T with
  | ⟨vars, loc⟩ => bif c.mask.testBit t then ⟨assocPut vars t v, loc⟩ else ⟨vars, (t, v) :: loc⟩
def Tmps.fresh (T : Tmps) : Tmps := match T with | ⟨vars, _⟩ => ⟨vars, []⟩
def Tmps.lay (c : Ctx) (T : Tmps) (dst : Option Tmp) (v : AV) : Option Tmps :=
  match dst with
  | none => some T
  | some d => bif d.blt c.n then some (T.put c d v) else none
structure AEnt where
  key : AV
  val : AV
  born : Nat
  deriving Inhabited
inductive LRef where
  | here (c : LCode)
  | at_ (f : FuncId) (p : List Nat)
  deriving Inhabited
structure ALoop where
  state : LoopState
  pending : Option Code
  ctx : Ctx
  tmps : Tmps
  code : LRef
  defers : Nat
  deriving Inhabited
inductive AObj where
  | row (cells : List AV) (elem : TypeId) (k : RK)
  | lrow (ks : List CK) (t : Tm) (elem : TypeId) (k : RK)
  | map (es : List AEnt) (clock : Nat)
  | lmap (kk vk : CK) (t : Tm)
  | loop (l : ALoop)
  | dfr (opn : Bool)
  | siter (s : ByteArray) (pos : Nat)
  | miter (m : Option Nat) (since : Nat) (seen : List Nat) (last : Nat)
  deriving Inhabited
structure AHeap where
  objs : Tr AObj
  next : Nat
  deriving Inhabited
def AHeap.get (H : AHeap) (b : Nat) : Option AObj := match H with | ⟨objs, _⟩ => objs.get b
def AHeap.set (H : AHeap) (b : Nat) (o : AObj) : AHeap := match H with | ⟨objs, next⟩ => ⟨objs.put b o, next⟩
def AHeap.kill (H : AHeap) (b : Nat) : AHeap := match H with | ⟨objs, next⟩ => ⟨objs.del b, next⟩
def AHeap.new (H : AHeap) (o : AObj) : AHeap := match H with | ⟨objs, next⟩ => ⟨objs.put next o, next + 1⟩
def aeval (c : Ctx) (T : Tmps) : Operand → Option AV
  | .tmp t => T.get c t
  | .const v => ofValue v
  | .global g => bif g.blt c.glob then some (.ptr g 0) else none
  | .func f => some (.fn (.func f) [] [])
def aevals (c : Ctx) (T : Tmps) : List Operand → Option (List AV)
  | [] => some []
  | x :: r => match aeval c T x, aevals c T r with
    | some a, some b => some (a :: b)
    | _, _ => none
mutual
def evens {α : Type} : List α → List α
  | [] => []
  | a :: r => a :: odds r
def odds {α : Type} : List α → List α
  | [] => []
  | _ :: r => evens r
end
def Tr.ofList {α : Type} : Nat → List α → Tr α
  | 0, _ => .leaf
  | _ + 1, [] => .leaf
  | f + 1, a :: r => .node (ofList f (evens r)) (some a) (ofList f (odds r))
def tysOf (P : Program) : Tr TypeInfo := Tr.ofList P.types.size P.types.toList
def fnsOf (P : Program) : Tr Func := Tr.ofList P.funcs.size P.funcs.toList
section ops
variable (P : Program)
def infoT (t : TypeId) : Option TypeInfo := (tysOf P).get t
def undT (t : TypeId) : Option TypeDesc :=
  match infoT P t with
  | some { desc := .named _ u, .. } => (infoT P u).map (·.desc)
  | some i => some i.desc
  | none => none
def isAggT (t : TypeId) : Option Bool :=
  match undT P t with
  | some (.struct _) | some (.array _ _) => some true
  | some _ => some false
  | none => none
def sizeT (t : TypeId) : Option Nat := (infoT P t).map (·.size)
def bytesT (t : TypeId) : Option Nat := (infoT P t).map (·.bytes)
def zeroT (t : TypeId) : Option AV := ((infoT P t).bind (·.zero)).bind ofValue
def takeN : Nat → List AV → Option (List AV)
  | 0, _ => some []
  | n + 1, x :: r => (takeN n r).map (x :: ·)
  | _ + 1, [] => none
def rowOf (H : AHeap) (b : Nat) : Option (List AV × TypeId × RK) :=
  match H.get b with
  | some (.row c e k) => some (c, e, k)
  | _ => none
def loadN (H : AHeap) (b off n : Nat) : Option (List AV) :=
  match rowOf H b with
  | some (c, _, _) => takeN n (c.drop off)
  | none => none
def lrowOf (H : AHeap) (b : Nat) : Option (List CK × Tm × TypeId × RK) :=
  match H.get b with
  | some (.lrow ks t e k) => some (ks, t, e, k)
  | _ => none
def ofTm (ck : CK) (t : Tm) : AV :=
  match ck, t with
  | .int k, .int n => .int k n
  | .bool, .bool b => .bool b
  | .str, .str s => .str s
  | ck, t => .sy ck t
def tmOf (ck : CK) (v : AV) : Option Tm :=
  match ck, v with
  | .int k, .int j n => bif k == j then some (.int n) else none
  | .bool, .bool b => some (.bool b)
  | .str, .str s => some (.str s)
  | .isl _, .nilSlice => some (.op .mk [])
  | .ref _, .nilPtr => some (.op .mk [])
  | ck, .sy c t => bif CK.beq ck c then some t else none
  | _, _ => none
def tmsOf : List CK → List AV → Option (List Tm)
  | [], [] => some []
  | k :: ks, v :: vs => match tmOf k v with
    | some t => match tmsOf ks vs with
      | some l => some (t :: l)
      | none => none
    | none => none
  | _, _ => none
def eltCells (nf : Tm → Tm) (ks : List CK) (t : Tm) : List CK → Nat → List AV
  | [], _ => []
  | k :: r, j => ofTm k (eltTm nf ks t j) :: eltCells nf ks t r (j + 1)
def eltPart (nf : Tm → Tm) (ks : List CK) (t : Tm) (j n : Nat) : Option (List AV) :=
  bif (j + n).ble ks.length then some (eltCells nf ks t ((ks.drop j).take n) j) else none
def wholeA (t : TypeId) (cells : Nat → Option (List AV)) : Option AV :=
  match isAggT P t with
  | some true => match sizeT P t with
    | some n => (cells n).map .agg
    | none => none
  | some false => match cells 1 with
    | some [v] => some v
    | _ => none
  | none => none
def everyN (es : Nat) : Nat → List AV → List AV
  | 0, _ => []
  | k + 1, l => match l with
    | a :: _ => a :: everyN es k (l.drop es)
    | [] => []
def kindOf : AV → Option CK
  | .int k _ => some (.int k)
  | .bool _ => some .bool
  | .str _ => some .str
  | .sy ck _ => some ck
  | _ => none
def tmsK (ck : CK) : List AV → Option (List Tm)
  | [] => some []
  | v :: vs => match tmOf ck v with
    | some t => match tmsK ck vs with
      | some l => some (t :: l)
      | none => none
    | none => none
def colA (nf : Tm → Tm) (i : Tm) : List AV → Option AV
  | [] => none
  | a :: r => match r.all (AV.beq a) with
    | true => some a
    | false => match kindOf a with
      | some ck => match tmsK ck (a :: r) with
        | some l => some (ofTm ck (mkT nf .nth [.op .mk l, i]))
        | none => none
      | none => none
def colPart (nf : Tm → Tm) (es k : Nat) (cells : List AV) (i : Tm) : Nat → Nat → Option (List AV)
  | _, 0 => some []
  | j, n + 1 => match colA nf i (everyN es k (cells.drop j)) with
    | some a => match colPart nf es k cells i (j + 1) n with
      | some r => some (a :: r)
      | none => none
    | none => none
def colsA (nf : Tm → Tm) (es : Nat) (cells : List AV) (i : Tm) (j n : Nat) : Option (List AV) :=
  if j + n ≤ es ∧ inRangeT nf i (.int ((cells.length / es : Nat) : Int)) = true then colPart nf es (cells.length / es) cells i j n else none
def loadA (nf : Tm → Tm) (H : AHeap) (t : TypeId) : AV → Option AV
  | .eptr b es i j =>
    match lrowOf H b with
    | some (ks, c, _, _) =>
      if ks.length = es ∧ inRangeT nf i (mkT nf .len [c]) = true then wholeA P t (eltPart nf ks (mkT nf .nth [c, i]) j) else none
    | none => match rowOf H b with
      | some (cells, _, _) => wholeA P t (colsA nf es cells i j)
      | none => none
  | .iptr ks c i j => wholeA P t (eltPart nf ks (mkT nf .nth [c, i]) j)
  | .ptr b off =>
    match isAggT P t with
    | some true => match sizeT P t with
      | some n => (loadN H b off n).map .agg
      | none => none
    | some false => match loadN H b off 1 with
      | some [v] => some v
      | _ => none
    | none => none
  | _ => none
def layOver : List AV → Nat → List AV → Option (List AV)
  | [], _, _ :: _ => none
  | c, _, [] => some c
  | x :: c, off + 1, vs => (layOver c off vs).map (x :: ·)
  | _ :: c, 0, v :: vs => (layOver c 0 vs).map (v :: ·)
def RK.takes : RK → Nat → Bool
  | .solid, _ => true
  | .glob, _ => false
  | .buf fz _, off => decide (fz ≤ off)
def storeN (H : AHeap) (b off : Nat) (vs : List AV) : Option AHeap :=
  if vs.isEmpty then some H else
  match rowOf H b with
  | some (c, e, k) =>
    if k.takes off && vs.all (·.one) then
      (layOver c off vs).map fun c' => H.set b (.row c' e k)
    else none
  | none => none
def setFlds (nf : Tm → Tm) (t : Tm) : Nat → List Tm → Tm
  | _, [] => t
  | j, x :: r => setFlds nf (mkT nf (.setf j) [t, x]) (j + 1) r
def eltSet (nf : Tm → Tm) (ks : List CK) (t : Tm) (j : Nat) (l : List Tm) : Option Tm :=
  match ks, j, l with
  | [_], 0, [x] => some x
  | [_], _, _ => none
  | _, 0, _ => bif l.length.beq ks.length then some (mkT nf .mk l) else some (setFlds nf t 0 l)
  | _, j, l => some (setFlds nf t j l)
def RK.free : RK → Bool
  | .solid => true
  | .buf 0 _ => true
  | _ => false
def storeA (nf : Tm → Tm) (H : AHeap) (t : TypeId) (p v : AV) : Option AHeap :=
  match p with
  | .eptr b es i j =>
    match lrowOf H b with
    | some (ks, c, e, k) =>
      if ks.length = es ∧ inRangeT nf i (mkT nf .len [c]) = true ∧ k.free = true ∧ sizeT P t = some v.cells.length ∧ v.cells.length ≠ 0 ∧ j + v.cells.length ≤ es then
        match tmsOf ((ks.drop j).take v.cells.length) v.cells with
        | some l => (eltSet nf ks (mkT nf .nth [c, i]) j l).map fun x => H.set b (.lrow ks (mkT nf .set [c, i, x]) e k)
        | none => none
      else none
    | none => none
  | .ptr b off => if sizeT P t == some v.cells.length && v.cells.length ≠ 0 then storeN H b off v.cells else none
  | _ => none
def newA (H : AHeap) (elem : TypeId) (cells : List AV) : AV × AHeap := (.ptr H.next 0, H.new (.row cells elem .solid))
def fillA (place : Nat → Option (Nat × Nat)) (cells : List AV) : List (Nat × AV) → Option (List AV)
  | [] => some cells
  | (i, v) :: rest =>
    match place i with
    | none => none
    | some (off, size) => if v.cells.length ≠ size || size = 0 then none else
      match layOver cells off v.cells with
      | some c => fillA place c rest
      | none => none
def fieldPlaceA (fields : Array Field) (i : Nat) : Option (Nat × Nat) :=
  match fields[i]? with
  | some f => (sizeT P f.type).map fun n => (f.offset, n)
  | none => none
def fieldsSized (fields : List Field) : Bool := fields.all fun f => (sizeT P f.type).isSome
def buildA (t : TypeId) (parts : List (Nat × AV)) : Option AV :=
  match zeroT P t, undT P t with
  | some z, some (.struct fields) => if fieldsSized P fields.toList then (fillA (fieldPlaceA P fields) z.cells parts).map .agg else none
  | some z, some (.array _ elem) => match sizeT P elem with
    | some n => (fillA (fun i => some (i * n, n)) z.cells parts).map .agg
    | none => none
  | _, _ => none
def repeatL (z : List AV) : Nat → List AV
  | 0 => []
  | n + 1 => z ++ repeatL z n
def buildSliceA (t : TypeId) (len : Nat) (parts : List (Nat × AV)) : Option (TypeId × List AV) :=
  match undT P t with
  | some (.slice elem) => match sizeT P elem, zeroT P elem with
    | some n, some z => if len * n > 2 ^ 24 || z.cells.length ≠ n || n = 0 then none else
      (fillA (fun i => some (i * n, n)) (repeatL z.cells len) parts).map fun c => (elem, c)
    | _, _ => none
  | _ => none
def partA (t : TypeId) (cs : List AV) (off : Nat) : Option AV :=
  match isAggT P t, sizeT P t with
  | some true, some n => (takeN n (cs.drop off)).map .agg
  | some false, _ => match cs.drop off with
    | v :: _ => some v
    | [] => none
  | _, _ => none
def intOpA (op : BinOp) (k : IntKind) (a b : Int) : Option AV :=
  match op with
  | .add => some (.int k (k.wrap (a + b)))
  | .sub => some (.int k (k.wrap (a - b)))
  | .mul => some (.int k (k.wrap (a * b)))
  | .quo => if b = 0 then none else some (.int k (k.wrap (a.tdiv b)))
  | .rem => if b = 0 then none else some (.int k (a.tmod b))
  | .and => some (.int k (k.wrap (BitVec.ofInt k.bits a &&& BitVec.ofInt k.bits b).toNat))
  | .or => some (.int k (k.wrap (BitVec.ofInt k.bits a ||| BitVec.ofInt k.bits b).toNat))
  | .xor => some (.int k (k.wrap (BitVec.ofInt k.bits a ^^^ BitVec.ofInt k.bits b).toNat))
  | .andNot => some (.int k (k.wrap (BitVec.ofInt k.bits a &&& ~~~BitVec.ofInt k.bits b).toNat))
  | .eql => some (.bool (a == b))
  | .neq => some (.bool (a != b))
  | .lss => some (.bool (decide (a < b)))
  | .leq => some (.bool (decide (a ≤ b)))
  | .gtr => some (.bool (decide (a > b)))
  | .geq => some (.bool (decide (a ≥ b)))
  | _ => none
def shiftA (op : BinOp) (k : IntKind) (a b : Int) : Option AV :=
  if b < 0 then none else
  let n := min b.toNat k.bits
  match op with
  | .shl => some (.int k (k.wrap (a * 2 ^ n)))
  | .shr => some (.int k (a.fdiv (2 ^ n)))
  | _ => none
def strOpA (op : BinOp) (a b : BS) : Option AV :=
  match op with
  | .add => if a.len + b.len ≤ 2 ^ 62 then some (.str (a.app b)) else none
  | .eql => some (.bool (a.eq b))
  | .neq => some (.bool (!a.eq b))
  | .lss => some (.bool (a.lt b))
  | .leq => some (.bool (a.lt b || a.eq b))
  | .gtr => some (.bool (!(a.lt b || a.eq b)))
  | .geq => some (.bool (!a.lt b))
  | _ => none
def solidRow (H : AHeap) (b : Nat) : Bool :=
  match rowOf H b with
  | some (_, _, .solid) => true
  | _ => false
def eqFieldsW (eq : TypeId → AV → AV → Option Bool) (xs ys : List AV) : List Field → Option Bool
  | [] => some true
  | f :: fs => if f.name = "_" then eqFieldsW eq xs ys fs else
    match partA P f.type xs f.offset, partA P f.type ys f.offset with
    | some a, some b => match eq f.type a b with
      | some true => eqFieldsW eq xs ys fs
      | some false => some false
      | none => none
    | _, _ => none
def eqElemsW (eq : AV → AV → Option Bool) (xs ys : List AV) (e : TypeId) (n : Nat) : Nat → Nat → Option Bool
  | 0, _ => some true
  | k + 1, i =>
    match partA P e xs (i * n), partA P e ys (i * n) with
    | some a, some b => match eq a b with
      | some true => eqElemsW eq xs ys e n k (i + 1)
      | some false => some false
      | none => none
    | _, _ => none
def eqA (H : AHeap) : Nat → TypeId → AV → AV → Option Bool
  | 0, _, _, _ => none
  | d + 1, t, x, y =>
    match undT P t, x, y with
    | some .bool, .bool a, .bool b => some (a == b)
    | some (.int _), .int k a, .int j b => if k = j then some (a == b) else none
    | some .string, .str a, .str b => some (a.eq b)
    | some (.pointer _), .nilPtr, .nilPtr => some true
    | some (.pointer _), .nilPtr, .ptr _ _ | some (.pointer _), .ptr _ _, .nilPtr => some false
    | some (.pointer e), .ptr a o, .ptr b p =>
      match sizeT P e with
      | some n => if n = 0 then none else if a == b then some (o == p) else if solidRow H a && solidRow H b then some false else none
      | none => none
    | some (.interface _), .nilIface, .nilIface => some true
    | some (.interface _), .nilIface, .iface _ _ | some (.interface _), .iface _ _, .nilIface => some false
    | some (.interface _), .iface t a, .iface u b =>
      if t ≠ u then some false else
      match infoT P t with
      | some i => if i.comparable then eqA H d t a b else none
      | none => none
    | some (.slice _), .nilSlice, .nilSlice => some true
    | some (.slice _), .nilSlice, .slice .. | some (.slice _), .slice .., .nilSlice => some false
    | some (.map _ _), .nilMap, .nilMap => some true
    | some (.map _ _), .nilMap, .map _ | some (.map _ _), .map _, .nilMap => some false
    | some (.func _ _ _), .nilFn, .nilFn => some true
    | some (.func _ _ _), .nilFn, .fn .. | some (.func _ _ _), .fn .., .nilFn => some false
    | some (.struct fs), .agg xs, .agg ys => if P.stoodInHeld t then none else eqFieldsW P (eqA H d) xs ys fs.toList
    | some (.array len e), .agg xs, .agg ys =>
      match sizeT P e with
      | some n => eqElemsW P (eqA H d e) xs ys e n len 0
      | none => none
    | _, _, _ => none
def isConstO : Operand → Bool
  | .const _ => true
  | _ => false
def eqGuardA (t : TypeId) (x y : Operand) (a b : AV) : Bool :=
  match a, b with
  | .nilIface, .nilIface => isConstO x || isConstO y
  | .agg _, .agg _ => !P.eqGuardType P.depth t
  | _, _ => true
def fullR (k : IntKind) : AV := .rng k k.min k.max
def fitR (k : IntKind) (lo hi : Int) : AV := if k.min ≤ lo ∧ hi ≤ k.max then .rng k lo hi else fullR k
def cmpR (t f : Bool) : AV := match t with
  | true => .bool true
  | false => match f with
    | true => .bool false
    | false => .boolU
def rngPair (a b : AV) : Option ((IntKind × Int × Int) × (IntKind × Int × Int)) :=
  match a, b with
  | .rng k l h, .rng j m n => some ((k, l, h), (j, m, n))
  | .rng k l h, .int j n => some ((k, l, h), (j, n, n))
  | .int k n, .rng j l h => some ((k, n, n), (j, l, h))
  | _, _ => none
def rngOp (op : BinOp) (k j : IntKind) (l1 h1 l2 h2 : Int) : Option AV :=
  match op with
  | .shl => if 0 ≤ l2 then some (fullR k) else none
  | .shr => if 0 ≤ l2 ∧ l2 = h2 then some (.rng k (l1.fdiv (2 ^ min l2.toNat k.bits)) (h1.fdiv (2 ^ min l2.toNat k.bits))) else none
  | op => if k = j then
    match op with
    | .add => some (fitR k (l1 + l2) (h1 + h2))
    | .sub => some (fitR k (l1 - h2) (h1 - l2))
    | .mul => some (if 0 ≤ l1 ∧ 0 ≤ l2 then fitR k (l1 * l2) (h1 * h2) else fullR k)
    | .and | .or | .xor | .andNot => some (fullR k)
    | .rem => if 0 ≤ l1 ∧ 0 < l2 ∧ l2 = h2 then some (.rng k 0 (l2 - 1)) else none
    | .lss => some (cmpR (decide (h1 < l2)) (decide (h2 ≤ l1)))
    | .leq => some (cmpR (decide (h1 ≤ l2)) (decide (h2 < l1)))
    | .gtr => some (cmpR (decide (h2 < l1)) (decide (h1 ≤ l2)))
    | .geq => some (cmpR (decide (h2 ≤ l1)) (decide (h1 < l2)))
    | .eql => some (cmpR (decide (l1 = h1 ∧ l2 = h2 ∧ l1 = l2)) (decide (h1 < l2 ∨ h2 < l1)))
    | .neq => some (cmpR (decide (h1 < l2 ∨ h2 < l1)) (decide (l1 = h1 ∧ l2 = h2 ∧ l1 = l2)))
    | _ => none
    else none
def isSy : AV → Bool
  | .sy _ _ => true
  | _ => false
def intTm : AV → Option (IntKind × Tm)
  | .int k n => some (k, .int n)
  | .sy (.int k) t => some (k, t)
  | _ => none
def strTm : AV → Option Tm
  | .str s => some (.str s)
  | .sy .str t => some t
  | _ => none
def boolTm : AV → Option Tm
  | .bool b => some (.bool b)
  | .sy .bool t => some t
  | _ => none
def symInt (nf : Tm → Tm) (op : BinOp) (k j : IntKind) (s t : Tm) : Option AV :=
  match op with
  | .shl | .shr => bif holdsT nf (.bin .leq .i64) [.int 0, t] then some (ofTm (.int k) (mkT nf (.shift op k) [s, t])) else none
  | .quo | .rem => bif k == j && holdsT nf (.bin .neq .i64) [t, .int 0] then some (ofTm (.int k) (mkT nf (.bin op k) [s, t])) else none
  | .add | .sub | .mul | .and | .or | .xor | .andNot => bif k == j then some (ofTm (.int k) (mkT nf (.bin op k) [s, t])) else none
  | .eql | .neq | .lss | .leq | .gtr | .geq => bif k == j then some (ofTm .bool (mkT nf (.bin op .i64) [s, t])) else none
def symStr (nf : Tm → Tm) (op : BinOp) (s t : Tm) : Option AV :=
  match op with
  | .add => bif holdsT nf .fits [s, t] then some (ofTm .str (mkT nf (.sbin .add) [s, t])) else none
  | .eql | .neq | .lss | .leq | .gtr | .geq => some (ofTm .bool (mkT nf (.sbin op) [s, t]))
  | _ => none
def symBin (nf : Tm → Tm) (op : BinOp) (t : TypeId) (a b : AV) : Option AV :=
  match intTm a, intTm b with
  | some (k, s), some (j, t) => symInt nf op k j s t
  | _, _ => match strTm a, strTm b with
    | some s, some t => symStr nf op s t
    | _, _ => match boolTm a, boolTm b with
      | some x, some y => match undT P t with
        | some .bool => match op with
          | .eql => some (ofTm .bool (mkT nf .ite [x, y, mkT nf .not [y]]))
          | .neq => some (ofTm .bool (mkT nf .ite [x, mkT nf .not [y], y]))
          | _ => none
        | _ => none
      | _, _ => none
def binOpA0 (nf : Tm → Tm) (H : AHeap) (op : BinOp) (t : TypeId) (x y : Operand) (a b : AV) : Option AV :=
  match isSy a || isSy b with
  | true => symBin P nf op t a b
  | false =>
  match rngPair a b with
  | some ((k, l1, h1), (j, l2, h2)) => rngOp op k j l1 h1 l2 h2
  | none =>
  match op, a, b with
  | .shl, .int k m, .int _ n | .shr, .int k m, .int _ n => shiftA op k m n
  | _, .int k m, .int j n => if k = j then intOpA op k m n else none
  | _, .str m, .str n => strOpA op m n
  | .eql, _, _ | .neq, _, _ =>
    if eqGuardA P t x y a b then match eqA P H 30 t a b with
      | some r => some (.bool (match op with | .eql => r | _ => !r))
      | none => none
    else none
  | _, _, _ => none
def eqS (nf : Tm → Tm) : Nat → TypeId → AV → AV → Option Bool
  | 0, _, _, _ => none
  | d + 1, t, x, y =>
    match undT P t with
    | some (.struct fs) => match x, y with
      | .agg xs, .agg ys => if P.stoodInHeld t then none else eqFieldsW P (eqS nf d) xs ys fs.toList
      | _, _ => none
    | some (.array len e) => match x, y with
      | .agg xs, .agg ys => match sizeT P e with
        | some n => eqElemsW P (eqS nf d e) xs ys e n len 0
        | none => none
      | _, _ => none
    | some (.int _) => match intTm x, intTm y with
      | some (k, s), some (j, u) => if k = j then (match mkT nf (.bin .eql .i64) [s, u] with
        | .bool b => some b
        | _ => none) else none
      | _, _ => none
    | some .string => match strTm x, strTm y with
      | some s, some u => match mkT nf (.sbin .eql) [s, u] with
        | .bool b => some b
        | _ => none
      | _, _ => none
    | some .bool => match boolTm x, boolTm y with
      | some s, some u => match mkT nf .ite [s, u, mkT nf .not [u]] with
        | .bool b => some b
        | _ => none
      | _, _ => none
    | _ => none
def aggEqA (nf : Tm → Tm) (op : BinOp) (t : TypeId) (x y : Operand) (a b : AV) : Option AV :=
  match a, b with
  | .agg _, .agg _ => match op with
    | .eql => if eqGuardA P t x y a b then (match eqS P nf 8 t a b with
      | some r => some (.bool r)
      | none => none) else none
    | .neq => if eqGuardA P t x y a b then (match eqS P nf 8 t a b with
      | some r => some (.bool !r)
      | none => none) else none
    | _ => none
  | _, _ => none
def binOpA (nf : Tm → Tm) (H : AHeap) (op : BinOp) (t : TypeId) (x y : Operand) (a b : AV) : Option AV :=
  match binOpA0 P nf H op t x y a b with
  | some r => some r
  | none => aggEqA P nf op t x y a b
def unOpA (nf : Tm → Tm) (op : UnOp) (x : AV) : Option AV :=
  match op, x with
  | .neg, .sy (.int k) t => some (ofTm (.int k) (mkT nf (.bin .sub k) [.int 0, t]))
  | .xor, .sy (.int k) t => some (ofTm (.int k) (mkT nf (.bin .xor k) [.int (if k.signed then -1 else k.max), t]))
  | .not, .sy .bool t => some (ofTm .bool (mkT nf .not [t]))
  | .neg, .int k n => some (.int k (k.wrap (0 - n)))
  | .xor, .int k n => intOpA .xor k (if k.signed then -1 else k.max) n
  | .not, .bool b => some (.bool !b)
  | .not, .boolU => some .boolU
  | _, _ => none
def bytesOfCells : List AV → Option (List Nat)
  | [] => some []
  | .int .u8 n :: r => (bytesOfCells r).map (n.toNat :: ·)
  | _ => none
def sliceStrA (H : AHeap) (x : AV) : Option BS :=
  match x with
  | .nilSlice => some ⟨0, 0⟩
  | .slice b off len _ => ((loadN H b off len).bind bytesOfCells).map BS.ofNats
  | _ => none
def byteTm : AV → Option Tm
  | .int .u8 n => some (.int n)
  | .sy (.int .u8) t => some t
  | _ => none
def byteTms : List AV → Option (List Tm)
  | [] => some []
  | x :: r => match byteTm x with
    | some t => match byteTms r with
      | some l => some (t :: l)
      | none => none
    | none => none
def sliceTmA (H : AHeap) (x : AV) : Option (List Tm) :=
  match x with
  | .slice b off len _ => match loadN H b off len with
    | some l => byteTms l
    | none => none
  | _ => none
def byteLike : AV → Bool
  | .int .u8 _ | .rng .u8 _ _ | .junk => true
  | _ => false
def sliceLenA (H : AHeap) (x : AV) : Option Nat :=
  match x with
  | .slice b off len _ => match loadN H b off len with
    | some l => if l.all byteLike then some len else none
    | none => none
  | _ => none
def boundA (x : AV) (y : Nat) : Option Nat :=
  match x with
  | .int _ i => if 0 ≤ i ∧ i ≤ (y : Int) then some i.toNat else none
  | _ => none
def optBound (x : Option AV) (y d : Nat) : Option Nat :=
  match x with
  | some v => boundA v y
  | none => some d
def bounds3 (cap len : Nat) (lo hi mx : Option AV) : Option (Nat × Nat × Nat) :=
  if mx.isSome && hi.isNone then none else
  match optBound mx cap cap with
  | some m => match optBound hi m len with
    | some h => match optBound lo h 0 with
      | some l => some (l, h, m)
      | none => none
    | none => none
  | none => none
def sliceArr (b off n : Nat) (e : TypeId) (lo hi mx : Option AV) : Option AV :=
  match sizeT P e, bounds3 n n lo hi mx with
  | some s, some (l, h, m) => some (.slice b (if m = l then off else off + l * s) (h - l) (.exact (m - l)))
  | _, _ => none
def bndTm (v : Option AV) (d : Tm) : Option Tm :=
  match v with
  | none => some d
  | some v => (intTm v).map (·.2)
def symBounds (nf : Tm → Tm) (lo hi mx : Option AV) (n : Tm) : Option (Tm × Tm) :=
  match mx with
  | some _ => none
  | none => match bndTm lo (.int 0), bndTm hi n with
    | some l, some h =>
      bif holdsT nf (.bin .leq .i64) [.int 0, l] && holdsT nf (.bin .leq .i64) [l, h] && (Tm.beq h n || holdsT nf (.bin .leq .i64) [h, n]) then some (l, h) else none
    | _, _ => none
def anySy (lo hi : Option AV) : Bool :=
  match lo with
  | some (.sy _ _) => true
  | _ => match hi with
    | some (.sy _ _) => true
    | _ => false
def subL (nf : Tm → Tm) (c l h : Tm) : Tm :=
  match l with
  | .int 0 => bif Tm.beq h (mkT nf .len [c]) then c else mkT nf .sub [c, l, h]
  | _ => mkT nf .sub [c, l, h]
def symSlice (nf : Tm → Tm) (x : AV) (lo hi mx : Option AV) : Option AV :=
  match x with
  | .sy .str s => (symBounds nf lo hi mx (mkT nf .slen [s])).map fun (l, h) => ofTm .str (mkT nf .ssub [s, l, h])
  | .str s => (symBounds nf lo hi mx (mkT nf .slen [.str s])).map fun (l, h) => ofTm .str (mkT nf .ssub [.str s, l, h])
  | .sy (.isl ks) c => (symBounds nf lo hi mx (mkT nf .len [c])).map fun (l, h) => .sy (.isl ks) (subL nf c l h)
  | .lsl b es lo0 n cm => (symBounds nf lo hi mx n).map fun (l, h) =>
    match l with
    | .int 0 => .lsl b es lo0 h cm
    | _ => .lsl b es (addT nf lo0 l) (subT nf h l) .rd
  | _ => none
def symLike (x : AV) (lo hi : Option AV) : Bool :=
  match x with
  | .sy _ _ => true
  | .lsl .. => true
  | .str _ => anySy lo hi
  | _ => false
def sliceA (nf : Tm → Tm) (H : AHeap) (t : TypeId) (x : AV) (lo hi mx : Option AV) : Option AV :=
  match symLike x lo hi with
  | true => match undT P t with
    | some .string => match x with
      | .lsl .. => none
      | .sy (.isl _) _ => none
      | x => symSlice nf x lo hi mx
    | some (.slice e) => match x with
      | .lsl _ es _ _ _ => if sizeT P e = some es then symSlice nf x lo hi mx else none
      | .sy (.isl ks) _ => if sizeT P e = some ks.length then symSlice nf x lo hi mx else none
      | _ => none
    | _ => none
  | false =>
  match undT P t, x with
  | some .string, .str s => if mx.isSome then none else
    match bounds3 s.len s.len lo hi none with
    | some (l, h, _) => some (.str (s.cut l h))
    | none => none
  | some (.slice e), .nilSlice =>
    match sizeT P e, bounds3 0 0 lo hi mx with
    | some _, some _ => some .nilSlice
    | _, _ => none
  | some (.slice e), .slice b off len (.exact k) =>
    match sizeT P e, bounds3 k len lo hi mx with
    | some n, some (l, h, m) => some (.slice b (if m = l then off else off + l * n) (h - l) (.exact (m - l)))
    | _, _ => none
  -- of an open one as far as its row's cells are known
  | some (.slice e), .slice b off len (.opn es) =>
    match sizeT P e, rowOf H b with
    | some n, some (cells, _, _) =>
      if es = n ∧ off ≤ cells.length then
        match bounds3 ((cells.length - off) / n) len lo hi mx with
        | some (l, h, m) =>
          if mx.isSome then some (.slice b (if m = l then off else off + l * n) (h - l) (.exact (m - l)))
          else if l < m then some (.slice b (off + l * n) (h - l) (.opn es)) else if l = 0 then some (.slice b off (h - l) (.opn es)) else if h = l then some .esl else none
        | none => none
      else none
    | _, _ => none
  | some (.pointer arr), .ptr b off =>
    match undT P arr with
    | some (.array n e) => sliceArr P b off n e lo hi mx
    | _ => none
  | some (.array n e), .ptr b off => sliceArr P b off n e lo hi mx
  | _, _ => none
def convertA (nf : Tm → Tm) (H : AHeap) (src dst : TypeId) (x : AV) : Option AV :=
  match undT P src, undT P dst, x with
  | some _, some (.int k), .sy (.int _) t => some (ofTm (.int k) (mkT nf (.conv k) [t]))
  | some _, some .string, .sy .str t => some (.sy .str t)
  | some _, some (.int k), .int _ n => some (.int k (k.wrap n))
  | some _, some (.int k), .rng _ lo hi => some (fitR k lo hi)
  | some _, some .string, .str s => some (.str s)
  | some (.slice e), some .string, x =>
    match undT P e with
    | some (.int .u8) => match sliceStrA H x with
      | some s => some (.str s)
      | none => match sliceTmA H x with
        | some m => some (ofTm .str (textOf m))
        | none => (sliceLenA H x).map .strU
    | _ => none
  | some (.pointer _), some .unsafePointer, .nilPtr | some .unsafePointer, some (.pointer _), .nilPtr => some .nilPtr
  | some (.pointer t), some .unsafePointer, .ptr b off =>
    match sizeT P t, rowOf H b with
    | some n, some (c, _, k) => if decide (n ≠ 0) && decide (off < c.length) && (k == .solid) then some (.ptr b off) else none
    | _, _ => none
  | some .unsafePointer, some (.pointer u), .ptr b off =>
    match sizeT P u, rowOf H b with
    | some n, some (c, e, k) => if decide (n ≠ 0) && (k == .solid) && liesAt P P.depth e (c.length / P.cellsOf e) off u 1 then some (.ptr b off) else none
    | _, _ => none
  | _, _, _ => none
def derefA (nf : Tm → Tm) (v : AV) : AV :=
  match v with
  | .sy (.ref ks) t => match inRangeT nf (.int 0) (mkT nf .len [t]) with
    | true => .iptr ks t (.int 0) 0
    | false => .sy (.ref ks) t
  | v => v
def fieldAddrA (s : TypeId) (x : AV) (i' : Nat) : Option AV :=
  match undT P s, x with
  | some (.struct fs), .ptr b off =>
    match fs[i']? with
    | some f => match sizeT P f.type with
      | some n => if n = 0 then none else some (.ptr b (off + f.offset))
      | none => none
    | none => none
  | some (.struct fs), .eptr b es i j =>
    match fs[i']? with
    | some f => match sizeT P f.type with
      | some n => if n = 0 then none else some (.eptr b es i (j + f.offset))
      | none => none
    | none => none
  | some (.struct fs), .iptr ks c i j =>
    match fs[i']? with
    | some f => match sizeT P f.type with
      | some n => if n = 0 then none else some (.iptr ks c i (j + f.offset))
      | none => none
    | none => none
  | _, _ => none
def fieldA (s : TypeId) (x : AV) (i : Nat) : Option AV :=
  match undT P s, x with
  | some (.struct fs), .agg cs =>
    match fs[i]? with
    | some f => partA P f.type cs f.offset
    | none => none
  | _, _ => none
def indexAddrA (nf : Tm → Tm) (t : TypeId) (x ix : AV) : Option AV :=
  match ix, undT P t, x with
  | ix, some (.slice e), .lsl b es lo n _ =>
    match intTm ix with
    | some (_, i) => if sizeT P e = some es ∧ inRangeT nf i n = true then some (.eptr b es (addT nf lo i) 0) else none
    | none => none
  | ix, some (.slice e), .sy (.isl ks) c =>
    match intTm ix with
    | some (_, i) => if sizeT P e = some ks.length ∧ inRangeT nf i (mkT nf .len [c]) = true then some (.iptr ks c i 0) else none
    | none => none
  | .sy (.int _) i, some (.slice e), .slice b off len _ =>
    match sizeT P e with
    | some n => if n ≠ 0 ∧ off % n = 0 ∧ inRangeT nf i (.int (len : Int)) = true then some (.eptr b n (addT nf (.int ((off / n : Nat) : Int)) i) 0) else none
    | none => none
  | .int _ i, some (.array len e), .ptr b off =>
    match sizeT P e with
    | some n => if 0 ≤ i ∧ i < (len : Int) then some (.ptr b (off + i.toNat * n)) else none
    | none => none
  | .int _ i, some (.slice e), .slice b off len _ =>
    match sizeT P e with
    | some n => if 0 ≤ i ∧ i < (len : Int) then some (.ptr b (off + i.toNat * n)) else none
    | none => none
  | _, _, _ => none
def indexA (nf : Tm → Tm) (t : TypeId) (x ix : AV) : Option AV :=
  match ix, undT P t, x with
  | ix, some .string, .sy .str s =>
    match intTm ix with
    | some (_, i) => if inRangeT nf i (mkT nf .slen [s]) = true then some (ofTm (.int .u8) (mkT nf .sget [s, i])) else none
    | none => none
  | .sy (.int _) i, some .string, .str s => if inRangeT nf i (mkT nf .slen [.str s]) = true then some (ofTm (.int .u8) (mkT nf .sget [.str s, i])) else none
  | .int _ i, some (.array len e), .agg cs =>
    match sizeT P e with
    | some n => if 0 ≤ i ∧ i < (len : Int) then partA P e cs (i.toNat * n) else none
    | none => none
  | .int _ i, some .string, .str s => if 0 ≤ i ∧ i < (s.len : Int) then some (.int .u8 (s.get i.toNat)) else none
  | .int _ i, some .string, .strU n => if 0 ≤ i ∧ i < (n : Int) then some (.rng .u8 0 255) else none
  | _, _, _ => none
def makeSliceA (t : TypeId) (l c : AV) : Option (TypeId × List AV × Nat × Nat) :=
  match undT P t, l, c with
  | some (.slice e), .int _ l, .int _ c =>
    match sizeT P e, zeroT P e, bytesT P e with
    | some n, some z, some by8 => if 0 ≤ l ∧ l ≤ c ∧ c * by8 ≤ 2 ^ 40 ∧ c ≤ 2 ^ 40 then
        if z.cells.length = n ∧ n ≠ 0 then some (e, repeatL z.cells c.toNat, l.toNat, c.toNat) else none
      else none
    | _, _, _ => none
  | _, _, _ => none
def plainKey : Nat → AV → Bool
  | 0, _ => false
  | _ + 1, .bool _ | _ + 1, .int _ _ | _ + 1, .str _ => true
  | d + 1, .agg l => l.all (plainKey d)
  | _ + 1, _ => false
def keyEqA (H : AHeap) (kt : TypeId) (a b : AV) : Option Bool :=
  match undT P kt, a, b with
  | some (.int _), .int k m, .int j n => if k = j then some (m == n) else none
  | some .string, .str m, .str n => some (m.eq n)
  | some .bool, .bool m, .bool n => some (m == n)
  | some (.struct _), .agg m, .agg n => eqA P H 30 kt (.agg m) (.agg n)
  | _, _, _ => none
def findA (eq : AV → AV → Option Bool) : List AEnt → AV → Nat → Option (Option (Nat × AV))
  | [], _, _ => some none
  | e :: r, k, i => match eq k e.key with
    | some true => if AV.beq e.key k then some (some (i, e.val)) else none
    | some false => findA eq r k (i + 1)
    | none => none
def scalarT (t : TypeId) : Bool :=
  match undT P t with
  | some (.int _) | some .string | some .bool => true
  | _ => false
def keyOk (t : TypeId) (k : AV) : Bool :=
  plainKey 3 k && match undT P t, k with
  | some (.struct fs), .agg l => fs.toList.all fun f => scalarT P f.type && (partA P f.type l f.offset).isSome
  | _, _ => scalarT P t
def mapOf (H : AHeap) (b : Nat) : Option (List AEnt × Nat) :=
  match H.get b with
  | some (.map es c) => some (es, c)
  | _ => none
def lmapOf (H : AHeap) (b : Nat) : Option (CK × CK × Tm) :=
  match H.get b with
  | some (.lmap kk vk t) => some (kk, vk, t)
  | _ => none
def kindT (t : TypeId) (k : CK) : Bool :=
  match undT P t, k with
  | some (.int k), .int j => k == j
  | some .string, .str => true
  | some .bool, .bool => true
  | _, _ => false
def lmapAt (H : AHeap) (t : TypeId) (x k : AV) : Option (Nat × CK × CK × Tm × Tm × TypeId) :=
  match x with
  | .map b => match lmapOf H b with
    | some (kk, vk, c) => match undT P t with
      | some (.map kt e) => match kindT P kt kk && kindT P e vk with
        | true => match tmOf kk k with
          | some tk => some (b, kk, vk, c, tk, e)
          | none => none
        | false => none
      | _ => none
    | none => none
  | _ => none
def lookupL (nf : Tm → Tm) (H : AHeap) (t : TypeId) (x ix : AV) (ok : Bool) : Option AV :=
  match lmapAt P H t x ix with
  | some (_, _, vk, c, tk, e) =>
    match mkT nf (.bin .leq .i64) [.int 0, mkT nf .mfind [c, tk]] with
    | .bool true => some (if ok then .tuple [ofTm vk (mkT nf (.fld 1) [mkT nf .nth [c, mkT nf .mfind [c, tk]]]), .bool true] else ofTm vk (mkT nf (.fld 1) [mkT nf .nth [c, mkT nf .mfind [c, tk]]]))
    | .bool false => (zeroT P e).map fun z => if ok then .tuple [z, .bool false] else z
    | _ => none
  | none => none
def mapUpdateL (nf : Tm → Tm) (H : AHeap) (t : TypeId) (x k v : AV) : Option AHeap :=
  match lmapAt P H t x k with
  | some (b, kk, vk, c, tk, _) => match tmOf vk v with
    | some tv => match mkT nf (.bin .leq .i64) [.int 0, mkT nf .mfind [c, tk]] with
      | .bool true => some (H.set b (.lmap kk vk (mkT nf .set [c, mkT nf .mfind [c, tk], mkT nf (.setf 1) [mkT nf .nth [c, mkT nf .mfind [c, tk]], tv]])))
      | .bool false => some (H.set b (.lmap kk vk (mkT nf .cat [c, .op .mk [.op .mk [tk, tv]]])))
      | _ => none
    | none => none
  | none => none
def mapEntryL (nf : Tm → Tm) (H : AHeap) (t : TypeId) (x k : AV) : Option (AV × AHeap) :=
  match lmapAt P H t x k with
  | some (b, kk, vk, c, tk, e) => match mkT nf (.bin .leq .i64) [.int 0, mkT nf .mfind [c, tk]] with
    | .bool true => some (.tuple [ofTm vk (mkT nf (.fld 1) [mkT nf .nth [c, mkT nf .mfind [c, tk]]]), ofTm (.int .i64) (mkT nf .mfind [c, tk])], H)
    | .bool false => match zeroT P e with
      | some z => match tmOf vk z with
        | some tz => some (.tuple [z, ofTm (.int .i64) (mkT nf .len [c])], H.set b (.lmap kk vk (mkT nf .cat [c, .op .mk [.op .mk [tk, tz]]])))
        | none => none
      | none => none
    | _ => none
  | none => none
def entryStoreL (nf : Tm → Tm) (H : AHeap) (x st v : AV) : Option AHeap :=
  match x with
  | .map b => match lmapOf H b with
    | some (kk, vk, c) => match intTm st, tmOf vk v with
      | some (_, i), some tv => match inRangeT nf i (mkT nf .len [c]) with
        | true => some (H.set b (.lmap kk vk (mkT nf .set [c, i, mkT nf (.setf 1) [mkT nf .nth [c, i], tv]])))
        | false => none
      | _, _ => none
    | none => none
  | _ => none
def lookupA (H : AHeap) (t : TypeId) (x ix : AV) (ok : Bool) : Option AV :=
  match undT P t with
  | some (.map k e) => if !keyOk P k ix then none else
    match (match x with | .nilMap => some [] | .map b => (mapOf H b).map (·.1) | _ => none) with
    | some es => match findA (keyEqA P H k) es ix 0 with
      | some (some (_, v)) => some (if ok then .tuple [v, .bool true] else v)
      | some none => (zeroT P e).map fun z => if ok then .tuple [z, .bool false] else z
      | none => none
    | none => none
  | _ => none
def absentA (nf : Tm → Tm) (d : TypeDesc) (ix : AV) (es : List AEnt) : Bool :=
  match d, ix with
  | .int _, .sy (.int k) s => es.all fun e => match e.key with
    | .int j n => decide (k = j) && (match mkT nf (.bin .eql .i64) [s, .int n] with | .bool false => true | _ => false)
    | _ => false
  | .string, .sy .str s => es.all fun e => match e.key with
    | .str n => (match mkT nf (.sbin .eql) [s, .str n] with | .bool false => true | _ => false)
    | _ => false
  | _, _ => false
def lookupS (nf : Tm → Tm) (H : AHeap) (t : TypeId) (x ix : AV) (ok : Bool) : Option AV :=
  match undT P t with
  | some (.map k e) => match undT P k, (match x with | .nilMap => some [] | .map b => (mapOf H b).map (·.1) | _ => none) with
    | some d, some es => match absentA nf d ix es with
      | true => (zeroT P e).map fun z => if ok then .tuple [z, .bool false] else z
      | false => none
    | _, _ => none
  | _ => none
def setVal : List AEnt → Nat → AV → List AEnt
  | [], _, _ => []
  | e :: r, 0, v => { e with val := v } :: r
  | e :: r, n + 1, v => e :: setVal r n v
def mapUpdateA (H : AHeap) (t : TypeId) (x k v : AV) : Option AHeap :=
  match undT P t, x with
  | some (.map kt _), .map b => if !keyOk P kt k then none else
    match mapOf H b with
    | some (es, clock) => match findA (keyEqA P H kt) es k 0 with
      | some (some (i, _)) => some (H.set b (.map (setVal es i v) clock))
      | some none => some (H.set b (.map (es ++ [⟨k, v, clock⟩]) (clock + 1)))
      | none => none
    | none => none
  | _, _ => none
def mapEntryA (H : AHeap) (t : TypeId) (x k : AV) : Option (AV × AHeap) :=
  match undT P t, x with
  | some (.map kt e), .map b => if !keyOk P kt k then none else
    match mapOf H b with
    | some (es, clock) => match findA (keyEqA P H kt) es k 0 with
      | none => none
      | some (some (i, v)) => match es[i]? with
        | some en => some (.tuple [v, .int .i64 en.born], H)
        | none => none
      | some none => match zeroT P e with
        | some z => some (.tuple [z, .int .i64 clock], H.set b (.map (es ++ [⟨k, z, clock⟩]) (clock + 1)))
        | none => none
    | none => none
  | _, _ => none
def findBorn : List AEnt → Int → Nat → Option Nat
  | [], _, _ => none
  | e :: r, n, i => if (e.born : Int) == n then some i else findBorn r n (i + 1)
def entryStoreA (H : AHeap) (x st v : AV) : Option AHeap :=
  match x, st with
  | .map b, .int _ n =>
    match mapOf H b with
    | some (es, clock) => match findBorn es n 0 with
      | some i => some (H.set b (.map (setVal es i v) clock))
      | none => none
    | none => none
  | _, _ => none
def delAt : List AEnt → Nat → List AEnt
  | [], _ => []
  | _ :: r, 0 => r
  | e :: r, n + 1 => e :: delAt r n
def deleteA (H : AHeap) (t : TypeId) (x k : AV) : Option AHeap :=
  match undT P t, x with
  | some (.map kt _), .nilMap => if keyOk P kt k then some H else none
  | some (.map kt _), .map b => if !keyOk P kt k then none else
    match mapOf H b with
    | some (es, clock) => match findA (keyEqA P H kt) es k 0 with
      | some (some (i, _)) => some (H.set b (.map (delAt es i) clock))
      | some none => some H
      | none => none
    | none => none
  | _, _ => none
def typeAssertA (x : AV) (asserted : TypeId) (ok : Bool) : Option AV :=
  match undT P asserted, x with
  | some (.interface _), _ => none
  | some _, .nilIface => if ok then (zeroT P asserted).map fun z => .tuple [z, .bool false] else none
  | some _, .iface t v => if t = asserted then some (if ok then .tuple [v, .bool true] else v)
    else if ok then (zeroT P asserted).map fun z => .tuple [z, .bool false] else none
  | _, _ => none
def fnA (f : Fn) : Option AFn :=
  match f with
  | .func f => some (.func f)
  | .method n => some (.method n)
  | .methodOf t n => some (.methodOf t n)
  | .via t p f b => some (.via t p f b)
  | .yield _ => none
def lenA (nf : Tm → Tm) (H : AHeap) (t : TypeId) (x : AV) : Option AV :=
  match undT P t, x with
  | some .string, .sy .str s => some (ofTm (.int .i64) (mkT nf .slen [s]))
  | some (.slice _), .sy (.isl _) c => some (ofTm (.int .i64) (mkT nf .len [c]))
  | some (.slice _), .lsl _ _ _ n _ => some (ofTm (.int .i64) n)
  | some .string, .str s => some (.int .i64 s.len)
  | some .string, .strU n => some (.int .i64 n)
  | some (.array n _), _ => some (.int .i64 n)
  | some (.pointer arr), _ => match undT P arr with
    | some (.array n _) => some (.int .i64 n)
    | _ => none
  | some (.slice _), .nilSlice => some (.int .i64 0)
  | some (.slice _), .esl => some (.int .i64 0)
  | some (.slice _), .slice _ _ n _ => some (.int .i64 n)
  | some (.map _ _), .nilMap => some (.int .i64 0)
  | some (.map _ _), .map b => match mapOf H b with
    | some (es, _) => some (.int .i64 es.length)
    | none => match lmapOf H b with
      | some (_, _, c) => some (ofTm (.int .i64) (mkT nf .len [c]))
      | none => none
  | _, _ => none
def capA (t : TypeId) (x : AV) : Option AV :=
  match undT P t, x with
  | some (.slice _), .nilSlice => some (.int .i64 0)
  | some (.slice _), .slice _ _ _ (.exact c) => some (.int .i64 c)
  | some (.array n _), _ => some (.int .i64 n)
  | _, _ => none
def holeCells (s : BS) (ps : List Nat) (ts : List Tm) : List AV :=
  patch ps (ts.map fun t => ofTm (.int .u8) (byteT1 t)) ((s.nats s.len).map fun (c : Nat) => .int .u8 (c : Int))
def srcCells (H : AHeap) (n size : Nat) : AV → Option (List AV)
  | .nilSlice => if n = 0 then some [] else none
  | .esl => if n = 0 then some [] else none
  | .slice b off _ _ => if n = 0 then some [] else loadN H b off (n * size)
  | .str s => if size = 1 ∨ n = 0 then some ((s.nats s.len).take n |>.map fun (c : Nat) => .int .u8 (c : Int)) else none
  | .sy .str t => match holeOf t with
    | some (s, ps, ts) => if size = 1 ∨ n = 0 then some ((holeCells s ps ts).take n) else none
    | none => none
  | _ => none
def srcLen : AV → Option Nat
  | .nilSlice => some 0
  | .esl => some 0
  | .slice _ _ n _ => some n
  | .str s => some s.len
  | .sy .str t => match holeOf t with
    | some (s, _, _) => some s.len
    | none => none
  | _ => none
def appendTo (H : AHeap) (e : TypeId) (b off len n size : Nat) (cap : SCap) (new : List AV) : Option (AV × AHeap) :=
  match cap with
  | .exact c =>
    if len + n ≤ c then (storeN H b (off + len * size) new).map fun H' => (.slice b off (len + n) cap, H') else
      match loadN H b off (len * size) with
      | some old => some (.slice H.next 0 (len + n) (.opn size), H.new (.row (old ++ new) e (.buf 0 false)))
      | none => none
  | .opn es =>
    if es = size then
      match rowOf H b with
      | some (cells, e', .buf fz sish) =>
        if off + (len + n) * size ≤ cells.length then (storeN H b (off + len * size) new).map fun H' => (.slice b off (len + n) cap, H')
        else if off + len * size = cells.length ∧ fz ≤ cells.length ∧ new.all (·.one) = true ∧ e = e' then
          match takeN (len * size) (cells.drop off) with
          | some old => some (.slice H.next 0 (len + n) (.opn size), (H.kill b).new (.row (old ++ new) e (.buf (fz - off) sish)))
          | none => none
        else none
      | _ => none
    else none
def appendCells (H : AHeap) (e : TypeId) (size by8 n : Nat) (new : List AV) (s : AV) : Option (AV × AHeap) :=
  match s with
  | .nilSlice => if n * by8 ≤ 2 ^ 40 ∧ n ≤ 2 ^ 40 then some (.slice H.next 0 n (.opn size), H.new (.row new e (.buf 0 false))) else none
  | .slice b off len cap =>
    if (len + n) * by8 ≤ 2 ^ 40 ∧ len + n ≤ 2 ^ 40 then appendTo H e b off len n size cap new else none
  | _ => none
def ckOf : AV → Option CK
  | .int k _ => some (.int k)
  | .bool _ => some .bool
  | .str _ => some .str
  | _ => none
def cksOf : List AV → Option (List CK)
  | [] => some []
  | v :: r => match ckOf v with
    | some k => match cksOf r with
      | some l => some (k :: l)
      | none => none
    | none => none
def eltMk (ks : List CK) (x : List Tm) : Tm :=
  match ks, x with
  | [_], [y] => y
  | _, x => .op .mk x
def eltsOf (ks : List CK) : Nat → List AV → Option (List Tm)
  | 0, [] => some []
  | n + 1, l => match tmsOf ks (l.take ks.length) with
    | some x => match eltsOf ks n (l.drop ks.length) with
      | some r => some (eltMk ks x :: r)
      | none => none
    | none => none
  | _, _ => none
def srcTm (nf : Tm → Tm) (H : AHeap) (ks : List CK) (x : AV) : Option (Tm × Tm) :=
  match x with
  | .nilSlice => some (.op .mk [], .int 0)
  | .esl => some (.op .mk [], .int 0)
  | .sy (.isl ks') c => bif CK.beqs ks ks' then some (c, mkT nf .len [c]) else none
  | .lsl b es lo n _ => match lrowOf H b with
    | some (ks', c, _, _) => bif CK.beqs ks ks' && es.beq ks.length && holdsT nf (.bin .leq .i64) [addT nf lo n, mkT nf .len [c]] then some (subL nf c lo (addT nf lo n), n) else none
    | none => none
  | .slice b off n _ => match loadN H b off (n * ks.length) with
    | some l => (eltsOf ks n l).map fun r => (.op .mk r, .int n)
    | none => none
  | .sy .str s => bif CK.beqs ks [.int .u8] then some (mkT nf .bytes [s], mkT nf .slen [s]) else none
  | .str s => bif CK.beqs ks [.int .u8] then some (.op .mk ((s.nats s.len).map fun (n : Nat) => .int n), .int s.len) else none
  | _ => none
def catT (nf : Tm → Tm) (a b : Tm) : Tm :=
  match a with
  | .op .mk [] => b
  | _ => match b with
    | .op .mk [] => a
    | _ => mkT nf .cat [a, b]
def symApp (x : AV) : Bool :=
  match x with
  | .lsl .. => true
  | .sy .str t => (holeOf t).isNone
  | .sy _ _ => true
  | _ => false
def symAppend (nf : Tm → Tm) (H : AHeap) (e : TypeId) (ks : List CK) (s x : AV) : Option (AV × AHeap) :=
  match srcTm nf H ks x with
  | none => none
  | some (xs, n) =>
    match s with
    | .nilSlice => bif holdsT nf .small [n] then some (.lsl H.next ks.length (.int 0) n .opn, H.new (.lrow ks xs e (.buf 0 false))) else none
    | .lsl b es lo m .opn => match lrowOf H b with
      | some (ks', c, e', .buf 0 sish) =>
        bif CK.beqs ks ks' && es.beq ks.length && e.beq e' && holdsT nf (.bin .leq .i64) [addT nf lo m, mkT nf .len [c]] && holdsT nf .small [addT nf m n]
        then some (.lsl H.next es (.int 0) (addT nf m n) .opn, (H.kill b).new (.lrow ks (catT nf (subL nf c lo (addT nf lo m)) xs) e (.buf 0 sish)))
        else none
      | _ => none
    | _ => none
def cksFor (kinds : TypeId → Option (List CK)) (e : TypeId) (z : List AV) : Option (List CK) :=
  match kinds e with
  | some ks => some ks
  | none => cksOf z
def zeroEltA (kinds : TypeId → Option (List CK)) (e : TypeId) : Option (List CK × Tm) :=
  match zeroT P e, sizeT P e, bytesT P e with
  | some z, some size, some by8 => match cksFor kinds e z.cells with
    | some ks => match tmsOf ks z.cells with
      | some ts => bif size.beq ks.length && !size.beq 0 && by8.ble 1024 then some (ks, eltMk ks ts) else none
      | none => none
    | none => none
  | _, _, _ => none
def symMakeA (nf : Tm → Tm) (kinds : TypeId → Option (List CK)) (H : AHeap) (t : TypeId) (l c : AV) : Option (AV × AHeap) :=
  match undT P t, tmOf (.int .i64) l, tmOf (.int .i64) c with
  | some (.slice e), some tl, some tc => match zeroEltA P kinds e with
    | some (ks, z) => bif holdsT nf .small [tc] && holdsT nf (.bin .leq .i64) [.int 0, tl] && holdsT nf (.bin .leq .i64) [tl, tc]
      then some (.lsl H.next ks.length (.int 0) tl .opn, H.new (.lrow ks (mkT nf .rep [tc, z]) e (.buf 0 false))) else none
    | none => none
  | _, _, _ => none
def symZerosA (nf : Tm → Tm) (kinds : TypeId → Option (List CK)) (H : AHeap) (t : TypeId) (x : AV) : Option (AV × AHeap) :=
  match undT P t, x with
  | some (.slice e), .sy (.int .i64) n => match zeroEltA P kinds e with
    | some (ks, z) => bif holdsT nf .small [n] then some (.lsl H.next ks.length (.int 0) n .opn, H.new (.lrow ks (mkT nf .rep [n, z]) e (.buf 0 false))) else none
    | none => none
  | _, _ => none
def appendA (nf : Tm → Tm) (kinds : TypeId → Option (List CK)) (H : AHeap) (t : TypeId) (s x : AV) : Option (AV × AHeap) :=
  match undT P t with
  | some (.slice e) =>
    match symApp s || symApp x with
    | true => match zeroT P e, sizeT P e, bytesT P e with
      | some z, some size, some by8 => match cksFor kinds e z.cells with
        | some ks => if size = ks.length ∧ size ≠ 0 ∧ by8 ≤ 1024 ∧ z.cells.length = ks.length then symAppend nf H e ks s x else none
        | none => none
      | _, _, _ => none
    | false =>
    match sizeT P e, bytesT P e, srcLen x with
    | some size, some by8, some n =>
      if size = 0 ∨ (zeroT P e).map (·.cells.length) ≠ some size then none else
      if n = 0 then (match s with | .nilSlice => some (s, H) | .slice .. => some (s, H) | _ => none) else
      match srcCells H n size x with
      | none => none
      | some new => appendCells H e size by8 n new s
    | _, _, _ => none
  | _ => none
def appendZerosA (H : AHeap) (t : TypeId) (s x : AV) : Option (AV × AHeap) :=
  match undT P t with
  | some (.slice e) =>
    match sizeT P e, bytesT P e, zeroT P e, x with
    | some size, some by8, some z, .int .i64 (.ofNat n) =>
      if size = 0 ∨ z.cells.length ≠ size then none else
      if n = 0 then (match s with | .nilSlice => some (s, H) | .slice .. => some (s, H) | _ => none) else
      appendCells H e size by8 n (repeatL z.cells n) s
    | _, _, _, _ => none
  | _ => none
def clearA (H : AHeap) (t : TypeId) (x : AV) : Option (AV × AHeap) :=
  match undT P t, x with
  | some _, .nilSlice => some (undefA, H)
  | some (.slice e), .slice b off len _ =>
    if len = 0 then some (undefA, H) else
    match zeroT P e with
    | some z => if z.cells.length = 0 then none else (storeN H b off (repeatL z.cells len)).map (undefA, ·)
    | none => none
  | _, _ => none
def copyA (H : AHeap) (t : TypeId) (d x : AV) : Option (AV × AHeap) :=
  match undT P t with
  | some (.slice e) =>
   match d, x with
   | .lsl .., .nilSlice => match sizeT P e with
     | some _ => some (.int .i64 0, H)
     | none => none
   | d, x =>
    match sizeT P e, srcLen x, srcLen d with
    | some size, some n, some m =>
      if size = 0 then none else
      let k := min n m
      match srcCells H k size x with
      | none => none
      | some cells =>
        match d with
        | .nilSlice => some (.int .i64 k, H)
        | .slice b off _ _ => (storeN H b off cells).map fun H' => (.int .i64 k, H')
        | _ => none
    | _, _, _ => none
  | _ => none
def minA (l : List AV) : Option AV :=
  match l with
  | .int k x :: r => (r.foldl (fun a y => match a, y with | some a, .int _ y => some (if y < a then y else a) | _, _ => none) (some x)).map (.int k)
  | _ => none
def maxA (l : List AV) : Option AV :=
  match l with
  | .int k x :: r => (r.foldl (fun a y => match a, y with | some a, .int _ y => some (if y > a then y else a) | _, _ => none) (some x)).map (.int k)
  | _ => none
def iteT (nf : Tm → Tm) (c x y : Tm) : Tm :=
  match c with
  | .bool true => x
  | .bool false => y
  | c => mkT nf .ite [c, x, y]
def minS (nf : Tm → Tm) (l : List AV) : Option AV :=
  match l with
  | [a, b] => match intTm a, intTm b with
    | some (k, s), some (j, t) => if k = j then some (ofTm (.int k) (iteT nf (mkT nf (.bin .lss .i64) [t, s]) t s)) else none
    | _, _ => none
  | _ => none
def maxS (nf : Tm → Tm) (l : List AV) : Option AV :=
  match l with
  | [a, b] => match intTm a, intTm b with
    | some (k, s), some (j, t) => if k = j then some (ofTm (.int k) (iteT nf (mkT nf (.bin .gtr .i64) [t, s]) t s)) else none
    | _, _ => none
  | _ => none
def byteT (e : TypeId) : Bool :=
  match undT P e, sizeT P e with
  | some (.int .u8), some 1 => true
  | _, _ => false
def bytesText (l : List AV) : Option AV :=
  match bytesOfCells l with
  | some l => some (.str (BS.ofNats l))
  | none => match byteTms l with
    | some m => some (ofTm .str (textOf m))
    | none => none
def unsafeStringA (H : AHeap) (p n : AV) : Option (AV × AHeap) :=
  match p, n with
  | .nilPtr, .int _ 0 => some (.str ⟨0, 0⟩, H)
  | .ptr _ _, .int _ 0 => some (.str ⟨0, 0⟩, H)
  | .ptr b off, .int _ n =>
    match rowOf H b with
    | some (cells, e, .buf fz false) =>
      if 0 ≤ n ∧ n ≤ 2 ^ 40 ∧ off = 0 ∧ byteT P e = true then
        match (takeN n.toNat cells).bind bytesText with
        | some r => some (r, H.set b (.row cells e (.buf (max fz n.toNat) false)))
        | none => none
      else none
    | _ => none
  | _, _ => none
def unsafeStringS (nf : Tm → Tm) (H : AHeap) (p n : AV) : Option (AV × AHeap) :=
  match p, n with
  | .eptr b es (.int 0) 0, .sy (.int .i64) tn =>
    match lrowOf H b with
    | some ([.int .u8], c, e, .buf 0 false) =>
      if es = 1 ∧ byteT P e = true ∧ holdsT nf (.bin .lss .i64) [.int 0, tn] = true ∧ holdsT nf (.bin .leq .i64) [tn, mkT nf .len [c]] = true ∧ holdsT nf .small [tn] = true
      then some (.sy .str (mkT nf .text [subL nf c (.int 0) tn]), H.kill b) else none
    | _ => none
  | _, _ => none
inductive ExtK where
  | noEscape
  | indexByteString
  | makeNoZero (elem : TypeId)
  | countString
def extA0 (x : ExtK) (args : List AV) (H : AHeap) : Option (AV × AHeap) :=
  match x, args with
  | .noEscape, [v] => some (v, H)
  | .indexByteString, [.str s, .int .u8 c] => if 0 ≤ c ∧ c < 256 then some (.int .i64 (match findByte (s.nats s.len) c.toNat 0 with | some i => (i : Int) | none => -1), H) else none
  | .countString, [.str s, .int .u8 c] => if 0 ≤ c ∧ c < 256 then some (.int .i64 (s.count c.toNat), H) else none
  | .makeNoZero e, [.int .i64 n] => if 0 ≤ n ∧ n ≤ 2 ^ 40 ∧ sizeT P e = some 1 then some (.slice H.next 0 n.toNat (.opn 1), H.new (.row (List.replicate n.toNat .junk) e (.buf 0 false))) else none
  | _, _ => none
def extS (nf : Tm → Tm) (x : ExtK) (args : List AV) (H : AHeap) : Option (AV × AHeap) :=
  match x, args with
  | .indexByteString, [.sy .str s, .int .u8 c] => if 0 ≤ c ∧ c < 256 then some (ofTm (.int .i64) (mkT nf .idx [s, .int c]), H) else none
  | .countString, [.sy .str s, .int .u8 c] => if 0 ≤ c ∧ c < 256 then some (ofTm (.int .i64) (mkT nf .cnt [s, .int c]), H) else none
  | .makeNoZero e, [.sy (.int .i64) n] => if holdsT nf .small [n] = true ∧ sizeT P e = some 1 then some (.lsl H.next 1 (.int 0) n .opn, H.new (.lrow [.int .u8] (.op .mk []) e (.buf 0 false))) else none
  | _, _ => none
def extA (nf : Tm → Tm) (x : ExtK) (args : List AV) (H : AHeap) : Option (AV × AHeap) :=
  match extS P nf x args H with
  | some r => some r
  | none => extA0 P x args H
structure Env where
  exts : List (FuncId × ExtK)
  prim : FuncId → List AV → AHeap → Option (AV × AHeap)
  nf : Tm → Tm
  kinds : TypeId → Option (List CK) := fun _ => none
  code : FuncId → List Nat → Option LCode := fun _ _ => none
def Env.ext (E : Env) (f : FuncId) : Option ExtK := (E.exts.find? fun p => p.1 == f).map (·.2)
end ops
inductive AExit where
  | normal
  | exit (id : Nat)
  | goto (l : Nat)
  | ret
  deriving DecidableEq, Repr, Inhabited
inductive Mark where
  | own (b : Nat)
  | clo (f : FuncId) (args : List AV)
def ownsOf : List Mark → Option (List Nat)
  | [] => some []
  | .own b :: r => match ownsOf r with
    | some l => some (b :: l)
    | none => none
  | .clo _ _ :: _ => none
structure Res where
  exit : AExit
  tmps : Tmps
  marks : List Mark
  heap : AHeap
structure Evs where
  code : Ctx → Option Nat → Code → Tmps → List Mark → AHeap → Option Res
  call : FuncId → List AV → AHeap → Option (AV × AHeap)
def Evs.none : Evs := ⟨fun _ _ _ _ _ _ => Option.none, fun _ _ _ => Option.none⟩
section ev
variable (P : Program) (E : Env) (self : Evs)
def setParams (c : Ctx) : List Tmp → List AV → Tmps → Option Tmps
  | [], [], T => some T
  | t :: ts, v :: vs, T => bif t.blt c.n then setParams c ts vs (T.put c t v) else none
  | _, _, _ => none
def jumpOf : AExit → Option Code
  | .normal => none
  | .exit id => some (.exit id)
  | .goto l => some (.goto l)
  | .ret => some .ret
def lcodeA : LRef → Option LCode
  | .here c => some c
  | .at_ f p => E.code f p
def roundA (l : Nat) (args : List AV) (H : AHeap) : Option (AV × AHeap) :=
  match H.get l with
  | some (.loop ⟨_, _, ⟨mask, n, _⟩, T0, lc, _⟩) =>
   match lcodeA E lc with
   | none => none
   | some ⟨params, assign, body⟩ =>
    match setParams ⟨mask, n, P.globals.size⟩ params.toList args T0 with
    | none => none
    | some T =>
      match self.code ⟨mask, n, P.globals.size⟩ (some l) assign T [] H with
      | some ⟨.normal, T1, [], H1⟩ =>
        match H1.get l with
        | some (.loop ⟨.ready, pd, c1, t1, b1, d1⟩) =>
          match self.code ⟨mask, n, P.globals.size⟩ (some l) body T1 [] (H1.set l (.loop ⟨.busy, pd, c1, t1, b1, d1⟩)) with
          | some ⟨e, _, [], H2⟩ =>
              match H2.get l with
              | some (.loop ⟨_, _, c2, t2, b2, d2⟩) => some (.bool (jumpOf e).isNone, H2.set l (.loop ⟨if (jumpOf e).isNone then .ready else .done, jumpOf e, c2, t2, b2, d2⟩))
              | _ => none
          | _ => none
        | _ => none
      | _ => none
  | _ => none
def callFuncA (f : FuncId) (args : List AV) (H : AHeap) : Option (AV × AHeap) :=
  match E.ext f with
  | some x => extA P E.nf x args H
  | none => self.call f args H
def callMethodA (recv : AV) (name : String) (args : List AV) (H : AHeap) : Option (AV × AHeap) :=
  match recv with
  | .iface t v =>
    match infoT P t with
    | some i => match i.methods.find? (·.name == name) with
      | some m => if m.path.isEmpty then
          match m.func, undT P t with
          | some (f, true), some (.pointer _) => callFuncA P E self f (v :: args) H
          | some (_, false), some (.pointer _) => none
          | some (f, false), some _ => callFuncA P E self f (v :: args) H
          | _, _ => none
        else none
      | none => none
    | none => none
  | _ => none
def callValueA (fv : AV) (args : List AV) (H : AHeap) : Option (AV × AHeap) :=
  match fv with
  | .fn (.func f) first captured => callFuncA P E self f (first ++ args ++ captured) H
  | .fn (.yield l) [] [] => roundA P E self l args H
  | .fn (.method name) first [] => match first ++ args with
    | r :: rest => callMethodA P E self r name rest H
    | [] => none
  | _ => none
def builtinA (b : Builtin) (argTypes : Array TypeId) (args : List AV) (H : AHeap) : Option (AV × AHeap) :=
  match b, argTypes.toList, args with
  | .len, t :: _, x :: _ => (lenA P E.nf H t x).map (·, H)
  | .cap, t :: _, x :: _ => (capA P t x).map (·, H)
  | .append, t :: xt :: _, [s, x] => match undT P xt with
    | some (.int _) => match s with
      | .nilSlice => match symZerosA P E.nf E.kinds H t x with
        | some r => some r
        | none => appendZerosA P H t s x
      | s => appendZerosA P H t s x
    | some _ => appendA P E.nf E.kinds H t s x
    | none => none
  | .copy, t :: _, [d, x] => copyA P H t d x
  | .delete, t :: _, [m, k] => (deleteA P H t m k).map (undefA, ·)
  | .clear, t :: _, [x] => clearA P H t x
  | .min, _, l => (match minA l with | some v => some v | none => minS E.nf l).map (·, H)
  | .max, _, l => (match maxA l with | some v => some v | none => maxS E.nf l).map (·, H)
  | .unsafeSliceData, _, [.nilSlice] => some (.nilPtr, H)
  | .unsafeSliceData, _, [.slice b off len _] => if len = 0 then none else some (.ptr b off, H)
  | .unsafeSliceData, _, [.lsl b es lo n _] => if holdsT E.nf (.bin .lss .i64) [.int 0, n] = true then some (.eptr b es lo 0, H) else none
  | .unsafeString, pt :: _, [p, n] => match undT P pt with
    | some (.pointer e) => if byteT P e then (match unsafeStringA P H p n with | some r => some r | none => unsafeStringS P E.nf H p n) else none
    | _ => none
  | _, _, _ => none
def iterA (H : AHeap) (t : TypeId) (x : AV) : Option (AV × AHeap) :=
  match undT P t, x with
  | some (.map _ _), .nilMap => some (.ptr H.next 0, H.new (.miter none 0 [] 0))
  | some (.map _ _), .map m => match mapOf H m with
    | some (_, clock) => some (.ptr H.next 0, H.new (.miter (some m) clock [] clock))
    | none => none
  | _, _ => none
def unseen (seen : List Nat) (e : AEnt) : Bool := !seen.contains e.born
def nextA (H : AHeap) (it : AV) (isString : Bool) : Option (AV × AHeap) :=
  match it, isString with
  | .ptr r 0, false => match H.get r with
    | some (.miter none _ _ _) => some (.tuple [.bool false], H)
    | some (.miter (some m) since seen last) => match mapOf H m with
      | some (es, clock) =>
        if (!seen.isEmpty && !es.isEmpty && es.all fun e => decide (last ≤ e.born)) = true then none else
        match es.filter (unseen seen) with
        | [] => some (.tuple [.bool false], H)
        | [e] => if e.born < since then some (.tuple [.bool true, e.key, e.val], H.set r (.miter (some m) since (seen ++ [e.born]) clock)) else none
        | _ => none
      | none => none
    | _ => none
  | _, _ => none
def entryA (H : AHeap) (it : AV) : Option AV :=
  match it with
  | .ptr r 0 => match H.get r with
    | some (.miter (some m) _ seen stepped) => match seen.getLast?, mapOf H m with
      | some stamp, some (es, clock) => if clock = stepped then (es.find? fun e => e.born == stamp).map fun e => .tuple [e.key, e.val] else none
      | _, _ => none
    | _ => none
  | _ => none
def opA (c : Ctx) (o : Oper) (T : Tmps) (H : AHeap) : Option (AV × AHeap) :=
  let ρ := aeval c T
  match o.op with
  | .move x | .assign x => (ρ x).map (·, H)
  | .pick q a b => match ρ q, ρ a, ρ b with
    | some (.bool t), some x, some y => some (if t then x else y, H)
    | _, _, _ => none
  | .alloc e => (zeroT P e).map fun z => newA H e z.cells
  | .box e x => (ρ x).map fun v => newA H e v.cells
  | .build t parts => match aevals c T (parts.toList.map (·.2)) with
    | some vs => (buildA P t ((parts.toList.map (·.1)).zip vs)).map (·, H)
    | none => none
  | .buildSlice t len parts => match aevals c T (parts.toList.map (·.2)) with
    | some vs => (buildSliceA P t len ((parts.toList.map (·.1)).zip vs)).map fun (e, c) => (.slice H.next 0 len (.exact len), H.new (.row c e .solid))
    | none => none
  | .load t a => ((ρ a).bind fun v => loadA P E.nf H t (derefA E.nf v)).map (·, H)
  | .store t a x => match ρ a, ρ x with
    | some p, some v => (storeA P E.nf H t p v).map (undefA, ·)
    | _, _ => none
  | .nilCheck x => match ρ x with
    | some .nilPtr | some .nilIface | some .nilFn => none
    | some (.fn (.method _) _ _) => none
    | some (.sy (.ref ks) t) => match inRangeT E.nf (.int 0) (mkT E.nf .len [t]) with
      | true => some (.sy (.ref ks) t, H)
      | false => none
    | some v => some (v, H)
    | none => none
  | .binOp op t x y _ => match ρ x, ρ y with
    | some a, some b => (binOpA P E.nf H op t x y a b).map (·, H)
    | _, _ => none
  | .unOp op _ x => ((ρ x).bind (unOpA E.nf op)).map (·, H)
  | .convert src dst x => match ρ x with
    | some v => match undT P src, undT P dst, v with
      | some .string, some (.slice e), .str s => match undT P e with
        | some (.int .u8) => if s.len ≤ 2 ^ 40 ∧ sizeT P e = some 1 then some (.slice H.next 0 s.len (.opn 1), H.new (.row ((s.nats s.len).map fun (c : Nat) => AV.int .u8 (c : Int)) e (.buf 0 true))) else none
        | _ => none
      | _, _, _ => (convertA P E.nf H src dst v).map (·, H)
    | none => none
  | .makeInterface t x => match undT P t with
    | some (.interface _) => none
    | some _ => (ρ x).map fun v => (.iface t v, H)
    | none => none
  | .makeFunc f first captured => match fnA f, aevals c T first.toList, aevals c T captured.toList with
    | some g, some a, some b => some (.fn g a b, H)
    | _, _, _ => none
  | .makeMap t r => match r with
    | none => some (.map H.next, H.new (.map [] 0))
    | some h => match undT P t, ρ h with
      | some (.map _ _), some (.int _ _) => some (.map H.next, H.new (.map [] 0))
      | _, _ => none
  | .makeSlice t l k => match ρ l, ρ k with
    | some l, some k => match makeSliceA P t l k with
      | some (e, cells, l, k) => some (.slice H.next 0 l (.exact k), H.new (.row cells e .solid))
      | none => symMakeA P E.nf E.kinds H t l k
    | _, _ => none
  | .slice t x lo hi mx =>
    match ρ x, aevals c T lo.toList, aevals c T hi.toList, aevals c T mx.toList with
    | some v, some l, some h, some m => (sliceA P E.nf H t v l.head? h.head? m.head?).map (·, H)
    | _, _, _, _ => none
  | .fieldAddr s x i => ((ρ x).bind fun v => fieldAddrA P s (derefA E.nf v) i).map (·, H)
  | .field s x i => ((ρ x).bind fun v => fieldA P s v i).map (·, H)
  | .indexAddr t x i => match ρ x, ρ i with
    | some v, some w => (indexAddrA P E.nf t v w).map (·, H)
    | _, _ => none
  | .index t x i => match ρ x, ρ i with
    | some v, some w => (indexA P E.nf t v w).map (·, H)
    | _, _ => none
  | .lookup t x i ok => match ρ x, ρ i with
    | some v, some w => (match lookupL P E.nf H t v w ok with | some r => some r | none => match isSy w with | true => lookupS P E.nf H t v w ok | false => lookupA P H t v w ok).map (·, H)
    | _, _ => none
  | .mapUpdate t m k x | .insert t m k x => match ρ m, ρ k, ρ x with
    | some m, some k, some v => (match mapUpdateL P E.nf H t m k v with | some r => some r | none => mapUpdateA P H t m k v).map (undefA, ·)
    | _, _, _ => none
  | .mapEntry t m k => match ρ m, ρ k with
    | some m, some k => match mapEntryL P E.nf H t m k with | some r => some r | none => mapEntryA P H t m k
    | _, _ => none
  | .entryStore _ m s x => match ρ m, ρ s, ρ x with
    | some m, some s, some v => (match entryStoreL E.nf H m s v with | some r => some r | none => entryStoreA H m s v).map (undefA, ·)
    | _, _, _ => none
  | .range t x => match ρ x with
    | some v => iterA P H t v
    | none => none
  | .next it isString => match ρ it with
    | some v => nextA H v isString
    | none => none
  | .entry it => match ρ it with
    | some v => (entryA H v).map (·, H)
    | none => none
  | .typeAssert x _ t ok => ((ρ x).bind fun v => typeAssertA P v t ok).map (·, H)
  | .extract x i => match ρ x with
    | some (.tuple l) => (l[i]?).map (·, H)
    | _ => none
  | .call q => match aevals c T q.args.toList with
    | none => none
    | some args => match q.callee with
      | .value f => match ρ f with
        | some fv => callValueA P E self fv args H
        | none => none
      | .invoke r name => match ρ r with
        | some v => callMethodA P E self v name args H
        | none => none
      | .builtin b => builtinA P E b q.argTypes args H
  | _ => none
def wantedA (c : Ctx) (ops : Array Oper) (T : Tmps) (o : Oper) : Option Bool :=
  match o.guard with
  | none => some true
  | some (j, want) => match (ops[j]?).bind (·.dst) with
    | some d => match T.get c d with
      | some (.bool b) => some (b == want)
      | some .boolU => none
      | some (.sy _ _) => none
      | some _ => some false
      | none => none
    | none => none
def opsA (c : Ctx) (ops : Array Oper) : List Nat → Tmps → AHeap → Option (Tmps × AHeap)
  | [], T, H => some (T, H)
  | i :: rest, T, H =>
    match ops[i]? with
    | none => opsA c ops rest T H
    | some o =>
      match wantedA c ops T o with
      | some true =>
        match opA P E self c o T H with
        | some (v, H') => match T.lay c o.dst v with
          | some T' => opsA c ops rest T' H'
          | none => none
        | none => none
      | some false => match T.lay c o.dst undefA with
        | some T' => opsA c ops rest T' H
        | none => none
      | none => none
inductive Cls where
  | pure | load | alloc | effect
  deriving DecidableEq, Repr
def cls (o : Op) : Cls :=
  match o with
  | .alloc _ | .box .. | .buildSlice .. | .makeSlice .. | .makeMap .. => .alloc
  | .load .. | .lookup .. => .load
  | .binOp .. | .convert .. | .slice .. => .load
  | .call { callee := .builtin .len, .. } | .call { callee := .builtin .cap, .. } | .call { callee := .builtin .min, .. } | .call { callee := .builtin .max, .. }
  | .call { callee := .builtin .unsafeSliceData, .. } => .load
  | .move _ | .assign _ | .pick .. | .build .. | .nilCheck _ | .unOp .. | .makeInterface .. | .makeFunc .. | .fieldAddr .. | .field .. | .indexAddr .. | .index .. | .typeAssert .. | .extract .. => .pure
  | _ => .effect
def readsOf (ops : Array Oper) (o : Oper) : List Tmp :=
  (o.op.operands.toList.filterMap fun | .tmp t => some t | _ => none) ++ (match o.guard with | some (g, _) => ((ops[g]?).bind (·.dst)).toList | none => [])
def effectsOf (ops : Array Oper) : List Nat := (List.range ops.size).filter fun i => match ops[i]? with | some o => cls o.op == .effect | none => false
def chained (bef : Array Nat) : List Nat → Bool
  | a :: b :: r => (bef.getD b 0).testBit a && chained bef (b :: r)
  | _ => true
def drawOk (ops : Array Oper) : Bool :=
  let bef := Region.before ops
  let n := List.range ops.size
  chained bef (effectsOf ops) &&
  (n.all fun i => match ops[i]? with
    | some o => (o.after.all fun e => !Region.binds .any e || e.on < i) &&
      (match o.dst with
       | some d => n.all fun j => i == j || match ops[j]? with
          | some u => u.dst != some d && (!(readsOf ops u).contains d || (bef.getD j 0).testBit i || (bef.getD i 0).testBit j)
          | none => true
       | none => true) &&
      (match o.guard with | some (g, _) => g < i | none => true)
    | none => false)
structure DSt where
  T : Tmps
  H : AHeap
  pend : List (Nat × AObj)
  vers : List AHeap
  loads : List (Nat × Nat × (AHeap → Option AV) × AV)
def absorb (bef : Nat) (n0 : Nat) : List (Nat × AObj) → AHeap → List (Nat × AObj) × AHeap
  | [], H => ([], H)
  | (i, o) :: r, H =>
    match bef.testBit i with
    | true => absorb bef n0 r (H.set (n0 + i) o)
    | false =>
      let (r', H') := absorb bef n0 r H
      ((i, o) :: r', H')
def allocA (c : Ctx) (o : Oper) (T : Tmps) (id : Nat) : Option (AV × AObj) :=
  match opA P E self c o T ⟨.leaf, id⟩ with
  | some (v, H) => match H.get id with
    | some ob => some (v, ob)
    | none => none
  | none => none
def freshOf (c : Ctx) (ops : Array Oper) (bef : Array Nat) (n0 i : Nat) (o : Oper) (T : Tmps) (pend : List (Nat × AObj)) : Option AHeap :=
  match o.op with
  | .convert _ _ x => match aeval c T x with
    | some (.slice b _ _ _) => if b < n0 then none else
      match pend.find? (fun p => n0 + p.1 == b) with
      | some (j, ob) => if (effectsOf ops).all (fun k => !(bef.getD k 0).testBit j || (bef.getD k 0).testBit i) then some ⟨Tr.leaf.put b ob, 0⟩ else none
      | none => none
    | _ => none
  | _ => none
def winLo (ops : Array Oper) (bef : Array Nat) (i : Nat) : Nat := ((effectsOf ops).filter fun k => (bef.getD i 0).testBit k).length
def winHi (ops : Array Oper) (bef : Array Nat) (i : Nat) : Nat := ((effectsOf ops).filter fun k => !(bef.getD k 0).testBit i).length
def loadedA (c : Ctx) (o : Oper) (T : Tmps) (H : AHeap) : Option AV :=
  match opA P E self c o T H with
  | some (v, H1) => match H1.next.beq H.next with
    | true => some v
    | false => none
  | none => none
def drawStep (c : Ctx) (ops : Array Oper) (bef : Array Nat) (n0 i : Nat) : DSt → Option DSt
  | ⟨T, H, pend, vers, loads⟩ =>
  match ops[i]? with
  | none => none
  | some o =>
    match wantedA c ops T o with
    | none => none
    | some true =>
      match cls o.op with
      | .pure => match opA P E self c o T H with
        | some (v, _) => match T.lay c o.dst v with
          | some T' => some ⟨T', H, pend, vers, loads⟩
          | none => none
        | none => none
      | .load => match freshOf c ops bef n0 i o T pend with
        | some Hs => match loadedA P E self c o T Hs with
          | some v => match T.lay c o.dst v with
            | some T' => some ⟨T', H, pend, vers, loads⟩
            | none => none
          | none => none
        | none => match loadedA P E self c o T H with
          | some v => match T.lay c o.dst v with
            | some T' => some ⟨T', H, pend, vers, (winLo ops bef i, winHi ops bef i, (fun H => loadedA P E self c o T H), v) :: loads⟩
            | none => none
          | none => none
      | .alloc => match allocA P E self c o T (n0 + i) with
        | some (v, ob) => match T.lay c o.dst v with
          | some T' => some ⟨T', H, pend ++ [(i, ob)], vers, loads⟩
          | none => none
        | none => none
      | .effect =>
        match absorb (bef.getD i 0) n0 pend H with
        | (pend', H1) => match opA P E self c o T H1 with
          | some (v, H') => match T.lay c o.dst v with
            | some T' => some ⟨T', H', pend', vers ++ [H'], loads⟩
            | none => none
          | none => none
    | some false => match T.lay c o.dst undefA with
      | some T' => some ⟨T', H, pend, (match cls o.op with | .effect => vers ++ [H] | _ => vers), loads⟩
      | none => none
def drawSteps (c : Ctx) (ops : Array Oper) (bef : Array Nat) (n0 : Nat) : List Nat → DSt → Option DSt
  | [], s => some s
  | i :: r, s => match drawStep P E self c ops bef n0 i s with
    | some s' => drawSteps c ops bef n0 r s'
    | none => none
def loadStays (vers : List AHeap) : Nat × Nat × (AHeap → Option AV) × AV → Bool
  | (lo, hi, f, v) => ((vers.drop lo).take (hi - lo + 1)).all fun H => match f H with | some w => AV.beq w v | none => false
def settle (n0 : Nat) : List (Nat × AObj) → AHeap → AHeap
  | [], H => H
  | (i, o) :: r, H => settle n0 r (H.set (n0 + i) o)
def drawA (c : Ctx) (ops : Array Oper) (T : Tmps) (H : AHeap) : Option (Tmps × AHeap) :=
  match drawOk ops with
  | false => none
  | true =>
    match H with
    | ⟨objs, n0⟩ =>
      match drawSteps P E self c ops (Region.before ops) n0 (List.range ops.size) ⟨T, ⟨objs, n0 + ops.size⟩, [], [⟨objs, n0 + ops.size⟩], []⟩ with
      | some ⟨T', H', pend, vers, loads⟩ => match loads.all (loadStays vers) with
        | true => some (T', settle n0 pend H')
        | false => none
      | none => none
def exitOfJump : Option Code → Option AExit
  | none => some .normal
  | some (.exit id) => some (.exit id)
  | some (.goto t) => some (.goto t)
  | some .ret => some .ret
  | some _ => none
def rangeA (c : Ctx) (around : Option Nat) (fv : Option AV) (lc : LRef) (T : Tmps) (marks : List Mark) (H : AHeap) : Option Res :=
  -- the loop's record, and around an outermost loop the block for its deferred calls
  match (match around with
    | some l => match H.get l with
      | some (.loop r) => some (r.defers, marks, H)
      | _ => none
    | none => some (H.next, .own H.next :: marks, H.new (.dfr true))) with
  | none => none
  | some (dfr, marks', H1) =>
    let l := H1.next
    match fv with
    | some (.fn (.func g) first captured) =>
      match (fnsOf P).get g with
      | some fn => match fn.body with
        | none => none
        | some _ =>
          match self.call g (first ++ .fn (.yield l) [] [] :: captured) (H1.new (.loop ⟨.ready, none, c, T, lc, dfr⟩)) with
          | some (_, H3) => match H3.get l with
            | some (.loop ⟨st, pd, c3, t3, b3, d3⟩) => if st = .busy then none else
              match exitOfJump pd with
              | some e => some ⟨e, T, marks', H3.set l (.loop ⟨.exhausted, pd, c3, t3, b3, d3⟩)⟩
              | none => none
            | _ => none
          | none => none
      | none => none
    | _ => none
def deferOf (ops : Array Oper) : Option (Oper × Operand) :=
  match ops[ops.size - 1]? with
  | some o => match o.guard with
    | some _ => none
    | none => match o.op with
      | .defer q => match q.args.toList with
        | [] => match q.callee with
          | .value f => some (o, f)
          | _ => none
        | _ => none
      | _ => none
  | none => none
def deferA (c : Ctx) (ops : Array Oper) (o : Oper) (f : Operand) (T : Tmps) (m : List Mark) (H : AHeap) : Option Res :=
  match opsA P E self c ops (List.range (ops.size - 1)) T H with
  | some (T1, H1) => match aeval c T1 f with
    | some (.fn (.func g) first captured) => match T1.lay c o.dst undefA with
      | some T2 => some ⟨.normal, T2, .clo g (first ++ captured) :: m, H1⟩
      | none => none
    | _ => none
  | none => none
def codeA (c : Ctx) (around : Option Nat) : Code → Tmps → List Mark → AHeap → Option Res
  | .skip, T, m, H => some ⟨.normal, T, m, H⟩
  | .label _, T, m, H => some ⟨.normal, T, m, H⟩
  | .region _ ops draw, T, m, H =>
    match (match draw, around with | false, none => deferOf ops | _, _ => none) with
    | some (o, f) => deferA P E self c ops o f T.fresh m H
    | none =>
    match (match draw with | true => drawA P E self c ops T.fresh H | false => opsA P E self c ops (List.range ops.size) T.fresh H) with
    | some (T', H') => some ⟨.normal, T', m, H'⟩
    | none => none
  | .seq x y, T, m, H =>
    match codeA c around x T m H with
    | some ⟨.normal, T1, m1, H1⟩ => codeA c around y T1 m1 H1
    | r => r
  | .cond q x y, T, m, H =>
    match aeval c T q with
    | some (.bool true) => codeA c around x T m H
    | some (.bool false) => codeA c around y T m H
    | _ => none
  | .block id b, T, m, H =>
    match codeA c around b T m H with
    | some ⟨.exit j, T1, m1, H1⟩ => if j = id then some ⟨.normal, T1, m1, H1⟩ else some ⟨.exit j, T1, m1, H1⟩
    | r => r
  | .loop b, T, m, H =>
    match codeA c around b T m H with
    | some ⟨.normal, T1, m1, H1⟩ => self.code c around (.loop b) T1 m1 H1
    | r => r
  | .rangeFunc f params assign body, T, m, H => rangeA P self c around (aeval c T f) (.here ⟨params, assign, body⟩) T m H
  | .exit id, T, m, H => some ⟨.exit id, T, m, H⟩
  | .goto l, T, m, H => some ⟨.goto l, T, m, H⟩
  | .ret, T, m, H => some ⟨.ret, T, m, H⟩
  | .scope b, T, m, H =>
    match codeA c around b T m H with
    | some ⟨.goto _, _, _, _⟩ => none
    | r => r
  | .refuse _, _, _, _ => none
def resultsA (c : Ctx) (H : AHeap) (T : Tmps) : List ResultVar → Option (List AV)
  | [] => some []
  | r :: rest =>
    match (match r with | .tmp t => T.get c t | .cell a t => (T.get c a).bind (loadA P E.nf H t)), resultsA c H T rest with
    | some v, some vs => some (v :: vs)
    | _, _ => none
def argTmps : List AV → Nat → List (Nat × AV)
  | [], _ => []
  | v :: r, i => (i, v) :: argTmps r (i + 1)
def readsO : Operand → Nat → Nat
  | .tmp t, m => m ||| 2 ^ t
  | _, m => m
def exposed : List Oper → Nat → Nat → Nat
  | [], _, m => m
  | o :: r, w, m =>
    let rd := o.op.operands.toList.foldl (fun m x => readsO x m) 0
    let ex := rd &&& ((rd &&& w) ^^^ rd)
    exposed r (match o.dst with | some d => w ||| 2 ^ d | none => w) (m ||| ex)
def codeMask : Code → Nat
  | .region _ ops _ => exposed ops.toList 0 0
  | .seq a b => codeMask a ||| codeMask b
  | .cond _ a b => codeMask a ||| codeMask b
  | .block _ b | .loop b | .scope b => codeMask b
  | .rangeFunc _ ps a b => ps.toList.foldl (fun m t => m ||| 2 ^ t) (codeMask a ||| codeMask b)
  | _ => 0
def funcMask (fn : Func) (c : Code) (args : Nat) : Nat :=
  fn.results.toList.foldl (fun m r => match r with | .tmp t => m ||| 2 ^ t | .cell a _ => m ||| 2 ^ a) (codeMask c ||| (2 ^ args - 1))
def leaveA : List Mark → AHeap → Option AHeap
  | [], H => some H
  | .own m :: r, H => match H.get m with
    | some (.dfr true) => leaveA r (H.set m (.dfr false))
    | _ => none
  | .clo f args :: r, H =>
    match (fnsOf P).get f with
    | some fn => match fn.body with
      | some cd =>
        let cx : Ctx := ⟨funcMask fn cd args.length, max args.length fn.ntmps, P.globals.size⟩
        match self.code cx none cd ⟨argTmps args 0, []⟩ [] H with
        | some ⟨.normal, T, [], H1⟩ | some ⟨.ret, T, [], H1⟩ => match resultsA P E cx H1 T fn.results.toList with
          | some _ => leaveA r H1
          | none => none
        | _ => none
      | none => none
    | none => none
def callA (f : FuncId) (args : List AV) (H : AHeap) : Option (AV × AHeap) :=
  match E.prim f args H with
  | some r => some r
  | none =>
  match (fnsOf P).get f with
  | some fn => match fn.body with
    | some c =>
      let cx : Ctx := ⟨funcMask fn c args.length, max args.length fn.ntmps, P.globals.size⟩
      match codeA P E self cx none c ⟨argTmps args 0, []⟩ [] H with
      | some ⟨.normal, T, m, H1⟩ | some ⟨.ret, T, m, H1⟩ =>
        match leaveA P E self m H1 with
        | some H2 => match resultsA P E cx H2 T fn.results.toList with
          | some [v] => some (v, H2)
          | some vs => some (.tuple vs, H2)
          | none => none
        | none => none
      | _ => none
    | none => none
  | none => none
end ev
def ev (P : Program) (E : Env) : Nat → Evs
  | 0 => Evs.none
  | n + 1 => ⟨fun c around b T m H => codeA P E (ev P E n) c around b T m H, fun f args H => callA P E (ev P E n) f args H⟩
end Go.Tc
