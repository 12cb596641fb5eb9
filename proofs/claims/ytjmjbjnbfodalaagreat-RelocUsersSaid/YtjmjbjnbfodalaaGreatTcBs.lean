/- texts as numbers. -/
import GoSem.Step
import Derived.Laws.Strings
set_option linter.unusedSimpArgs false
set_option linter.unusedVariables false
set_option linter.unusedSectionVars false
namespace Go.Tc

/-- A text: how many bytes, and the number that they make, the first byte highest. -/
structure BS where
  len : Nat
  val : Nat
  deriving DecidableEq, Repr, Inhabited

def BS.ofList (l : List UInt8) : BS := ⟨l.length, l.foldl (fun a b => a * 256 + b.toNat) 0⟩
def BS.of (s : ByteArray) : BS := BS.ofList s.data.toList
def BS.app (a b : BS) : BS := ⟨a.len + b.len, a.val * 256 ^ b.len + b.val⟩
def BS.get (s : BS) (i : Nat) : Nat := s.val / 256 ^ (s.len - 1 - i) % 256
def BS.cut (s : BS) (l h : Nat) : BS := ⟨h - l, s.val / 256 ^ (s.len - h) % 256 ^ (h - l)⟩
def BS.eq (a b : BS) : Bool := a.len == b.len && a.val == b.val
def BS.lt (a b : BS) : Bool :=
  let x := a.val * 256 ^ b.len
  let y := b.val * 256 ^ a.len
  Nat.blt x y || (x == y && Nat.blt a.len b.len)
/-- The bytes, as numbers, from place i on. -/
def BS.nats (s : BS) : Nat → List Nat
  | 0 => []
  | k + 1 => s.get (s.len - (k + 1)) :: s.nats k
def BS.ofNats (l : List Nat) : BS := ⟨l.length, l.foldl (fun a b => a * 256 + b % 256) 0⟩

theorem foldl_digits (l : List UInt8) : ∀ (a : Nat), l.foldl (fun a b => a * 256 + b.toNat) a = a * 256 ^ l.length + l.foldl (fun a b => a * 256 + b.toNat) 0 := by
  induction l with
  | nil => intro a; simp
  | cons b r ih =>
    intro a
    simp only [List.foldl_cons, List.length_cons]
    rw [ih (a * 256 + b.toNat), ih (0 * 256 + b.toNat)]
    rw [Nat.pow_succ, Nat.add_mul, Nat.zero_mul, Nat.zero_add, Nat.mul_comm (256 ^ r.length) 256, ← Nat.mul_assoc, Nat.add_assoc]

theorem ofList_app (x y : List UInt8) : (BS.ofList x).app (BS.ofList y) = BS.ofList (x ++ y) := by
  simp only [BS.ofList, BS.app, List.length_append, List.foldl_append]
  rw [foldl_digits y (List.foldl _ 0 x)]

theorem digits_lt (l : List UInt8) : l.foldl (fun a b => a * 256 + b.toNat) 0 < 256 ^ l.length := by
  induction l with
  | nil => simp
  | cons b r ih =>
    rw [List.foldl_cons, foldl_digits, List.length_cons, Nat.pow_succ, Nat.zero_mul, Nat.zero_add]
    have hb : b.toNat < 256 := b.toNat_lt
    generalize List.foldl _ 0 r = x at ih
    generalize 256 ^ r.length = y at ih
    have : b.toNat * y ≤ 255 * y := Nat.mul_le_mul_right _ (by omega)
    omega

theorem BS.of_app (x y : ByteArray) : (BS.of x).app (BS.of y) = BS.of (x ++ y) := by
  unfold BS.of; rw [ofList_app, ByteArray.data_append, Array.toList_append]
theorem BS.of_len (x : ByteArray) : (BS.of x).len = x.size := rfl

theorem ofList_inj {x y : List UInt8} (h : BS.ofList x = BS.ofList y) : x = y := by
  induction x generalizing y with
  | nil =>
    simp only [BS.ofList, BS.mk.injEq, List.length_nil] at h
    exact (List.length_eq_zero_iff.1 h.1.symm).symm
  | cons b l ih =>
    simp only [BS.ofList, BS.mk.injEq] at h
    obtain ⟨h1, h2⟩ := h
    cases y with
    | nil => simp at h1
    | cons c m =>
      rw [List.foldl_cons, foldl_digits, List.foldl_cons, foldl_digits m] at h2
      simp only [List.length_cons, Nat.add_right_cancel_iff] at h1
      have hl := digits_lt l
      have hm := digits_lt m
      rw [h1] at h2 hl
      simp only [Nat.zero_mul, Nat.zero_add] at h2
      have e1 : b.toNat = c.toNat := by
        have t1 := congrArg (· / 256 ^ m.length) h2
        simp only [Nat.mul_comm _ (256 ^ m.length), Nat.mul_add_div (Nat.pow_pos (n := m.length) (show 0 < 256 by omega)), Nat.div_eq_of_lt hl, Nat.div_eq_of_lt hm, Nat.add_zero] at t1
        exact t1
      rw [e1] at h2
      have e2 : List.foldl (fun a b => a * 256 + b.toNat) 0 l = List.foldl (fun a b => a * 256 + b.toNat) 0 m := Nat.add_left_cancel h2
      have := ih (y := m) (by simp only [BS.ofList, BS.mk.injEq]; exact ⟨h1, e2⟩)
      rw [this, UInt8.toNat_inj.1 e1]

theorem BS.of_inj {x y : ByteArray} (h : BS.of x = BS.of y) : x = y := by
  have := ofList_inj h
  exact ByteArray.ext (Array.toList_inj.1 this)
theorem BS.eq_iff (a b : BS) : a.eq b = true ↔ a = b := by
  cases a; cases b; simp [BS.eq]
theorem BS.eq_of (x y : ByteArray) : (BS.of x).eq (BS.of y) = (x.toList == y.toList) := by
  rw [Bool.eq_iff_iff, BS.eq_iff, beq_iff_eq, ByteArray.toList_eq, ByteArray.toList_eq]
  exact ⟨fun h => by rw [BS.of_inj h], fun h => by unfold BS.of; rw [h]⟩

/-- the part of a number's digits. -/
theorem digits_append_div (x y : List UInt8) : (x ++ y).foldl (fun a b => a * 256 + b.toNat) 0 / 256 ^ y.length = x.foldl (fun a b => a * 256 + b.toNat) 0 := by
  rw [List.foldl_append, foldl_digits, Nat.add_comm, Nat.add_mul_div_right _ _ (Nat.pow_pos (by omega)), Nat.div_eq_of_lt (digits_lt y), Nat.zero_add]
theorem digits_append_mod (x y : List UInt8) : (x ++ y).foldl (fun a b => a * 256 + b.toNat) 0 % 256 ^ y.length = y.foldl (fun a b => a * 256 + b.toNat) 0 := by
  rw [List.foldl_append, foldl_digits, Nat.add_comm, Nat.add_mul_mod_self_right, Nat.mod_eq_of_lt (digits_lt y)]

theorem ofList_cut (l : List UInt8) (a b : Nat) (h1 : a ≤ b) (h2 : b ≤ l.length) : (BS.ofList l).cut a b = BS.ofList ((l.drop a).take (b - a)) := by
  simp only [BS.ofList, BS.cut, BS.mk.injEq, List.length_take, List.length_drop]
  refine ⟨by omega, ?_⟩
  have e : l = (l.take a ++ (l.drop a).take (b - a)) ++ l.drop b := by
    have : l.take b = l.take a ++ (l.drop a).take (b - a) := by
      conv => lhs; rw [show b = a + (b - a) from by omega, List.take_add]
    rw [← this, List.take_append_drop]
  have hl : (l.drop b).length = l.length - b := List.length_drop
  conv => lhs; rw [e]
  rw [List.length_append, hl]
  rw [show (List.take a l ++ List.take (b - a) (List.drop a l)).length + (l.length - b) - b = l.length - b from by simp [List.length_take, List.length_drop]; omega]
  rw [← hl, digits_append_div]
  have hq : ((l.drop a).take (b - a)).length = b - a := by simp [List.length_take, List.length_drop]; omega
  have := digits_append_mod (List.take a l) ((l.drop a).take (b - a))
  rwa [hq] at this

theorem BS.of_cut (s : ByteArray) (a b : Nat) (h1 : a ≤ b) (h2 : b ≤ s.size) : (BS.of s).cut a b = BS.of (s.extract a b) := by
  unfold BS.of
  rw [ofList_cut _ _ _ h1 h2, ByteArray.data_extract, Array.toList_extract, List.extract_eq_take_drop]

theorem ofList_get (l : List UInt8) (i : Nat) (h : i < l.length) : (BS.ofList l).get i = (l[i]).toNat := by
  have h3 := ofList_cut l i (i + 1) (by omega) (by omega)
  simp only [BS.ofList, BS.cut, BS.mk.injEq] at h3
  simp only [BS.get, BS.ofList]
  have h4 := h3.2
  rw [show i + 1 - i = 1 from by omega, Nat.pow_one] at h4
  rw [show l.length - 1 - i = l.length - (i + 1) from by omega, h4]
  rw [List.drop_eq_getElem_cons h, List.take_succ_cons, List.take_zero]
  simp only [List.foldl_cons, List.foldl_nil]
  omega
theorem BS.of_get (s : ByteArray) (i : Nat) (h : i < s.size) : (BS.of s).get i = (s[i]).toNat := by
  unfold BS.of
  rw [ofList_get _ _ h]
  rfl

theorem ofList_nats (l : List UInt8) (k : Nat) (h : k ≤ l.length) : (BS.ofList l).nats k = (l.drop (l.length - k)).map (·.toNat) := by
  induction k with
  | zero => simp [BS.nats]
  | succ k ih =>
    simp only [BS.nats]
    rw [ih (by omega), show (BS.ofList l).len = l.length from rfl, ofList_get _ _ (by omega)]
    rw [List.drop_eq_getElem_cons (i := l.length - (k + 1)) (by omega)]
    rw [show l.length - (k + 1) + 1 = l.length - k from by omega]
    simp
theorem BS.of_nats (s : ByteArray) : (BS.of s).nats (BS.of s).len = s.data.toList.map (·.toNat) := by
  have := ofList_nats s.data.toList s.data.toList.length (Nat.le_refl _)
  simpa [BS.of, BS.ofList] using this

theorem ofNats_map (l : List UInt8) : BS.ofNats (l.map (·.toNat)) = BS.ofList l := by
  simp only [BS.ofNats, BS.ofList, List.length_map, List.foldl_map, BS.mk.injEq, true_and]
  congr 1
  funext a b
  have hb : b.toNat < 256 := b.toNat_lt
  omega
theorem ofNats_list (l : List Nat) : BS.ofNats l = BS.ofList (l.map fun n => UInt8.ofNat n) := by
  simp only [BS.ofNats, BS.ofList, List.length_map, List.foldl_map, BS.mk.injEq, true_and]
  congr 1
theorem ofNats_len (l : List Nat) : (BS.ofNats l).len = l.length := rfl
theorem ofNats_get (l : List Nat) (i : Nat) (h : i < l.length) : (BS.ofNats l).get i = l[i] % 256 := by
  rw [ofNats_list, ofList_get _ _ (by simpa using h)]
  simp
theorem ofNats_cut (l : List Nat) (a b : Nat) (h1 : a ≤ b) (h2 : b ≤ l.length) : (BS.ofNats l).cut a b = BS.ofNats ((l.drop a).take (b - a)) := by
  rw [ofNats_list, ofList_cut _ _ _ h1 (by simpa using h2), ofNats_list]
  congr 1
  simp
theorem ofNats_app (a b : List Nat) : (BS.ofNats a).app (BS.ofNats b) = BS.ofNats (a ++ b) := by
  rw [ofNats_list, ofNats_list, ofList_app, ofNats_list, List.map_append]
end Go.Tc
