/- Texts as lists of bytes: plain laws. -/
import Derived.Test.YtkkoidhohapjcaaGreatDoorTcVals
set_option linter.unusedSimpArgs false
set_option linter.unusedVariables false
set_option linter.unusedSectionVars false
namespace Go.Tc

theorem sl_len (l : List UInt8) : (BS.ofList l).len = l.length := rfl
theorem sl_nats (l : List UInt8) : (BS.ofList l).nats (BS.ofList l).len = l.map (·.toNat) := by
  have := ofList_nats l l.length (Nat.le_refl _)
  rw [Nat.sub_self, List.drop_zero] at this
  exact this
theorem sl_index (l : List UInt8) (c : UInt8) : (BS.ofList l).index c.toNat = Lib.indexByte l c := by
  have h := (findByte_index l c 0).1
  unfold BS.index
  rw [sl_nats, h]
  cases findByte (l.map (·.toNat)) c.toNat 0 <;> simp
theorem sl_eq (a b : List UInt8) : (BS.ofList a).eq (BS.ofList b) = decide (a = b) := by
  rw [Bool.eq_iff_iff, BS.eq_iff, decide_eq_true_eq]
  exact ⟨ofList_inj, fun h => by rw [h]⟩
theorem strD_add (a b : BS) : strD .add a b = .str (a.app b) := rfl
theorem strD_eql (a b : BS) : strD .eql a b = .bool (a.eq b) := rfl
theorem strD_neq (a b : BS) : strD .neq a b = .bool (!a.eq b) := rfl
theorem tden_idx (s : BS) (c : Int) : TOp.den .idx [.str s, .int c] = .int (s.index c.toNat) := rfl

/-- where a byte comes first: behind it, and ahead of it. -/
theorem indexByte_cons (b c : UInt8) (l : List UInt8) : Lib.indexByte (b :: l) c = if b = c then 0 else if Lib.indexByte l c = -1 then -1 else Lib.indexByte l c + 1 := by
  simp only [Lib.indexByte, beq_iff_eq]
theorem indexByte_ge (c : UInt8) : ∀ l : List UInt8, -1 ≤ Lib.indexByte l c ∧ Lib.indexByte l c < l.length
  | [] => by simp [Lib.indexByte]
  | b :: l => by
    have := indexByte_ge c l
    rw [indexByte_cons]
    simp only [List.length_cons]
    split
    · omega
    · split <;> omega

/-- the lines of a text that end with a newline, behind the bytes of a line that has begun. -/
def linesFrom : List UInt8 → List UInt8 → List (List UInt8)
  | _, [] => []
  | acc, b :: r => if b = 10 then acc :: linesFrom [] r else linesFrom (acc ++ [b]) r
def linesOf (l : List UInt8) : List (List UInt8) := linesFrom [] l
theorem linesFrom_index : ∀ (l acc : List UInt8), linesFrom acc l = if Lib.indexByte l 10 < 0 then [] else (acc ++ l.take (Lib.indexByte l 10).toNat) :: linesOf (l.drop ((Lib.indexByte l 10).toNat + 1))
  | [], acc => by simp [linesFrom, Lib.indexByte]
  | b :: r, acc => by
    have h := indexByte_ge 10 r
    rw [indexByte_cons]
    simp only [linesFrom]
    by_cases e : b = 10
    · simp [e, linesOf]
    · rw [if_neg e, if_neg e, linesFrom_index r (acc ++ [b])]
      by_cases h1 : Lib.indexByte r 10 = -1
      · simp [h1]
      · rw [if_neg h1, if_neg (by omega), if_neg (by omega)]
        have : (Lib.indexByte r 10 + 1).toNat = (Lib.indexByte r 10).toNat + 1 := by omega
        rw [this, List.take_succ_cons, List.drop_succ_cons, List.append_assoc]
        rfl
theorem linesOf_none {l : List UInt8} (h : Lib.indexByte l 10 < 0) : linesOf l = [] := by
  unfold linesOf; rw [linesFrom_index, if_pos h]
theorem linesOf_some {l : List UInt8} (h : 0 ≤ Lib.indexByte l 10) : linesOf l = l.take (Lib.indexByte l 10).toNat :: linesOf (l.drop ((Lib.indexByte l 10).toNat + 1)) := by
  conv => lhs; unfold linesOf
  rw [linesFrom_index, if_neg (by omega), List.nil_append]
theorem den_nl (l : List UInt8) : TOp.den .idx [.str (BS.ofList l), .int 10] = .int (Lib.indexByte l 10) := by
  show D.int ((BS.ofList l).index (10 : UInt8).toNat) = _
  rw [sl_index]
theorem nl_eql (l : List UInt8) : strD .eql ⟨1, 10⟩ (BS.ofList l) = .bool (decide ([10] = l)) := by
  show D.bool ((BS.ofList [10]).eq (BS.ofList l)) = _
  rw [sl_eq]
/-- numbers that go down, as an int holds them. -/
theorem wrap_i64_mod (n : Int) : ∃ q : Int, IntKind.i64.wrap n = n - q * 2 ^ 64 ∧ -2 ^ 63 ≤ IntKind.i64.wrap n ∧ IntKind.i64.wrap n < 2 ^ 63 := by
  have h0 := Int.emod_nonneg n (show (2 ^ 64 : Int) ≠ 0 by decide)
  have h1 := Int.emod_lt_of_pos n (show (0 : Int) < 2 ^ 64 by decide)
  have h2 := Int.emod_add_mul_ediv n (2 ^ 64)
  have hd : IntKind.i64.wrap n = if n % 2 ^ 64 ≥ 2 ^ 63 then n % 2 ^ 64 - 2 ^ 64 else n % 2 ^ 64 := by
    have e : IntKind.i64.wrap n = if (true && decide (n % (2 ^ 64 : Int) ≥ 2 ^ 63)) = true then n % 2 ^ 64 - 2 ^ 64 else n % 2 ^ 64 := rfl
    rw [e]; simp
  rw [hd]
  split
  · exact ⟨n / 2 ^ 64 + 1, by omega, by omega, by omega⟩
  · exact ⟨n / 2 ^ 64, by omega, by omega, by omega⟩
theorem wrap_i64_eq {a b : Int} {q : Int} (h : a = b - q * 2 ^ 64) : IntKind.i64.wrap a = IntKind.i64.wrap b := by
  obtain ⟨q1, e1, l1, u1⟩ := wrap_i64_mod a
  obtain ⟨q2, e2, l2, u2⟩ := wrap_i64_mod b
  omega
theorem wrap_down (n : Int) (k : Nat) : IntKind.i64.wrap (IntKind.i64.wrap (n - k) - 1) = IntKind.i64.wrap (n - ((k + 1 : Nat) : Int)) := by
  obtain ⟨q, e, -, -⟩ := wrap_i64_mod (n - k)
  exact wrap_i64_eq (q := q) (by omega)
theorem wrap_zero {n : Int} {k : Nat} (hn : -2 ^ 63 ≤ n ∧ n < 2 ^ 63) (hk : k ≤ 2 ^ 30) : IntKind.i64.wrap (n - k) = 0 ↔ n = k := by
  obtain ⟨q, e, l, u⟩ := wrap_i64_mod (n - k)
  constructor
  · intro h; omega
  · intro h; rw [h, Int.sub_self]; rfl
end Go.Tc
