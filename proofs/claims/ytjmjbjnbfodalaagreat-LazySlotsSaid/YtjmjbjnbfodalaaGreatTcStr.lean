/- Texts as lists of bytes: plain laws. -/
import Derived.Test.YtjmjbjnbfodalaaGreatTcIce
set_option linter.unusedSimpArgs false
set_option linter.unusedVariables false
set_option linter.unusedSectionVars false
namespace Go.Tc
theorem sl_len (l : List UInt8) : (BS.ofList l).len = l.length := rfl
theorem sl_nats (l : List UInt8) : (BS.ofList l).nats (BS.ofList l).len = l.map (·.toNat) := by
  have := ofList_nats l l.length (Nat.le_refl _)
  rw [Nat.sub_self, List.drop_zero] at this
  exact this
theorem sl_index (l : List UInt8) (c : UInt8) : (BS.ofList l).index c.toNat = Lib.indexByte l c := by
  have h := (findByte_index l c 0).1
  unfold BS.index
  rw [sl_nats, h]
  cases findByte (l.map (·.toNat)) c.toNat 0 <;> simp
theorem sl_eq (a b : List UInt8) : (BS.ofList a).eq (BS.ofList b) = decide (a = b) := by
  rw [Bool.eq_iff_iff, BS.eq_iff, decide_eq_true_eq]
  exact ⟨ofList_inj, fun h => by rw [h]⟩
theorem strD_add (a b : BS) : strD .add a b = .str (a.app b) := rfl
theorem strD_eql (a b : BS) : strD .eql a b = .bool (a.eq b) := rfl
theorem strD_neq (a b : BS) : strD .neq a b = .bool (!a.eq b) := rfl
theorem tden_idx (s : BS) (c : Int) : TOp.den .idx [.str s, .int c] = .int (s.index c.toNat) := rfl
theorem indexByte_cons (b c : UInt8) (l : List UInt8) : Lib.indexByte (b :: l) c = if b = c then 0 else if Lib.indexByte l c = -1 then -1 else Lib.indexByte l c + 1 := by
  simp only [Lib.indexByte, beq_iff_eq]
theorem indexByte_ge (c : UInt8) : ∀ l : List UInt8, -1 ≤ Lib.indexByte l c ∧ Lib.indexByte l c < l.length
  | [] => by simp [Lib.indexByte]
  | b :: l => by
    have := indexByte_ge c l
    rw [indexByte_cons]
    simp only [List.length_cons]
    split
    · omega
    · split <;> omega
def linesFrom : List UInt8 → List UInt8 → List (List UInt8)
  | _, [] => []
  | acc, b :: r => if b = 10 then acc :: linesFrom [] r else linesFrom (acc ++ [b]) r
def linesOf (l : List UInt8) : List (List UInt8) := linesFrom [] l
theorem linesFrom_index : ∀ (l acc : List UInt8), linesFrom acc l = if Lib.indexByte l 10 < 0 then [] else (acc ++ l.take (Lib.indexByte l 10).toNat) :: linesOf (l.drop ((Lib.indexByte l 10).toNat + 1))
  | [], acc => by simp [linesFrom, Lib.indexByte]
  | b :: r, acc => by
    have h := indexByte_ge 10 r
    rw [indexByte_cons]
    simp only [linesFrom]
    by_cases e : b = 10
    · simp [e, linesOf]
    · rw [if_neg e, if_neg e, linesFrom_index r (acc ++ [b])]
      by_cases h1 : Lib.indexByte r 10 = -1
      · simp [h1]
      · rw [if_neg h1, if_neg (by omega), if_neg (by omega)]
        have : (Lib.indexByte r 10 + 1).toNat = (Lib.indexByte r 10).toNat + 1 := by omega
        rw [this, List.take_succ_cons, List.drop_succ_cons, List.append_assoc]
        rfl
theorem linesOf_none {l : List UInt8} (h : Lib.indexByte l 10 < 0) : linesOf l = [] := by
  unfold linesOf; rw [linesFrom_index, if_pos h]
theorem linesOf_some {l : List UInt8} (h : 0 ≤ Lib.indexByte l 10) : linesOf l = l.take (Lib.indexByte l 10).toNat :: linesOf (l.drop ((Lib.indexByte l 10).toNat + 1)) := by
  conv => lhs; unfold linesOf
  rw [linesFrom_index, if_neg (by omega), List.nil_append]
theorem den_nl (l : List UInt8) : TOp.den .idx [.str (BS.ofList l), .int 10] = .int (Lib.indexByte l 10) := by
  show D.int ((BS.ofList l).index (10 : UInt8).toNat) = _
  rw [sl_index]
theorem nl_eql (l : List UInt8) : strD .eql ⟨1, 10⟩ (BS.ofList l) = .bool (decide ([10] = l)) := by
  show D.bool ((BS.ofList [10]).eq (BS.ofList l)) = _
  rw [sl_eq]
theorem wrap_i64_mod (n : Int) : ∃ q : Int, IntKind.i64.wrap n = n - q * 2 ^ 64 ∧ -2 ^ 63 ≤ IntKind.i64.wrap n ∧ IntKind.i64.wrap n < 2 ^ 63 := by
  have h0 := Int.emod_nonneg n (show (2 ^ 64 : Int) ≠ 0 by decide)
  have h1 := Int.emod_lt_of_pos n (show (0 : Int) < 2 ^ 64 by decide)
  have h2 := Int.emod_add_mul_ediv n (2 ^ 64)
  have hd : IntKind.i64.wrap n = if n % 2 ^ 64 ≥ 2 ^ 63 then n % 2 ^ 64 - 2 ^ 64 else n % 2 ^ 64 := by
    have e : IntKind.i64.wrap n = if (true && decide (n % (2 ^ 64 : Int) ≥ 2 ^ 63)) = true then n % 2 ^ 64 - 2 ^ 64 else n % 2 ^ 64 := rfl
    rw [e]; simp
  rw [hd]
  split
  · exact ⟨n / 2 ^ 64 + 1, by omega, by omega, by omega⟩
  · exact ⟨n / 2 ^ 64, by omega, by omega, by omega⟩
theorem wrap_i64_eq {a b : Int} {q : Int} (h : a = b - q * 2 ^ 64) : IntKind.i64.wrap a = IntKind.i64.wrap b := by
  obtain ⟨q1, e1, l1, u1⟩ := wrap_i64_mod a
  obtain ⟨q2, e2, l2, u2⟩ := wrap_i64_mod b
  omega
theorem wrap_down (n : Int) (k : Nat) : IntKind.i64.wrap (IntKind.i64.wrap (n - k) - 1) = IntKind.i64.wrap (n - ((k + 1 : Nat) : Int)) := by
  obtain ⟨q, e, -, -⟩ := wrap_i64_mod (n - k)
  exact wrap_i64_eq (q := q) (by omega)
theorem wrap_zero {n : Int} {k : Nat} (hn : -2 ^ 63 ≤ n ∧ n < 2 ^ 63) (hk : k ≤ 2 ^ 30) : IntKind.i64.wrap (n - k) = 0 ↔ n = k := by
  obtain ⟨q, e, l, u⟩ := wrap_i64_mod (n - k)
  constructor
  · intro h; omega
  · intro h; rw [h, Int.sub_self]; rfl
end Go.Tc
namespace Go.Tc
theorem wrap_u64 {n : Int} (h : 0 ≤ n ∧ n < 2 ^ 64) : IntKind.u64.wrap n = n := by
  unfold IntKind.wrap
  simp [IntKind.signed, IntKind.bits]
  omega
theorem or_byte (x b : Nat) (hx : x < 2 ^ 56) (hb : b < 256) : intD .or .u64 ((x * 256 : Nat) : Int) (b : Int) = .int ((x * 256 + b : Nat) : Int) := by
  have h1 : (BitVec.ofInt 64 ((x * 256 : Nat) : Int)) = BitVec.ofNat 64 (x * 256) := BitVec.ofInt_natCast _ _
  have h2 : (BitVec.ofInt 64 ((b : Nat) : Int)) = BitVec.ofNat 64 b := BitVec.ofInt_natCast _ _
  show D.int (IntKind.u64.wrap (((BitVec.ofInt 64 ((x * 256 : Nat) : Int)) ||| (BitVec.ofInt 64 ((b : Nat) : Int))).toNat : Int)) = _
  rw [h1, h2, BitVec.toNat_or, BitVec.toNat_ofNat, BitVec.toNat_ofNat, Nat.mod_eq_of_lt (by omega), Nat.mod_eq_of_lt (by omega)]
  have h3 : x * 256 ||| b = x * 256 + b := by
    have := Nat.shiftLeft_add_eq_or_of_lt (i := 8) (b := b) (by simpa using hb) x
    rw [Nat.shiftLeft_eq] at this
    exact this.symm
  rw [h3, wrap_u64 (by omega)]
theorem shl_byte (x : Nat) (hx : x < 2 ^ 56) : shiftD .shl .u64 (x : Int) 8 = .int ((x * 256 : Nat) : Int) := by
  show D.int (IntKind.u64.wrap ((x : Int) * 2 ^ min (8 : Int).toNat 64)) = _
  rw [show (2 : Int) ^ min (8 : Int).toNat 64 = 256 from rfl, wrap_u64 (by omega)]
  simp
def byteOf (n j : Nat) : Nat := n / 2 ^ (8 * j) % 256
def byTm (w : Tm) (j : Nat) : Tm := .op .byte [.op .byte [.op (.conv .u8) [.op (.shift .shr .u64) [w, .int (8 * j : Nat)]]]]
def getTm (w : Tm) : Nat → Tm
  | 0 => .int 0
  | 1 => .op (.bin .or .u64) [.int 0, .op (.conv .u64) [byTm w 7]]
  | k + 2 => .op (.bin .or .u64) [.op (.shift .shl .u64) [getTm w (k + 1), .int 8], .op (.conv .u64) [byTm w (6 - k)]]
theorem byTm_den [Val] {w : Tm} {n : Nat} (hw : w.den = .int n) {j : Nat} (hj : j < 8) : (byTm w j).den = .int (byteOf n j) := by
  have h1 : (Tm.op (.shift .shr .u64) [w, .int (8 * j : Nat)]).den = .int ((n / 2 ^ (8 * j) : Nat) : Int) := by
    simp only [Tm.den, Tm.dens, hw, TOp.den, shiftD]
    rw [Int.toNat_natCast, show IntKind.bits .u64 = 64 from rfl, Nat.min_eq_left (by omega), Int.fdiv_eq_ediv_of_nonneg _ (Int.le_of_lt (Int.pow_pos (by omega)))]
    congr 1
  have h2 : (Tm.op (.conv .u8) [.op (.shift .shr .u64) [w, .int (8 * j : Nat)]]).den = .int ((byteOf n j : Nat) : Int) := by
    rw [den_op, dens_cons, dens_nil, h1, tden_conv]
    congr 1
  have hb : byteOf n j < 256 := Nat.mod_lt _ (by omega)
  unfold byTm
  rw [den_op, dens_cons, dens_nil, den_op, dens_cons, dens_nil, h2]
  show D.int (((D.int (((D.int ((byteOf n j : Nat) : Int)).nat % 256 : Nat) : Int)).nat % 256 : Nat) : Int) = _
  simp only [D.nat, Int.toNat_natCast]
  rw [Nat.mod_eq_of_lt hb, Nat.mod_eq_of_lt hb]
theorem getTm_den [Val] {w : Tm} {n : Nat} (hw : w.den = .int n) (hn : n < 2 ^ 64) : ∀ k, k ≤ 7 → (getTm w (k + 1)).den = .int ((n / 2 ^ (8 * (7 - k)) : Nat) : Int)
  | 0, _ => by
    have hb : byteOf n 7 = n / 2 ^ 56 := by unfold byteOf; omega
    have h := byTm_den hw (j := 7) (by omega)
    have h64 : (Tm.op (.conv .u64) [byTm w 7]).den = .int ((byteOf n 7 : Nat) : Int) := by
      rw [den_op, dens_cons, dens_nil, h, tden_conv, wrap_u64 (by unfold byteOf; omega)]
    simp only [getTm]
    rw [den_op, dens_cons, dens_cons, dens_nil, h64, den_int, tden_bin]
    have := or_byte 0 (byteOf n 7) (by omega) (by unfold byteOf; omega)
    rw [Nat.zero_mul, Nat.zero_add] at this
    rw [show (0 : Int) = ((0 : Nat) : Int) from rfl, this, hb]
  | k + 1, hk => by
    have ih := getTm_den hw hn k (by omega)
    have h := byTm_den hw (j := 6 - k) (by omega)
    have h64 : (Tm.op (.conv .u64) [byTm w (6 - k)]).den = .int ((byteOf n (6 - k) : Nat) : Int) := by
      rw [den_op, dens_cons, dens_nil, h, tden_conv, wrap_u64 (by unfold byteOf; omega)]
    have e : 8 * (7 - k) = 8 * (6 - k) + 8 := by omega
    have hd : n / 2 ^ (8 * (7 - k)) = n / 2 ^ (8 * (6 - k)) / 256 := by rw [e, Nat.pow_add, Nat.div_div_eq_div_mul]
    have hlt : n / 2 ^ (8 * (7 - k)) < 2 ^ 56 := by
      rw [hd, Nat.div_div_eq_div_mul]
      refine Nat.div_lt_of_lt_mul ?_
      have : 256 ≤ 2 ^ (8 * (6 - k)) * 256 := Nat.le_mul_of_pos_left _ (Nat.pow_pos (by omega))
      exact Nat.lt_of_lt_of_le (show n < 256 * 2 ^ 56 by omega) (Nat.mul_le_mul_right _ this)
    simp only [getTm]
    rw [den_op, dens_cons, dens_cons, dens_nil, h64, den_op, dens_cons, dens_cons, dens_nil, ih, den_int, tden_shift, shl_byte _ hlt, tden_bin, or_byte _ _ hlt (by unfold byteOf; omega)]
    congr 2
    rw [show 7 - (k + 1) = 6 - k by omega, hd]
    unfold byteOf
    omega
theorem get8_den [Val] {w : Tm} {n : Nat} (hw : w.den = .int n) (hn : n < 2 ^ 64) : (getTm w 8).den = w.den := by
  rw [getTm_den hw hn 7 (by omega), hw]
  simp
end Go.Tc
