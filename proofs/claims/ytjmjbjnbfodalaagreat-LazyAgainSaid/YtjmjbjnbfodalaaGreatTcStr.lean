/- Texts as lists of bytes: plain laws. -/
import Derived.Test.YtjmjbjnbfodalaaGreatTcIce
set_option linter.unusedSimpArgs false
set_option linter.unusedVariables false
set_option linter.unusedSectionVars false
namespace Go.Tc
end Go.Tc
namespace Go.Tc
theorem wrap_u64 {n : Int} (h : 0 ≤ n ∧ n < 2 ^ 64) : IntKind.u64.wrap n = n := by
  unfold IntKind.wrap
  simp [IntKind.signed, IntKind.bits]
  omega
theorem or_byte (x b : Nat) (hx : x < 2 ^ 56) (hb : b < 256) : intD .or .u64 ((x * 256 : Nat) : Int) (b : Int) = .int ((x * 256 + b : Nat) : Int) := by
  have h1 : (BitVec.ofInt 64 ((x * 256 : Nat) : Int)) = BitVec.ofNat 64 (x * 256) := BitVec.ofInt_natCast _ _
  have h2 : (BitVec.ofInt 64 ((b : Nat) : Int)) = BitVec.ofNat 64 b := BitVec.ofInt_natCast _ _
  show D.int (IntKind.u64.wrap (((BitVec.ofInt 64 ((x * 256 : Nat) : Int)) ||| (BitVec.ofInt 64 ((b : Nat) : Int))).toNat : Int)) = _
  rw [h1, h2, BitVec.toNat_or, BitVec.toNat_ofNat, BitVec.toNat_ofNat, Nat.mod_eq_of_lt (by omega), Nat.mod_eq_of_lt (by omega)]
  have h3 : x * 256 ||| b = x * 256 + b := by
    have := Nat.shiftLeft_add_eq_or_of_lt (i := 8) (b := b) (by simpa using hb) x
    rw [Nat.shiftLeft_eq] at this
    exact this.symm
  rw [h3, wrap_u64 (by omega)]
theorem shl_byte (x : Nat) (hx : x < 2 ^ 56) : shiftD .shl .u64 (x : Int) 8 = .int ((x * 256 : Nat) : Int) := by
  show D.int (IntKind.u64.wrap ((x : Int) * 2 ^ min (8 : Int).toNat 64)) = _
  rw [show (2 : Int) ^ min (8 : Int).toNat 64 = 256 from rfl, wrap_u64 (by omega)]
  simp
def byteOf (n j : Nat) : Nat := n / 2 ^ (8 * j) % 256
def byTm (w : Tm) (j : Nat) : Tm := .op .byte [.op .byte [.op (.conv .u8) [.op (.shift .shr .u64) [w, .int (8 * j : Nat)]]]]
def getTm (w : Tm) : Nat → Tm
  | 0 => .int 0
  | 1 => .op (.bin .or .u64) [.int 0, .op (.conv .u64) [byTm w 7]]
  | k + 2 => .op (.bin .or .u64) [.op (.shift .shl .u64) [getTm w (k + 1), .int 8], .op (.conv .u64) [byTm w (6 - k)]]
theorem byTm_den [Val] {w : Tm} {n : Nat} (hw : w.den = .int n) {j : Nat} (hj : j < 8) : (byTm w j).den = .int (byteOf n j) := by
  have h1 : (Tm.op (.shift .shr .u64) [w, .int (8 * j : Nat)]).den = .int ((n / 2 ^ (8 * j) : Nat) : Int) := by
    simp only [Tm.den, Tm.dens, hw, TOp.den, shiftD]
    rw [Int.toNat_natCast, show IntKind.bits .u64 = 64 from rfl, Nat.min_eq_left (by omega), Int.fdiv_eq_ediv_of_nonneg _ (Int.le_of_lt (Int.pow_pos (by omega)))]
    congr 1
  have h2 : (Tm.op (.conv .u8) [.op (.shift .shr .u64) [w, .int (8 * j : Nat)]]).den = .int ((byteOf n j : Nat) : Int) := by
    rw [den_op, dens_cons, dens_nil, h1, tden_conv]
    congr 1
  have hb : byteOf n j < 256 := Nat.mod_lt _ (by omega)
  unfold byTm
  rw [den_op, dens_cons, dens_nil, den_op, dens_cons, dens_nil, h2]
  show D.int (((D.int (((D.int ((byteOf n j : Nat) : Int)).nat % 256 : Nat) : Int)).nat % 256 : Nat) : Int) = _
  simp only [D.nat, Int.toNat_natCast]
  rw [Nat.mod_eq_of_lt hb, Nat.mod_eq_of_lt hb]
theorem getTm_den [Val] {w : Tm} {n : Nat} (hw : w.den = .int n) (hn : n < 2 ^ 64) : ∀ k, k ≤ 7 → (getTm w (k + 1)).den = .int ((n / 2 ^ (8 * (7 - k)) : Nat) : Int)
  | 0, _ => by
    have hb : byteOf n 7 = n / 2 ^ 56 := by unfold byteOf; omega
    have h := byTm_den hw (j := 7) (by omega)
    have h64 : (Tm.op (.conv .u64) [byTm w 7]).den = .int ((byteOf n 7 : Nat) : Int) := by
      rw [den_op, dens_cons, dens_nil, h, tden_conv, wrap_u64 (by unfold byteOf; omega)]
    simp only [getTm]
    rw [den_op, dens_cons, dens_cons, dens_nil, h64, den_int, tden_bin]
    have := or_byte 0 (byteOf n 7) (by omega) (by unfold byteOf; omega)
    rw [Nat.zero_mul, Nat.zero_add] at this
    rw [show (0 : Int) = ((0 : Nat) : Int) from rfl, this, hb]
  | k + 1, hk => by
    have ih := getTm_den hw hn k (by omega)
    have h := byTm_den hw (j := 6 - k) (by omega)
    have h64 : (Tm.op (.conv .u64) [byTm w (6 - k)]).den = .int ((byteOf n (6 - k) : Nat) : Int) := by
      rw [den_op, dens_cons, dens_nil, h, tden_conv, wrap_u64 (by unfold byteOf; omega)]
    have e : 8 * (7 - k) = 8 * (6 - k) + 8 := by omega
    have hd : n / 2 ^ (8 * (7 - k)) = n / 2 ^ (8 * (6 - k)) / 256 := by rw [e, Nat.pow_add, Nat.div_div_eq_div_mul]
    have hlt : n / 2 ^ (8 * (7 - k)) < 2 ^ 56 := by
      rw [hd, Nat.div_div_eq_div_mul]
      refine Nat.div_lt_of_lt_mul ?_
      have : 256 ≤ 2 ^ (8 * (6 - k)) * 256 := Nat.le_mul_of_pos_left _ (Nat.pow_pos (by omega))
      exact Nat.lt_of_lt_of_le (show n < 256 * 2 ^ 56 by omega) (Nat.mul_le_mul_right _ this)
    simp only [getTm]
    rw [den_op, dens_cons, dens_cons, dens_nil, h64, den_op, dens_cons, dens_cons, dens_nil, ih, den_int, tden_shift, shl_byte _ hlt, tden_bin, or_byte _ _ hlt (by unfold byteOf; omega)]
    congr 2
    rw [show 7 - (k + 1) = 6 - k by omega, hd]
    unfold byteOf
    omega
theorem get8_den [Val] {w : Tm} {n : Nat} (hw : w.den = .int n) (hn : n < 2 ^ 64) : (getTm w 8).den = w.den := by
  rw [getTm_den hw hn 7 (by omega), hw]
  simp
end Go.Tc
