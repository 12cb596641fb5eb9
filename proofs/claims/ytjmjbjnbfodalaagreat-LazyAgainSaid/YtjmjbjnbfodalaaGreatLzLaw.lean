/- the law LazySlots, some slots: whatever their symbols, the number and the calls: true. Conditions: the contracts of what it calls. -/
import Derived.Test.YtjmjbjnbfodalaaGreatLzLay
import Derived.Test.YtjmjbjnbfodalaaGreatLzLawK
set_option linter.unusedSimpArgs false
set_option linter.unusedVariables false
set_option linter.unusedSectionVars false
set_option maxRecDepth 100000
namespace Go.Proofs.YtjmjbjnbfodalaaGreat
open Go.Tc
namespace lz
theorem byte_twice [Val] (x : Tm) : (Tm.op .byte [x]).den = (Tm.op .byte [.op .byte [x]]).den := by
  rw [den_op, dens_cons, dens_nil, den_op, dens_cons, dens_nil, den_op, dens_cons, dens_nil]
  generalize x.den = d
  show D.int ((d.nat % 256 : Nat) : Int) = D.int (((D.int ((d.nat % 256 : Nat) : Int)).nat % 256 : Nat) : Int)
  simp only [D.nat, Int.toNat_natCast, Nat.mod_mod]
theorem by1_eq [Val] (w : Tm) (j : Nat) : (by1 w j).den = (byTm w j).den := byte_twice _
theorem get1_eq [Val] (w : Tm) : ∀ k, (get1 w k).den = (getTm w k).den
  | 0 => rfl
  | 1 => by
    simp only [get1, getTm]
    rw [den_op, dens_cons, dens_cons, dens_nil, den_op, dens_cons, dens_nil, by1_eq, den_op, dens_cons, dens_cons, dens_nil, den_op, dens_cons, dens_nil]
  | k + 2 => by
    simp only [get1, getTm]
    rw [den_op, dens_cons, dens_cons, dens_nil, den_op, dens_cons, dens_cons, dens_nil, get1_eq w (k + 1), den_op, dens_cons, dens_nil, by1_eq,
      den_op, dens_cons, dens_cons, dens_nil, den_op, dens_cons, dens_cons, dens_nil, den_op, dens_cons, dens_nil]
theorem get1_den [Val] {w : Tm} {n : Int} (hw : w.den = .int n) (h0 : 0 ≤ n) (hn : n < 2 ^ 64) : (get1 w 8).den = .int n := by
  obtain ⟨m, rfl⟩ : ∃ m : Nat, n = m := ⟨n.toNat, by omega⟩
  rw [get1_eq, get8_den hw (by omega), hw]
theorem mask16 (id : Int) : ∃ r, intD .and .i64 id 65535 = .int r ∧ 0 ≤ r ∧ r ≤ 65535 := by
  refine ⟨((BitVec.ofInt 64 id &&& BitVec.ofInt 64 65535).toNat : Nat), ?_, by omega, ?_⟩
  · show D.int (IntKind.i64.wrap ((BitVec.ofInt 64 id &&& BitVec.ofInt 64 65535).toNat : Int)) = _
    have h : (BitVec.ofInt 64 id &&& BitVec.ofInt 64 65535).toNat ≤ 65535 := by
      rw [BitVec.toNat_and]
      exact Nat.le_trans Nat.and_le_right (by decide)
    rw [wrap_i64 (by omega)]
  · have h : (BitVec.ofInt 64 id &&& BitVec.ofInt 64 65535).toNat ≤ 65535 := by
      rw [BitVec.toNat_and]
      exact Nat.le_trans Nat.and_le_right (by decide)
    omega
namespace ls
structure Kit (np m : Nat) (b fv : Int) : Prop where
  kb : chkB np = true
  kc : chkC np = true
  kd : chkD np = true
  ke : chkE np = true
  kn : chkN np = true
  kf : chkF np = true
  kh : ∀ k, k ≤ m → chkH np k = true
  v1 : ∀ k, k < m → chk1 np b fv k = true
  v2 : ∀ k, k < m → chk2 np b k = true
  v3 : ∀ k, k < m → chk3 np b fv k = true
  kg : ∀ d k, k < m → chkG np b d k = true
noncomputable def D5 (sl : List Int) (r b fv : Int) (n : Nat) (tx : D) : List D := [md.ints sl, .int r, bnds r fv (Mof b n (symOf sl)), tx, .int fv]
section
variable {np m : Nat} {b fv : Int} (K : Kit np m b fv) (R : rs.Kit np m b fv) (hfv : 0 ≤ fv ∧ fv ≤ 1000) (hm : m ≤ 12)
variable (sl calls : List Int) (r : Int) (hr : 0 ≤ r ∧ r ≤ 65535) (n : Nat) (hn : n ≤ m) (hns : n ≤ sl.length) (tx : D)
include K R hfv hm hr hn hns
end
end ls
end lz
end Go.Proofs.YtjmjbjnbfodalaaGreat
