/- the walks over the two functions Entry, and over Parse: what each call answers. No condition but that the arguments are of their kinds. -/
import Derived.Test.YtgnnmpjafjlnfaaGreatProg
import Derived.WalkKit
import Derived.WalkSpells
import Derived.WalkLawsBesides
namespace Go.Proofs.YtgnnmpjafjlnfaaGreat
open Go.RowKit

set_option maxHeartbeats 400000 in
theorem entry_no (id slot : Int) (w : World) (h : id < 0 ∨ 1073741824 < id ∨ slot < 0 ∨ 256 ≤ slot) :
    Calls Tryz.prog 21 #[.int .i64 id, .int .i64 slot] w fun e w' => e = .returned (.int .u64 0) ∧ w = w' := by
  by_cases h1 : id < 0
  · go_enter Tryz.func21, Tryz.ntmps21
    go_wp2
    go_ret
    exact ⟨rfl, rfl⟩
  by_cases h2 : 1073741824 < id
  · go_enter Tryz.func21, Tryz.ntmps21
    go_wp2
    go_ret
    exact ⟨rfl, rfl⟩
  by_cases h3 : slot < 0
  · go_enter Tryz.func21, Tryz.ntmps21
    go_wp2
    go_ret
    exact ⟨rfl, rfl⟩
  have h4 : 256 ≤ slot := by omega
  go_enter Tryz.func21, Tryz.ntmps21
  go_wp2
  go_ret
  exact ⟨rfl, rfl⟩

set_option maxHeartbeats 400000 in
theorem entry_in (id slot : Int) (w : World) (h1 : 0 ≤ id) (h2 : id ≤ 1073741824) (h3 : 0 ≤ slot) (h4 : slot < 256) :
    Calls Tryz.prog 21 #[.int .i64 id, .int .i64 slot] w fun e w' => e = .returned (.int .u64 (1099511627776 + 8 * (id * 256 + slot))) ∧ w = w' := by
  go_enter Tryz.func21, Tryz.ntmps21
  go_wp2
  go_ret
  exact ⟨rfl, rfl⟩

set_option maxHeartbeats 400000 in
theorem ref_no (id slot : Int) (w : World) (h : id < 0 ∨ 1073741824 < id ∨ slot < 0 ∨ 256 ≤ slot) :
    Calls Tryz.prog 22 #[.int .i64 id, .int .i64 slot] w fun e w' => e = .returned (.int .u64 0) ∧ w = w' := by
  by_cases h1 : id < 0
  · go_enter Tryz.func22, Tryz.ntmps22
    go_wp2
    go_ret
    exact ⟨rfl, rfl⟩
  by_cases h2 : 1073741824 < id
  · go_enter Tryz.func22, Tryz.ntmps22
    go_wp2
    go_ret
    exact ⟨rfl, rfl⟩
  by_cases h3 : slot < 0
  · go_enter Tryz.func22, Tryz.ntmps22
    go_wp2
    go_ret
    exact ⟨rfl, rfl⟩
  have h4 : 256 ≤ slot := by omega
  have h5 : 255 < slot := by omega
  go_enter Tryz.func22, Tryz.ntmps22
  go_wp2
  go_ret
  exact ⟨rfl, rfl⟩

set_option maxHeartbeats 400000 in
theorem ref_in (id slot : Int) (w : World) (h1 : 0 ≤ id) (h2 : id ≤ 1073741824) (h3 : 0 ≤ slot) (h4 : slot ≤ 255) :
    Calls Tryz.prog 22 #[.int .i64 id, .int .i64 slot] w fun e w' => e = .returned (.int .u64 (1099511627776 + 2048 * id + 8 * slot)) ∧ w = w' := by
  go_enter Tryz.func22, Tryz.ntmps22
  go_wp2
  go_ret
  exact ⟨rfl, rfl⟩

set_option maxHeartbeats 400000 in
theorem parse_low (at_ : Int) (w : World) (_ : 0 ≤ at_) (h : at_ < 1099511627776) :
    Calls Tryz.prog 23 #[.int .u64 at_] w fun e w' => e = .returned (.tuple #[.int .i64 0, .int .i64 0, .bool false]) ∧ w = w' := by
  go_enter Tryz.func23, Tryz.ntmps23
  go_wp2
  go_ret3
  exact ⟨rfl, rfl⟩

set_option maxHeartbeats 400000 in
theorem parse_high (at_ : Int) (w : World) (h : 1099511627776 ≤ at_) (h1 : at_ < 18446744073709551616) (h2 : 1073741824 < (at_ - 1099511627776) / 8 / 256) :
    Calls Tryz.prog 23 #[.int .u64 at_] w fun e w' => e = .returned (.tuple #[.int .i64 0, .int .i64 0, .bool false]) ∧ w = w' := by
  go_enter Tryz.func23, Tryz.ntmps23
  go_wp2
  go_ret3
  exact ⟨rfl, rfl⟩

set_option maxHeartbeats 400000 in
theorem parse_odd (at_ : Int) (w : World) (h : 1099511627776 ≤ at_) (h1 : at_ < 18446744073709551616) (h2 : (at_ - 1099511627776) / 8 / 256 ≤ 1073741824) (h3 : at_ % 8 ≠ 0) :
    Calls Tryz.prog 23 #[.int .u64 at_] w fun e w' => e = .returned (.tuple #[.int .i64 0, .int .i64 0, .bool false]) ∧ w = w' := by
  have hb : (1099511627776 + 8 * ((at_ - 1099511627776) / 8 / 256 * 256 + (at_ - 1099511627776) / 8 % 256) != at_) = true := by rw [bne_iff_ne]; omega
  go_enter Tryz.func23, Tryz.ntmps23
  go_wp2
  go_ret3
  exact ⟨rfl, rfl⟩

set_option maxHeartbeats 400000 in
theorem parse_yes (at_ : Int) (w : World) (h : 1099511627776 ≤ at_) (h1 : at_ < 18446744073709551616) (h2 : (at_ - 1099511627776) / 8 / 256 ≤ 1073741824) (h3 : at_ % 8 = 0) :
    Calls Tryz.prog 23 #[.int .u64 at_] w fun e w' => e = .returned (.tuple #[.int .i64 ((at_ - 1099511627776) / 8 / 256), .int .i64 ((at_ - 1099511627776) / 8 % 256), .bool true]) ∧ w = w' := by
  have hb : (1099511627776 + 8 * ((at_ - 1099511627776) / 8 / 256 * 256 + (at_ - 1099511627776) / 8 % 256) != at_) = false := by rw [bne_eq_false_iff_eq]; omega
  go_enter Tryz.func23, Tryz.ntmps23
  go_wp2
  go_ret3
  exact ⟨rfl, rfl⟩

/-- an entry is parsed as what it is the entry of. -/
theorem parse_entry (id slot : Int) (w : World) (h1 : 0 ≤ id) (h2 : id ≤ 1073741824) (h3 : 0 ≤ slot) (h4 : slot < 256) :
    Calls Tryz.prog 23 #[.int .u64 (1099511627776 + 8 * (id * 256 + slot))] w fun e w' => e = .returned (.tuple #[.int .i64 id, .int .i64 slot, .bool true]) ∧ w = w' := by
  have h := parse_yes (1099511627776 + 8 * (id * 256 + slot)) w (by omega) (by omega) (by omega) (by omega)
  rw [show (1099511627776 + 8 * (id * 256 + slot) - 1099511627776) / 8 / 256 = id from by omega, show (1099511627776 + 8 * (id * 256 + slot) - 1099511627776) / 8 % 256 = slot from by omega] at h
  exact h
theorem ref_same (id slot : Int) (w : World) (h1 : 0 ≤ id) (h2 : id ≤ 1073741824) (h3 : 0 ≤ slot) (h4 : slot < 256) :
    Calls Tryz.prog 22 #[.int .i64 id, .int .i64 slot] w fun e w' => e = .returned (.int .u64 (1099511627776 + 8 * (id * 256 + slot))) ∧ w = w' := by
  have h := ref_in id slot w h1 h2 h3 (by omega)
  rw [show 1099511627776 + 2048 * id + 8 * slot = 1099511627776 + 8 * (id * 256 + slot) from by omega] at h
  exact h
/-- the reference's entry of what an address is parsed as. -/
theorem ref_back (at_ : Int) (w : World) (h : 1099511627776 ≤ at_) (h2 : (at_ - 1099511627776) / 8 / 256 ≤ 1073741824) (h3 : at_ % 8 = 0) :
    Calls Tryz.prog 22 #[.int .i64 ((at_ - 1099511627776) / 8 / 256), .int .i64 ((at_ - 1099511627776) / 8 % 256)] w fun e w' => e = .returned (.int .u64 at_) ∧ w = w' := by
  have h := ref_same ((at_ - 1099511627776) / 8 / 256) ((at_ - 1099511627776) / 8 % 256) w (by omega) h2 (by omega) (by omega)
  rw [show 1099511627776 + 8 * ((at_ - 1099511627776) / 8 / 256 * 256 + (at_ - 1099511627776) / 8 % 256) = at_ from by omega] at h
  exact h
end Go.Proofs.YtgnnmpjafjlnfaaGreat
