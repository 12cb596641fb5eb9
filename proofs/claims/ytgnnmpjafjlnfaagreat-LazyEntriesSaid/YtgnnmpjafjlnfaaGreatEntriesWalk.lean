/- the walk over the law LazyEntries: it answers true, and keeps what lay in memory, where its first lines do. No other condition but that the arguments are of their kinds. -/
import Derived.Test.YtgnnmpjafjlnfaaGreatLazyWalk
namespace Go.Proofs.YtgnnmpjafjlnfaaGreat
open Go.RowKit

theorem parse_zero (w : World) : Calls Tryz.prog 23 #[.int .u64 0] w fun e w' => e = .returned (.tuple #[.int .i64 0, .int .i64 0, .bool false]) ∧ w = w' := parse_low 0 w (by omega) (by omega)
/-- numbers of which there is no entry. -/
def NoEntry (id slot : Int) : Prop := id < 0 ∨ 1073741824 < id ∨ slot < 0 ∨ 256 ≤ slot
theorem ref_none (id slot : Int) (w : World) (h : NoEntry id slot) : Calls Tryz.prog 22 #[.int .i64 id, .int .i64 slot] w fun e w' => e = .returned (.int .u64 0) ∧ w = w' := ref_no id slot w h
/-- what the first lines' call is held to do. -/
def SpeaksAt (K : World → World → Prop) : Prop := ∀ w : World, 1 ≤ w.heap.size → Calls Tryz.prog 15 #[] w fun e w' => e = .returned (.bool true) ∧ K w w'

set_option maxHeartbeats 1000000 in
theorem entries_in_yes {K : World → World → Prop} (hs : SpeaksAt K) (id slot at_ : Int) (w : World) (hz : 1 ≤ w.heap.size) (h1 : 0 ≤ id) (h2 : id ≤ 1073741824) (h3 : 0 ≤ slot) (h4 : slot < 256)
    (a1 : 1099511627776 ≤ at_) (a2 : at_ < 18446744073709551616) (a3 : (at_ - 1099511627776) / 8 / 256 ≤ 1073741824) (a4 : at_ % 8 = 0) :
    Calls Tryz.prog 5 #[.int .i64 id, .int .i64 slot, .int .u64 at_] w fun e w' => e = .returned (.bool true) ∧ K w w' := by
  have hp : decide (0 < 1099511627776 + 8 * (id * 256 + slot)) = true := by simp; omega
  go_enter Tryz.func5, Tryz.ntmps5
  go_wp2_with (first
    | (go_at_call 15; refine (hs _ hz).mono ?_; rintro e w' ⟨rfl, hk⟩)
    | (go_at_call 21; refine (entry_in id slot _ h1 h2 h3 h4).mono ?_; rintro e w' ⟨rfl, rfl⟩)
    | (go_at_call 22; (with_reducible refine (ref_same id slot _ h1 h2 h3 h4).mono ?_); rintro e w' ⟨rfl, rfl⟩)
    | (go_at_call 23; (with_reducible refine (parse_entry id slot _ h1 h2 h3 h4).mono ?_); rintro e w' ⟨rfl, rfl⟩)
    | (go_at_call 22; (with_reducible refine (ref_back at_ _ a1 a3 a4).mono ?_); rintro e w' ⟨rfl, rfl⟩)
    | (go_at_call 23; (with_reducible refine (parse_yes at_ _ a1 a2 a3 a4).mono ?_); rintro e w' ⟨rfl, rfl⟩))
  go_ret
  exact ⟨rfl, hk⟩

set_option maxHeartbeats 1000000 in
theorem entries_in_low {K : World → World → Prop} (hs : SpeaksAt K) (id slot at_ : Int) (w : World) (hz : 1 ≤ w.heap.size) (h1 : 0 ≤ id) (h2 : id ≤ 1073741824) (h3 : 0 ≤ slot) (h4 : slot < 256)
    (a0 : 0 ≤ at_) (a1 : at_ < 1099511627776) :
    Calls Tryz.prog 5 #[.int .i64 id, .int .i64 slot, .int .u64 at_] w fun e w' => e = .returned (.bool true) ∧ K w w' := by
  have hp : decide (0 < 1099511627776 + 8 * (id * 256 + slot)) = true := by simp; omega
  go_enter Tryz.func5, Tryz.ntmps5
  go_wp2_with (first
    | (go_at_call 15; refine (hs _ hz).mono ?_; rintro e w' ⟨rfl, hk⟩)
    | (go_at_call 21; refine (entry_in id slot _ h1 h2 h3 h4).mono ?_; rintro e w' ⟨rfl, rfl⟩)
    | (go_at_call 22; (with_reducible refine (ref_same id slot _ h1 h2 h3 h4).mono ?_); rintro e w' ⟨rfl, rfl⟩)
    | (go_at_call 23; (with_reducible refine (parse_entry id slot _ h1 h2 h3 h4).mono ?_); rintro e w' ⟨rfl, rfl⟩)
    | (go_at_call 23; (with_reducible refine (parse_low at_ _ a0 a1).mono ?_); rintro e w' ⟨rfl, rfl⟩))
  go_ret
  exact ⟨rfl, hk⟩

set_option maxHeartbeats 1000000 in
theorem entries_in_high {K : World → World → Prop} (hs : SpeaksAt K) (id slot at_ : Int) (w : World) (hz : 1 ≤ w.heap.size) (h1 : 0 ≤ id) (h2 : id ≤ 1073741824) (h3 : 0 ≤ slot) (h4 : slot < 256)
    (a1 : 1099511627776 ≤ at_) (a2 : at_ < 18446744073709551616) (a3 : 1073741824 < (at_ - 1099511627776) / 8 / 256) :
    Calls Tryz.prog 5 #[.int .i64 id, .int .i64 slot, .int .u64 at_] w fun e w' => e = .returned (.bool true) ∧ K w w' := by
  have hp : decide (0 < 1099511627776 + 8 * (id * 256 + slot)) = true := by simp; omega
  have a5 : 3298534885376 ≤ at_ := by omega
  by_cases a6 : 0 < at_ % 8
  · go_enter Tryz.func5, Tryz.ntmps5
    go_wp2_with (first
      | (go_at_call 15; refine (hs _ hz).mono ?_; rintro e w' ⟨rfl, hk⟩)
      | (go_at_call 21; refine (entry_in id slot _ h1 h2 h3 h4).mono ?_; rintro e w' ⟨rfl, rfl⟩)
      | (go_at_call 22; (with_reducible refine (ref_same id slot _ h1 h2 h3 h4).mono ?_); rintro e w' ⟨rfl, rfl⟩)
      | (go_at_call 23; (with_reducible refine (parse_entry id slot _ h1 h2 h3 h4).mono ?_); rintro e w' ⟨rfl, rfl⟩)
      | (go_at_call 23; (with_reducible refine (parse_high at_ _ a1 a2 a3).mono ?_); rintro e w' ⟨rfl, rfl⟩))
    go_ret
    exact ⟨rfl, hk⟩
  · go_enter Tryz.func5, Tryz.ntmps5
    go_wp2_with (first
      | (go_at_call 15; refine (hs _ hz).mono ?_; rintro e w' ⟨rfl, hk⟩)
      | (go_at_call 21; refine (entry_in id slot _ h1 h2 h3 h4).mono ?_; rintro e w' ⟨rfl, rfl⟩)
      | (go_at_call 22; (with_reducible refine (ref_same id slot _ h1 h2 h3 h4).mono ?_); rintro e w' ⟨rfl, rfl⟩)
      | (go_at_call 23; (with_reducible refine (parse_entry id slot _ h1 h2 h3 h4).mono ?_); rintro e w' ⟨rfl, rfl⟩)
      | (go_at_call 23; (with_reducible refine (parse_high at_ _ a1 a2 a3).mono ?_); rintro e w' ⟨rfl, rfl⟩))
    go_ret
    exact ⟨rfl, hk⟩

set_option maxHeartbeats 1000000 in
theorem entries_in_odd {K : World → World → Prop} (hs : SpeaksAt K) (id slot at_ : Int) (w : World) (hz : 1 ≤ w.heap.size) (h1 : 0 ≤ id) (h2 : id ≤ 1073741824) (h3 : 0 ≤ slot) (h4 : slot < 256)
    (a1 : 1099511627776 ≤ at_) (a2 : at_ < 18446744073709551616) (a3 : (at_ - 1099511627776) / 8 / 256 ≤ 1073741824) (a4 : at_ % 8 ≠ 0) :
    Calls Tryz.prog 5 #[.int .i64 id, .int .i64 slot, .int .u64 at_] w fun e w' => e = .returned (.bool true) ∧ K w w' := by
  have hp : decide (0 < 1099511627776 + 8 * (id * 256 + slot)) = true := by simp; omega
  have a5 : 0 < at_ % 8 := by omega
  go_enter Tryz.func5, Tryz.ntmps5
  go_wp2_with (first
    | (go_at_call 15; refine (hs _ hz).mono ?_; rintro e w' ⟨rfl, hk⟩)
    | (go_at_call 21; refine (entry_in id slot _ h1 h2 h3 h4).mono ?_; rintro e w' ⟨rfl, rfl⟩)
    | (go_at_call 22; (with_reducible refine (ref_same id slot _ h1 h2 h3 h4).mono ?_); rintro e w' ⟨rfl, rfl⟩)
    | (go_at_call 23; (with_reducible refine (parse_entry id slot _ h1 h2 h3 h4).mono ?_); rintro e w' ⟨rfl, rfl⟩)
    | (go_at_call 23; (with_reducible refine (parse_odd at_ _ a1 a2 a3 a4).mono ?_); rintro e w' ⟨rfl, rfl⟩))
  go_ret
  exact ⟨rfl, hk⟩

set_option maxHeartbeats 1000000 in
theorem entries_no_yes {K : World → World → Prop} (hs : SpeaksAt K) (id slot at_ : Int) (w : World) (hz : 1 ≤ w.heap.size) (h : NoEntry id slot)
    (a1 : 1099511627776 ≤ at_) (a2 : at_ < 18446744073709551616) (a3 : (at_ - 1099511627776) / 8 / 256 ≤ 1073741824) (a4 : at_ % 8 = 0) :
    Calls Tryz.prog 5 #[.int .i64 id, .int .i64 slot, .int .u64 at_] w fun e w' => e = .returned (.bool true) ∧ K w w' := by
  go_enter Tryz.func5, Tryz.ntmps5
  go_wp2_with (first
    | (go_at_call 15; refine (hs _ hz).mono ?_; rintro e w' ⟨rfl, hk⟩)
    | (go_at_call 21; refine (entry_no id slot _ h).mono ?_; rintro e w' ⟨rfl, rfl⟩)
    | (go_at_call 22; (with_reducible refine (ref_none id slot _ h).mono ?_); rintro e w' ⟨rfl, rfl⟩)
    | (go_at_call 23; (with_reducible refine (parse_zero _).mono ?_); rintro e w' ⟨rfl, rfl⟩)
    | (go_at_call 22; (with_reducible refine (ref_back at_ _ a1 a3 a4).mono ?_); rintro e w' ⟨rfl, rfl⟩)
    | (go_at_call 23; (with_reducible refine (parse_yes at_ _ a1 a2 a3 a4).mono ?_); rintro e w' ⟨rfl, rfl⟩))
  go_ret
  exact ⟨rfl, hk⟩

set_option maxHeartbeats 1000000 in
theorem entries_no_low {K : World → World → Prop} (hs : SpeaksAt K) (id slot at_ : Int) (w : World) (hz : 1 ≤ w.heap.size) (h : NoEntry id slot)
    (a0 : 0 ≤ at_) (a1 : at_ < 1099511627776) :
    Calls Tryz.prog 5 #[.int .i64 id, .int .i64 slot, .int .u64 at_] w fun e w' => e = .returned (.bool true) ∧ K w w' := by
  go_enter Tryz.func5, Tryz.ntmps5
  go_wp2_with (first
    | (go_at_call 15; refine (hs _ hz).mono ?_; rintro e w' ⟨rfl, hk⟩)
    | (go_at_call 21; refine (entry_no id slot _ h).mono ?_; rintro e w' ⟨rfl, rfl⟩)
    | (go_at_call 22; (with_reducible refine (ref_none id slot _ h).mono ?_); rintro e w' ⟨rfl, rfl⟩)
    | (go_at_call 23; (with_reducible refine (parse_zero _).mono ?_); rintro e w' ⟨rfl, rfl⟩)
    | (go_at_call 23; (with_reducible refine (parse_low at_ _ a0 a1).mono ?_); rintro e w' ⟨rfl, rfl⟩))
  go_ret
  exact ⟨rfl, hk⟩

set_option maxHeartbeats 1000000 in
theorem entries_no_high {K : World → World → Prop} (hs : SpeaksAt K) (id slot at_ : Int) (w : World) (hz : 1 ≤ w.heap.size) (h : NoEntry id slot)
    (a1 : 1099511627776 ≤ at_) (a2 : at_ < 18446744073709551616) (a3 : 1073741824 < (at_ - 1099511627776) / 8 / 256) :
    Calls Tryz.prog 5 #[.int .i64 id, .int .i64 slot, .int .u64 at_] w fun e w' => e = .returned (.bool true) ∧ K w w' := by
  have a5 : 3298534885376 ≤ at_ := by omega
  by_cases a6 : 0 < at_ % 8
  · go_enter Tryz.func5, Tryz.ntmps5
    go_wp2_with (first
      | (go_at_call 15; refine (hs _ hz).mono ?_; rintro e w' ⟨rfl, hk⟩)
      | (go_at_call 21; refine (entry_no id slot _ h).mono ?_; rintro e w' ⟨rfl, rfl⟩)
      | (go_at_call 22; (with_reducible refine (ref_none id slot _ h).mono ?_); rintro e w' ⟨rfl, rfl⟩)
      | (go_at_call 23; (with_reducible refine (parse_zero _).mono ?_); rintro e w' ⟨rfl, rfl⟩)
      | (go_at_call 23; (with_reducible refine (parse_high at_ _ a1 a2 a3).mono ?_); rintro e w' ⟨rfl, rfl⟩))
    go_ret
    exact ⟨rfl, hk⟩
  · go_enter Tryz.func5, Tryz.ntmps5
    go_wp2_with (first
      | (go_at_call 15; refine (hs _ hz).mono ?_; rintro e w' ⟨rfl, hk⟩)
      | (go_at_call 21; refine (entry_no id slot _ h).mono ?_; rintro e w' ⟨rfl, rfl⟩)
      | (go_at_call 22; (with_reducible refine (ref_none id slot _ h).mono ?_); rintro e w' ⟨rfl, rfl⟩)
      | (go_at_call 23; (with_reducible refine (parse_zero _).mono ?_); rintro e w' ⟨rfl, rfl⟩)
      | (go_at_call 23; (with_reducible refine (parse_high at_ _ a1 a2 a3).mono ?_); rintro e w' ⟨rfl, rfl⟩))
    go_ret
    exact ⟨rfl, hk⟩

set_option maxHeartbeats 1000000 in
theorem entries_no_odd {K : World → World → Prop} (hs : SpeaksAt K) (id slot at_ : Int) (w : World) (hz : 1 ≤ w.heap.size) (h : NoEntry id slot)
    (a1 : 1099511627776 ≤ at_) (a2 : at_ < 18446744073709551616) (a3 : (at_ - 1099511627776) / 8 / 256 ≤ 1073741824) (a4 : at_ % 8 ≠ 0) :
    Calls Tryz.prog 5 #[.int .i64 id, .int .i64 slot, .int .u64 at_] w fun e w' => e = .returned (.bool true) ∧ K w w' := by
  have a5 : 0 < at_ % 8 := by omega
  go_enter Tryz.func5, Tryz.ntmps5
  go_wp2_with (first
    | (go_at_call 15; refine (hs _ hz).mono ?_; rintro e w' ⟨rfl, hk⟩)
    | (go_at_call 21; refine (entry_no id slot _ h).mono ?_; rintro e w' ⟨rfl, rfl⟩)
    | (go_at_call 22; (with_reducible refine (ref_none id slot _ h).mono ?_); rintro e w' ⟨rfl, rfl⟩)
    | (go_at_call 23; (with_reducible refine (parse_zero _).mono ?_); rintro e w' ⟨rfl, rfl⟩)
    | (go_at_call 23; (with_reducible refine (parse_odd at_ _ a1 a2 a3 a4).mono ?_); rintro e w' ⟨rfl, rfl⟩))
  go_ret
  exact ⟨rfl, hk⟩

/-- the law, whatever the numbers are. -/
theorem entries_any {K : World → World → Prop} (hs : SpeaksAt K) (id slot at_ : Int) (w : World) (hz : 1 ≤ w.heap.size) (a0 : 0 ≤ at_) (a2 : at_ < 18446744073709551616) :
    Calls Tryz.prog 5 #[.int .i64 id, .int .i64 slot, .int .u64 at_] w fun e w' => e = .returned (.bool true) ∧ K w w' := by
  by_cases h : id < 0 ∨ 1073741824 < id ∨ slot < 0 ∨ 256 ≤ slot
  · by_cases a1 : at_ < 1099511627776
    · exact entries_no_low hs id slot at_ w hz h a0 a1
    · by_cases a3 : (at_ - 1099511627776) / 8 / 256 ≤ 1073741824
      · by_cases a4 : at_ % 8 = 0
        · exact entries_no_yes hs id slot at_ w hz h (by omega) a2 a3 a4
        · exact entries_no_odd hs id slot at_ w hz h (by omega) a2 a3 a4
      · exact entries_no_high hs id slot at_ w hz h (by omega) a2 (by omega)
  · by_cases a1 : at_ < 1099511627776
    · exact entries_in_low hs id slot at_ w hz (by omega) (by omega) (by omega) (by omega) a0 a1
    · by_cases a3 : (at_ - 1099511627776) / 8 / 256 ≤ 1073741824
      · by_cases a4 : at_ % 8 = 0
        · exact entries_in_yes hs id slot at_ w hz (by omega) (by omega) (by omega) (by omega) (by omega) a2 a3 a4
        · exact entries_in_odd hs id slot at_ w hz (by omega) (by omega) (by omega) (by omega) (by omega) a2 a3 a4
      · exact entries_in_high hs id slot at_ w hz (by omega) (by omega) (by omega) (by omega) (by omega) a2 (by omega)
end Go.Proofs.YtgnnmpjafjlnfaaGreat
