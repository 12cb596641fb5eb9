/- what the package variables that the law RtldNone's runs may read hold, as the row's condition tells it. No other condition. -/
import Derived.Test.YtmjibbnnpfbkfaaGreatDoorRows
import Derived.Test.YtmjibbnnpfbkfaaGreatDoorEnv
import Derived.Test.YtmjibbnnpfbkfaaGreatDoorTbRow
namespace Go.Proofs.YtmjibbnnpfbkfaaGreatDoor
open Go.Tb

def row0 : List AV := (strsOf (Rows.laid_turnbuckle_fail_words (H := Unit))).map fun l => AV.str (BS.ofList l)
theorem g0 : Tryz.prog.globalNamed "turnbuckle/fail.words" = some 0 := by kernel_rfl
theorem t0 : (Tryz.prog.globals[0]?).map (·.type) = some 275 := by kernel_rfl
theorem lies0 {W : World} (hs : W.ShapedOpen P) (hl : laidMetH Tryz.prog Rows.rtldNoneRow.laid W) : ∃ cc lo hi, W.heap[0]? = some (.cells cc 275 (lo, hi)) ∧ VRs (startPl G W) row0 cc.toList := by
  obtain ⟨cs, fuel, p, hc, hd⟩ := laid_cells hl (by kernel_rfl) hs (n := "turnbuckle/fail.words") (d := Rows.laid_turnbuckle_fail_words) (by simp [Rows.rtldNoneRow]) g0 t0 (by kernel_rfl)
  refine ⟨cs, 0, 0, hc, ?_⟩
  rw [strs_of_trod (n := 27) Tryz.underlying275 Tryz.underlying9 (by kernel_rfl) (by kernel_rfl) hd]
  exact VRs_strs _ _
def row1 : List AV := (intsOf (Rows.laid_internal_strconv_uint64pow10 (H := Unit))).map (AV.int .u64)
theorem g1 : Tryz.prog.globalNamed "internal/strconv.uint64pow10" = some 1 := by kernel_rfl
theorem t1 : (Tryz.prog.globals[1]?).map (·.type) = some 419 := by kernel_rfl
theorem lies1 {W : World} (hs : W.ShapedOpen P) (hl : laidMetH Tryz.prog Rows.rtldNoneRow.laid W) : ∃ cc lo hi, W.heap[1]? = some (.cells cc 419 (lo, hi)) ∧ VRs (startPl G W) row1 cc.toList := by
  obtain ⟨cs, fuel, p, hc, hd⟩ := laid_cells hl (by kernel_rfl) hs (n := "internal/strconv.uint64pow10") (d := Rows.laid_internal_strconv_uint64pow10) (by simp [Rows.rtldNoneRow]) g1 t1 (by kernel_rfl)
  refine ⟨cs, 0, 0, hc, ?_⟩
  rw [ints_of_trod (n := 20) Tryz.underlying419 Tryz.underlying47 (by kernel_rfl) (by kernel_rfl) hd]
  exact VRs_ints _ _ _
def row3 : List AV := (intsOf (Rows.laid_math_bits_deBruijn32tab (H := Unit))).map (AV.int .u8)
theorem g3 : Tryz.prog.globalNamed "math/bits.deBruijn32tab" = some 3 := by kernel_rfl
theorem t3 : (Tryz.prog.globals[3]?).map (·.type) = some 525 := by kernel_rfl
theorem lies3 {W : World} (hs : W.ShapedOpen P) (hl : laidMetH Tryz.prog Rows.rtldNoneRow.laid W) : ∃ cc lo hi, W.heap[3]? = some (.cells cc 525 (lo, hi)) ∧ VRs (startPl G W) row3 cc.toList := by
  obtain ⟨cs, fuel, p, hc, hd⟩ := laid_cells hl (by kernel_rfl) hs (n := "math/bits.deBruijn32tab") (d := Rows.laid_math_bits_deBruijn32tab) (by simp [Rows.rtldNoneRow]) g3 t3 (by kernel_rfl)
  refine ⟨cs, 0, 0, hc, ?_⟩
  rw [ints_of_trod (n := 32) Tryz.underlying525 Tryz.underlying5 (by kernel_rfl) (by kernel_rfl) hd]
  exact VRs_ints _ _ _
def row4 : List AV := (intsOf (Rows.laid_math_bits_deBruijn64tab (H := Unit))).map (AV.int .u8)
theorem g4 : Tryz.prog.globalNamed "math/bits.deBruijn64tab" = some 4 := by kernel_rfl
theorem t4 : (Tryz.prog.globals[4]?).map (·.type) = some 526 := by kernel_rfl
theorem lies4 {W : World} (hs : W.ShapedOpen P) (hl : laidMetH Tryz.prog Rows.rtldNoneRow.laid W) : ∃ cc lo hi, W.heap[4]? = some (.cells cc 526 (lo, hi)) ∧ VRs (startPl G W) row4 cc.toList := by
  obtain ⟨cs, fuel, p, hc, hd⟩ := laid_cells hl (by kernel_rfl) hs (n := "math/bits.deBruijn64tab") (d := Rows.laid_math_bits_deBruijn64tab) (by simp [Rows.rtldNoneRow]) g4 t4 (by kernel_rfl)
  refine ⟨cs, 0, 0, hc, ?_⟩
  rw [ints_of_trod (n := 64) Tryz.underlying526 Tryz.underlying5 (by kernel_rfl) (by kernel_rfl) hd]
  exact VRs_ints _ _ _

def laidRows : List (Nat × List AV × TypeId) := [(0, row0, 275), (1, row1, 419), (3, row3, 525), (4, row4, 526)]
theorem laidRows_lie {W : World} (hs : W.ShapedOpen P) (hl : laidMetH Tryz.prog Rows.rtldNoneRow.laid W) : ∀ i c t, (i, c, t) ∈ laidRows → i < G ∧ ∃ cc lo hi, W.heap[i]? = some (.cells cc t (lo, hi)) ∧ VRs (startPl G W) c cc.toList := by
  intro i c t hm
  unfold laidRows at hm
  rcases List.mem_cons.1 hm with e | hm
  · cases e; exact ⟨by decide, lies0 hs hl⟩
  rcases List.mem_cons.1 hm with e | hm
  · cases e; exact ⟨by decide, lies1 hs hl⟩
  rcases List.mem_cons.1 hm with e | hm
  · cases e; exact ⟨by decide, lies3 hs hl⟩
  rcases List.mem_cons.1 hm with e | hm
  · cases e; exact ⟨by decide, lies4 hs hl⟩
  cases hm
end Go.Proofs.YtmjibbnnpfbkfaaGreatDoor
