/- arguments that a row hands over, as unknown data: slices of slices of numbers. What a call leaves reads as it did. -/
import Derived.Test.YtjmjbjnbfodalaaGreatTcIce
import Derived.Test.YtjmjbjnbfodalaaGreatTcTop
import Derived.Deep.Matrix
import Derived.WideKeyArgs
import Derived.Deep.Grids
set_option linter.unusedSimpArgs false
set_option linter.unusedVariables false
set_option linter.unusedSectionVars false
namespace Go.Tc
open Go.ChangeShapes Go.WideShapes Go.Deep
theorem cell_ints {w : World} {k : IntKind} {A : Option Addr} {L C : Nat} {Z : List Int} (hL : L ≤ C) (hZ : Z.length = C) (h0 : A = none → C = 0) (hc : ∀ a', A = some a' → ∀ c, c < C → w.cell? (a'.add c) = some (.int k (Z.getD c 0))) :
    CellR (fun c => w.heap[c]?) (.isl [.int k]) (.list ((Z.take L).map .int)) (.slice A L C) := by
  cases A with
  | none =>
    have := h0 rfl
    subst this
    have : L = 0 := by omega
    subst this
    exact .nil _
  | some a =>
    by_cases hz : L = 0
    · subst hz; exact .none _ a C
    · have h1 := hc a rfl 0 (by omega)
      have hspot : a.spot = none := by
        simp only [Addr.add, if_true, World.cell?] at h1
        split at h1
        · split at h1
          · cases h1
          · rename_i hs; simpa using hs
        · cases h1
      obtain ⟨cc, T, fz, hh⟩ : ∃ cc T fz, w.heap[a.block]? = some (.cells cc T fz) := by
        simp only [Addr.add, if_true, World.cell?] at h1
        split at h1
        · rename_i c x y he; exact ⟨c, x, y, he⟩
        · cases h1
      have hcell : ∀ c, c < C → cc[a.off + c]? = some (.int k (Z.getD c 0)) := by
        intro c hcc
        have := hc a rfl c hcc
        unfold Addr.add at this
        split at this
        · rename_i e; subst e
          simpa [World.cell?, hh, hspot] using this
        · simpa [World.cell?, hh] using this
      have ha : a = ⟨a.block, a.off, none⟩ := by cases a; simp_all
      rw [ha]
      have hlen : ((Z.take L).map D.int).length = L := by rw [List.length_map, List.length_take]; omega
      refine .isl (vals := fun i _ => .int k (Z.getD i 0)) hh hlen.symm hL (by simp) (fun i j hi hj => ?_) fun i j hi hj => ?_
      · have : j = 0 := by simpa using hj
        subst this
        simpa using hcell i (by omega)
      · have : j = 0 := by simpa using hj
        subst this
        have e : ((Z.take L).map D.int).getD i .bad = .int (Z.getD i 0) := by
          simp [List.getD_eq_getElem?_getD, hi, show i < Z.length by omega]
        rw [e]
        exact .int k _
theorem reads_on {H : Type} {enc : TypeId × Value → H} {P : Program} (hl : laidOutB P = true) {t : TypeId} (hr : P.readableRec t = true) (hrow : t < P.types.size) {W W' : World} {v : Value} {d : DataW H} {ps : List MemPlace}
    (h : DataW.Trod enc P W 0 (fun _ => true) true t v d ps) (hlt : ∀ p ∈ ps, p.block < W.heap.size) (hk : ∀ c, c < W.heap.size → W'.heap[c]? = W.heap[c]?) : DataW.Trod enc P W' 0 (fun b => decide (b < W.heap.size)) true t v d ps := by
  refine WideElems.Trod_stays hl hr hrow h (fun p hp => ?_) fun p hp => by simpa using hlt p hp
  have hb := hlt p hp
  cases p with
  | cell b off => simp only [World.sameAt, World.cell?]; rw [hk b hb]
  | map b => exact hk b hb
end Go.Tc
namespace Go.Tc
open Go.ChangeShapes Go.WideShapes Go.Deep
theorem open_nums {H : Type} {enc : TypeId × Value → H} {P : Program} {w : World} {base : Nat} {held : Bool} {t q : TypeId} {k : IntKind} (ht : P.underlying t = some (.slice q)) (hq : P.underlying q = some (.int k))
    (cq : P.cellsOf q = 1) {r : Reach} {b0 : Nat} {v : Value} {d : DataW H} {ps : List MemPlace} (hval : Value.okWide P w r b0 t v) (h : DataW.Trod enc P w base (fun _ => true) held t v d ps) :
    ∃ l : List Int, CellR (fun c => w.heap[c]?) (.isl [.int k]) (.list (l.map .int)) v ∧ ∀ n ∈ l, (Lit.int k n).wf = true := by
  obtain ⟨a0, len0, cap0, rfl⟩ := okWide_slice ht hval
  obtain ⟨n, hn⟩ := h
  rcases open_ints ht hq cq hn with ⟨h1, -⟩ | ⟨a, len, cap, zs, h1, -, hl, -, hzl, -, hcell, hwf⟩
  · simp [Value.cells] at h1
    obtain ⟨rfl, rfl, rfl⟩ := h1
    exact ⟨[], .nil _, fun r hr => by cases hr⟩
  · simp [Value.cells] at h1
    obtain ⟨rfl, rfl, rfl⟩ := h1
    simp only [if_true] at hzl
    refine ⟨zs.take len0, ?_, fun n hn => hwf n (List.mem_of_mem_take hn)⟩
    exact cell_ints hl hzl (fun e => by cases e) fun a' ha' c hc => by cases ha'; exact hcell c (by omega)
end Go.Tc
