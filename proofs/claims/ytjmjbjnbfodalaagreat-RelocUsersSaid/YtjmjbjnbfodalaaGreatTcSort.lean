/- Contracts of the library that write a row of numbers anew, as facts over rows of unknown data: slices.Sort, slices.Compact. -/
import Derived.Test.YtjmjbjnbfodalaaGreatTcVals
import Derived.Sort.Row
import Derived.Sort.Grow
import Derived.Test.YtjmjbjnbfodalaaGreatTcLib
set_option linter.unusedSimpArgs false
set_option linter.unusedVariables false
set_option linter.unusedSectionVars false
namespace Go.Tc
open Go.Sort

section
variable {P : Program} {G : Nat} [Val]

theorem row_ints {β : Pl} {w : World} {p : Place} {zs : List Int} {t : Tm} {T : TypeId} {sish : Bool} (ht : t.den = .list (zs.map .int)) (h : ObjR β w p (.lrow [.int .i64] t T (.buf 0 sish))) :
    Holds (Value.int .i64) w p.c p.base zs.toArray ∧ ∀ (ys : List Int) (u : Tm) (q : Nat), ys.length = zs.length → u.den = .list (ys.map .int) →
      ObjR β (putRow (Value.int .i64) (Sort.ahead w q) p.c p.base ys.toArray) p (.lrow [.int .i64] u T (.buf 0 sish)) := by
  obtain ⟨L, hL, -, cc, lo, hi, h1, h2, h3, h4, h5⟩ := h
  rw [ht] at hL
  obtain rfl : zs.map D.int = L := by cases hL; rfl
  rw [expandL_len, List.length_map, List.length_cons, List.length_nil, Nat.zero_add, Nat.mul_one] at h3 h4 h5
  have cell : ∀ j (hj : j < zs.length), cc[p.base + j]? = some (.int .i64 zs[j]) := by
    intro j hj
    have hx := expandL_get [.int .i64] t (n := zs.length) (i := j) (j := 0) hj (by simp)
    rw [List.length_cons, List.length_nil, Nat.zero_add, Nat.mul_one, Nat.add_zero] at hx
    obtain ⟨z, z1, z2⟩ := h4.get hx
    rw [ofTm_iff, eltTm_den (nf := id) (fun _ => rfl)] at z2
    have e : (Tm.op .nth [t, .int (j : Int)]).den = .int zs[j] := by
      simp only [Tm.den, Tm.dens, ht, TOp.den, Int.toNat_natCast]
      simp [List.getD_eq_getElem?_getD, hj]
    rw [e] at z2
    obtain ⟨n, hn, rfl⟩ := z2.intI
    cases hn
    rw [List.getElem?_take_of_lt hj, List.getElem?_drop, Array.getElem?_toList] at z1
    exact z1
  have free : ∀ j, j < zs.length → ¬ (lo ≤ p.base + j ∧ p.base + j < hi) := fun j hj => h5.1 _ (by omega) (by omega)
  refine ⟨fun j hj => ?_, fun ys u q hlen hu => ?_⟩
  · have hj : j < zs.length := by simpa using hj
    refine ⟨?_, ?_⟩
    · simp only [World.cell?, h1]
      rw [cell j hj]
      simp [hj]
    · simp only [World.frozen?, h1]
      have := free j hj
      simp; omega
  · have hh : (putRow (Value.int .i64) (Sort.ahead w q) p.c p.base ys.toArray).heap[p.c]? = some (.cells (putCells (Value.int .i64) p.base ys.toArray cc) T (lo, hi)) := by
      show ((Sort.ahead w q).heap.modify p.c _)[p.c]? = _
      rw [Array.getElem?_modify, if_pos rfl]
      show (w.heap[p.c]?).map _ = _
      rw [h1]; rfl
    refine ⟨ys.map .int, hu, by simp, putCells (Value.int .i64) p.base ys.toArray cc, lo, hi, hh, by simp [putCells, h2], ?_, ?_, ?_⟩
    · rw [expandL_len, List.length_map, hlen]; simpa using h3
    · rw [expandL_len, List.length_map, List.length_cons, List.length_nil, Nat.zero_add, Nat.mul_one]
      refine VRs.of_getG ?_ fun j x hx => ?_
      · rw [expandL_len, List.length_take, List.length_drop]
        simp [putCells]; omega
      · have hj : j < ys.length := by
          have := (List.getElem?_eq_some_iff.1 hx).1
          rw [expandL_len] at this; simpa using this
        have hx2 := expandL_get [.int .i64] u (n := ys.length) (i := j) (j := 0) hj (by simp)
        rw [List.length_cons, List.length_nil, Nat.zero_add, Nat.mul_one, Nat.add_zero] at hx2
        rw [hx] at hx2
        cases hx2
        refine ⟨.int .i64 ys[j], ?_, ?_⟩
        · rw [List.getElem?_take_of_lt hj, List.getElem?_drop, Array.getElem?_toList]
          have hlt : p.base + j < cc.size := by omega
          simp only [putCells, Array.getElem?_mapIdx, Array.getElem?_eq_getElem hlt, Option.map_some]
          rw [if_pos ⟨by omega, by simp; omega⟩]
          simp [hj]
        · rw [ofTm_iff, eltTm_den (nf := id) (fun _ => rfl)]
          have e : (Tm.op .nth [u, .int (j : Int)]).den = .int ys[j] := by
            simp only [Tm.den, Tm.dens, hu, TOp.den, Int.toNat_natCast]
            simp [List.getD_eq_getElem?_getD, hj]
          rw [e]
          exact .int .i64 _
    · exact h5

/-- **A contract that writes a row of numbers anew, as a fact.** -/
theorem Fact.ok_row {E : Env} (hE : EnvOk P G E) {f b : Nat} {fn : Func} {cd : Code} (hf : P.funcs[f]? = some fn) (hb : fn.body = some cd) {T : TypeId} {zs ys : List Int} {tz ty tn : Tm} {r : AV} {ret : Nat → Nat → Nat → Value} (hz : tz.den = .list (zs.map .int)) (hy : ty.den = .list (ys.map .int)) (hn : tn.den = .int (zs.length : Int)) (hlen : ys.length = zs.length) (hpos : 0 < zs.length) (hG : G ≤ b)
    (hr : ∀ (β : Pl) (p : Place) (c : Nat), β b = some p → LCapR p 0 1 .opn c → zs.length ≤ c → VR β r (ret p.c p.base c))
    (h : ∀ (blk off cap : Nat) (w : World), Holds (Value.int .i64) w blk off zs.toArray → blk < w.heap.size → zs.length ≤ cap → Calls P f #[.slice (some ⟨blk, off, none⟩) zs.length cap] w fun e w' => e = .returned (ret blk off cap) ∧ ∃ q os, w' = grow (putRow (Value.int .i64) (Sort.ahead w q) blk off ys.toArray) os) :
    Fact.Ok P G ⟨f, [.lsl b 1 (.int 0) tn .opn], b + 1, [(b, .lrow [.int .i64] tz T (.buf 0 false))], r, [(b, .lrow [.int .i64] ty T (.buf 0 false))], b + 1⟩ := by
  refine ⟨?_⟩
  intro β w vs hw ha
  refine ⟨fun w0 => ?_, fun n => ?_⟩
  · have hnm := hE.names f fn hf (by simp [hb])
    simp [callFunc, hf, hb, hnm]
  · cases ha with
    | cons ha hs =>
    cases hs
    have hget : (⟨graft [(b, AObj.lrow [.int .i64] tz T (.buf 0 false))] .leaf, b + 1⟩ : AHeap).get b = some (.lrow [.int .i64] tz T (.buf 0 false)) := by
      simp [AHeap.get, graft, Tr.get_put]
    have other : ∀ x o, (⟨graft [(b, AObj.lrow [.int .i64] ty T (.buf 0 false))] .leaf, b + 1⟩ : AHeap).get x = some o → x = b ∧ o = .lrow [.int .i64] ty T (.buf 0 false) := by
      intro x o hx
      simp only [AHeap.get, graft, Tr.get_put] at hx
      split at hx
      · rename_i e; cases hx; exact ⟨e, rfl⟩
      · simp [Tr.get] at hx
    cases ha with
    | lsl0 hl h0 => rw [hn] at h0; injection h0 with h0; omega
    | lslE a c hl h0 hc => rw [hn] at h0; injection h0 with h0; omega
    | @lsl _ _ _ _ _ l m c p hl hm hp hc hle =>
      have hl0 : l = 0 := by have : (D.int 0) = .int (l : Int) := hl; simpa [eq_comm] using this
      subst hl0
      have hm' : m = zs.length := by rw [hn] at hm; injection hm with hm; omega
      subst hm'
      have ho := hw.objAt hget hp
      obtain ⟨hH, hnew⟩ := row_ints hz ho
      have hcall := h p.c p.base c w hH (hw.bound _ _ hp) hle
      have e0 : p.base + 0 * 1 = p.base := by omega
      rw [e0]
      rw [Nat.zero_mul] at hc
      refine callsIn_wide.2 (Calls.mono hcall ?_)
      rintro e w' ⟨rfl, q, os, rfl⟩
      obtain ⟨k1, k2⟩ := hw.turn hget rfl hp (w' := putRow (Value.int .i64) (Sort.ahead w q) p.c p.base ys.toArray) (o' := .lrow [.int .i64] ty T (.buf 0 false)) (by rw [size_putRow]; rfl) (fun c' hc' => by
        show ((Sort.ahead w q).heap.modify p.c _)[c']? = _
        rw [Array.getElem?_modify, if_neg (fun e => hc' e.symm)]; rfl) rfl rfl rfl (hnew ys ty q hlen hy)
      obtain ⟨g1, g2⟩ := k1.grown 0 os
      have hless : ∀ x o, (⟨graft [(b, AObj.lrow [.int .i64] ty T (.buf 0 false))] .leaf, b + 1⟩ : AHeap).get x = some o → (if x = b then some (AObj.lrow [.int .i64] ty T (.buf 0 false)) else (⟨graft [(b, AObj.lrow [.int .i64] tz T (.buf 0 false))] .leaf, b + 1⟩ : AHeap).get x) = some o := by
        intro x o hx
        obtain ⟨rfl, rfl⟩ := other x o hx
        rw [if_pos rfl]
      exact ⟨β, hr β p c hp hc hle, WR.less g1 hless, (k2.trans g2).less hless⟩
end
end Go.Tc
