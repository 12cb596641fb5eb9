/- PROVED: the given statement ImageWordsSaid: whatever the input, the law ImageWords answers true, and its arguments read as they did. No condition. -/
import Derived.Test.YtjmjbjnbfodalaaGreatWordsFacts
import Derived.Test.YtjmjbjnbfodalaaGreatLaw
import Derived.Test.YtjmjbjnbfodalaaGreatSpAK
import Derived.Test.YtjmjbjnbfodalaaGreatTcIns
set_option linter.unusedSimpArgs false
set_option linter.unusedVariables false
set_option linter.unusedSectionVars false
namespace Go.Proofs.YtjmjbjnbfodalaaGreat
open Go.ChangeShapes Go.WideShapes Go.ChangeAt Go.RowKit Go.Tc

section
set_option maxRecDepth 1000000
theorem iw_spk [Val] : iw.spk.Ok P G := Fact.ok_of (n := 100000) (EnvOk.know env0 spA_known_ok) (by kernel_rfl)
theorem iw_spk_ok (V : Val) : @Fact.Ok V P G iw.spk := @iw_spk V
end

set_option maxRecDepth 1000000 in
theorem iw_calls (v : Value) (lo hi : Nat) (W : World) (l : List Nat) (hs : W.ShapedOpen P) (hv : CellR (fun c => W.heap[c]?) (.isl [.int .u64]) (di l) v) (hl : ∀ n ∈ l, n < 2 ^ 64) (hlo : lo < 2 ^ 64) (hhi : hi < 2 ^ 64) :
    Calls P 4 #[v, .int .u64 lo, .int .u64 hi] W fun e w' => e = .returned (.bool true) ∧ (∀ c, c < W.heap.size → w'.heap[c]? = W.heap[c]?) ∧ ∀ may, W.keptBut w' may := by
  have hw : @WR (vals [di l, .int lo, .int hi]) G (startPl G W) (Go.Tc.startHeap G []).get (Go.Tc.startHeap G []).next W := @WR.start (vals _) G W [] (ShapedOpen.lies hs (g := 0) (by kernel_rfl)) (fun _ _ _ h => by cases h)
  refine (calls_of_fact (β := startPl G W) (iw.ok iw_spk_ok l hl lo hi hlo hhi) (Go.Tc.startHeap_fixed G []) (vs := [v, .int .u64 lo, .int .u64 hi]) hw ?_).mono fun e w' ⟨β', u, he, hu, _, hk, ho, hout⟩ => ?_
  · exact @VRs.cons (vals _) _ _ _ _ _ (@VR.sy (vals _) _ _ _ _ hv) (@VRs.cons (vals _) _ _ _ _ _ (@VR.sy (vals _) _ _ _ _ (CellR.int .u64 lo)) (@VRs.cons (vals _) _ _ _ _ _ (@VR.sy (vals _) _ _ _ _ (CellR.int .u64 hi)) (@VRs.nil (vals _) _)))
  · cases hu
    exact ⟨he, hk, fun may => keptBut_of_kept ho hout hk⟩

/-- words, as numbers. -/
theorem words_nat (l : List Int) (h : ∀ n ∈ l, 0 ≤ n ∧ n < 2 ^ 64) : ∃ m : List Nat, l.map D.int = m.map (fun (n : Nat) => D.int (n : Int)) ∧ ∀ n ∈ m, n < 2 ^ 64 := by
  refine ⟨l.map Int.toNat, ?_, fun n hn => ?_⟩
  · rw [List.map_map]
    refine List.map_congr_left fun n hn => ?_
    have := h n hn
    simp only [Function.comp]
    rw [Int.toNat_of_nonneg this.1]
  · obtain ⟨m, hm, rfl⟩ := List.mem_map.1 hn
    have := h m hm
    omega

set_option maxRecDepth 100000 in
theorem iw_lifted (os : Os) (started : os.Started) (H : Type) (enc : TypeId × Value → H) :
    ReturnsInHanded {} Tryz.checked os 4 .any (Rows.imageWordsSpec.pre6 enc Tryz.prog Tryz.f4 Rows.imageWordsRow.domain false) (Rows.imageWordsSpec.post enc Tryz.prog Tryz.f4 false true false false) := by
  refine handed_shaped (C := Tryz.checked) own started (by kernel_rfl) Tryz.func4
    (ChangeSpec.witness6 (enc := enc) (C := Tryz.checked) false ⟨#[], #[.slice none 0 0, .int .u64 0, .int .u64 0], []⟩ 8 (by kernel_rfl) (by kernel_rfl) (by kernel_rfl) (by kernel_rfl)) ?_
  intro W base args ds gs before hsh hval0 hW
  have hval : ∀ (j : Nat) t v, Tryz.f4.params[j]? = some t → args[j]? = some v → Value.okWide Tryz.prog W .any base t v := hval0
  have hW' := hW
  obtain ⟨p, q, hA0, hV, rfl, hfz, hnd⟩ := hW
  have hA : DataW.TrodAll enc Tryz.prog W 0 (fun _ => true) true Tryz.f4.params.toList args.toList ds p := hA0
  have hlt := DataW.TrodAll.lt hA
  rw [Tryz.params4] at hA hval
  obtain ⟨v0, v1, v2, d0, d1, d2, p0, p1, p2, rfl, rfl, rfl, h0, h1, h2⟩ := trodAll_three hA
  obtain ⟨rfl, rfl⟩ := trodVars_none hV
  obtain ⟨l, hc, hr⟩ := open_nums Tryz.underlying36 Tryz.underlying27 (by kernel_rfl) (hval 0 36 v0 rfl rfl) h0
  obtain ⟨lo, rfl, rfl, rfl, hwlo⟩ := open_int Tryz.underlying27 (hval 1 27 v1 rfl rfl) h1
  obtain ⟨hi, rfl, rfl, rfl, hwhi⟩ := open_int Tryz.underlying27 (hval 2 27 v2 rfl rfl) h2
  have blo := bounds_u64 hwlo
  have bhi := bounds_u64 hwhi
  obtain ⟨m, hm, hml⟩ := words_nat l fun n hn => by have := bounds_u64 (hr n hn); omega
  obtain ⟨lo, rfl⟩ : ∃ k : Nat, lo = k := ⟨lo.toNat, by omega⟩
  obtain ⟨hi, rfl⟩ : ∃ k : Nat, hi = k := ⟨hi.toNat, by omega⟩
  rw [hm] at hc
  refine (iw_calls v0 lo hi W m hsh hc hml (by omega) (by omega)).mono fun e W' ⟨he, hk, hkb⟩ => ?_
  subst he
  refine ⟨_, rfl, _, _, _, [], p0 ++ ([] ++ []), [], hW', ?_, ?_, ?_, hkb _, fun h => by cases h⟩
  · exact trodAll_mk1 (shut_bool Tryz.underlying4 true)
  · exact trodAll_mk3 (reads_on laidFact (by kernel_rfl) (of_decide_eq_true (by kernel_rfl)) h0 (fun q hq => hlt q (by simp [hq])) hk) (shut_int Tryz.underlying27 hwlo) (shut_int Tryz.underlying27 hwhi)
  · rfl

theorem imageWords_holds : Rows.ImageWordsSaid :=
  OpenClaim.holds_of_wide 4 Tryz.f4 rfl rfl rfl rfl rfl rfl rfl ⟨rfl, rfl, rfl, rfl, rfl⟩ rfl rfl rfl rfl rfl (by kernel_rfl) Tryz.func4 iw_Facts
    (of_decide_eq_true (by kernel_rfl)) (by unfold Func.isWrapper; first | (rw [if_pos (by decide +kernel)]; kernel_rfl) | (rw [if_neg (by decide +kernel)]; exact ⟨rfl, rfl⟩))
    (fun os started H enc _ => iw_lifted os started H enc)
end Go.Proofs.YtjmjbjnbfodalaaGreat
