/- PROVED: the given statement LazyAgainSaid: whatever the input, the law LazyAgain answers true, and its arguments read as they did. No condition. -/
import Derived.Test.YtjmjbjnbfodalaaGreatAgainFacts
import Derived.Test.YtjmjbjnbfodalaaGreatLzAgNil
import Derived.Test.YtjmjbjnbfodalaaGreatLzMadeA
import Derived.Test.YtjmjbjnbfodalaaGreatSpC2
import Derived.Test.YtjmjbjnbfodalaaGreatTcIns
set_option linter.unusedSimpArgs false
set_option linter.unusedVariables false
set_option linter.unusedSectionVars false
namespace Go.Proofs.YtjmjbjnbfodalaaGreat
open Go.ChangeShapes Go.WideShapes Go.ChangeAt Go.RowKit Go.Tc
section
set_option maxRecDepth 1000000
theorem la_spk [Val] : lz.ls.spk.Ok P G := Fact.ok_of (n := 100000) (EnvOk.know env0 spC_known_ok) (by kernel_rfl)
theorem la_spk_ok (V : Val) : @Fact.Ok V P G lz.ls.spk := @la_spk V
end
namespace lz
theorem small_ok (sl : List Int) (id r which : Int) (hid : intD .and .i64 id 65535 = .int r) (hr : 0 ≤ r ∧ r ≤ 65535) (n : Nat) (h0 : 0 < n) (hn : n ≤ 5) (hns : n ≤ sl.length)
    (hm : ∃ tx, @Fact.Ok (vals [md.ints sl, .int r, bnds r 260 (Mof 768 n (symOf sl)), tx, .int 260]) P G (xM 4)) : @Fact.Ok (vals [md.ints sl, .int id, .int which]) P G la.x := by
  obtain ⟨tx, hm⟩ := hm
  exact la.ok la.kit4 rs.kit4 (by omega) (by omega) sl which r hr n hn hns tx id hid h0 hm (ly.ok4 (md.ints sl) tx (.int 260) r 260 hr n (by omega) (symOf sl)) (fun w => cy.ok cy.u4 cy.k4 so.ok4 w) (fun w => sm.ok sm.u4 sm.k4 so.ok4 w) la_spk_ok
theorem big_ok (sl : List Int) (id r which : Int) (hid : intD .and .i64 id 65535 = .int r) (hr : 0 ≤ r ∧ r ≤ 65535) (n : Nat) (h0 : 0 < n) (hn : n ≤ 12) (hns : n ≤ sl.length)
    (hm : ∃ tx, @Fact.Ok (vals [md.ints sl, .int r, bnds r 516 (Mof 1024 n (symOf sl)), tx, .int 516]) P G (xM 5)) : @Fact.Ok (vals [md.ints sl, .int id, .int which]) P G la.x := by
  obtain ⟨tx, hm⟩ := hm
  exact la.ok la.kit5 rs.kit5 (by omega) (by omega) sl which r hr n hn hns tx id hid h0 hm (ly.ok5 (md.ints sl) tx (.int 516) r 516 hr n (by omega) (symOf sl)) (fun w => cy.ok cy.u5 cy.k5 so.ok5 w) (fun w => sm.ok sm.u5 sm.k5 so.ok5 w) la_spk_ok
theorem again_ok (sl : List Int) (id which : Int) : @Fact.Ok (vals [md.ints sl, .int id, .int which]) P G la.x := by
  obtain ⟨r, hid, hr⟩ := mask16 id
  by_cases h0 : sl.length = 0
  · have : sl = [] := List.length_eq_zero_iff.1 h0
    subst this
    exact la.ok0 which id r hid la_spk_ok
  by_cases h1 : sl.length = 1
  · exact small_ok sl id r which hid hr 1 (by omega) (by omega) (by omega) (made1 sl r h1)
  by_cases h2 : sl.length = 2
  · exact small_ok sl id r which hid hr 2 (by omega) (by omega) (by omega) (made2 sl r h2)
  by_cases h3 : sl.length = 3
  · exact small_ok sl id r which hid hr 3 (by omega) (by omega) (by omega) (made3 sl r h3)
  by_cases h4 : sl.length = 4
  · exact small_ok sl id r which hid hr 4 (by omega) (by omega) (by omega) (made4 sl r h4)
  by_cases h5 : sl.length = 5
  · exact small_ok sl id r which hid hr 5 (by omega) (by omega) (by omega) (made5 sl r h5)
  by_cases h6 : sl.length = 6
  · exact big_ok sl id r which hid hr 6 (by omega) (by omega) (by omega) (made6 sl r h6)
  by_cases h7 : sl.length = 7
  · exact big_ok sl id r which hid hr 7 (by omega) (by omega) (by omega) (made7 sl r h7)
  by_cases h8 : sl.length = 8
  · exact big_ok sl id r which hid hr 8 (by omega) (by omega) (by omega) (made8 sl r h8)
  by_cases h9 : sl.length = 9
  · exact big_ok sl id r which hid hr 9 (by omega) (by omega) (by omega) (made9 sl r h9)
  by_cases h10 : sl.length = 10
  · exact big_ok sl id r which hid hr 10 (by omega) (by omega) (by omega) (made10 sl r h10)
  by_cases h11 : sl.length = 11
  · exact big_ok sl id r which hid hr 11 (by omega) (by omega) (by omega) (made11 sl r h11)
  by_cases h12 : sl.length = 12
  · exact big_ok sl id r which hid hr 12 (by omega) (by omega) (by omega) (made12 sl r h12)
  exact big_ok sl id r which hid hr 12 (by omega) (by omega) (by omega) (made12m sl r (by omega))
end lz
set_option maxRecDepth 1000000 in
theorem la_calls (v : Value) (id wh : Int) (W : World) (sl : List Int) (hs : W.ShapedOpen P) (hv : CellR (fun c => W.heap[c]?) (.isl [.int .i64]) (lz.md.ints sl) v) :
    Calls P 6 #[v, .int .i64 id, .int .i64 wh] W fun e w' => e = .returned (.bool true) ∧ (∀ c, c < W.heap.size → w'.heap[c]? = W.heap[c]?) ∧ ∀ may, W.keptBut w' may := by
  have hw : @WR (vals [lz.md.ints sl, .int id, .int wh]) G (startPl G W) (Go.Tc.startHeap G []).get (Go.Tc.startHeap G []).next W := @WR.start (vals _) G W [] (ShapedOpen.lies hs (g := 0) (by kernel_rfl)) (fun _ _ _ h => by cases h)
  refine (calls_of_fact (β := startPl G W) (lz.again_ok sl id wh) (Go.Tc.startHeap_fixed G []) (vs := [v, .int .i64 id, .int .i64 wh]) hw ?_).mono fun e w' ⟨β', r, he, hr, _, hk, ho, hout⟩ => ?_
  · exact @VRs.cons (vals _) _ _ _ _ _ (@VR.sy (vals _) _ _ _ _ hv) (@VRs.cons (vals _) _ _ _ _ _ (@VR.sy (vals _) _ _ _ _ (CellR.int .i64 id)) (@VRs.cons (vals _) _ _ _ _ _ (@VR.sy (vals _) _ _ _ _ (CellR.int .i64 wh)) (@VRs.nil (vals _) _)))
  · cases hr
    exact ⟨he, hk, fun may => keptBut_of_kept ho hout hk⟩
set_option maxRecDepth 100000 in
theorem la_lifted (os : Os) (started : os.Started) (H : Type) (enc : TypeId × Value → H) :
    ReturnsInHanded {} Tryz.checked os 6 .any (Rows.lazyAgainSpec.pre6 enc Tryz.prog Tryz.f6 Rows.lazyAgainRow.domain false) (Rows.lazyAgainSpec.post enc Tryz.prog Tryz.f6 false true false false) := by
  refine handed_shaped (C := Tryz.checked) own started (by kernel_rfl) Tryz.func6
    (ChangeSpec.witness6 (enc := enc) (C := Tryz.checked) false ⟨#[], #[.slice none 0 0, .int .i64 0, .int .i64 0], []⟩ 8 (by kernel_rfl) (by kernel_rfl) (by kernel_rfl) (by kernel_rfl)) ?_
  intro W base args ds gs before hsh hval0 hW
  have hval : ∀ (j : Nat) t v, Tryz.f6.params[j]? = some t → args[j]? = some v → Value.okWide Tryz.prog W .any base t v := hval0
  have hW' := hW
  obtain ⟨p, q, hA0, hV, rfl, hfz, hnd⟩ := hW
  have hA : DataW.TrodAll enc Tryz.prog W 0 (fun _ => true) true Tryz.f6.params.toList args.toList ds p := hA0
  have hlt := DataW.TrodAll.lt hA
  rw [Tryz.params6] at hA hval
  obtain ⟨v0, v1, v2, d0, d1, d2, p0, p1, p2, rfl, rfl, rfl, h0, h1, h2⟩ := trodAll_three hA
  obtain ⟨rfl, rfl⟩ := trodVars_none hV
  obtain ⟨l, hc, hr⟩ := open_nums Tryz.underlying22 Tryz.underlying3 (by kernel_rfl) (hval 0 22 v0 rfl rfl) h0
  obtain ⟨o, rfl, rfl, rfl, hwo⟩ := open_int Tryz.underlying3 (hval 1 3 v1 rfl rfl) h1
  obtain ⟨w, rfl, rfl, rfl, hww⟩ := open_int Tryz.underlying3 (hval 2 3 v2 rfl rfl) h2
  refine (la_calls v0 o w W l hsh hc).mono fun e W' ⟨he, hk, hkb⟩ => ?_
  subst he
  refine ⟨_, rfl, _, _, _, [], p0 ++ ([] ++ []), [], hW', ?_, ?_, ?_, hkb _, fun h => by cases h⟩
  · exact trodAll_mk1 (shut_bool Tryz.underlying4 true)
  · exact trodAll_mk3 (reads_on laidFact (by kernel_rfl) (of_decide_eq_true (by kernel_rfl)) h0 (fun q hq => hlt q (by simp [hq])) hk) (shut_int Tryz.underlying3 hwo) (shut_int Tryz.underlying3 hww)
  · rfl
theorem lazyAgain_holds : Rows.LazyAgainSaid :=
  OpenClaim.holds_of_wide 6 Tryz.f6 rfl rfl rfl rfl rfl rfl rfl ⟨rfl, rfl, rfl, rfl, rfl⟩ rfl rfl rfl rfl rfl (by kernel_rfl) Tryz.func6 la_Facts
    (of_decide_eq_true (by kernel_rfl)) (by unfold Func.isWrapper; first | (rw [if_pos (by decide +kernel)]; kernel_rfl) | (rw [if_neg (by decide +kernel)]; exact ⟨rfl, rfl⟩))
    (fun os started H enc _ => la_lifted os started H enc)
end Go.Proofs.YtjmjbjnbfodalaaGreat
