/- slices.Sorted of the keys of a space's pages: whatever order the keys come in, they come out rising. Conditions: four or five pages. -/
import Derived.Test.YtjmjbjnbfodalaaGreatLzSortK
set_option linter.unusedSimpArgs false
set_option linter.unusedVariables false
set_option linter.unusedSectionVars false
set_option maxRecDepth 100000
namespace Go.Proofs.YtjmjbjnbfodalaaGreat
open Go.Tc
namespace so
theorem all_at {α : Type} {l : List α} {f : α → Bool} (h : l.all f = true) {p : α} (hp : p ∈ l) : f p = true := List.all_eq_true.1 h p hp
theorem all_chunks {α : Type} {f : α → Bool} (m : Nat) (hm : 0 < m) (l : List α) (h : ∀ j, j * m < l.length → (((l.drop (m * j)).take m).all f) = true) : l.all f = true := by
  rw [List.all_eq_true]
  intro p hp
  obtain ⟨i, hi, rfl⟩ := List.mem_iff_getElem.1 hp
  have hj : (i / m) * m < l.length := Nat.lt_of_le_of_lt (Nat.div_mul_le_self i m) hi
  refine all_at (h (i / m) hj) ?_
  have h1 : i = m * (i / m) + i % m := (Nat.div_add_mod i m).symm
  have h2 := Nat.mod_lt i hm
  have hdl : i % m < (l.drop (m * (i / m))).length := by rw [List.length_drop]; omega
  rw [List.mem_iff_getElem]
  refine ⟨i % m, by rw [List.length_take]; omega, ?_⟩
  rw [List.getElem_take, List.getElem_drop]
  congr 1
  omega
structure Kit (np at_ : Nat) (qs : List Nat) : Prop where
  pos : ∀ k ∈ qs, 0 < k
  ne : keys np ∈ orders np
  k : ∀ q ∈ prods qs, ks.chk np at_ q = true
  ke : (orders np).all (ks.chkE np) = true
  aa : ap.chkA np = true
  ab : (orders np).all (ap.chkB np) = true
  ac : (orders np).all (ap.chkC np) = true
  ca : co.chkA np = true
  cb : (orders np).all (co.chkB np) = true
  cc : (orders np).all (co.chkC np) = true
  sa : st.chkA np = true
  sb : (orders np).all (st.chkB np) = true
  sc : (orders np).all (st.chkC np) = true
def alt (np : Nat) (x : List Int → Fact) (y : Fact) : Prop := ∃ p, p ∈ orders np ∧ y = x p
theorem alt_of {np : Nat} {x : List Int → Fact} {p : List Int} (h : p ∈ orders np) : alt np x (x p) := ⟨p, h, rfl⟩
section
variable {np at_ : Nat} {kk : List Nat} (K : Kit np at_ kk)
include K
theorem ks_ok : @FactN.Ok (vals []) P G (ks.x np []) (alt np (ks.x np)) := by
  have hg : ks.cx.glob = G := by kernel_rfl
  refine FactN.ok_tri (fn := ks.fn) (cd := ks.cd) (envC []) ks.func ks.body (Q := fun V' ex σ' => V' = vals [] ∧ ex = .normal ∧ ∃ p, p ∈ orders np ∧ σ' = ks.fin np p) ?tri ?hq
  case hq =>
    rintro V' ex σ' ⟨rfl, rfl, p, hp, rfl⟩
    exact ⟨rfl, .inl rfl, ks.x np p, alt_of hp, ⟨rfl, rfl, rfl, rfl⟩, all_at K.ke hp⟩
  refine Tri.flat (by kernel_rfl) ?_
  show TriL P G _ ks.cx none 24 ks.L _ _
  refine TriL.explore (ln := [(25, at_)]) (f := 8) (n := 100000) (σp := ks.fin np) (pp := fun p => (orders np).contains p) (envC []) hg 1 ks.at1 ks.flat_bd (Nat.le_refl 24) kk K.pos (fun q hq => ?_) (fun path hp => TriL.nil ⟨rfl, rfl, path, List.contains_iff_mem.1 hp, rfl⟩)
  exact K.k q hq
theorem ap_ok : @FactN.Ok (vals []) P G (ap.x np []) (alt np (ap.x np)) := by
  have hg : ap.cx.glob = G := by kernel_rfl
  refine FactN.ok_tri (fn := ap.fn) (cd := ap.cd) (envC []) ap.func ap.body (Q := fun V' ex σ' => V' = vals [] ∧ ex = .ret ∧ ∃ p, p ∈ orders np ∧ σ' = ap.fin np p) ?tri ?hq
  case hq =>
    rintro V' ex σ' ⟨rfl, rfl, p, hp, rfl⟩
    have := all_at K.ac hp
    unfold ap.chkC at this
    exact ⟨rfl, .inr rfl, ap.x np p, alt_of hp, ⟨rfl, rfl, rfl, rfl⟩, (Bool.and_eq_true_iff.1 this).2⟩
  refine Tri.flat (by kernel_rfl) ?_
  show TriL P G _ ap.cx none 21 ap.L _ _
  refine TriL.go 2 (envC []) hg stays_none (tb := []) trivial (Nat.le_refl 21) K.aa ?_
  show TriL P G (vals []) ap.cx none 21 (ap.L.drop 2) _ _
  rw [ap.at2]
  have hr := Tri.rangeN (V := vals []) (E := EC) (σ := ap.s0 np) (k0 := 21) (c := ap.cx) (f := .tmp 6) (params := ap.lc.params) (assign := ap.lc.assign) (body := ap.lc.body) (envC []) hg (ks_ok K) (fun y hy => (by
    obtain ⟨p, -, rfl⟩ := hy
    exact ⟨rfl, rfl, rfl, rfl⟩)) (alt_of K.ne) (lc := .at_ 245 [1, 0, 1, 2]) rfl (by show 21 ≤ 22; omega) (ln := [(21, 21), (22, 22), (25, 25)]) (σy := ap.s1) (fun y hy => (by
    obtain ⟨p, hp, rfl⟩ := hy
    exact all_at K.ab hp))
  refine TriL.cons stays_none (Q1 := fun V' ex σ' => V' = vals [] ∧ ex = .normal ∧ ∃ y, alt np (ks.x np) y ∧ σ' = ap.s1 y) (Tri.block (Tri.mono hr ?_)) ?_ (fun V' ex σ' hne h => absurd h.2.1 hne)
  · rintro V' ex σ' ⟨rfl, rfl, h⟩
    exact ⟨rfl, rfl, h⟩
  · rintro V' σ' ⟨rfl, -, y, ⟨p, hp, rfl⟩, rfl⟩
    have := all_at K.ac hp
    unfold ap.chkC at this
    exact TriL.fin (envC []) hg (tb := []) trivial (by show 21 ≤ 26; omega) (Bool.and_eq_true_iff.1 this).1 ⟨rfl, rfl, p, hp, rfl⟩
theorem co_ok : @FactN.Ok (vals []) P G (co.x np []) (alt np (co.x np)) := by
  have hg : co.cx.glob = G := by kernel_rfl
  refine FactN.ok_tri (fn := co.fn) (cd := co.cd) (envC []) co.func co.body (Q := fun V' ex σ' => V' = vals [] ∧ ex = .ret ∧ ∃ p, p ∈ orders np ∧ σ' = co.s1 (ap.x np p)) ?tri ?hq
  case hq =>
    rintro V' ex σ' ⟨rfl, rfl, p, hp, rfl⟩
    have := all_at K.cc hp
    unfold co.chkC at this
    exact ⟨rfl, .inr rfl, co.x np p, alt_of hp, ⟨rfl, rfl, rfl, rfl⟩, (Bool.and_eq_true_iff.1 this).2⟩
  refine Tri.flat (by kernel_rfl) ?_
  show TriL P G _ co.cx none 21 co.L _ _
  refine TriL.go 1 (envC []) hg stays_none (tb := []) trivial (Nat.le_refl 21) K.ca ?_
  show TriL P G (vals []) co.cx none 21 (co.L.drop 1) _ _
  rw [co.at1]
  refine TriL.cons stays_none (Tri.callN (envC []) hg (ap_ok K) (fun y hy => ?_) (alt_of K.ne) (i := 1) (n := 100000) (by show 21 ≤ 21; omega) (ln := [(21, 21)]) (σy := co.s1) (fun y hy => ?_)) ?_ (fun V' ex σ' hne h => absurd h.2.1 hne)
  · obtain ⟨p, -, rfl⟩ := hy
    exact ⟨rfl, rfl, rfl, rfl⟩
  · obtain ⟨p, hp, rfl⟩ := hy
    exact all_at K.cb hp
  · rintro V' σ' ⟨rfl, -, y, ⟨p, hp, rfl⟩, rfl⟩
    have := all_at K.cc hp
    unfold co.chkC at this
    exact TriL.fin (envC []) hg (tb := []) trivial (by show 21 ≤ 23; omega) (Bool.and_eq_true_iff.1 this).1 ⟨rfl, rfl, p, hp, rfl⟩
theorem st_ok : @Fact.Ok (vals []) P G (st.x np) := by
  have hg : st.cx.glob = G := by kernel_rfl
  have hsa := K.sa
  unfold st.chkA at hsa
  refine Fact.ok_tri (fn := st.fn) (cd := st.cd) (envC []) st.func st.body (Q := fun V' ex σ' => V' = vals [] ∧ ex = .ret ∧ σ' = st.fin np) ?tri ?hq
  case hq =>
    rintro V' ex σ' ⟨rfl, rfl, rfl⟩
    exact ⟨rfl, .inr rfl, (Bool.and_eq_true_iff.1 hsa).2⟩
  refine Tri.flat (by kernel_rfl) ?_
  show TriL P G _ st.cx none 21 st.L _ _
  refine TriL.go 1 (envC []) hg stays_none (tb := []) trivial (Nat.le_refl 21) (Bool.and_eq_true_iff.1 hsa).1 ?_
  show TriL P G (vals []) st.cx none 21 (st.L.drop 1) _ _
  rw [st.at1]
  refine TriL.cons stays_none (Tri.callN (envC []) hg (co_ok K) (fun y hy => ?_) (alt_of K.ne) (i := 1) (n := 100000) (by show 21 ≤ 21; omega) (ln := [(21, 21)]) (σy := st.s1) (fun y hy => ?_)) ?_ (fun V' ex σ' hne h => absurd h.2.1 hne)
  · obtain ⟨p, -, rfl⟩ := hy
    exact ⟨rfl, rfl, rfl, rfl⟩
  · obtain ⟨p, hp, rfl⟩ := hy
    exact all_at K.sb hp
  · rintro V' σ' ⟨rfl, -, y, ⟨p, hp, rfl⟩, rfl⟩
    have := all_at K.sc hp
    unfold st.chkC at this
    exact TriL.fin (envC []) hg (tb := []) trivial (by show 21 ≤ 23; omega) this ⟨rfl, rfl, rfl⟩
end
set_option maxRecDepth 1000000 in
theorem ne4 : (orders 4).contains (keys 4) = true := by kernel_rfl
set_option maxRecDepth 1000000 in
theorem ne5 : (orders 5).contains (keys 5) = true := by kernel_rfl
set_option maxRecDepth 1000000 in
theorem len4 : (orders 4).length = 24 := by kernel_rfl
set_option maxRecDepth 1000000 in
theorem len5 : (orders 5).length = 120 := by kernel_rfl
theorem prods4 : ∀ q ∈ prods [4], ks.chk 4 32 q = true := by
  intro q hq
  have hq : q ∈ [[(0, 4)], [(1, 4)], [(2, 4)], [(3, 4)]] := hq
  simp only [List.mem_cons, List.mem_nil_iff, or_false] at hq
  rcases hq with rfl | rfl | rfl | rfl
  · exact ks.k4_0
  · exact ks.k4_1
  · exact ks.k4_2
  · exact ks.k4_3
theorem prods5 : ∀ q ∈ prods [5, 4], ks.chk 5 34 q = true := by
  intro q hq
  have hq : q ∈ [[(0, 5), (0, 4)], [(0, 5), (1, 4)], [(0, 5), (2, 4)], [(0, 5), (3, 4)], [(1, 5), (0, 4)], [(1, 5), (1, 4)], [(1, 5), (2, 4)], [(1, 5), (3, 4)], [(2, 5), (0, 4)], [(2, 5), (1, 4)], [(2, 5), (2, 4)], [(2, 5), (3, 4)], [(3, 5), (0, 4)], [(3, 5), (1, 4)], [(3, 5), (2, 4)], [(3, 5), (3, 4)], [(4, 5), (0, 4)], [(4, 5), (1, 4)], [(4, 5), (2, 4)], [(4, 5), (3, 4)]] := hq
  simp only [List.mem_cons, List.mem_nil_iff, or_false] at hq
  rcases hq with rfl | rfl | rfl | rfl | rfl | rfl | rfl | rfl | rfl | rfl | rfl | rfl | rfl | rfl | rfl | rfl | rfl | rfl | rfl | rfl
  · exact ks.k5_0
  · exact ks.k5_1
  · exact ks.k5_2
  · exact ks.k5_3
  · exact ks.k5_4
  · exact ks.k5_5
  · exact ks.k5_6
  · exact ks.k5_7
  · exact ks.k5_8
  · exact ks.k5_9
  · exact ks.k5_10
  · exact ks.k5_11
  · exact ks.k5_12
  · exact ks.k5_13
  · exact ks.k5_14
  · exact ks.k5_15
  · exact ks.k5_16
  · exact ks.k5_17
  · exact ks.k5_18
  · exact ks.k5_19
theorem kit4 : Kit 4 32 [4] := ⟨by decide, List.contains_iff_mem.1 ne4, prods4, ks.ke4, ap.a4, ap.b4, ap.c4, co.a4, co.b4, co.c4, st.a4, st.b4, all_chunks 12 (by omega) _ fun j hj => by
  rw [len4] at hj
  rcases (show j = 0 ∨ j = 1 by omega) with rfl | rfl
  · exact st.c4_0
  · exact st.c4_1⟩
theorem kit5 : Kit 5 34 [5, 4] := ⟨by decide, List.contains_iff_mem.1 ne5, prods5, ks.ke5, ap.a5, ap.b5, ap.c5, co.a5, co.b5, co.c5, st.a5, st.b5, all_chunks 12 (by omega) _ fun j hj => by
  rw [len5] at hj
  rcases (show j = 0 ∨ j = 1 ∨ j = 2 ∨ j = 3 ∨ j = 4 ∨ j = 5 ∨ j = 6 ∨ j = 7 ∨ j = 8 ∨ j = 9 by omega) with rfl | rfl | rfl | rfl | rfl | rfl | rfl | rfl | rfl | rfl
  · exact st.c5_0
  · exact st.c5_1
  · exact st.c5_2
  · exact st.c5_3
  · exact st.c5_4
  · exact st.c5_5
  · exact st.c5_6
  · exact st.c5_7
  · exact st.c5_8
  · exact st.c5_9⟩
theorem ok4 : @Fact.Ok (vals []) P G (st.x 4) := st_ok kit4
theorem ok5 : @Fact.Ok (vals []) P G (st.x 5) := st_ok kit5
end so
end Go.Proofs.YtjmjbjnbfodalaaGreat
