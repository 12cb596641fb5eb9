/- texts as numbers. -/
import GoSem.Step
import Derived.Laws.Strings
set_option linter.unusedSimpArgs false
set_option linter.unusedVariables false
set_option linter.unusedSectionVars false
namespace Go.Tc
structure BS where
  len : Nat
  val : Nat
  deriving DecidableEq, Repr, Inhabited
def BS.ofList (l : List UInt8) : BS := ⟨l.length, l.foldl (fun a b => a * 256 + b.toNat) 0⟩
def BS.of (s : ByteArray) : BS := BS.ofList s.data.toList
def BS.app (a b : BS) : BS := ⟨a.len + b.len, a.val * 256 ^ b.len + b.val⟩
def BS.get (s : BS) (i : Nat) : Nat := s.val / 256 ^ (s.len - 1 - i) % 256
def BS.cut (s : BS) (l h : Nat) : BS := ⟨h - l, s.val / 256 ^ (s.len - h) % 256 ^ (h - l)⟩
def BS.eq (a b : BS) : Bool := a.len == b.len && a.val == b.val
def BS.lt (a b : BS) : Bool :=
  let x := a.val * 256 ^ b.len
  let y := b.val * 256 ^ a.len
  Nat.blt x y || (x == y && Nat.blt a.len b.len)
def BS.nats (s : BS) : Nat → List Nat
  | 0 => []
  | k + 1 => s.get (s.len - (k + 1)) :: s.nats k
def BS.ofNats (l : List Nat) : BS := ⟨l.length, l.foldl (fun a b => a * 256 + b % 256) 0⟩
theorem foldl_digits (l : List UInt8) : ∀ (a : Nat), l.foldl (fun a b => a * 256 + b.toNat) a = a * 256 ^ l.length + l.foldl (fun a b => a * 256 + b.toNat) 0 := by
  induction l with
  | nil => intro a; simp
  | cons b r ih =>
    intro a
    simp only [List.foldl_cons, List.length_cons]
    rw [ih (a * 256 + b.toNat), ih (0 * 256 + b.toNat)]
    rw [Nat.pow_succ, Nat.add_mul, Nat.zero_mul, Nat.zero_add, Nat.mul_comm (256 ^ r.length) 256, ← Nat.mul_assoc, Nat.add_assoc]
theorem ofList_app (x y : List UInt8) : (BS.ofList x).app (BS.ofList y) = BS.ofList (x ++ y) := by
  simp only [BS.ofList, BS.app, List.length_append, List.foldl_append]
  rw [foldl_digits y (List.foldl _ 0 x)]
theorem digits_lt (l : List UInt8) : l.foldl (fun a b => a * 256 + b.toNat) 0 < 256 ^ l.length := by
  induction l with
  | nil => simp
  | cons b r ih =>
    rw [List.foldl_cons, foldl_digits, List.length_cons, Nat.pow_succ, Nat.zero_mul, Nat.zero_add]
    have hb : b.toNat < 256 := b.toNat_lt
    generalize List.foldl _ 0 r = x at ih
    generalize 256 ^ r.length = y at ih
    have : b.toNat * y ≤ 255 * y := Nat.mul_le_mul_right _ (by omega)
    omega
theorem BS.of_app (x y : ByteArray) : (BS.of x).app (BS.of y) = BS.of (x ++ y) := by
  unfold BS.of; rw [ofList_app, ByteArray.data_append, Array.toList_append]
theorem BS.of_len (x : ByteArray) : (BS.of x).len = x.size := rfl
theorem ofList_inj {x y : List UInt8} (h : BS.ofList x = BS.ofList y) : x = y := by
  induction x generalizing y with
  | nil =>
    simp only [BS.ofList, BS.mk.injEq, List.length_nil] at h
    exact (List.length_eq_zero_iff.1 h.1.symm).symm
  | cons b l ih =>
    simp only [BS.ofList, BS.mk.injEq] at h
    obtain ⟨h1, h2⟩ := h
    cases y with
    | nil => simp at h1
    | cons c m =>
      rw [List.foldl_cons, foldl_digits, List.foldl_cons, foldl_digits m] at h2
      simp only [List.length_cons, Nat.add_right_cancel_iff] at h1
      have hl := digits_lt l
      have hm := digits_lt m
      rw [h1] at h2 hl
      simp only [Nat.zero_mul, Nat.zero_add] at h2
      have e1 : b.toNat = c.toNat := by
        have t1 := congrArg (· / 256 ^ m.length) h2
        simp only [Nat.mul_comm _ (256 ^ m.length), Nat.mul_add_div (Nat.pow_pos (n := m.length) (show 0 < 256 by omega)), Nat.div_eq_of_lt hl, Nat.div_eq_of_lt hm, Nat.add_zero] at t1
        exact t1
      rw [e1] at h2
      have e2 : List.foldl (fun a b => a * 256 + b.toNat) 0 l = List.foldl (fun a b => a * 256 + b.toNat) 0 m := Nat.add_left_cancel h2
      have := ih (y := m) (by simp only [BS.ofList, BS.mk.injEq]; exact ⟨h1, e2⟩)
      rw [this, UInt8.toNat_inj.1 e1]
theorem BS.of_inj {x y : ByteArray} (h : BS.of x = BS.of y) : x = y := by
  have := ofList_inj h
  exact ByteArray.ext (Array.toList_inj.1 this)
theorem BS.eq_iff (a b : BS) : a.eq b = true ↔ a = b := by
  cases a; cases b; simp [BS.eq]
theorem BS.eq_of (x y : ByteArray) : (BS.of x).eq (BS.of y) = (x.toList == y.toList) := by
  rw [Bool.eq_iff_iff, BS.eq_iff, beq_iff_eq, ByteArray.toList_eq, ByteArray.toList_eq]
  exact ⟨fun h => by rw [BS.of_inj h], fun h => by unfold BS.of; rw [h]⟩
theorem digits_append_div (x y : List UInt8) : (x ++ y).foldl (fun a b => a * 256 + b.toNat) 0 / 256 ^ y.length = x.foldl (fun a b => a * 256 + b.toNat) 0 := by
  rw [List.foldl_append, foldl_digits, Nat.add_comm, Nat.add_mul_div_right _ _ (Nat.pow_pos (by omega)), Nat.div_eq_of_lt (digits_lt y), Nat.zero_add]
theorem digits_append_mod (x y : List UInt8) : (x ++ y).foldl (fun a b => a * 256 + b.toNat) 0 % 256 ^ y.length = y.foldl (fun a b => a * 256 + b.toNat) 0 := by
  rw [List.foldl_append, foldl_digits, Nat.add_comm, Nat.add_mul_mod_self_right, Nat.mod_eq_of_lt (digits_lt y)]
theorem ofList_cut (l : List UInt8) (a b : Nat) (h1 : a ≤ b) (h2 : b ≤ l.length) : (BS.ofList l).cut a b = BS.ofList ((l.drop a).take (b - a)) := by
  simp only [BS.ofList, BS.cut, BS.mk.injEq, List.length_take, List.length_drop]
  refine ⟨by omega, ?_⟩
  have e : l = (l.take a ++ (l.drop a).take (b - a)) ++ l.drop b := by
    have : l.take b = l.take a ++ (l.drop a).take (b - a) := by
      conv => lhs; rw [show b = a + (b - a) from by omega, List.take_add]
    rw [← this, List.take_append_drop]
  have hl : (l.drop b).length = l.length - b := List.length_drop
  conv => lhs; rw [e]
  rw [List.length_append, hl]
  rw [show (List.take a l ++ List.take (b - a) (List.drop a l)).length + (l.length - b) - b = l.length - b from by simp [List.length_take, List.length_drop]; omega]
  rw [← hl, digits_append_div]
  have hq : ((l.drop a).take (b - a)).length = b - a := by simp [List.length_take, List.length_drop]; omega
  have := digits_append_mod (List.take a l) ((l.drop a).take (b - a))
  rwa [hq] at this
theorem BS.of_cut (s : ByteArray) (a b : Nat) (h1 : a ≤ b) (h2 : b ≤ s.size) : (BS.of s).cut a b = BS.of (s.extract a b) := by
  unfold BS.of
  rw [ofList_cut _ _ _ h1 h2, ByteArray.data_extract, Array.toList_extract, List.extract_eq_take_drop]
theorem ofList_get (l : List UInt8) (i : Nat) (h : i < l.length) : (BS.ofList l).get i = (l[i]).toNat := by
  have h3 := ofList_cut l i (i + 1) (by omega) (by omega)
  simp only [BS.ofList, BS.cut, BS.mk.injEq] at h3
  simp only [BS.get, BS.ofList]
  have h4 := h3.2
  rw [show i + 1 - i = 1 from by omega, Nat.pow_one] at h4
  rw [show l.length - 1 - i = l.length - (i + 1) from by omega, h4]
  rw [List.drop_eq_getElem_cons h, List.take_succ_cons, List.take_zero]
  simp only [List.foldl_cons, List.foldl_nil]
  omega
theorem BS.of_get (s : ByteArray) (i : Nat) (h : i < s.size) : (BS.of s).get i = (s[i]).toNat := by
  unfold BS.of
  rw [ofList_get _ _ h]
  rfl
theorem ofList_nats (l : List UInt8) (k : Nat) (h : k ≤ l.length) : (BS.ofList l).nats k = (l.drop (l.length - k)).map (·.toNat) := by
  induction k with
  | zero => simp [BS.nats]
  | succ k ih =>
    simp only [BS.nats]
    rw [ih (by omega), show (BS.ofList l).len = l.length from rfl, ofList_get _ _ (by omega)]
    rw [List.drop_eq_getElem_cons (i := l.length - (k + 1)) (by omega)]
    rw [show l.length - (k + 1) + 1 = l.length - k from by omega]
    simp
theorem BS.of_nats (s : ByteArray) : (BS.of s).nats (BS.of s).len = s.data.toList.map (·.toNat) := by
  have := ofList_nats s.data.toList s.data.toList.length (Nat.le_refl _)
  simpa [BS.of, BS.ofList] using this
theorem ofNats_map (l : List UInt8) : BS.ofNats (l.map (·.toNat)) = BS.ofList l := by
  simp only [BS.ofNats, BS.ofList, List.length_map, List.foldl_map, BS.mk.injEq, true_and]
  congr 1
  funext a b
  have hb : b.toNat < 256 := b.toNat_lt
  omega
theorem ofNats_list (l : List Nat) : BS.ofNats l = BS.ofList (l.map fun n => UInt8.ofNat n) := by
  simp only [BS.ofNats, BS.ofList, List.length_map, List.foldl_map, BS.mk.injEq, true_and]
  congr 1
theorem ofNats_len (l : List Nat) : (BS.ofNats l).len = l.length := rfl
theorem ofNats_get (l : List Nat) (i : Nat) (h : i < l.length) : (BS.ofNats l).get i = l[i] % 256 := by
  rw [ofNats_list, ofList_get _ _ (by simpa using h)]
  simp
theorem ofNats_cut (l : List Nat) (a b : Nat) (h1 : a ≤ b) (h2 : b ≤ l.length) : (BS.ofNats l).cut a b = BS.ofNats ((l.drop a).take (b - a)) := by
  rw [ofNats_list, ofList_cut _ _ _ h1 (by simpa using h2), ofNats_list]
  congr 1
  simp
theorem ofNats_app (a b : List Nat) : (BS.ofNats a).app (BS.ofNats b) = BS.ofNats (a ++ b) := by
  rw [ofNats_list, ofNats_list, ofList_app, ofNats_list, List.map_append]
def patch {α : Type} : List Nat → List α → List α → List α
  | p :: ps, d :: ds, l => (patch ps ds l).set p d
  | _, _, l => l
def findHole {α : Type} (i : Nat) : List Nat → List α → Option α
  | p :: ps, d :: ds => bif Nat.beq p i then some d else findHole i ps ds
  | _, _ => none
def cutPs {α : Type} (a b : Nat) : List Nat → List α → List Nat × List α
  | p :: ps, d :: ds => if a ≤ p ∧ p < b then ((p - a) :: (cutPs a b ps ds).1, d :: (cutPs a b ps ds).2) else cutPs a b ps ds
  | _, _ => ([], [])
theorem patch_nil {α : Type} (ds l : List α) : patch [] ds l = l := by cases ds <;> rfl
theorem patch_nil2 {α : Type} (ps : List Nat) (l : List α) : patch ps [] l = l := by cases ps <;> rfl
theorem patch_len {α : Type} : ∀ (ps : List Nat) (ds l : List α), (patch ps ds l).length = l.length
  | [], ds, l => by rw [patch_nil]
  | _ :: _, [], l => by rw [patch_nil2]
  | p :: ps, d :: ds, l => by simp [patch, patch_len ps ds l]
theorem findHole_nil {α : Type} (i : Nat) (ds : List α) : findHole i [] ds = none := by cases ds <;> rfl
theorem findHole_nil2 {α : Type} (i : Nat) (ps : List Nat) : findHole i ps ([] : List α) = none := by cases ps <;> rfl
theorem patch_get {α : Type} : ∀ (ps : List Nat) (ds l : List α) (i : Nat), (patch ps ds l)[i]? = match findHole i ps ds with | some d => if i < l.length then some d else none | none => l[i]?
  | [], ds, l, i => by rw [patch_nil, findHole_nil]
  | _ :: _, [], l, i => by rw [patch_nil2, findHole_nil2]
  | p :: ps, d :: ds, l, i => by
    simp only [patch, findHole, List.getElem?_set, patch_len]
    by_cases h : p = i
    · subst h; simp
    · have : Nat.beq p i = false := by rw [Bool.eq_false_iff]; exact fun e => h (Nat.eq_of_beq_eq_true e)
      rw [if_neg h, this, cond_false]
      exact patch_get ps ds l i
theorem findHole_cut {α : Type} (a b i : Nat) : ∀ (ps : List Nat) (ds : List α), findHole i (cutPs a b ps ds).1 (cutPs a b ps ds).2 = if i < b - a then findHole (a + i) ps ds else none
  | [], ds => by simp [cutPs, findHole_nil]
  | _ :: _, [] => by simp [cutPs, findHole_nil2]
  | p :: ps, d :: ds => by
    have ih := findHole_cut a b i ps ds
    simp only [cutPs]
    split
    · rename_i h
      simp only [findHole]
      by_cases e : p - a = i
      · have e2 : a + i = p := by omega
        rw [e2, if_pos (by omega)]
        simp [e]
      · have e1 : Nat.beq (p - a) i = false := by rw [Bool.eq_false_iff]; exact fun h => e (Nat.eq_of_beq_eq_true h)
        have e2 : Nat.beq p (a + i) = false := by rw [Bool.eq_false_iff]; exact fun h => e (by have := Nat.eq_of_beq_eq_true h; omega)
        rw [e1, e2]
        exact ih
    · rename_i h
      rw [ih]
      by_cases hi : i < b - a
      · rw [if_pos hi, if_pos hi]
        simp only [findHole]
        have e2 : Nat.beq p (a + i) = false := by rw [Bool.eq_false_iff]; exact fun h' => h (by have := Nat.eq_of_beq_eq_true h'; omega)
        rw [e2]; rfl
      · rw [if_neg hi, if_neg hi]
theorem patch_cut {α : Type} (a b : Nat) (ps : List Nat) (ds l : List α) : ((patch ps ds l).drop a).take (b - a) = patch (cutPs a b ps ds).1 (cutPs a b ps ds).2 ((l.drop a).take (b - a)) := by
  apply List.ext_getElem?
  intro i
  rw [patch_get, findHole_cut, List.getElem?_take, List.getElem?_drop, patch_get, List.getElem?_take, List.getElem?_drop]
  by_cases hi : i < b - a
  · simp only [hi, if_true]
    cases findHole (a + i) ps ds with
    | none => rfl
    | some d =>
      simp only [List.length_take, List.length_drop]
      by_cases hl : a + i < l.length
      · rw [if_pos hl, if_pos (by omega)]
      · rw [if_neg hl, if_neg (by omega)]
  · simp [hi]
theorem findHole_app {α : Type} (i : Nat) : ∀ (ps qs : List Nat) (ds es : List α), ps.length = ds.length → findHole i (ps ++ qs) (ds ++ es) = match findHole i ps ds with | some d => some d | none => findHole i qs es
  | [], qs, [], es, _ => rfl
  | p :: ps, qs, d :: ds, es, h => by
    simp only [List.cons_append, findHole]
    cases Nat.beq p i
    · exact findHole_app i ps qs ds es (by simpa using h)
    · rfl
  | [], _, _ :: _, _, h => by simp at h
  | _ :: _, _, [], _, h => by simp at h
theorem findHole_shift {α : Type} (i n : Nat) : ∀ (ps : List Nat) (ds : List α), findHole i (ps.map (· + n)) ds = if n ≤ i then findHole (i - n) ps ds else none
  | [], ds => by simp [findHole_nil]
  | _ :: _, [] => by simp [findHole_nil2]
  | p :: ps, d :: ds => by
    simp only [List.map_cons, findHole, findHole_shift i n ps ds]
    by_cases h : p + n = i
    · subst h; simp
    · have e1 : Nat.beq (p + n) i = false := by rw [Bool.eq_false_iff]; exact fun h' => h (Nat.eq_of_beq_eq_true h')
      rw [e1, cond_false]
      by_cases hn : n ≤ i
      · have e2 : Nat.beq p (i - n) = false := by rw [Bool.eq_false_iff]; exact fun h' => h (by have := Nat.eq_of_beq_eq_true h'; omega)
        simp [hn, e2]
      · simp [hn]
theorem findHole_lt {α : Type} {i n : Nat} : ∀ {ps : List Nat} {ds : List α} {d : α}, (∀ p ∈ ps, p < n) → findHole i ps ds = some d → i < n
  | [], ds, d, _, h => by rw [findHole_nil] at h; cases h
  | _ :: _, [], d, _, h => by rw [findHole_nil2] at h; cases h
  | p :: ps, d0 :: ds, d, hp, h => by
    simp only [findHole] at h
    by_cases e : p = i
    · subst e; exact hp p (by simp)
    · have e1 : Nat.beq p i = false := by rw [Bool.eq_false_iff]; exact fun h' => e (Nat.eq_of_beq_eq_true h')
      rw [e1, cond_false] at h
      exact findHole_lt (fun q hq => hp q (by simp [hq])) h
theorem patch_app {α : Type} (ps qs : List Nat) (ds es l m : List α) (h1 : ps.length = ds.length) (h2 : ∀ p ∈ ps, p < l.length) :
    patch (ps ++ qs.map (· + l.length)) (ds ++ es) (l ++ m) = patch ps ds l ++ patch qs es m := by
  apply List.ext_getElem?
  intro i
  rw [patch_get, findHole_app _ _ _ _ _ h1, findHole_shift]
  by_cases hi : i < l.length
  · have hr : (patch ps ds l ++ patch qs es m)[i]? = (patch ps ds l)[i]? := List.getElem?_append_left (by simpa [patch_len] using hi)
    have hl : (l ++ m)[i]? = l[i]? := List.getElem?_append_left hi
    rw [if_neg (by omega), hr, hl, patch_get]
    cases findHole i ps ds with
    | none => rfl
    | some d => simp only [List.length_append, hi, if_true]; rw [if_pos (by omega)]
  · have e : findHole i ps ds = none := by
      cases e : findHole i ps ds with
      | none => rfl
      | some d => exact absurd (findHole_lt h2 e) hi
    have hr : (patch ps ds l ++ patch qs es m)[i]? = (patch qs es m)[i - l.length]? := by
      rw [List.getElem?_append_right (by rw [patch_len]; omega), patch_len]
    have hl : (l ++ m)[i]? = m[i - l.length]? := List.getElem?_append_right (by omega)
    rw [e, if_pos (by omega), hr, hl, patch_get]
    simp only [List.length_append]
    cases findHole (i - l.length) qs es with
    | none => rfl
    | some d =>
      show (if i < l.length + m.length then some d else none) = (if i - l.length < m.length then some d else none)
      by_cases hm : i < l.length + m.length
      · rw [if_pos hm, if_pos (by omega)]
      · rw [if_neg hm, if_neg (by omega)]
theorem findHole_map {α γ : Type} (f : α → γ) (i : Nat) : ∀ (ps : List Nat) (ds : List α), findHole i ps (ds.map f) = (findHole i ps ds).map f
  | [], ds => by simp [findHole_nil]
  | _ :: _, [] => by simp [findHole_nil2]
  | p :: ps, d :: ds => by
    simp only [List.map_cons, findHole]
    cases Nat.beq p i
    · exact findHole_map f i ps ds
    · rfl
theorem cutPs_map {α γ : Type} (f : α → γ) (a b : Nat) : ∀ (ps : List Nat) (ds : List α), cutPs a b ps (ds.map f) = ((cutPs a b ps ds).1, (cutPs a b ps ds).2.map f)
  | [], ds => by simp [cutPs]
  | _ :: _, [] => by simp [cutPs]
  | p :: ps, d :: ds => by
    simp only [List.map_cons, cutPs, cutPs_map f a b ps ds]
    split <;> simp
theorem patch_map {α γ : Type} (f : α → γ) : ∀ (ps : List Nat) (ds l : List α), (patch ps ds l).map f = patch ps (ds.map f) (l.map f)
  | [], ds, l => by simp [patch_nil]
  | _ :: _, [], l => by simp [patch_nil2]
  | p :: ps, d :: ds, l => by simp [patch, patch_map f ps ds l]
def BS.ok (s : BS) : Bool := Nat.blt s.val (256 ^ s.len)
theorem nats_len (s : BS) : ∀ k, (s.nats k).length = k
  | 0 => rfl
  | k + 1 => by simp [BS.nats, nats_len s k]
theorem nats_fold (s : BS) : ∀ (k : Nat) (a : Nat), k ≤ s.len → (s.nats k).foldl (fun a b => a * 256 + b % 256) a = a * 256 ^ k + s.val % 256 ^ k
  | 0, a, _ => by simp [BS.nats, Nat.mod_one]
  | k + 1, a, h => by
    simp only [BS.nats, List.foldl_cons]
    rw [nats_fold s k _ (by omega)]
    simp only [BS.get]
    rw [show s.len - 1 - (s.len - (k + 1)) = k from by omega, Nat.mod_mod, Nat.pow_succ, Nat.mod_mul, Nat.add_mul, Nat.mul_assoc, Nat.mul_comm 256 (256 ^ k), Nat.add_assoc]
    congr 1
    rw [Nat.mul_comm (s.val / 256 ^ k % 256), Nat.add_comm]
theorem ofNats_nats {s : BS} (h : s.ok = true) : BS.ofNats (s.nats s.len) = s := by
  have hv : s.val < 256 ^ s.len := by simpa [BS.ok, Nat.blt_eq] using h
  cases s with
  | mk len val =>
    simp only [BS.ofNats, nats_len, BS.mk.injEq, true_and]
    have := nats_fold ⟨len, val⟩ len 0 (Nat.le_refl _)
    rw [this, Nat.zero_mul, Nat.zero_add, Nat.mod_eq_of_lt hv]
theorem nats_lt (s : BS) : ∀ k, ∀ x ∈ s.nats k, x < 256
  | 0, x, h => by cases h
  | k + 1, x, h => by
    simp only [BS.nats, List.mem_cons] at h
    rcases h with rfl | h
    · exact Nat.mod_lt _ (by omega)
    · exact nats_lt s k x h
theorem ofNats_mod (l : List Nat) : BS.ofNats (l.map (· % 256)) = BS.ofNats l := by
  simp only [BS.ofNats, List.length_map, List.foldl_map, Nat.mod_mod]
theorem nats_ofNats (l : List Nat) : (BS.ofNats l).nats (BS.ofNats l).len = l.map (· % 256) := by
  have h := ofList_nats (l.map fun n => UInt8.ofNat n) l.length (by simp)
  rw [ofNats_list]
  simp only [List.length_map, Nat.sub_self, List.drop_zero, List.map_map] at h
  simp only [BS.ofList, List.length_map] at h ⊢
  rw [h]
  apply List.map_congr_left
  intro a _
  simp
theorem ofNats_congr {l m : List Nat} (h : l.map (· % 256) = m.map (· % 256)) : BS.ofNats l = BS.ofNats m := by
  rw [← ofNats_mod l, h, ofNats_mod]
end Go.Tc
namespace Go.Tc
inductive D where
  | int (n : Int)
  | bool (b : Bool)
  | str (s : BS)
  | list (l : List D)
  | bad
  deriving Inhabited
inductive TOp where
  | bin (op : BinOp) (k : IntKind)
  | shift (op : BinOp) (k : IntKind)
  | conv (k : IntKind)
  | not | and
  | sbin (op : BinOp)
  | slen | sget | ssub
  | len | nth | fld (j : Nat) | mk | cat | sub | set | setf (j : Nat) | rep
  | bytes | text
  | ite
  | nadd | nsub | fits | small
  | idx | cnt | byte | mfind
  | hole (ps : List Nat)
  deriving DecidableEq, Repr
inductive Tm where
  | int (n : Int)
  | bool (b : Bool)
  | str (s : BS)
  | v (i : Nat)
  | op (o : TOp) (l : List Tm)
  deriving Inhabited, Repr
mutual
def Tm.beq : Tm → Tm → Bool
  | .int a, .int b => a == b
  | .bool a, .bool b => a == b
  | .str a, .str b => a.eq b
  | .v a, .v b => a.beq b
  | .op o l, .op p m => match decide (o = p) with
    | true => Tm.beqs l m
    | false => false
  | _, _ => false
def Tm.beqs : List Tm → List Tm → Bool
  | [], [] => true
  | a :: r, b :: s => match Tm.beq a b with
    | true => Tm.beqs r s
    | false => false
  | _, _ => false
end
mutual
theorem Tm.beq_eq : ∀ (a b : Tm), Tm.beq a b = true → a = b
  | .int a, .int b, h => by simp only [Tm.beq, beq_iff_eq] at h; rw [h]
  | .bool a, .bool b, h => by simp only [Tm.beq, beq_iff_eq] at h; rw [h]
  | .str ⟨a, x⟩, .str ⟨b, y⟩, h => by
    simp only [Tm.beq, BS.eq, Bool.and_eq_true, beq_iff_eq] at h
    rw [h.1, h.2]
  | .v a, .v b, h => by simp only [Tm.beq] at h; rw [Nat.eq_of_beq_eq_true h]
  | .op o l, .op p m, h => by
    simp only [Tm.beq] at h
    split at h
    · rename_i e; rw [of_decide_eq_true e, Tm.beqs_eq l m h]
    · cases h
  | .int _, .bool _, h | .int _, .str _, h | .int _, .v _, h | .int _, .op _ _, h => by cases h
  | .bool _, .int _, h | .bool _, .str _, h | .bool _, .v _, h | .bool _, .op _ _, h => by cases h
  | .str _, .int _, h | .str _, .bool _, h | .str _, .v _, h | .str _, .op _ _, h => by cases h
  | .v _, .int _, h | .v _, .bool _, h | .v _, .str _, h | .v _, .op _ _, h => by cases h
  | .op _ _, .int _, h | .op _ _, .bool _, h | .op _ _, .str _, h | .op _ _, .v _, h => by cases h
theorem Tm.beqs_eq : ∀ (a b : List Tm), Tm.beqs a b = true → a = b
  | [], [], _ => rfl
  | a :: r, b :: s, h => by
    simp only [Tm.beqs] at h
    split at h
    · rename_i e; rw [Tm.beq_eq a b e, Tm.beqs_eq r s h]
    · cases h
  | [], _ :: _, h | _ :: _, [], h => by cases h
end
def intD (op : BinOp) (k : IntKind) (a b : Int) : D :=
  match op with
  | .add => .int (k.wrap (a + b))
  | .sub => .int (k.wrap (a - b))
  | .mul => .int (k.wrap (a * b))
  | .quo => .int (k.wrap (a.tdiv b))
  | .rem => .int (a.tmod b)
  | .and => .int (k.wrap (BitVec.ofInt k.bits a &&& BitVec.ofInt k.bits b).toNat)
  | .or => .int (k.wrap (BitVec.ofInt k.bits a ||| BitVec.ofInt k.bits b).toNat)
  | .xor => .int (k.wrap (BitVec.ofInt k.bits a ^^^ BitVec.ofInt k.bits b).toNat)
  | .andNot => .int (k.wrap (BitVec.ofInt k.bits a &&& ~~~BitVec.ofInt k.bits b).toNat)
  | .eql => .bool (a == b)
  | .neq => .bool (a != b)
  | .lss => .bool (decide (a < b))
  | .leq => .bool (decide (a ≤ b))
  | .gtr => .bool (decide (a > b))
  | .geq => .bool (decide (a ≥ b))
  | _ => .bad
def shiftD (op : BinOp) (k : IntKind) (a b : Int) : D :=
  match op with
  | .shl => .int (k.wrap (a * 2 ^ min b.toNat k.bits))
  | .shr => .int (a.fdiv (2 ^ min b.toNat k.bits))
  | _ => .bad
def strD (op : BinOp) (a b : BS) : D :=
  match op with
  | .add => .str (a.app b)
  | .eql => .bool (a.eq b)
  | .neq => .bool (!a.eq b)
  | .lss => .bool (a.lt b)
  | .leq => .bool (a.lt b || a.eq b)
  | .gtr => .bool (!(a.lt b || a.eq b))
  | .geq => .bool (!a.lt b)
  | _ => .bad
def findByte (l : List Nat) (c : Nat) (i : Nat) : Option Nat :=
  match l with
  | [] => none
  | x :: r => if x = c then some i else findByte r c (i + 1)
def BS.index (s : BS) (c : Nat) : Int := match findByte (s.nats s.len) c 0 with
  | some i => (i : Int)
  | none => -1
def countN (c : Nat) : List Nat → Nat
  | [] => 0
  | x :: r => if x = c then countN c r + 1 else countN c r
def BS.count (s : BS) (c : Nat) : Nat := countN c (s.nats s.len)
def D.nat : D → Nat
  | .int n => n.toNat
  | _ => 0
def natsOfD : List D → List Nat
  | [] => []
  | d :: r => d.nat :: natsOfD r
def D.keyEq : D → D → Bool
  | .int a, .int b => a == b
  | .str a, .str b => a.eq b
  | .bool a, .bool b => a == b
  | _, _ => false
def keyIdx (k : D) : List D → Nat → Option Nat
  | [], _ => none
  | .list (a :: _) :: r, i => if k.keyEq a then some i else keyIdx k r (i + 1)
  | _ :: r, i => keyIdx k r (i + 1)
def TOp.den : TOp → List D → D
  | .bin op k, [.int a, .int b] => intD op k a b
  | .shift op k, [.int a, .int b] => shiftD op k a b
  | .conv k, [.int a] => .int (k.wrap a)
  | .not, [.bool b] => .bool !b
  | .and, [.bool a, .bool b] => .bool (a && b)
  | .sbin op, [.str a, .str b] => strD op a b
  | .slen, [.str s] => .int s.len
  | .sget, [.str s, .int i] => .int (s.get i.toNat)
  | .ssub, [.str s, .int l, .int h] => .str (s.cut l.toNat h.toNat)
  | .len, [.list l] => .int l.length
  | .nth, [.list l, .int i] => l.getD i.toNat .bad
  | .fld j, [.list l] => l.getD j .bad
  | .mk, l => .list l
  | .cat, [.list a, .list b] => .list (a ++ b)
  | .sub, [.list a, .int l, .int h] => .list ((a.take h.toNat).drop l.toNat)
  | .set, [.list a, .int i, d] => .list (a.set i.toNat d)
  | .setf j, [.list a, d] => .list (a.set j d)
  | .rep, [.int n, d] => .list (List.replicate n.toNat d)
  | .bytes, [.str s] => .list ((s.nats s.len).map fun (n : Nat) => .int (n : Int))
  | .text, [.list l] => .str (BS.ofNats (natsOfD l))
  | .ite, [.bool b, x, y] => if b then x else y
  | .nadd, [.int a, .int b] => .int (a + b)
  | .nsub, [.int a, .int b] => .int (a - b)
  | .fits, [.str a, .str b] => .bool (decide (a.len + b.len ≤ 2 ^ 62))
  | .small, [.int a] => .bool (decide (0 ≤ a ∧ a ≤ 2 ^ 30))
  | .byte, [d] => .int ((d.nat % 256 : Nat) : Int)
  | .idx, [.str s, .int c] => .int (s.index c.toNat)
  | .cnt, [.str s, .int c] => .int (s.count c.toNat)
  | .hole ps, .str s :: l => .str (BS.ofNats (patch ps (natsOfD l) (s.nats s.len)))
  | .mfind, [.list l, k] => .int (match keyIdx k l 0 with | some i => (i : Int) | none => -1)
  | _, _ => .bad
structure LCode where
  params : Array Tmp
  assign : Code
  body : Code
instance : Inhabited LCode := ⟨⟨#[], .skip, .skip⟩⟩
class Val where
  θ : Nat → D
  code : FuncId → List Nat → LCode
mutual
def Tm.den [Val] : Tm → D
  | .int n => .int n
  | .bool b => .bool b
  | .str s => .str s
  | .v i => Val.θ i
  | .op o l => o.den (Tm.dens l)
def Tm.dens [Val] : List Tm → List D
  | [] => []
  | t :: r => t.den :: Tm.dens r
end
def litD : Tm → Option D
  | .int n => some (.int n)
  | .bool b => some (.bool b)
  | .str s => some (.str s)
  | _ => none
def litsD : List Tm → Option (List D)
  | [] => some []
  | t :: r => match litD t with
    | some d => match litsD r with
      | some l => some (d :: l)
      | none => none
    | none => none
def ofLit : D → Option Tm
  | .int n => some (.int n)
  | .bool b => some (.bool b)
  | .str s => some (.str s)
  | _ => none
theorem litD_den [Val] {t : Tm} {d : D} (h : litD t = some d) : t.den = d := by
  cases t <;> simp only [litD, Option.some.injEq, reduceCtorEq] at h <;> subst h <;> rfl
theorem litsD_den [Val] : ∀ {l : List Tm} {d : List D}, litsD l = some d → Tm.dens l = d
  | [], d, h => by simp only [litsD, Option.some.injEq] at h; subst h; rfl
  | t :: r, d, h => by
    simp only [litsD] at h
    split at h
    · rename_i e he
      split at h
      · rename_i m hm
        simp only [Option.some.injEq] at h
        subst h
        simp only [Tm.dens, litD_den he, litsD_den hm]
      · cases h
    · cases h
theorem ofLit_den [Val] {t : Tm} {d : D} (h : ofLit d = some t) : t.den = d := by
  cases d <;> simp only [ofLit, Option.some.injEq, reduceCtorEq] at h <;> subst h <;> rfl
def mkHole (ps : List Nat) (ts : List Tm) (s : BS) : Tm :=
  match ps with
  | [] => .str s
  | ps => .op (.hole ps) (.str s :: ts)
def holesOf : Nat → List Tm → List Nat × List Tm
  | _, [] => ([], [])
  | i, .int _ :: r => holesOf (i + 1) r
  | i, t :: r => (i :: (holesOf (i + 1) r).1, t :: (holesOf (i + 1) r).2)
def baseOf : List Tm → List Nat
  | [] => []
  | .int n :: r => n.toNat :: baseOf r
  | _ :: r => 0 :: baseOf r
def textOf (m : List Tm) : Tm := mkHole (holesOf 0 m).1 (holesOf 0 m).2 (BS.ofNats (baseOf m))
def holeOf : Tm → Option (BS × List Nat × List Tm)
  | .str s => bif s.ok then some (s, [], []) else none
  | .op (.hole ps) (.str s :: ts) => bif s.ok then some (s, ps, ts) else none
  | _ => none
def byteT1 : Tm → Tm
  | .int n => .int ((n.toNat % 256 : Nat) : Int)
  | .op .byte [t] => .op .byte [t]
  | t => .op .byte [t]
def simpT (o : TOp) (l : List Tm) : Option Tm :=
  match o, l with
  | .len, [.op .mk m] => some (.int (m.length : Int))
  | .nth, [.op .mk m, .int (.ofNat i)] => m[i]?
  | .fld j, [.op .mk m] => m[j]?
  | _, _ => none
def simpH (o : TOp) (l : List Tm) : Option Tm :=
  match o, l with
  | .slen, [a] => match holeOf a with
    | some (s, _, _) => some (.int (s.len : Int))
    | none => none
  | .sget, [a, .int (.ofNat i)] => match holeOf a with
    | some (s, ps, ts) => if i < s.len then some (match findHole i ps ts with | some t => byteT1 t | none => .int (s.get i : Int)) else none
    | none => none
  | .ssub, [a, .int (.ofNat x), .int (.ofNat y)] => match holeOf a with
    | some (s, ps, ts) => if x ≤ y ∧ y ≤ s.len then some (mkHole (cutPs x y ps ts).1 (cutPs x y ps ts).2 (s.cut x y)) else none
    | none => none
  | .sbin op, [a, b] => match holeOf a, holeOf b with
    | some (s, ps, ts), some (u, qs, us) => match op with
      | .add => if ps.length = ts.length ∧ ps.all (fun p => Nat.blt p s.len) = true then some (mkHole (ps ++ qs.map (· + s.len)) (ts ++ us) (s.app u)) else none
      | .eql => if s.len = u.len then none else some (.bool false)
      | .neq => if s.len = u.len then none else some (.bool true)
      | _ => none
    | _, _ => none
  | .fits, [a, b] => match holeOf a, holeOf b with
    | some (s, _, _), some (u, _, _) => some (.bool (decide (s.len + u.len ≤ 2 ^ 62)))
    | _, _ => none
  | _, _ => none
theorem natsOfD_map : ∀ l : List D, natsOfD l = l.map D.nat
  | [] => rfl
  | d :: r => by simp [natsOfD, natsOfD_map r]
theorem dens_map [Val] : ∀ m : List Tm, Tm.dens m = m.map Tm.den
  | [] => rfl
  | t :: r => by simp [Tm.dens, dens_map r]
theorem byteT1_den [Val] (t : Tm) : (byteT1 t).den = .int ((t.den.nat % 256 : Nat) : Int) := by
  unfold byteT1
  split
  · rfl
  · simp only [Tm.den, Tm.dens, TOp.den, D.nat, Int.toNat_natCast, Nat.mod_mod]
  · simp [Tm.den, Tm.dens, TOp.den]
theorem simpT_den [Val] {o : TOp} {l : List Tm} {t : Tm} (h : simpT o l = some t) : t.den = o.den (Tm.dens l) := by
  have dl : ∀ m : List Tm, (Tm.dens m).length = m.length := fun m => by induction m with
    | nil => rfl
    | cons a r ih => simp [Tm.dens, ih]
  have dg : ∀ (m : List Tm) (i : Nat) (t : Tm), m[i]? = some t → (Tm.dens m).getD i .bad = t.den := fun m => by
    induction m with
    | nil => intro i t h; simp at h
    | cons a r ih =>
      intro i t h
      cases i with
      | zero => simp at h; subst h; rfl
      | succ i => exact ih i t (by simpa using h)
  have dm : ∀ m : List Tm, (Tm.op .mk m).den = .list (Tm.dens m) := fun m => by simp [Tm.den, TOp.den]
  unfold simpT at h
  split at h
  · rename_i m
    cases h
    simp [Tm.dens, TOp.den, dl, Tm.den]
  · rename_i m i
    rw [← dg m i t h]
    simp [Tm.dens, TOp.den, Tm.den]
  · rename_i j m
    rw [← dg m j t h]
    simp [Tm.dens, dm, TOp.den]
  · cases h
theorem mkHole_den [Val] (ps : List Nat) (ts : List Tm) {s : BS} {l : List Nat} (h : s = BS.ofNats l) : (mkHole ps ts s).den = .str (BS.ofNats (patch ps (natsOfD (Tm.dens ts)) (l.map (· % 256)))) := by
  unfold mkHole
  split
  · rw [patch_nil, ofNats_mod, ← h]; rfl
  · simp only [Tm.den, Tm.dens, TOp.den]
    rw [h, nats_ofNats]
def isLit : Tm → Bool
  | .int _ => true
  | _ => false
def litN : Tm → Nat
  | .int n => n.toNat
  | _ => 0
theorem holes_get : ∀ (j : Nat) (m : List Tm) (i : Nat), j ≤ i → findHole i (holesOf j m).1 (holesOf j m).2 = match m[i - j]? with | some t => if isLit t then none else some t | none => none
  | j, [], i, h => by simp [holesOf, findHole]
  | j, t :: r, i, h => by
    have ih := holes_get (j + 1) r
    have tail : ∀ i, j < i → (t :: r)[i - j]? = r[i - (j + 1)]? := fun i hi => by
      rw [show i - j = i - (j + 1) + 1 from by omega, List.getElem?_cons_succ]
    have none_j : ∀ (q : List Tm) (k : Nat), j < k → findHole j (holesOf k q).1 (holesOf k q).2 = none := by
      intro q
      induction q with
      | nil => intro k _; simp [holesOf, findHole]
      | cons a q ihq =>
        intro k hk
        have e1 : Nat.beq k j = false := by rw [Bool.eq_false_iff]; exact fun h' => by have := Nat.eq_of_beq_eq_true h'; omega
        cases a <;> simp only [holesOf, findHole, e1, cond_false] <;> exact ihq (k + 1) (by omega)
    by_cases hj : i = j
    · subst hj
      cases t <;> simp [holesOf, findHole, isLit, none_j r (i + 1) (by omega)]
    · have hlt : j < i := by omega
      rw [tail i hlt, ← ih i (by omega)]
      have e1 : Nat.beq j i = false := by rw [Bool.eq_false_iff]; exact fun h' => hj (Nat.eq_of_beq_eq_true h').symm
      cases t <;> simp [holesOf, findHole, e1]
theorem baseOf_len : ∀ m : List Tm, (baseOf m).length = m.length
  | [] => rfl
  | t :: r => by cases t <;> simp [baseOf, baseOf_len r]
theorem baseOf_get : ∀ (m : List Tm) (i : Nat), (baseOf m)[i]? = (m[i]?).map litN
  | [], i => by simp [baseOf]
  | t :: r, 0 => by cases t <;> simp [baseOf, litN]
  | t :: r, i + 1 => by cases t <;> simp [baseOf, baseOf_get r i]
theorem textOf_den [Val] (m : List Tm) : (textOf m).den = .str (BS.ofNats (natsOfD (Tm.dens m))) := by
  unfold textOf
  rw [mkHole_den _ _ rfl]
  congr 1
  apply ofNats_congr
  rw [patch_map, List.map_map]
  have h0 : (fun x => x % 256) ∘ (fun x => x % 256) = (fun (x : Nat) => x % 256) := by funext x; simp
  rw [h0]
  apply List.ext_getElem?
  intro i
  rw [patch_get, findHole_map, natsOfD_map, dens_map, findHole_map, findHole_map, holes_get 0 m i (Nat.zero_le _)]
  simp only [List.getElem?_map, Nat.sub_zero, List.length_map, baseOf_len]
  rw [baseOf_get, natsOfD_map, dens_map]
  simp only [List.getElem?_map]
  cases hm : m[i]? with
  | none => simp
  | some t =>
    have hlt : i < m.length := (List.getElem?_eq_some_iff.1 hm).1
    cases t <;> simp [isLit, hlt, litN, Tm.den, D.nat]
theorem holeOf_den [Val] {t : Tm} {s : BS} {ps : List Nat} {ts : List Tm} (h : holeOf t = some (s, ps, ts)) : s.ok = true ∧ t.den = .str (BS.ofNats (patch ps (natsOfD (Tm.dens ts)) (s.nats s.len))) := by
  unfold holeOf at h
  split at h
  · rename_i u
    cases e : u.ok
    · rw [e] at h; cases h
    · rw [e] at h; cases h
      exact ⟨e, by rw [patch_nil, ofNats_nats e]; rfl⟩
  · rename_i qs u us
    cases e : u.ok
    · rw [e] at h; cases h
    · rw [e] at h; cases h
      exact ⟨e, by simp [Tm.den, Tm.dens, TOp.den]⟩
  · cases h
theorem dens_app [Val] (a b : List Tm) : Tm.dens (a ++ b) = Tm.dens a ++ Tm.dens b := by simp [dens_map]
theorem natsOfD_app (a b : List D) : natsOfD (a ++ b) = natsOfD a ++ natsOfD b := by simp [natsOfD_map]
theorem simpH_den [Val] {o : TOp} {l : List Tm} {t : Tm} (h : simpH o l = some t) : t.den = o.den (Tm.dens l) := by
  unfold simpH at h
  split at h
  · rename_i a
    split at h
    · rename_i s ps ts hs
      cases h
      simp only [Tm.dens, (holeOf_den hs).2, TOp.den, ofNats_len, patch_len, nats_len]
      rfl
    · cases h
  · rename_i a i
    split at h
    · rename_i s ps ts hs
      split at h
      · rename_i hi
        cases h
        simp only [Tm.dens, (holeOf_den hs).2, Tm.den, TOp.den, Int.ofNat_eq_natCast, Int.toNat_natCast]
        have hl : i < (patch ps (natsOfD (Tm.dens ts)) (s.nats s.len)).length := by rw [patch_len, nats_len]; exact hi
        rw [ofNats_get _ _ hl]
        have hg := patch_get ps (natsOfD (Tm.dens ts)) (s.nats s.len) i
        have hfh : findHole i ps (natsOfD (Tm.dens ts)) = ((findHole i ps ts).map Tm.den).map D.nat := by rw [natsOfD_map, dens_map, findHole_map, findHole_map]
        rw [List.getElem?_eq_getElem hl, hfh] at hg
        have hg2 : findHole i ps ts = none → (patch ps (natsOfD (Tm.dens ts)) (s.nats s.len))[i] = s.get i := by
          intro e
          rw [e] at hg
          have h1 := ofNats_get (s.nats s.len) i (by rw [nats_len]; exact hi)
          rw [ofNats_nats (holeOf_den hs).1] at h1
          have h2 : i < (s.nats s.len).length := by rw [nats_len]; exact hi
          have h3 := nats_lt s s.len _ (List.getElem_mem h2)
          simp only [Option.map_none, List.getElem?_eq_getElem h2, Option.some.injEq] at hg
          rw [h1, Nat.mod_eq_of_lt h3]
          exact hg
        cases e : findHole i ps ts with
        | none =>
          simp only [hg2 e, Tm.den]
          congr 1
          have : s.get i < 256 := Nat.mod_lt _ (by omega)
          omega
        | some d =>
          rw [e] at hg
          simp only [Option.map_some, nats_len, hi, if_true, Option.some.injEq] at hg
          simp only [byteT1_den]
          rw [hg]
      · cases h
    · cases h
  · rename_i a x y
    split at h
    · rename_i s ps ts hs
      split at h
      · rename_i hxy
        cases h
        have hc : s.cut x y = BS.ofNats (((s.nats s.len).drop x).take (y - x)) := by
          rw [← ofNats_cut _ _ _ hxy.1 (by rw [nats_len]; exact hxy.2), ofNats_nats (holeOf_den hs).1]
        rw [mkHole_den _ _ hc]
        simp only [Tm.dens, (holeOf_den hs).2, Tm.den, TOp.den, Int.ofNat_eq_natCast, Int.toNat_natCast]
        rw [ofNats_cut _ _ _ hxy.1 (by rw [patch_len, nats_len]; exact hxy.2), patch_cut]
        congr 2
        have hm : (((s.nats s.len).drop x).take (y - x)).map (· % 256) = ((s.nats s.len).drop x).take (y - x) := by
          apply List.ext_getElem?
          intro i
          rw [List.getElem?_map]
          cases e : (((s.nats s.len).drop x).take (y - x))[i]? with
          | none => rfl
          | some v =>
            have hm : v ∈ s.nats s.len := List.mem_of_mem_drop (List.mem_of_mem_take (List.mem_of_getElem? e))
            simp [Nat.mod_eq_of_lt (nats_lt s s.len v hm)]
        rw [hm]
        simp only [natsOfD_map, dens_map, cutPs_map]
      · cases h
    · cases h
  · rename_i op a b
    split at h
    · rename_i s ps ts u qs us hs hu
      obtain ⟨o1, d1⟩ := holeOf_den hs
      obtain ⟨o2, d2⟩ := holeOf_den hu
      split at h
      · split at h
        · rename_i hp
          cases h
          have hc : s.app u = BS.ofNats (s.nats s.len ++ u.nats u.len) := by
            rw [← ofNats_app, ofNats_nats o1, ofNats_nats o2]
          rw [mkHole_den _ _ hc]
          simp only [Tm.dens, d1, d2, TOp.den, strD]
          rw [ofNats_app, dens_app, natsOfD_app]
          have hm : ∀ s : BS, (s.nats s.len).map (· % 256) = s.nats s.len := fun s => by
            apply List.ext_getElem?
            intro i
            rw [List.getElem?_map]
            cases e : (s.nats s.len)[i]? with
            | none => rfl
            | some v => simp [Nat.mod_eq_of_lt (nats_lt s s.len v (List.mem_of_getElem? e))]
          rw [List.map_append, hm, hm]
          have := patch_app ps qs (natsOfD (Tm.dens ts)) (natsOfD (Tm.dens us)) (s.nats s.len) (u.nats u.len) (by simp [natsOfD_map, dens_map, hp.1]) (fun p hq => by
            have := List.all_eq_true.1 hp.2 p hq
            rw [nats_len]; simpa [Nat.blt_eq] using this)
          rw [nats_len] at this
          rw [this]
        · cases h
      · split at h
        · cases h
        · rename_i hne
          cases h
          simp only [Tm.dens, d1, d2, TOp.den, strD, Tm.den, D.bool.injEq, BS.eq, ofNats_len, patch_len, nats_len]
          simp [hne]
      · split at h
        · cases h
        · rename_i hne
          cases h
          simp only [Tm.dens, d1, d2, TOp.den, strD, Tm.den, D.bool.injEq, BS.eq, ofNats_len, patch_len, nats_len]
          simp [hne]
      · cases h
    · cases h
  · rename_i a b
    split at h
    · rename_i s ps ts u qs us hs hu
      cases h
      simp only [Tm.dens, (holeOf_den hs).2, (holeOf_den hu).2, TOp.den, Tm.den, ofNats_len, patch_len, nats_len]
    · cases h
  · cases h
def mkT (nf : Tm → Tm) (o : TOp) (l : List Tm) : Tm :=
  match litsD l with
  | some d => match ofLit (o.den d) with
    | some t => t
    | none => nf (.op o l)
  | none => match simpT o l with
    | some t => t
    | none => match simpH o l with
      | some t => t
      | none => nf (.op o l)
theorem mkT_den [Val] {nf : Tm → Tm} (hn : ∀ t, (nf t).den = t.den) (o : TOp) (l : List Tm) : (mkT nf o l).den = o.den (Tm.dens l) := by
  unfold mkT
  split
  · rename_i d hd
    split
    · rename_i t ht
      rw [ofLit_den ht, litsD_den hd]
    · rw [hn]; rfl
  · split
    · rename_i t ht
      exact simpT_den ht
    · split
      · rename_i t ht
        exact simpH_den ht
      · rw [hn]; rfl
def holdsT (nf : Tm → Tm) (o : TOp) (l : List Tm) : Bool :=
  match mkT nf o l with
  | .bool true => true
  | _ => false
theorem holdsT_den [Val] {nf : Tm → Tm} (hn : ∀ t, (nf t).den = t.den) {o : TOp} {l : List Tm} (h : holdsT nf o l = true) : o.den (Tm.dens l) = .bool true := by
  unfold holdsT at h
  split at h
  · rename_i e
    rw [← mkT_den hn, e]; rfl
  · cases h
def inRangeT (nf : Tm → Tm) (i n : Tm) : Bool :=
  match holdsT nf (.bin .leq .i64) [.int 0, i] with
  | true => holdsT nf (.bin .lss .i64) [i, n]
  | false => false
theorem inRangeT_den [Val] {nf : Tm → Tm} (hn : ∀ t, (nf t).den = t.den) {i n : Tm} {a b : Int} (h : inRangeT nf i n = true) (hi : i.den = .int a) (hb : n.den = .int b) : 0 ≤ a ∧ a < b := by
  unfold inRangeT at h
  split at h
  · rename_i h1
    have h1 := holdsT_den hn h1
    have h2 := holdsT_den hn h
    simp only [Tm.dens, hi, hb, TOp.den, intD, D.bool.injEq, decide_eq_true_eq] at h1 h2
    exact ⟨by simpa [Tm.den, TOp.den, intD] using h1, h2⟩
  · cases h
def addT (nf : Tm → Tm) (a b : Tm) : Tm :=
  match a with
  | .int 0 => b
  | _ => match b with
    | .int 0 => a
    | _ => mkT nf .nadd [a, b]
theorem addT_den [Val] {nf : Tm → Tm} (hn : ∀ t, (nf t).den = t.den) {a b : Tm} {x y : Int} (ha : a.den = .int x) (hb : b.den = .int y) : (addT nf a b).den = .int (x + y) := by
  unfold addT
  split
  · have : x = 0 := by simpa [Tm.den, eq_comm] using ha
    rw [hb, this, Int.zero_add]
  · split
    · have : y = 0 := by simpa [Tm.den, eq_comm] using hb
      rw [ha, this, Int.add_zero]
    · rw [mkT_den hn]; simp only [Tm.dens, ha, hb, TOp.den]
def subT (nf : Tm → Tm) (a b : Tm) : Tm :=
  match b with
  | .int 0 => a
  | _ => mkT nf .nsub [a, b]
theorem subT_den [Val] {nf : Tm → Tm} (hn : ∀ t, (nf t).den = t.den) {a b : Tm} {x y : Int} (ha : a.den = .int x) (hb : b.den = .int y) : (subT nf a b).den = .int (x - y) := by
  unfold subT
  split
  · have : y = 0 := by simpa [Tm.den, eq_comm] using hb
    rw [ha, this, Int.sub_zero]
  · rw [mkT_den hn]; simp only [Tm.dens, ha, hb, TOp.den]
def tableNf : List (Tm × Tm) → Tm → Tm
  | [], t => t
  | (a, b) :: r, t => match Tm.beq a t with
    | true => b
    | false => tableNf r t
theorem tableNf_den [Val] : ∀ {l : List (Tm × Tm)}, (∀ p ∈ l, p.1.den = p.2.den) → ∀ t, (tableNf l t).den = t.den
  | [], _, t => rfl
  | (a, b) :: r, h, t => by
    simp only [tableNf]
    split
    · rename_i e
      rw [← Tm.beq_eq a t e, ← h (a, b) (by simp)]
    · exact tableNf_den (fun p hp => h p (by simp [hp])) t
mutual
def Tm.inst (s : Nat → Tm) : Tm → Tm
  | .int n => .int n
  | .bool b => .bool b
  | .str t => .str t
  | .v i => s i
  | .op o l => .op o (Tm.insts s l)
def Tm.insts (s : Nat → Tm) : List Tm → List Tm
  | [] => []
  | t :: r => t.inst s :: Tm.insts s r
end
@[reducible] def Val.by (V : Val) (s : Nat → Tm) : Val := ⟨fun i => @Tm.den V (s i), V.code⟩
mutual
theorem Tm.inst_den (V : Val) (s : Nat → Tm) : ∀ t : Tm, @Tm.den V (t.inst s) = @Tm.den (V.by s) t
  | .int _ | .bool _ | .str _ => rfl
  | .v i => rfl
  | .op o l => by
    show o.den (@Tm.dens V (Tm.insts s l)) = o.den (@Tm.dens (V.by s) l)
    rw [Tm.insts_den V s l]
theorem Tm.insts_den (V : Val) (s : Nat → Tm) : ∀ l : List Tm, @Tm.dens V (Tm.insts s l) = @Tm.dens (V.by s) l
  | [] => rfl
  | t :: r => by
    show @Tm.den V (t.inst s) :: @Tm.dens V (Tm.insts s r) = @Tm.den (V.by s) t :: @Tm.dens (V.by s) r
    rw [Tm.inst_den V s t, Tm.insts_den V s r]
end
inductive CK where
  | int (k : IntKind)
  | bool
  | str
  | isl (ks : List CK)
  | ref (ks : List CK)
  deriving Inhabited, Repr
mutual
def CK.beq : CK → CK → Bool
  | .int k, .int j => k == j
  | .bool, .bool => true
  | .str, .str => true
  | .isl a, .isl b => CK.beqs a b
  | .ref a, .ref b => CK.beqs a b
  | _, _ => false
def CK.beqs : List CK → List CK → Bool
  | [], [] => true
  | a :: r, b :: s => match CK.beq a b with
    | true => CK.beqs r s
    | false => false
  | _, _ => false
end
mutual
theorem CK.beq_eq : ∀ (a b : CK), CK.beq a b = true → a = b
  | .int k, .int j, h => by simp only [CK.beq, beq_iff_eq] at h; rw [h]
  | .bool, .bool, _ => rfl
  | .str, .str, _ => rfl
  | .isl a, .isl b, h => by simp only [CK.beq] at h; rw [CK.beqs_eq a b h]
  | .ref a, .ref b, h => by simp only [CK.beq] at h; rw [CK.beqs_eq a b h]
  | .int _, .bool, h | .int _, .str, h | .int _, .isl _, h | .int _, .ref _, h => by cases h
  | .bool, .int _, h | .bool, .str, h | .bool, .isl _, h | .bool, .ref _, h => by cases h
  | .str, .int _, h | .str, .bool, h | .str, .isl _, h | .str, .ref _, h => by cases h
  | .isl _, .int _, h | .isl _, .bool, h | .isl _, .str, h | .isl _, .ref _, h => by cases h
  | .ref _, .int _, h | .ref _, .bool, h | .ref _, .str, h | .ref _, .isl _, h => by cases h
theorem CK.beqs_eq : ∀ (a b : List CK), CK.beqs a b = true → a = b
  | [], [], _ => rfl
  | a :: r, b :: s, h => by
    simp only [CK.beqs] at h
    split at h
    · rename_i e; rw [CK.beq_eq a b e, CK.beqs_eq r s h]
    · cases h
  | [], _ :: _, h | _ :: _, [], h => by cases h
end
def eltFld (ks : List CK) (d : D) (j : Nat) : D :=
  match ks with
  | [_] => d
  | _ => match d with
    | .list l => l.getD j .bad
    | _ => .bad
def eltTm (nf : Tm → Tm) (ks : List CK) (t : Tm) (j : Nat) : Tm :=
  match ks with
  | [_] => t
  | _ => mkT nf (.fld j) [t]
inductive CellR (Z : Nat → Option Obj) : CK → D → Value → Prop
  | int (k : IntKind) (n : Int) : CellR Z (.int k) (.int n) (.int k n)
  | bool (b : Bool) : CellR Z .bool (.bool b) (.bool b)
  | str (s : ByteArray) : CellR Z .str (.str (BS.of s)) (.string s)
  | nil (ks : List CK) : CellR Z (.isl ks) (.list []) (.slice none 0 0)
  | none (ks : List CK) (a : Addr) (c : Nat) : CellR Z (.isl ks) (.list []) (.slice (some a) 0 c)
  | isl {ks : List CK} {L : List D} {b o n c : Nat} {cc : Array Value} {T : TypeId} {fz : Nat × Nat} {vals : Nat → Nat → Value} (hz : Z b = some (.cells cc T fz)) (hn : n = L.length) (hc : n ≤ c) (hk : ks ≠ [])
      (hv : ∀ i j, i < n → j < ks.length → cc[o + i * ks.length + j]? = some (vals i j))
      (hr : ∀ i j, i < n → j < ks.length → CellR Z (ks.getD j .bool) (eltFld ks (L.getD i .bad) j) (vals i j)) :
      CellR Z (.isl ks) (.list L) (.slice (some ⟨b, o, Option.none⟩) n c)
  | rnil (ks : List CK) : CellR Z (.ref ks) (.list []) (.pointer Option.none)
  | ref {ks : List CK} {L : List D} {b o c : Nat} (h : CellR Z (.isl ks) (.list L) (.slice (some ⟨b, o, Option.none⟩) 1 c)) : CellR Z (.ref ks) (.list L) (.pointer (some ⟨b, o, Option.none⟩))
theorem CellR.mono {Z Z' : Nat → Option Obj} (hZ : ∀ c o, Z c = some o → Z' c = some o) {k : CK} {d : D} {v : Value} (h : CellR Z k d v) : CellR Z' k d v := by
  induction h with
  | int k n => exact .int k n
  | bool b => exact .bool b
  | str s => exact .str s
  | nil ks => exact .nil ks
  | none ks a c => exact .none ks a c
  | isl hz hn hc hk hv _ ih => exact .isl (hZ _ _ hz) hn hc hk hv ih
  | rnil ks => exact .rnil ks
  | ref _ ih => exact .ref ih
theorem eltTm_den [Val] {nf : Tm → Tm} (hn : ∀ t, (nf t).den = t.den) (ks : List CK) (t : Tm) (j : Nat) : (eltTm nf ks t j).den = eltFld ks t.den j := by
  unfold eltTm eltFld
  split
  · rfl
  · rw [mkT_den hn]
    simp only [Tm.dens]
    cases t.den <;> rfl
end Go.Tc
