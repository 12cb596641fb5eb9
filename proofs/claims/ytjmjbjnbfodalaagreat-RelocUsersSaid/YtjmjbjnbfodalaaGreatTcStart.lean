/- where a call begins: the program's variables alone lie in the evaluator's heap, as a row's condition tells them; what a call's contract gives a row. -/
import Derived.Test.YtjmjbjnbfodalaaGreatTcTop
import Derived.OpenShut
set_option linter.unusedSimpArgs false
set_option linter.unusedVariables false
set_option linter.unusedSectionVars false
namespace Go.Tc
variable [Val]

/-- the rows of package variables: place, cells, the cells' type. -/
def globRows : List (Nat × List AV × TypeId) → List (Nat × AObj)
  | [] => []
  | (i, c, t) :: l => (i, .row c t .glob) :: globRows l

omit [Val] in
theorem globRows_mem : ∀ {l : List (Nat × List AV × TypeId)} {b : Nat} {o : AObj}, (b, o) ∈ globRows l → ∃ c t, (b, c, t) ∈ l ∧ o = .row c t .glob
  | (i, c, t) :: l, b, o, h => by
    rcases List.mem_cons.1 h with h | h
    · cases h; exact ⟨c, t, by simp, rfl⟩
    · obtain ⟨c', t', h1, h2⟩ := globRows_mem h; exact ⟨c', t', by simp [h1], h2⟩

def startHeap (G : Nat) (l : List (Nat × List AV × TypeId)) : AHeap := ⟨graft (globRows l) .leaf, G⟩

/-- the places of the variables. -/
def startPl (G : Nat) (w : World) : Pl := ⟨fun i =>
  if i < G then some ⟨i, 0, match w.heap[i]? with | some (.cells cc _ _) => cc.size | _ => 0⟩ else none, fun c => w.heap[c]?⟩

omit [Val] in
theorem startHeap_fixed (G : Nat) (l : List (Nat × List AV × TypeId)) : Fixed (startHeap G l) := by
  intro b o hb
  rcases graft_get _ _ b o hb with h | h
  · obtain ⟨c, t, -, rfl⟩ := globRows_mem h; rfl
  · exact nomatch (show (none : Option AObj) = some o from h)

theorem WR.start {G : Nat} {w : World} {l : List (Nat × List AV × TypeId)} (hG : G ≤ w.heap.size)
    (hl : ∀ i c t, (i, c, t) ∈ l → i < G ∧ ∃ cc lo hi, w.heap[i]? = some (.cells cc t (lo, hi)) ∧ VRs (startPl G w) c cc.toList) :
    WR G (startPl G w) (startHeap G l).get (startHeap G l).next w := by
  refine ⟨fun b hb => ?_, fun b p hb => ?_, fun b o hb => ?_, fun b b' o o' p p' _ _ hp hp' hc => ?_, fun i hi => ?_, Nat.le_refl _, fun c x hx => ⟨hx, fun b ob p hb hwr => ?_⟩⟩
  · have : ¬ b < G := Nat.not_lt.2 hb
    simp [startPl, this]
  · simp only [startPl] at hb
    split at hb
    · cases hb; simp only; omega
    · cases hb
  · rcases graft_get _ _ b o hb with h | h
    · obtain ⟨c, t, hm, rfl⟩ := globRows_mem h
      obtain ⟨h1, cc, lo, hi, h2, h3⟩ := hl b c t hm
      have hlen : c.length = cc.size := by rw [VRs.length h3]; simp
      refine .inl ⟨⟨b, 0, cc.size⟩, by simp [startPl, h1, h2], cc, lo, hi, h2, rfl, by simp; omega, ?_, rfl⟩
      simp only [List.drop_zero]
      rw [List.take_of_length_le (by simp; omega)]
      exact h3
    · exact nomatch (show (none : Option AObj) = some o from h)
  · simp only [startPl] at hp hp'
    split at hp
    · split at hp'
      · cases hp; cases hp'; simpa using hc
      · cases hp'
    · cases hp
  · exact ⟨match w.heap[i]? with | some (.cells cc _ _) => cc.size | _ => 0, if_pos hi⟩
  · rcases graft_get _ _ b ob hb with h | h
    · obtain ⟨c, t, hm, rfl⟩ := globRows_mem h
      cases hwr
    · exact nomatch (show (none : Option AObj) = some ob from h)

theorem VRs_ints (β : Pl) (k : IntKind) : ∀ ns : List Int, VRs β (ns.map (AV.int k)) (ns.map (Value.int k))
  | [] => .nil
  | n :: r => .cons (.int k n) (VRs_ints β k r)

/-- the numbers that a datum tells. -/
def intsOf {H : Type} : DataW H → List Int
  | .agg l => l.filterMap fun d => match d with
    | .lit (.int _ n) => some n
    | _ => none
  | _ => []

section
variable {H : Type} {enc : TypeId × Value → H} {P : Program} {w : World} {base : Nat} {spare : Nat → Bool} {held : Bool} {fuel : Nat} {t : TypeId} {cs : List Value}

omit [Val] in
theorem ints_of_trod {n : Nat} {e : TypeId} {k : IntKind} {d : DataW H} {p : List MemPlace} (ht : P.underlying t = some (.array n e)) (he : P.underlying e = some (.int k)) (hc : P.cellsOf e = 1) (hn : P.cellsOf t = n)
    (h : DataW.trod enc P w base spare held fuel t cs = some (d, p)) : cs = (intsOf d).map (Value.int k) := by
  obtain ⟨xs, m, rfl, hx, hl, hxl, hel⟩ := DataW.trod_array ht h
  cases hx
  have key : ∀ i : Nat, i < n → ∃ v : Int, cs[i]? = some (.int k v) ∧ ∃ q, xs[i]? = some (.lit (.int k v), q) := by
    intro i hi
    have h1 := hel i hi
    rw [hc, Nat.mul_one] at h1
    obtain ⟨y, hy⟩ : ∃ y, xs[i]? = some y := ⟨xs[i], List.getElem?_eq_getElem (by omega)⟩
    rw [hy] at h1
    obtain ⟨v, e1, e2, -⟩ := DataW.trod_int he h1
    refine ⟨v, ?_, y.2, by rw [hy, e2]⟩
    have : (List.take 1 (List.drop i cs))[0]? = some (.int k v) := by rw [e1]; rfl
    simpa [List.getElem?_take, List.getElem?_drop] using this
  have hints : intsOf (DataW.agg (xs.map (·.1))) = xs.filterMap fun y => match y.1 with | .lit (.int _ v) => some v | _ => none := by
    simp only [intsOf, List.filterMap_map]; rfl
  rw [hints]
  have hall : ∀ y ∈ xs, ∃ v : Int, y.1 = .lit (.int k v) := by
    intro y hy
    obtain ⟨i, hi, rfl⟩ := List.getElem_of_mem hy
    obtain ⟨v, -, q, h2⟩ := key i (by omega)
    rw [List.getElem?_eq_getElem hi] at h2
    exact ⟨v, by rw [Option.some.inj h2]⟩
  have hmap : ∀ l : List (DataW H × List MemPlace), (∀ y ∈ l, ∃ v : Int, y.1 = .lit (.int k v)) → ((l.filterMap fun y => match y.1 with | .lit (.int _ v) => some v | _ => none).map (Value.int k)).map some = l.map fun y => match y.1 with | .lit (.int _ v) => some (Value.int k v) | _ => none := by
    intro l hl
    induction l with
    | nil => rfl
    | cons a l ih =>
      obtain ⟨v, hv⟩ := hl a (by simp)
      have := ih fun y hy => hl y (by simp [hy])
      simp only [List.filterMap_cons, hv, List.map_cons, this]
  have h3 := hmap xs hall
  have hlen : (xs.filterMap fun y => match y.1 with | .lit (.int _ v) => some v | _ => none).length = xs.length := by
    have := congrArg List.length h3
    simpa using this
  apply List.ext_getElem?
  intro i
  by_cases hi : i < n
  · obtain ⟨v, h1, q, h2⟩ := key i hi
    have h4 := congrArg (fun l : List (Option Value) => l[i]?) h3
    simp only [List.getElem?_map, h2, Option.map_some] at h4
    rw [h1]
    cases hz : (xs.filterMap fun y => match y.1 with | .lit (.int _ v) => some v | _ => none)[i]? with
    | none => rw [hz] at h4; cases h4
    | some u =>
      rw [hz] at h4
      simp only [Option.map_some, Option.some.injEq] at h4
      simp [List.getElem?_map, hz, h4]
  · rw [List.getElem?_eq_none (by omega), List.getElem?_eq_none (by simp only [List.length_map, hlen]; omega)]
end

/-- the texts that a datum tells. -/
def strsOf {H : Type} : DataW H → List (List UInt8)
  | .agg l => l.filterMap fun d => match d with
    | .lit (.string s) => some s
    | _ => none
  | _ => []

theorem VRs_strs (β : Pl) : ∀ ls : List (List UInt8), VRs β (ls.map fun l => AV.str (BS.ofList l)) (ls.map fun l => Value.string ⟨l.toArray⟩)
  | [] => .nil
  | l :: r => .cons (by have := VR.str (β := β) ⟨l.toArray⟩; simpa [BS.of] using this) (VRs_strs β r)

section
variable {H : Type} {enc : TypeId × Value → H} {P : Program} {w : World} {base : Nat} {spare : Nat → Bool} {held : Bool} {fuel : Nat} {t : TypeId} {cs : List Value}

omit [Val] in
theorem strs_of_trod {n : Nat} {e : TypeId} {d : DataW H} {p : List MemPlace} (ht : P.underlying t = some (.array n e)) (he : P.underlying e = some .string) (hc : P.cellsOf e = 1) (hn : P.cellsOf t = n)
    (h : DataW.trod enc P w base spare held fuel t cs = some (d, p)) : cs = (strsOf d).map fun l => Value.string ⟨l.toArray⟩ := by
  obtain ⟨xs, m, rfl, hx, hl, hxl, hel⟩ := DataW.trod_array ht h
  cases hx
  have key : ∀ i : Nat, i < n → ∃ v : List UInt8, cs[i]? = some (.string ⟨v.toArray⟩) ∧ ∃ q, xs[i]? = some (.lit (.string v), q) := by
    intro i hi
    have h1 := hel i hi
    rw [hc, Nat.mul_one] at h1
    obtain ⟨y, hy⟩ : ∃ y, xs[i]? = some y := ⟨xs[i], List.getElem?_eq_getElem (by omega)⟩
    rw [hy] at h1
    obtain ⟨v, e1, e2, -⟩ := DataW.trod_string he h1
    refine ⟨v.data.toList, ?_, y.2, by rw [hy, e2]⟩
    have : (List.take 1 (List.drop i cs))[0]? = some (.string v) := by rw [e1]; rfl
    simpa [List.getElem?_take, List.getElem?_drop] using this
  have hstrs : strsOf (DataW.agg (xs.map (·.1))) = xs.filterMap fun y => match y.1 with | .lit (.string v) => some v | _ => none := by
    simp only [strsOf, List.filterMap_map]; rfl
  rw [hstrs]
  have hall : ∀ y ∈ xs, ∃ v : List UInt8, y.1 = .lit (.string v) := by
    intro y hy
    obtain ⟨i, hi, rfl⟩ := List.getElem_of_mem hy
    obtain ⟨v, -, q, h2⟩ := key i (by omega)
    rw [List.getElem?_eq_getElem hi] at h2
    exact ⟨v, by rw [Option.some.inj h2]⟩
  have hmap : ∀ l : List (DataW H × List MemPlace), (∀ y ∈ l, ∃ v : List UInt8, y.1 = .lit (.string v)) → ((l.filterMap fun y => match y.1 with | .lit (.string v) => some v | _ => none).map fun l => Value.string ⟨l.toArray⟩).map some = l.map fun y => match y.1 with | .lit (.string v) => some (Value.string ⟨v.toArray⟩) | _ => none := by
    intro l hl
    induction l with
    | nil => rfl
    | cons a l ih =>
      obtain ⟨v, hv⟩ := hl a (by simp)
      have := ih fun y hy => hl y (by simp [hy])
      simp only [List.filterMap_cons, hv, List.map_cons, this]
  have h3 := hmap xs hall
  have hlen : (xs.filterMap fun y => match y.1 with | .lit (.string v) => some v | _ => none).length = xs.length := by
    have := congrArg List.length h3
    simpa using this
  apply List.ext_getElem?
  intro i
  by_cases hi : i < n
  · obtain ⟨v, h1, q, h2⟩ := key i hi
    have h4 := congrArg (fun l : List (Option Value) => l[i]?) h3
    simp only [List.getElem?_map, h2, Option.map_some] at h4
    rw [h1]
    cases hz : (xs.filterMap fun y => match y.1 with | .lit (.string v) => some v | _ => none)[i]? with
    | none => rw [hz] at h4; cases h4
    | some u =>
      rw [hz] at h4
      simp only [Option.map_some, Option.some.injEq] at h4
      rw [List.getElem?_map, hz, Option.map_some, h4]
  · rw [List.getElem?_eq_none (by omega), List.getElem?_eq_none (by simp only [List.length_map, hlen]; omega)]
end

omit [Val] in
/-- the call's contract keeps what lay in memory: as a row's answer asks it. -/
theorem keptBut_of_kept {w w' : World} {may : MemPlace → Prop} (ho : w'.os = w.os) (hout : w'.output = w.output) (hk : ∀ c, c < w.heap.size → w'.heap[c]? = w.heap[c]?) : w.keptBut w' may := by
  refine ⟨ho, hout, fun i hi => ?_⟩
  rw [hk i hi]
  cases hx : w.heap[i]? with
  | none => rfl
  | some o =>
    cases o with
    | cells c t fr => exact ⟨rfl, rfl, rfl, fun _ _ => rfl⟩
    | map es cl => exact .inr ⟨rfl, rfl⟩
    | _ => rfl

omit [Val] in
theorem frozen_of_kept {w w' : World} (hk : ∀ c, c < w.heap.size → w'.heap[c]? = w.heap[c]?) {a : Addr} (ha : a.block < w.heap.size) : w'.frozen? a = w.frozen? a := by
  unfold World.frozen?
  rw [hk _ ha]

end Go.Tc
