/- the law RelocUsers: whatever the numbers, whatever is found, whoever asks: true. No condition but that the numbers are such as an int holds. -/
import Derived.Test.YtjmjbjnbfodalaaGreatUsers
set_option linter.unusedSimpArgs false
set_option linter.unusedVariables false
set_option linter.unusedSectionVars false
set_option maxRecDepth 100000
namespace Go.Proofs.YtjmjbjnbfodalaaGreat
open Go.Tc
namespace ru
namespace lw
noncomputable def fn : Func := Tryz.f3
noncomputable def cd : Code := match fn.body with | some c => c | none => .skip
noncomputable def cx : Ctx := cxOf P fn cd 3
noncomputable def L : List Code := flat cd
noncomputable def b1 : Code := inLoop (inBlock (L.getD 6 .skip))
noncomputable def lp : List Code := flat b1
noncomputable def lb : List Code := flat (inBlock (lp.getD 2 .skip))
noncomputable def b2 : Code := inLoop (inBlock (L.getD 9 .skip))
noncomputable def lp2 : List Code := flat b2
noncomputable def lb2 : List Code := flat (inBlock (lp2.getD 2 .skip))
theorem func : P.funcs[3]? = some fn := Tryz.func3
theorem body : fn.body = some cd := by kernel_rfl
theorem at6 : L.drop 6 = .block 0 (.loop b1) :: L.drop 7 := by kernel_rfl
theorem lp2_at : lp.drop 2 = .block 1 (inBlock (lp.getD 2 .skip)) :: lp.drop 3 := by kernel_rfl
theorem at9 : ((L.drop 7).drop 0).drop 2 = .block 2 (.loop b2) :: L.drop 10 := by kernel_rfl
theorem lq_at : lp2.drop 2 = .block 3 (inBlock (lp2.getD 2 .skip)) :: lp2.drop 3 := by kernel_rfl
def x : Fact := ⟨3, [isl (.v 0), islb (.v 1), i64 (.v 2)], 1, [], .bool true, [], 1⟩
def spk : Fact := ⟨7, [], 1, [], .bool true, [], 1832⟩
def nm : List (Nat × Nat) := [(2, 2), (3, 3), (1, 1)]
def nm4 : List (Nat × Nat) := [(2, 2), (3, 3), (1, 1), (4, 4)]
theorem kA : evFl P ((E0.know [spk]).tab []) 100000 cx none 1 (L.take 6) (startSt x) [] (subs [.v 0, .v 1, .v 2, .op .mk [], .op .mk [], .op .mk [], .int 0]) [(1, 1832)] .normal inv = true := by kernel_rfl
def lt0 (b : Bool) : Tm × Tm := (.op (.bin .lss .i64) [.v 6, .op .len [.v 0]], .bool b)
def lt30 (b : Bool) : Tm × Tm := (.op (.bin .lss .i64) [.v 6, .int 30], .bool b)
def seven : List Tm := [.v 0, .v 1, .v 2, .v 3, .v 4, .v 5, .v 6]
theorem kH0 : evFl P (E0.tab [lt0 true, lt30 true]) 100000 cx none 1 (lp.take 2) inv [] (subs seven) nm .normal inv = true := by kernel_rfl
theorem kH1 : evFl P (E0.tab [lt0 true, lt30 false]) 100000 cx none 1 lp inv [.ice 2, .ice 3] (subs seven) [(1, 1)] (.exit 0) laid = true := by kernel_rfl
theorem kH2 : evFl P (E0.tab [lt0 false]) 100000 cx none 1 lp inv [.ice 2, .ice 3] (subs seven) [(1, 1)] (.exit 0) laid = true := by kernel_rfl
def ge1 (b : Bool) : Tm × Tm := (.op (.bin .geq .i64) [.v 6, .op .len [.v 1]], .bool b)
def le0 : Tm × Tm := (.op (.bin .leq .i64) [.int 0, .v 6], .bool true)
def lt1 : Tm × Tm := (.op (.bin .lss .i64) [.v 6, .op .len [.v 1]], .bool true)
def fl (b : Bool) : Tm × Tm := (.op .nth [.v 1, .v 6], .bool b)
def idT : Tm := .op .nth [.v 0, .v 6]
def toMid : List Tm := seven ++ [idT]
theorem kM0 : evFl P (E0.tab [ge1 true, le0, lt0 true]) 100000 cx none 1 (lb.take 1) inv [] (subs toMid) [(2, 2), (3, 3), (1, 1), (4, 20)] .normal (mid true) = true := by kernel_rfl
theorem kM1 (b : Bool) : evFl P (E0.tab [fl b, ge1 false, le0, lt0 true, lt1]) 100000 cx none 1 (lb.take 1) inv [] (subs toMid) [(2, 2), (3, 3), (1, 1), (4, 20)] .normal (mid b) = true := by cases b <;> kernel_rfl
def mf : Tm := .op .mfind [.v 5, idT]
def mfT (b : Bool) : Tm × Tm := (.op (.bin .leq .i64) [.int 0, mf], .bool b)
def neT (b : Bool) : Tm × Tm := (.op (.bin .neq .i64) [idT, .v 2], .bool b)
def eight : List Tm := seven ++ [.v 7]
def cntT : Tm := .op (.fld 1) [.op .nth [.v 5, mf]]
def setT : Tm := .op .set [.v 5, mf, .op (.setf 1) [.op .nth [.v 5, mf], .op (.bin .add .i64) [cntT, .int 1]]]
def newT : Tm := .op .cat [.v 5, .op .mk [.op .mk [idT, .int 1]]]
theorem kU0 : evFl P (E0.tab []) 100000 cx none 1 ((lb.drop 1).take 2) (mid false) [] (subs eight) nm4 .normal (mid false) = true := by kernel_rfl
theorem kU1 : evFl P (E0.tab [neT false, le0, lt0 true]) 100000 cx none 1 ((lb.drop 1).take 2) (mid true) [] (subs eight) nm4 .normal (mid true) = true := by kernel_rfl
theorem kU2 : evFl P (E0.tab [neT true, le0, lt0 true, mfT true]) 100000 cx none 1 ((lb.drop 1).take 2) (mid true) [] (subs [.v 0, .v 1, .v 2, .v 3, .v 4, setT, .v 6, .v 7]) nm4 .normal (mid true) = true := by kernel_rfl
theorem kU3 : evFl P (E0.tab [neT true, le0, lt0 true, mfT false]) 100000 cx none 1 ((lb.drop 1).take 2) (mid true) [] (subs [.v 0, .v 1, .v 2, .v 3, .v 4, newT, .v 6, .v 7]) nm4 .normal (mid true) = true := by kernel_rfl
def parT (b : Bool) : Tm × Tm := (.op (.bin .eql .i64) [.op (.bin .and .i64) [.v 6, .int 1], .int 0], .bool b)
def bT (b : Bool) : Tm := .op .mk [.int 0, .int 0, .int 0, .int 0, .v 7, .int 0, .int 0, .bool b]
def apT (v : Nat) (b : Bool) : List (Tm × Tm) := [(.op (.bin .leq .i64) [.op .len [.v v], .op .len [.v v]], .bool true), (.op .small [.op .nadd [.op .len [.v v], .int 1]], .bool true), (.op .len [.op .cat [.v v, .op .mk [bT b]]], .op .nadd [.op .len [.v v], .int 1])]
theorem kP0 (b : Bool) : evFl P (E0.tab (parT true :: apT 3 b)) 100000 cx none 1 ((lb.drop 1).drop 2) (mid b) [] (subs [.v 0, .v 1, .v 2, .op .cat [.v 3, .op .mk [bT b]], .v 4, .v 5, .v 6]) [(2, 6), (3, 3), (1, 1)] .normal inv = true := by cases b <;> kernel_rfl
theorem kP1 (b : Bool) : evFl P (E0.tab (parT false :: apT 4 b)) 100000 cx none 1 ((lb.drop 1).drop 2) (mid b) [] (subs [.v 0, .v 1, .v 2, .v 3, .op .cat [.v 4, .op .mk [bT b]], .v 5, .v 6]) [(2, 2), (3, 6), (1, 1)] .normal inv = true := by cases b <;> kernel_rfl
theorem kI : evFl P (E0.tab []) 100000 cx none 1 (lp.drop 3) inv [] (subs [.v 0, .v 1, .v 2, .v 3, .v 4, .v 5, .op (.bin .add .i64) [.v 6, .int 1]]) nm .normal inv = true := by kernel_rfl
-- behind the loop
theorem kG0 (a b : Tm) : evFl P (E0.tab []) 100000 cx none 1 ((L.drop 7).take 0) laid [] (subs (seven ++ [a, b])) [(1, 1)] .normal laid = true := by kernel_rfl
def nine : List Tm := [.v 0, .v 1, .v 2, .v 3, .v 4, .v 5, .v 6, .v 7, .v 8]
theorem kG : evFl P ((E0.know [yu]).tab []) 100000 cx none 1 (((L.drop 7).drop 0).take 2) laid [] (subs (nine ++ [.int 0])) [(1, 1), (2, 3)] .normal last = true := by kernel_rfl
theorem useU : usesSo (tableNf []) G (subs [.v 2, .v 3, .v 4, .v 7, .v 8]) [(5, 2)] xu yu = true := by kernel_rfl
def ltJ (b : Bool) : Tm × Tm := (.op (.bin .lss .i64) [.v 9, .v 7], .bool b)
def ten : List Tm := nine ++ [.v 9]
def nm2 : List (Nat × Nat) := [(1, 1), (2, 2)]
theorem kJ0 : evFl P (E0.tab [ltJ true]) 100000 cx none 1 (lp2.take 2) last [] (subs ten) nm2 .normal last = true := by kernel_rfl
theorem kJ1 : evFl P (E0.tab [ltJ false]) 100000 cx none 1 lp2 last [] (subs ten) nm2 (.exit 2) last = true := by kernel_rfl
def mg : Tm := .op .mfind [.v 5, .op .nth [.v 8, .v 9]]
def pre : Tm := .op (.bin .sub .i64) [.v 9, .int 1]
def tK : List (Tm × Tm) := [(.op (.bin .leq .i64) [.int 0, mg], .bool true), (.op (.bin .leq .i64) [.int 0, .v 9], .bool true), ltJ true, (.op (.bin .lss .i64) [.v 9, .op .len [.v 8]], .bool true), (.op (.bin .eql .i64) [.op (.fld 1) [.op .nth [.v 5, mg]], .int 0], .bool false)]
def gtJ (b : Bool) : Tm × Tm := (.op (.bin .gtr .i64) [.v 9, .int 0], .bool b)
def tK2 : List (Tm × Tm) := [gtJ true, (.op (.bin .leq .i64) [.int 0, pre], .bool true), (.op (.bin .lss .i64) [pre, .v 7], .bool true), (.op (.bin .lss .i64) [pre, .op .len [.v 8]], .bool true), (.op (.bin .geq .i64) [.op .nth [.v 8, pre], .op .nth [.v 8, .v 9]], .bool false)]
theorem kK1 : evFl P (E0.tab (gtJ false :: tK)) 100000 cx none 1 lb2 last [] (subs ten) nm2 .normal last = true := by kernel_rfl
theorem kK2 : evFl P (E0.tab (tK2 ++ tK)) 100000 cx none 1 lb2 last [] (subs ten) nm2 .normal last = true := by kernel_rfl
theorem kN : evFl P (E0.tab []) 100000 cx none 1 (lp2.drop 3) last [] (subs (nine ++ [.op (.bin .add .i64) [.v 9, .int 1]])) nm2 .normal last = true := by kernel_rfl
theorem kZ (a b c : Tm) : evFl P (E0.tab [(.op (.bin .eql .i64) [.v 7, .op .len [.v 5]], .bool true)]) 100000 cx none 1 (L.drop 10) last [] (subs [a, b, c]) [] .ret fin = true := by kernel_rfl

/-! ### the map's pairs -/
def pr (p : Int × Int) : D := .list [.int p.1, .int p.2]
def md (M : List (Int × Int)) : D := .list (M.map pr)
def keys (M : List (Int × Int)) : List Int := M.map (·.1)
theorem md_len (M : List (Int × Int)) : (M.map pr).length = M.length := List.length_map _
theorem key_some (x : Int) : ∀ (M : List (Int × Int)) (i : Nat), x ∈ keys M → ∃ j, keyIdx (.int x) (M.map pr) i = some (i + j) ∧ ∃ h : j < M.length, M[j].1 = x
  | [], i, h => by simp [keys] at h
  | (k, c) :: M, i, h => by
    by_cases hk : x = k
    · subst hk
      exact ⟨0, by simp [pr, keyIdx, D.keyEq], by simp, rfl⟩
    · have hm : x ∈ keys M := by
        simp only [keys, List.map_cons, List.mem_cons] at h
        exact h.resolve_left hk
      obtain ⟨j, h1, h2, h3⟩ := key_some x M (i + 1) hm
      refine ⟨j + 1, ?_, by simp only [List.length_cons]; omega, by simpa using h3⟩
      have : D.keyEq (.int x) (.int k) = false := by simp [D.keyEq, hk]
      simp only [List.map_cons, pr, keyIdx, this, Bool.false_eq_true, if_false]
      rw [h1]
      congr 1; omega
theorem key_none (x : Int) : ∀ (M : List (Int × Int)) (i : Nat), x ∉ keys M → keyIdx (.int x) (M.map pr) i = none
  | [], i, h => rfl
  | (k, c) :: M, i, h => by
    simp only [keys, List.map_cons, List.mem_cons, not_or] at h
    have : D.keyEq (.int x) (.int k) = false := by simp [D.keyEq, h.1]
    simp only [List.map_cons, pr, keyIdx, this, Bool.false_eq_true, if_false]
    exact key_none x M (i + 1) h.2
theorem tden_mfind (l : List D) (k : D) : TOp.den .mfind [.list l, k] = .int (match keyIdx k l 0 with | some i => (i : Int) | none => -1) := rfl

/-- what the loop keeps. -/
structure Inv (own : Int) (i : Nat) (E O : List (Int × Bool)) (M : List (Int × Int)) : Prop where
  le : i ≤ 30
  len : E.length + O.length = i
  nodup : (keys M).Nodup
  mem : ∀ x, x ∈ keys M ↔ x ≠ own ∧ (x, true) ∈ E ++ O
  pos : ∀ p ∈ M, 1 ≤ p.2 ∧ p.2 ≤ i
/-- one more is looked at: first the map, then the list. -/
structure Step (own : Int) (i : Nat) (E O : List (Int × Bool)) (M : List (Int × Int)) (x : Int) (f : Bool) : Prop where
  nodup : (keys M).Nodup
  mem : ∀ y, y ∈ keys M ↔ y ≠ own ∧ ((y, true) ∈ E ++ O ∨ (y = x ∧ f = true))
  pos : ∀ p ∈ M, 1 ≤ p.2 ∧ p.2 ≤ (i + 1 : Nat)
theorem Inv.skip {own : Int} {i : Nat} {E O : List (Int × Bool)} {M : List (Int × Int)} (h : Inv own i E O M) {x : Int} {f : Bool} (hf : f = false ∨ x = own) : Step own i E O M x f := by
  refine ⟨h.nodup, fun y => ?_, fun p hp => ?_⟩
  · rw [h.mem]
    refine ⟨fun ⟨a, b⟩ => ⟨a, .inl b⟩, fun ⟨a, b⟩ => ⟨a, b.resolve_right ?_⟩⟩
    rintro ⟨rfl, hb⟩
    rcases hf with e | e
    · rw [hb] at e; cases e
    · exact a e
  · have := h.pos p hp; omega
theorem Inv.more {own : Int} {i : Nat} {E O : List (Int × Bool)} {M : List (Int × Int)} (h : Inv own i E O M) {x : Int} (hx : x ≠ own) {j : Nat} (hj : j < M.length) (hk : M[j].1 = x) : Step own i E O (M.set j (x, M[j].2 + 1)) x true := by
  have hkeys : keys (M.set j (x, M[j].2 + 1)) = keys M := by
    unfold keys
    rw [List.map_set]
    have : (M.map (·.1)).set j x = M.map (·.1) := by
      have e : x = (M.map (·.1))[j]'(by simpa using hj) := by simp [hk]
      conv => lhs; rw [e]
      exact List.set_getElem_self _
    exact this
  refine ⟨by rw [hkeys]; exact h.nodup, fun y => ?_, fun p hp => ?_⟩
  · rw [hkeys, h.mem]
    refine ⟨fun ⟨a, b⟩ => ⟨a, .inl b⟩, fun ⟨a, b⟩ => ⟨a, ?_⟩⟩
    rcases b with b | ⟨rfl, -⟩
    · exact b
    · have hin : y ∈ keys M := by
        unfold keys
        exact List.mem_map.2 ⟨M[j], List.getElem_mem hj, hk⟩
      exact ((h.mem y).1 hin).2
  · rcases List.mem_or_eq_of_mem_set hp with hp | rfl
    · have := h.pos p hp; omega
    · have := h.pos M[j] (List.getElem_mem hj)
      simp only; omega
theorem Inv.fresh {own : Int} {i : Nat} {E O : List (Int × Bool)} {M : List (Int × Int)} (h : Inv own i E O M) {x : Int} (hx : x ≠ own) (hn : x ∉ keys M) : Step own i E O (M ++ [(x, 1)]) x true := by
  have hkeys : keys (M ++ [(x, 1)]) = keys M ++ [x] := by simp [keys]
  refine ⟨?_, fun y => ?_, fun p hp => ?_⟩
  · rw [hkeys]
    refine List.nodup_append.2 ⟨h.nodup, by simp, fun a ha b hb => ?_⟩
    rw [List.mem_singleton] at hb
    subst hb
    exact fun e => hn (e ▸ ha)
  · rw [hkeys, List.mem_append, List.mem_singleton, h.mem]
    constructor
    · rintro (⟨a, b⟩ | rfl)
      · exact ⟨a, .inl b⟩
      · exact ⟨hx, .inr ⟨rfl, rfl⟩⟩
    · rintro ⟨a, b | ⟨rfl, -⟩⟩
      · exact .inl ⟨a, b⟩
      · exact .inr rfl
  · rcases List.mem_append.1 hp with hp | hp
    · have := h.pos p hp; omega
    · rw [List.mem_singleton] at hp; subst hp; simp only; omega
theorem Step.even {own : Int} {i : Nat} {E O : List (Int × Bool)} {M : List (Int × Int)} {x : Int} {f : Bool} (h : Step own i E O M x f) (hi : i + 1 ≤ 30) (hl : E.length + O.length = i) : Inv own (i + 1) (E ++ [(x, f)]) O M := by
  refine ⟨hi, by simp; omega, h.nodup, fun y => ?_, h.pos⟩
  rw [h.mem]
  simp only [List.mem_append, List.mem_singleton, Prod.mk.injEq]
  constructor
  · rintro ⟨a, (b | b) | ⟨rfl, rfl⟩⟩
    · exact ⟨a, .inl (.inl b)⟩
    · exact ⟨a, .inr b⟩
    · exact ⟨a, .inl (.inr ⟨rfl, rfl⟩)⟩
  · rintro ⟨a, (b | ⟨rfl, rfl⟩) | b⟩
    · exact ⟨a, .inl (.inl b)⟩
    · exact ⟨a, .inr ⟨rfl, rfl⟩⟩
    · exact ⟨a, .inl (.inr b)⟩
theorem Step.odd {own : Int} {i : Nat} {E O : List (Int × Bool)} {M : List (Int × Int)} {x : Int} {f : Bool} (h : Step own i E O M x f) (hi : i + 1 ≤ 30) (hl : E.length + O.length = i) : Inv own (i + 1) E (O ++ [(x, f)]) M := by
  refine ⟨hi, by simp; omega, h.nodup, fun y => ?_, h.pos⟩
  rw [h.mem]
  simp only [List.mem_append, List.mem_singleton, Prod.mk.injEq]
  constructor
  · rintro ⟨a, (b | b) | ⟨rfl, rfl⟩⟩
    · exact ⟨a, .inl b⟩
    · exact ⟨a, .inr (.inl b)⟩
    · exact ⟨a, .inr (.inr ⟨rfl, rfl⟩)⟩
  · rintro ⟨a, b | b | ⟨rfl, rfl⟩⟩
    · exact ⟨a, .inl (.inl b)⟩
    · exact ⟨a, .inl (.inr b)⟩
    · exact ⟨a, .inr ⟨rfl, rfl⟩⟩
theorem outs_mem (own : Int) (l : List (Int × Bool)) (x : Int) : x ∈ outs own l ↔ x ≠ own ∧ (x, true) ∈ l := by
  unfold outs
  rw [List.mem_map]
  constructor
  · rintro ⟨⟨y, f⟩, hp, rfl⟩
    rw [List.mem_filter] at hp
    simp only [Bool.and_eq_true, decide_eq_true_eq] at hp
    obtain ⟨h1, h2, h3⟩ := hp
    subst h2
    exact ⟨h3, h1⟩
  · rintro ⟨h1, h2⟩
    exact ⟨(x, true), List.mem_filter.2 ⟨h2, by simp [h1]⟩, rfl⟩
theorem Inv.same {own : Int} {i : Nat} {E O : List (Int × Bool)} {M : List (Int × Int)} (h : Inv own i E O M) : (∀ x, x ∈ cmp (outs own (E ++ O)) ↔ x ∈ keys M) ∧ (cmp (outs own (E ++ O))).length = M.length := by
  have hm : ∀ x, x ∈ cmp (outs own (E ++ O)) ↔ x ∈ keys M := fun x => by rw [cmp_mem, outs_mem, h.mem]
  refine ⟨hm, ?_⟩
  have hk : (keys M).length = M.length := List.length_map _
  have h1 := nodup_sub (cmp (outs own (E ++ O))) (keys M) ((cmp_lt _).imp fun h => by omega) fun x hx => (hm x).1 hx
  have h2 := nodup_sub (keys M) (cmp (outs own (E ++ O))) h.nodup fun x hx => (hm x).2 hx
  omega

/-- the loop's data. -/
noncomputable abbrev V (d0 d1 : D) (own : Int) (E O : List (Int × Bool)) (M : List (Int × Int)) (i : Nat) : Val := vals [d0, d1, .int own, bs E, bs O, md M, .int i]
noncomputable abbrev W (d0 d1 : D) (own : Int) (E O : List (Int × Bool)) (M : List (Int × Int)) (i : Nat) (x : Int) : Val := vals [d0, d1, .int own, bs E, bs O, md M, .int i, .int x]

def End1 (d0 d1 : D) (own : Int) (V' : Val) (σ' : St) : Prop := σ' = laid ∧ ∃ E O M i, Inv own i E O M ∧ V' = V d0 d1 own E O M i

theorem rounds (ids : List Int) (fnd : List Bool) (own : Int) :
    Tri P G (V (ints ids) (.list (fnd.map .bool)) own [] [] [] 0) cx none 1 (.loop b1) inv fun V' ex σ' => outOf 0 ex = .normal ∧ End1 (ints ids) (.list (fnd.map .bool)) own V' σ' := by
  have hg : cx.glob = G := by kernel_rfl
  refine Tri.loop (α := Nat × List (Int × Bool) × List (Int × Bool) × List (Int × Int)) (fun (i, E, O, M) => Inv own i E O M) (fun (i, _, _, _) => 30 - i) (fun (i, E, O, M) => V (ints ids) (.list (fnd.map .bool)) own E O M i) stays_none ?_ (0, [], [], []) ⟨by omega, rfl, by simp [keys], fun x => by simp [keys], fun p hp => by cases hp⟩
  rintro ⟨i, E, O, M⟩ hI
  simp only at hI ⊢
  refine Tri.flat (by kernel_rfl) ?_
  show TriL P G _ cx none 1 lp inv _
  have hle := hI.le
  have hlt0 : @Tm.den (V (ints ids) (.list (fnd.map .bool)) own E O M i) (.op (.bin .lss .i64) [.v 6, .op .len [.v 0]]) = .bool (decide (i < ids.length)) := by
    simp only [D.tm_den, den_int, den_bool, den_str, den_v, den_op, dens_nil, dens_cons, vals_at, List.getD_cons_succ, List.getD_cons_zero, List.getD_nil, List.map_cons, List.map_nil, Int.toNat_natCast, tden_bin, tden_shift, tden_conv, tden_not, tden_and, tden_sbin, tden_slen, tden_len, tden_nth, tden_fld, tden_mk, tden_cat, tden_sub, tden_set, tden_setf, tden_rep, tden_sget, tden_ssub, tden_ite, tden_bytes, tden_text, tden_fits, tden_nadd, tden_nsub, tden_small, intD_add, intD_sub, intD_mul, intD_quo, intD_rem, intD_eql, intD_neq, intD_lss, intD_leq, intD_gtr, intD_geq, D.int.injEq, D.bool.injEq, D.str.injEq, D.list.injEq, decide_eq_true_eq, decide_eq_false_iff_not, beq_iff_eq, ints, ints_len]; rw [Bool.eq_iff_iff]; simp
  have hlt30 : @Tm.den (V (ints ids) (.list (fnd.map .bool)) own E O M i) (.op (.bin .lss .i64) [.v 6, .int 30]) = .bool (decide (i < 30)) := by
    simp only [D.tm_den, den_int, den_bool, den_str, den_v, den_op, dens_nil, dens_cons, vals_at, List.getD_cons_succ, List.getD_cons_zero, List.getD_nil, List.map_cons, List.map_nil, Int.toNat_natCast, tden_bin, tden_shift, tden_conv, tden_not, tden_and, tden_sbin, tden_slen, tden_len, tden_nth, tden_fld, tden_mk, tden_cat, tden_sub, tden_set, tden_setf, tden_rep, tden_sget, tden_ssub, tden_ite, tden_bytes, tden_text, tden_fits, tden_nadd, tden_nsub, tden_small, intD_add, intD_sub, intD_mul, intD_quo, intD_rem, intD_eql, intD_neq, intD_lss, intD_leq, intD_gtr, intD_geq, D.int.injEq, D.bool.injEq, D.str.injEq, D.list.injEq, decide_eq_true_eq, decide_eq_false_iff_not, beq_iff_eq]; rw [Bool.eq_iff_iff]; simp; omega
  have hend : @AllEq (V (ints ids) (.list (fnd.map .bool)) own E O M i) [] := trivial
  by_cases hlt : i < ids.length
  · by_cases h30 : i < 30
    · refine TriL.go 2 (envAt _) hg stays_none (tb := [lt0 true, lt30 true]) ⟨by simp only [lt0]; rw [hlt0]; simp [hlt], by simp only [lt30]; rw [hlt30]; simp [h30], trivial⟩ (by show 1 ≤ 4; omega) kH0 ?_
      simp only [seven]
      simp only [D.tm_den, den_int, den_bool, den_str, den_v, den_op, dens_nil, dens_cons, vals_at, List.getD_cons_succ, List.getD_cons_zero, List.getD_nil, List.map_cons, List.map_nil, Int.toNat_natCast, tden_bin, tden_shift, tden_conv, tden_not, tden_and, tden_sbin, tden_slen, tden_len, tden_nth, tden_fld, tden_mk, tden_cat, tden_sub, tden_set, tden_setf, tden_rep, tden_sget, tden_ssub, tden_ite, tden_bytes, tden_text, tden_fits, tden_nadd, tden_nsub, tden_small, intD_add, intD_sub, intD_mul, intD_quo, intD_rem, intD_eql, intD_neq, intD_lss, intD_leq, intD_gtr, intD_geq, D.int.injEq, D.bool.injEq, D.str.injEq, D.list.injEq, decide_eq_true_eq, decide_eq_false_iff_not, beq_iff_eq]
      rw [lp2_at]
      have hnth : (ids.map D.int).getD i .bad = .int ids[i] := ints_nth ids i hlt
      generalize ids[i] = x at hnth
      have hle0 : @Tm.den (V (ints ids) (.list (fnd.map .bool)) own E O M i) (.op (.bin .leq .i64) [.int 0, .v 6]) = .bool true := by simp only [D.tm_den, den_int, den_bool, den_str, den_v, den_op, dens_nil, dens_cons, vals_at, List.getD_cons_succ, List.getD_cons_zero, List.getD_nil, List.map_cons, List.map_nil, Int.toNat_natCast, tden_bin, tden_shift, tden_conv, tden_not, tden_and, tden_sbin, tden_slen, tden_len, tden_nth, tden_fld, tden_mk, tden_cat, tden_sub, tden_set, tden_setf, tden_rep, tden_sget, tden_ssub, tden_ite, tden_bytes, tden_text, tden_fits, tden_nadd, tden_nsub, tden_small, intD_add, intD_sub, intD_mul, intD_quo, intD_rem, intD_eql, intD_neq, intD_lss, intD_leq, intD_gtr, intD_geq, D.int.injEq, D.bool.injEq, D.str.injEq, D.list.injEq, decide_eq_true_eq, decide_eq_false_iff_not, beq_iff_eq]; omega
      -- from the middle on
      have from_mid : ∀ f : Bool, TriL P G (W (ints ids) (.list (fnd.map .bool)) own E O M i x) cx none 1 (lb.drop 1) (mid f) fun V' ex σ' => ex = .normal ∧ σ' = inv ∧ ∃ E' O' M', Inv own (i + 1) E' O' M' ∧ V' = V (ints ids) (.list (fnd.map .bool)) own E' O' M' i := by
        intro f
        -- the list
        have tolist : ∀ M', Step own i E O M' x f → TriL P G (W (ints ids) (.list (fnd.map .bool)) own E O M' i x) cx none 1 ((lb.drop 1).drop 2) (mid f) fun V' ex σ' => ex = .normal ∧ σ' = inv ∧ ∃ E' O' M', Inv own (i + 1) E' O' M' ∧ V' = V (ints ids) (.list (fnd.map .bool)) own E' O' M' i := by
          intro M' hS
          have hlen := hI.len
          obtain ⟨pb, hpb⟩ : ∃ pb, @Tm.den (W (ints ids) (.list (fnd.map .bool)) own E O M' i x) (.op (.bin .eql .i64) [.op (.bin .and .i64) [.v 6, .int 1], .int 0]) = .bool pb := ⟨_, rfl⟩
          cases pb with
          | true =>
            refine TriL.fin (envAt _) hg (tb := parT true :: apT 3 f) ⟨hpb, ?_, ?_, ?_, trivial⟩ (by show 1 ≤ 5; omega) (kP0 f) ⟨rfl, rfl, E ++ [(x, f)], O, M', hS.even (by omega) hlen, ?_⟩
            · simp only [D.tm_den, den_int, den_bool, den_str, den_v, den_op, dens_nil, dens_cons, vals_at, List.getD_cons_succ, List.getD_cons_zero, List.getD_nil, List.map_cons, List.map_nil, Int.toNat_natCast, tden_bin, tden_shift, tden_conv, tden_not, tden_and, tden_sbin, tden_slen, tden_len, tden_nth, tden_fld, tden_mk, tden_cat, tden_sub, tden_set, tden_setf, tden_rep, tden_sget, tden_ssub, tden_ite, tden_bytes, tden_text, tden_fits, tden_nadd, tden_nsub, tden_small, intD_add, intD_sub, intD_mul, intD_quo, intD_rem, intD_eql, intD_neq, intD_lss, intD_leq, intD_gtr, intD_geq, D.int.injEq, D.bool.injEq, D.str.injEq, D.list.injEq, decide_eq_true_eq, decide_eq_false_iff_not, beq_iff_eq, bs, bs_len]; omega
            · simp only [D.tm_den, den_int, den_bool, den_str, den_v, den_op, dens_nil, dens_cons, vals_at, List.getD_cons_succ, List.getD_cons_zero, List.getD_nil, List.map_cons, List.map_nil, Int.toNat_natCast, tden_bin, tden_shift, tden_conv, tden_not, tden_and, tden_sbin, tden_slen, tden_len, tden_nth, tden_fld, tden_mk, tden_cat, tden_sub, tden_set, tden_setf, tden_rep, tden_sget, tden_ssub, tden_ite, tden_bytes, tden_text, tden_fits, tden_nadd, tden_nsub, tden_small, intD_add, intD_sub, intD_mul, intD_quo, intD_rem, intD_eql, intD_neq, intD_lss, intD_leq, intD_gtr, intD_geq, D.int.injEq, D.bool.injEq, D.str.injEq, D.list.injEq, decide_eq_true_eq, decide_eq_false_iff_not, beq_iff_eq, bs, bs_len]; omega
            · simp only [bT]; simp only [D.tm_den, den_int, den_bool, den_str, den_v, den_op, dens_nil, dens_cons, vals_at, List.getD_cons_succ, List.getD_cons_zero, List.getD_nil, List.map_cons, List.map_nil, Int.toNat_natCast, tden_bin, tden_shift, tden_conv, tden_not, tden_and, tden_sbin, tden_slen, tden_len, tden_nth, tden_fld, tden_mk, tden_cat, tden_sub, tden_set, tden_setf, tden_rep, tden_sget, tden_ssub, tden_ite, tden_bytes, tden_text, tden_fits, tden_nadd, tden_nsub, tden_small, intD_add, intD_sub, intD_mul, intD_quo, intD_rem, intD_eql, intD_neq, intD_lss, intD_leq, intD_gtr, intD_geq, D.int.injEq, D.bool.injEq, D.str.injEq, D.list.injEq, decide_eq_true_eq, decide_eq_false_iff_not, beq_iff_eq, bs, bs_len]; simp
            · simp only [bT]; simp only [D.tm_den, den_int, den_bool, den_str, den_v, den_op, dens_nil, dens_cons, vals_at, List.getD_cons_succ, List.getD_cons_zero, List.getD_nil, List.map_cons, List.map_nil, Int.toNat_natCast, tden_bin, tden_shift, tden_conv, tden_not, tden_and, tden_sbin, tden_slen, tden_len, tden_nth, tden_fld, tden_mk, tden_cat, tden_sub, tden_set, tden_setf, tden_rep, tden_sget, tden_ssub, tden_ite, tden_bytes, tden_text, tden_fits, tden_nadd, tden_nsub, tden_small, intD_add, intD_sub, intD_mul, intD_quo, intD_rem, intD_eql, intD_neq, intD_lss, intD_leq, intD_gtr, intD_geq, D.int.injEq, D.bool.injEq, D.str.injEq, D.list.injEq, decide_eq_true_eq, decide_eq_false_iff_not, beq_iff_eq, bs]; simp only [V, bs, List.map_append, List.map_cons, List.map_nil, bd]
          | false =>
            refine TriL.fin (envAt _) hg (tb := parT false :: apT 4 f) ⟨hpb, ?_, ?_, ?_, trivial⟩ (by show 1 ≤ 5; omega) (kP1 f) ⟨rfl, rfl, E, O ++ [(x, f)], M', hS.odd (by omega) hlen, ?_⟩
            · simp only [D.tm_den, den_int, den_bool, den_str, den_v, den_op, dens_nil, dens_cons, vals_at, List.getD_cons_succ, List.getD_cons_zero, List.getD_nil, List.map_cons, List.map_nil, Int.toNat_natCast, tden_bin, tden_shift, tden_conv, tden_not, tden_and, tden_sbin, tden_slen, tden_len, tden_nth, tden_fld, tden_mk, tden_cat, tden_sub, tden_set, tden_setf, tden_rep, tden_sget, tden_ssub, tden_ite, tden_bytes, tden_text, tden_fits, tden_nadd, tden_nsub, tden_small, intD_add, intD_sub, intD_mul, intD_quo, intD_rem, intD_eql, intD_neq, intD_lss, intD_leq, intD_gtr, intD_geq, D.int.injEq, D.bool.injEq, D.str.injEq, D.list.injEq, decide_eq_true_eq, decide_eq_false_iff_not, beq_iff_eq, bs, bs_len]; omega
            · simp only [D.tm_den, den_int, den_bool, den_str, den_v, den_op, dens_nil, dens_cons, vals_at, List.getD_cons_succ, List.getD_cons_zero, List.getD_nil, List.map_cons, List.map_nil, Int.toNat_natCast, tden_bin, tden_shift, tden_conv, tden_not, tden_and, tden_sbin, tden_slen, tden_len, tden_nth, tden_fld, tden_mk, tden_cat, tden_sub, tden_set, tden_setf, tden_rep, tden_sget, tden_ssub, tden_ite, tden_bytes, tden_text, tden_fits, tden_nadd, tden_nsub, tden_small, intD_add, intD_sub, intD_mul, intD_quo, intD_rem, intD_eql, intD_neq, intD_lss, intD_leq, intD_gtr, intD_geq, D.int.injEq, D.bool.injEq, D.str.injEq, D.list.injEq, decide_eq_true_eq, decide_eq_false_iff_not, beq_iff_eq, bs, bs_len]; omega
            · simp only [bT]; simp only [D.tm_den, den_int, den_bool, den_str, den_v, den_op, dens_nil, dens_cons, vals_at, List.getD_cons_succ, List.getD_cons_zero, List.getD_nil, List.map_cons, List.map_nil, Int.toNat_natCast, tden_bin, tden_shift, tden_conv, tden_not, tden_and, tden_sbin, tden_slen, tden_len, tden_nth, tden_fld, tden_mk, tden_cat, tden_sub, tden_set, tden_setf, tden_rep, tden_sget, tden_ssub, tden_ite, tden_bytes, tden_text, tden_fits, tden_nadd, tden_nsub, tden_small, intD_add, intD_sub, intD_mul, intD_quo, intD_rem, intD_eql, intD_neq, intD_lss, intD_leq, intD_gtr, intD_geq, D.int.injEq, D.bool.injEq, D.str.injEq, D.list.injEq, decide_eq_true_eq, decide_eq_false_iff_not, beq_iff_eq, bs, bs_len]; simp
            · simp only [bT]; simp only [D.tm_den, den_int, den_bool, den_str, den_v, den_op, dens_nil, dens_cons, vals_at, List.getD_cons_succ, List.getD_cons_zero, List.getD_nil, List.map_cons, List.map_nil, Int.toNat_natCast, tden_bin, tden_shift, tden_conv, tden_not, tden_and, tden_sbin, tden_slen, tden_len, tden_nth, tden_fld, tden_mk, tden_cat, tden_sub, tden_set, tden_setf, tden_rep, tden_sget, tden_ssub, tden_ite, tden_bytes, tden_text, tden_fits, tden_nadd, tden_nsub, tden_small, intD_add, intD_sub, intD_mul, intD_quo, intD_rem, intD_eql, intD_neq, intD_lss, intD_leq, intD_gtr, intD_geq, D.int.injEq, D.bool.injEq, D.str.injEq, D.list.injEq, decide_eq_true_eq, decide_eq_false_iff_not, beq_iff_eq, bs]; simp only [V, bs, List.map_append, List.map_cons, List.map_nil, bd]
        have hl0 : @Tm.den (W (ints ids) (.list (fnd.map .bool)) own E O M i x) (.op (.bin .lss .i64) [.v 6, .op .len [.v 0]]) = .bool true := by
          simp only [D.tm_den, den_int, den_bool, den_str, den_v, den_op, dens_nil, dens_cons, vals_at, List.getD_cons_succ, List.getD_cons_zero, List.getD_nil, List.map_cons, List.map_nil, Int.toNat_natCast, tden_bin, tden_shift, tden_conv, tden_not, tden_and, tden_sbin, tden_slen, tden_len, tden_nth, tden_fld, tden_mk, tden_cat, tden_sub, tden_set, tden_setf, tden_rep, tden_sget, tden_ssub, tden_ite, tden_bytes, tden_text, tden_fits, tden_nadd, tden_nsub, tden_small, intD_add, intD_sub, intD_mul, intD_quo, intD_rem, intD_eql, intD_neq, intD_lss, intD_leq, intD_gtr, intD_geq, D.int.injEq, D.bool.injEq, D.str.injEq, D.list.injEq, decide_eq_true_eq, decide_eq_false_iff_not, beq_iff_eq, ints, ints_len]; omega
        have hz0 : @Tm.den (W (ints ids) (.list (fnd.map .bool)) own E O M i x) (.op (.bin .leq .i64) [.int 0, .v 6]) = .bool true := by simp only [D.tm_den, den_int, den_bool, den_str, den_v, den_op, dens_nil, dens_cons, vals_at, List.getD_cons_succ, List.getD_cons_zero, List.getD_nil, List.map_cons, List.map_nil, Int.toNat_natCast, tden_bin, tden_shift, tden_conv, tden_not, tden_and, tden_sbin, tden_slen, tden_len, tden_nth, tden_fld, tden_mk, tden_cat, tden_sub, tden_set, tden_setf, tden_rep, tden_sget, tden_ssub, tden_ite, tden_bytes, tden_text, tden_fits, tden_nadd, tden_nsub, tden_small, intD_add, intD_sub, intD_mul, intD_quo, intD_rem, intD_eql, intD_neq, intD_lss, intD_leq, intD_gtr, intD_geq, D.int.injEq, D.bool.injEq, D.str.injEq, D.list.injEq, decide_eq_true_eq, decide_eq_false_iff_not, beq_iff_eq]; omega
        have hid : @Tm.den (W (ints ids) (.list (fnd.map .bool)) own E O M i x) idT = .int x := by
          simp only [idT]; simp only [D.tm_den, den_int, den_bool, den_str, den_v, den_op, dens_nil, dens_cons, vals_at, List.getD_cons_succ, List.getD_cons_zero, List.getD_nil, List.map_cons, List.map_nil, Int.toNat_natCast, tden_bin, tden_shift, tden_conv, tden_not, tden_and, tden_sbin, tden_slen, tden_len, tden_nth, tden_fld, tden_mk, tden_cat, tden_sub, tden_set, tden_setf, tden_rep, tden_sget, tden_ssub, tden_ite, tden_bytes, tden_text, tden_fits, tden_nadd, tden_nsub, tden_small, intD_add, intD_sub, intD_mul, intD_quo, intD_rem, intD_eql, intD_neq, intD_lss, intD_leq, intD_gtr, intD_geq, D.int.injEq, D.bool.injEq, D.str.injEq, D.list.injEq, decide_eq_true_eq, decide_eq_false_iff_not, beq_iff_eq, ints, hnth]
        have hne : @Tm.den (W (ints ids) (.list (fnd.map .bool)) own E O M i x) (.op (.bin .neq .i64) [idT, .v 2]) = .bool (decide (x ≠ own)) := by
          simp only [D.tm_den, den_int, den_bool, den_str, den_v, den_op, dens_nil, dens_cons, vals_at, List.getD_cons_succ, List.getD_cons_zero, List.getD_nil, List.map_cons, List.map_nil, Int.toNat_natCast, tden_bin, tden_shift, tden_conv, tden_not, tden_and, tden_sbin, tden_slen, tden_len, tden_nth, tden_fld, tden_mk, tden_cat, tden_sub, tden_set, tden_setf, tden_rep, tden_sget, tden_ssub, tden_ite, tden_bytes, tden_text, tden_fits, tden_nadd, tden_nsub, tden_small, intD_add, intD_sub, intD_mul, intD_quo, intD_rem, intD_eql, intD_neq, intD_lss, intD_leq, intD_gtr, intD_geq, D.int.injEq, D.bool.injEq, D.str.injEq, D.list.injEq, decide_eq_true_eq, decide_eq_false_iff_not, beq_iff_eq, hid]; rw [Bool.eq_iff_iff]; simp
        cases f with
        | false =>
          refine TriL.go 2 (envAt _) hg stays_none (tb := []) trivial (by show 1 ≤ 5; omega) kU0 ?_
          simp only [eight, seven, List.cons_append, List.nil_append]
          simp only [D.tm_den, den_int, den_bool, den_str, den_v, den_op, dens_nil, dens_cons, vals_at, List.getD_cons_succ, List.getD_cons_zero, List.getD_nil, List.map_cons, List.map_nil, Int.toNat_natCast, tden_bin, tden_shift, tden_conv, tden_not, tden_and, tden_sbin, tden_slen, tden_len, tden_nth, tden_fld, tden_mk, tden_cat, tden_sub, tden_set, tden_setf, tden_rep, tden_sget, tden_ssub, tden_ite, tden_bytes, tden_text, tden_fits, tden_nadd, tden_nsub, tden_small, intD_add, intD_sub, intD_mul, intD_quo, intD_rem, intD_eql, intD_neq, intD_lss, intD_leq, intD_gtr, intD_geq, D.int.injEq, D.bool.injEq, D.str.injEq, D.list.injEq, decide_eq_true_eq, decide_eq_false_iff_not, beq_iff_eq]
          exact tolist M (hI.skip (.inl rfl))
        | true =>
          by_cases hx : x = own
          · refine TriL.go 2 (envAt _) hg stays_none (tb := [neT false, le0, lt0 true]) ⟨by simp only [neT]; rw [hne]; simp [hx], hz0, hl0, trivial⟩ (by show 1 ≤ 5; omega) kU1 ?_
            simp only [eight, seven, List.cons_append, List.nil_append]
            simp only [D.tm_den, den_int, den_bool, den_str, den_v, den_op, dens_nil, dens_cons, vals_at, List.getD_cons_succ, List.getD_cons_zero, List.getD_nil, List.map_cons, List.map_nil, Int.toNat_natCast, tden_bin, tden_shift, tden_conv, tden_not, tden_and, tden_sbin, tden_slen, tden_len, tden_nth, tden_fld, tden_mk, tden_cat, tden_sub, tden_set, tden_setf, tden_rep, tden_sget, tden_ssub, tden_ite, tden_bytes, tden_text, tden_fits, tden_nadd, tden_nsub, tden_small, intD_add, intD_sub, intD_mul, intD_quo, intD_rem, intD_eql, intD_neq, intD_lss, intD_leq, intD_gtr, intD_geq, D.int.injEq, D.bool.injEq, D.str.injEq, D.list.injEq, decide_eq_true_eq, decide_eq_false_iff_not, beq_iff_eq]
            exact tolist M (hI.skip (.inr hx))
          · have hmf : @Tm.den (W (ints ids) (.list (fnd.map .bool)) own E O M i x) mf = .int (match keyIdx (.int x) (M.map pr) 0 with | some i => (i : Int) | none => -1) := by
              simp only [mf]; simp only [D.tm_den, den_int, den_bool, den_str, den_v, den_op, dens_nil, dens_cons, vals_at, List.getD_cons_succ, List.getD_cons_zero, List.getD_nil, List.map_cons, List.map_nil, Int.toNat_natCast, tden_bin, tden_shift, tden_conv, tden_not, tden_and, tden_sbin, tden_slen, tden_len, tden_nth, tden_fld, tden_mk, tden_cat, tden_sub, tden_set, tden_setf, tden_rep, tden_sget, tden_ssub, tden_ite, tden_bytes, tden_text, tden_fits, tden_nadd, tden_nsub, tden_small, intD_add, intD_sub, intD_mul, intD_quo, intD_rem, intD_eql, intD_neq, intD_lss, intD_leq, intD_gtr, intD_geq, D.int.injEq, D.bool.injEq, D.str.injEq, D.list.injEq, decide_eq_true_eq, decide_eq_false_iff_not, beq_iff_eq, hid, md, tden_mfind]
            by_cases hin : x ∈ keys M
            · obtain ⟨j, hj1, hj2, hj3⟩ := key_some x M 0 hin
              rw [hj1, Nat.zero_add] at hmf
              have hmf : @Tm.den (W (ints ids) (.list (fnd.map .bool)) own E O M i x) mf = .int (j : Int) := hmf
              have hpj := hI.pos M[j] (List.getElem_mem hj2)
              have hnj : (M.map pr).getD j .bad = pr M[j] := by simp [List.getD_eq_getElem?_getD, hj2]
              refine TriL.go 2 (envAt _) hg stays_none (tb := [neT true, le0, lt0 true, mfT true]) ⟨by simp only [neT]; rw [hne]; simp [hx], hz0, hl0, ?_, trivial⟩ (by show 1 ≤ 5; omega) kU2 ?_
              · simp only [mfT]; simp only [D.tm_den, den_int, den_bool, den_str, den_v, den_op, dens_nil, dens_cons, vals_at, List.getD_cons_succ, List.getD_cons_zero, List.getD_nil, List.map_cons, List.map_nil, Int.toNat_natCast, tden_bin, tden_shift, tden_conv, tden_not, tden_and, tden_sbin, tden_slen, tden_len, tden_nth, tden_fld, tden_mk, tden_cat, tden_sub, tden_set, tden_setf, tden_rep, tden_sget, tden_ssub, tden_ite, tden_bytes, tden_text, tden_fits, tden_nadd, tden_nsub, tden_small, intD_add, intD_sub, intD_mul, intD_quo, intD_rem, intD_eql, intD_neq, intD_lss, intD_leq, intD_gtr, intD_geq, D.int.injEq, D.bool.injEq, D.str.injEq, D.list.injEq, decide_eq_true_eq, decide_eq_false_iff_not, beq_iff_eq, hmf]; omega
              · have hset : @Tm.den (W (ints ids) (.list (fnd.map .bool)) own E O M i x) setT = md (M.set j (x, M[j].2 + 1)) := by
                  simp only [setT, cntT]
                  simp only [D.tm_den, den_int, den_bool, den_str, den_v, den_op, dens_nil, dens_cons, vals_at, List.getD_cons_succ, List.getD_cons_zero, List.getD_nil, List.map_cons, List.map_nil, Int.toNat_natCast, tden_bin, tden_shift, tden_conv, tden_not, tden_and, tden_sbin, tden_slen, tden_len, tden_nth, tden_fld, tden_mk, tden_cat, tden_sub, tden_set, tden_setf, tden_rep, tden_sget, tden_ssub, tden_ite, tden_bytes, tden_text, tden_fits, tden_nadd, tden_nsub, tden_small, intD_add, intD_sub, intD_mul, intD_quo, intD_rem, intD_eql, intD_neq, intD_lss, intD_leq, intD_gtr, intD_geq, D.int.injEq, D.bool.injEq, D.str.injEq, D.list.injEq, decide_eq_true_eq, decide_eq_false_iff_not, beq_iff_eq, hmf, md, hnj, pr]
                  rw [wrap_i64 (by omega), List.map_set]
                  simp only [pr, hj3, List.set_cons_succ, List.set_cons_zero]
                rw [List.map_cons, List.map_cons, List.map_cons, List.map_cons, List.map_cons, List.map_cons, List.map_cons, List.map_cons, List.map_nil, hset]
                simp only [D.tm_den, den_int, den_bool, den_str, den_v, den_op, dens_nil, dens_cons, vals_at, List.getD_cons_succ, List.getD_cons_zero, List.getD_nil, List.map_cons, List.map_nil, Int.toNat_natCast, tden_bin, tden_shift, tden_conv, tden_not, tden_and, tden_sbin, tden_slen, tden_len, tden_nth, tden_fld, tden_mk, tden_cat, tden_sub, tden_set, tden_setf, tden_rep, tden_sget, tden_ssub, tden_ite, tden_bytes, tden_text, tden_fits, tden_nadd, tden_nsub, tden_small, intD_add, intD_sub, intD_mul, intD_quo, intD_rem, intD_eql, intD_neq, intD_lss, intD_leq, intD_gtr, intD_geq, D.int.injEq, D.bool.injEq, D.str.injEq, D.list.injEq, decide_eq_true_eq, decide_eq_false_iff_not, beq_iff_eq]
                exact tolist _ (hI.more hx hj2 hj3)
            · rw [key_none x M 0 hin] at hmf
              have hmf : @Tm.den (W (ints ids) (.list (fnd.map .bool)) own E O M i x) mf = .int (-1) := hmf
              refine TriL.go 2 (envAt _) hg stays_none (tb := [neT true, le0, lt0 true, mfT false]) ⟨by simp only [neT]; rw [hne]; simp [hx], hz0, hl0, ?_, trivial⟩ (by show 1 ≤ 5; omega) kU3 ?_
              · simp only [mfT]; simp only [D.tm_den, den_int, den_bool, den_str, den_v, den_op, dens_nil, dens_cons, vals_at, List.getD_cons_succ, List.getD_cons_zero, List.getD_nil, List.map_cons, List.map_nil, Int.toNat_natCast, tden_bin, tden_shift, tden_conv, tden_not, tden_and, tden_sbin, tden_slen, tden_len, tden_nth, tden_fld, tden_mk, tden_cat, tden_sub, tden_set, tden_setf, tden_rep, tden_sget, tden_ssub, tden_ite, tden_bytes, tden_text, tden_fits, tden_nadd, tden_nsub, tden_small, intD_add, intD_sub, intD_mul, intD_quo, intD_rem, intD_eql, intD_neq, intD_lss, intD_leq, intD_gtr, intD_geq, D.int.injEq, D.bool.injEq, D.str.injEq, D.list.injEq, decide_eq_true_eq, decide_eq_false_iff_not, beq_iff_eq, hmf]; omega
              · have hnew : @Tm.den (W (ints ids) (.list (fnd.map .bool)) own E O M i x) newT = md (M ++ [(x, 1)]) := by
                  simp only [newT]
                  simp only [D.tm_den, den_int, den_bool, den_str, den_v, den_op, dens_nil, dens_cons, vals_at, List.getD_cons_succ, List.getD_cons_zero, List.getD_nil, List.map_cons, List.map_nil, Int.toNat_natCast, tden_bin, tden_shift, tden_conv, tden_not, tden_and, tden_sbin, tden_slen, tden_len, tden_nth, tden_fld, tden_mk, tden_cat, tden_sub, tden_set, tden_setf, tden_rep, tden_sget, tden_ssub, tden_ite, tden_bytes, tden_text, tden_fits, tden_nadd, tden_nsub, tden_small, intD_add, intD_sub, intD_mul, intD_quo, intD_rem, intD_eql, intD_neq, intD_lss, intD_leq, intD_gtr, intD_geq, D.int.injEq, D.bool.injEq, D.str.injEq, D.list.injEq, decide_eq_true_eq, decide_eq_false_iff_not, beq_iff_eq, hid, md]
                  rw [List.map_append]; rfl
                rw [List.map_cons, List.map_cons, List.map_cons, List.map_cons, List.map_cons, List.map_cons, List.map_cons, List.map_cons, List.map_nil, hnew]
                simp only [D.tm_den, den_int, den_bool, den_str, den_v, den_op, dens_nil, dens_cons, vals_at, List.getD_cons_succ, List.getD_cons_zero, List.getD_nil, List.map_cons, List.map_nil, Int.toNat_natCast, tden_bin, tden_shift, tden_conv, tden_not, tden_and, tden_sbin, tden_slen, tden_len, tden_nth, tden_fld, tden_mk, tden_cat, tden_sub, tden_set, tden_setf, tden_rep, tden_sget, tden_ssub, tden_ite, tden_bytes, tden_text, tden_fits, tden_nadd, tden_nsub, tden_small, intD_add, intD_sub, intD_mul, intD_quo, intD_rem, intD_eql, intD_neq, intD_lss, intD_leq, intD_gtr, intD_geq, D.int.injEq, D.bool.injEq, D.str.injEq, D.list.injEq, decide_eq_true_eq, decide_eq_false_iff_not, beq_iff_eq]
                exact tolist _ (hI.fresh hx hin)
      refine TriL.cons stays_none (Q1 := fun V' ex σ' => ex = .normal ∧ σ' = inv ∧ ∃ E' O' M', Inv own (i + 1) E' O' M' ∧ V' = V (ints ids) (.list (fnd.map .bool)) own E' O' M' i) (Tri.block (Tri.flat (by kernel_rfl) ?_)) ?_ (fun V' ex σ' hne h => absurd h.1 hne)
      · show TriL P G _ cx none 1 lb inv _
        refine TriL.mono (Q := fun V' ex σ' => ex = .normal ∧ σ' = inv ∧ ∃ E' O' M', Inv own (i + 1) E' O' M' ∧ V' = V (ints ids) (.list (fnd.map .bool)) own E' O' M' i) ?_ (by rintro V' ex σ' ⟨rfl, h⟩; exact ⟨rfl, h⟩)
        by_cases hfl : i < fnd.length
        · have hfn : (fnd.map D.bool).getD i .bad = .bool fnd[i] := by simp [List.getD_eq_getElem?_getD, hfl]
          generalize fnd[i] = f at hfn
          refine TriL.go 1 (envAt _) hg stays_none (tb := [fl f, ge1 false, le0, lt0 true, lt1]) ⟨?_, ?_, hle0, by simp only [lt0]; rw [hlt0]; simp [hlt], ?_, trivial⟩ (by show 1 ≤ 4; omega) (kM1 f) ?_
          · simp only [fl]; simp only [D.tm_den, den_int, den_bool, den_str, den_v, den_op, dens_nil, dens_cons, vals_at, List.getD_cons_succ, List.getD_cons_zero, List.getD_nil, List.map_cons, List.map_nil, Int.toNat_natCast, tden_bin, tden_shift, tden_conv, tden_not, tden_and, tden_sbin, tden_slen, tden_len, tden_nth, tden_fld, tden_mk, tden_cat, tden_sub, tden_set, tden_setf, tden_rep, tden_sget, tden_ssub, tden_ite, tden_bytes, tden_text, tden_fits, tden_nadd, tden_nsub, tden_small, intD_add, intD_sub, intD_mul, intD_quo, intD_rem, intD_eql, intD_neq, intD_lss, intD_leq, intD_gtr, intD_geq, D.int.injEq, D.bool.injEq, D.str.injEq, D.list.injEq, decide_eq_true_eq, decide_eq_false_iff_not, beq_iff_eq, hfn]
          · simp only [ge1]; simp only [D.tm_den, den_int, den_bool, den_str, den_v, den_op, dens_nil, dens_cons, vals_at, List.getD_cons_succ, List.getD_cons_zero, List.getD_nil, List.map_cons, List.map_nil, Int.toNat_natCast, tden_bin, tden_shift, tden_conv, tden_not, tden_and, tden_sbin, tden_slen, tden_len, tden_nth, tden_fld, tden_mk, tden_cat, tden_sub, tden_set, tden_setf, tden_rep, tden_sget, tden_ssub, tden_ite, tden_bytes, tden_text, tden_fits, tden_nadd, tden_nsub, tden_small, intD_add, intD_sub, intD_mul, intD_quo, intD_rem, intD_eql, intD_neq, intD_lss, intD_leq, intD_gtr, intD_geq, D.int.injEq, D.bool.injEq, D.str.injEq, D.list.injEq, decide_eq_true_eq, decide_eq_false_iff_not, beq_iff_eq, List.length_map]; simp; omega
          · simp only [lt1]; simp only [D.tm_den, den_int, den_bool, den_str, den_v, den_op, dens_nil, dens_cons, vals_at, List.getD_cons_succ, List.getD_cons_zero, List.getD_nil, List.map_cons, List.map_nil, Int.toNat_natCast, tden_bin, tden_shift, tden_conv, tden_not, tden_and, tden_sbin, tden_slen, tden_len, tden_nth, tden_fld, tden_mk, tden_cat, tden_sub, tden_set, tden_setf, tden_rep, tden_sget, tden_ssub, tden_ite, tden_bytes, tden_text, tden_fits, tden_nadd, tden_nsub, tden_small, intD_add, intD_sub, intD_mul, intD_quo, intD_rem, intD_eql, intD_neq, intD_lss, intD_leq, intD_gtr, intD_geq, D.int.injEq, D.bool.injEq, D.str.injEq, D.list.injEq, decide_eq_true_eq, decide_eq_false_iff_not, beq_iff_eq, List.length_map]; omega
          · simp only [toMid, seven, idT, List.cons_append, List.nil_append]
            simp only [D.tm_den, den_int, den_bool, den_str, den_v, den_op, dens_nil, dens_cons, vals_at, List.getD_cons_succ, List.getD_cons_zero, List.getD_nil, List.map_cons, List.map_nil, Int.toNat_natCast, tden_bin, tden_shift, tden_conv, tden_not, tden_and, tden_sbin, tden_slen, tden_len, tden_nth, tden_fld, tden_mk, tden_cat, tden_sub, tden_set, tden_setf, tden_rep, tden_sget, tden_ssub, tden_ite, tden_bytes, tden_text, tden_fits, tden_nadd, tden_nsub, tden_small, intD_add, intD_sub, intD_mul, intD_quo, intD_rem, intD_eql, intD_neq, intD_lss, intD_leq, intD_gtr, intD_geq, D.int.injEq, D.bool.injEq, D.str.injEq, D.list.injEq, decide_eq_true_eq, decide_eq_false_iff_not, beq_iff_eq, ints, hnth]
            exact from_mid f
        · refine TriL.go 1 (envAt _) hg stays_none (tb := [ge1 true, le0, lt0 true]) ⟨?_, hle0, by simp only [lt0]; rw [hlt0]; simp [hlt], trivial⟩ (by show 1 ≤ 4; omega) kM0 ?_
          · simp only [ge1]; simp only [D.tm_den, den_int, den_bool, den_str, den_v, den_op, dens_nil, dens_cons, vals_at, List.getD_cons_succ, List.getD_cons_zero, List.getD_nil, List.map_cons, List.map_nil, Int.toNat_natCast, tden_bin, tden_shift, tden_conv, tden_not, tden_and, tden_sbin, tden_slen, tden_len, tden_nth, tden_fld, tden_mk, tden_cat, tden_sub, tden_set, tden_setf, tden_rep, tden_sget, tden_ssub, tden_ite, tden_bytes, tden_text, tden_fits, tden_nadd, tden_nsub, tden_small, intD_add, intD_sub, intD_mul, intD_quo, intD_rem, intD_eql, intD_neq, intD_lss, intD_leq, intD_gtr, intD_geq, D.int.injEq, D.bool.injEq, D.str.injEq, D.list.injEq, decide_eq_true_eq, decide_eq_false_iff_not, beq_iff_eq, List.length_map]; simp; omega
          · simp only [toMid, seven, idT, List.cons_append, List.nil_append]
            simp only [D.tm_den, den_int, den_bool, den_str, den_v, den_op, dens_nil, dens_cons, vals_at, List.getD_cons_succ, List.getD_cons_zero, List.getD_nil, List.map_cons, List.map_nil, Int.toNat_natCast, tden_bin, tden_shift, tden_conv, tden_not, tden_and, tden_sbin, tden_slen, tden_len, tden_nth, tden_fld, tden_mk, tden_cat, tden_sub, tden_set, tden_setf, tden_rep, tden_sget, tden_ssub, tden_ite, tden_bytes, tden_text, tden_fits, tden_nadd, tden_nsub, tden_small, intD_add, intD_sub, intD_mul, intD_quo, intD_rem, intD_eql, intD_neq, intD_lss, intD_leq, intD_gtr, intD_geq, D.int.injEq, D.bool.injEq, D.str.injEq, D.list.injEq, decide_eq_true_eq, decide_eq_false_iff_not, beq_iff_eq, ints, hnth]
            exact from_mid true
      · rintro V' σ' ⟨-, rfl, E', O', M', hI', rfl⟩
        have hI3 := hI'.le
        refine TriL.fin (envAt _) hg (tb := []) trivial (by show 1 ≤ 4; omega) kI (.inl ⟨rfl, rfl, (i + 1, E', O', M'), ?_, hI', by show 30 - (i + 1) < 30 - i; omega⟩)
        simp only [D.tm_den, den_int, den_bool, den_str, den_v, den_op, dens_nil, dens_cons, vals_at, List.getD_cons_succ, List.getD_cons_zero, List.getD_nil, List.map_cons, List.map_nil, Int.toNat_natCast, tden_bin, tden_shift, tden_conv, tden_not, tden_and, tden_sbin, tden_slen, tden_len, tden_nth, tden_fld, tden_mk, tden_cat, tden_sub, tden_set, tden_setf, tden_rep, tden_sget, tden_ssub, tden_ite, tden_bytes, tden_text, tden_fits, tden_nadd, tden_nsub, tden_small, intD_add, intD_sub, intD_mul, intD_quo, intD_rem, intD_eql, intD_neq, intD_lss, intD_leq, intD_gtr, intD_geq, D.int.injEq, D.bool.injEq, D.str.injEq, D.list.injEq, decide_eq_true_eq, decide_eq_false_iff_not, beq_iff_eq]
        rw [show IntKind.i64.wrap ((i : Int) + 1) = ((i + 1 : Nat) : Int) from by rw [wrap_i64 (by omega)]; simp]
    · refine TriL.fin (envAt _) hg (tb := [lt0 true, lt30 false]) ⟨by simp only [lt0]; rw [hlt0]; simp [hlt], by simp only [lt30]; rw [hlt30]; simp [h30], trivial⟩ (by show 1 ≤ 4; omega) kH1 (.inr ⟨by simp, rfl, rfl, E, O, M, i, hI, ?_⟩)
      simp only [seven]; simp only [D.tm_den, den_int, den_bool, den_str, den_v, den_op, dens_nil, dens_cons, vals_at, List.getD_cons_succ, List.getD_cons_zero, List.getD_nil, List.map_cons, List.map_nil, Int.toNat_natCast, tden_bin, tden_shift, tden_conv, tden_not, tden_and, tden_sbin, tden_slen, tden_len, tden_nth, tden_fld, tden_mk, tden_cat, tden_sub, tden_set, tden_setf, tden_rep, tden_sget, tden_ssub, tden_ite, tden_bytes, tden_text, tden_fits, tden_nadd, tden_nsub, tden_small, intD_add, intD_sub, intD_mul, intD_quo, intD_rem, intD_eql, intD_neq, intD_lss, intD_leq, intD_gtr, intD_geq, D.int.injEq, D.bool.injEq, D.str.injEq, D.list.injEq, decide_eq_true_eq, decide_eq_false_iff_not, beq_iff_eq]
  · refine TriL.fin (envAt _) hg (tb := [lt0 false]) ⟨by simp only [lt0]; rw [hlt0]; simp [hlt], trivial⟩ (by show 1 ≤ 4; omega) kH2 (.inr ⟨by simp, rfl, rfl, E, O, M, i, hI, ?_⟩)
    simp only [seven]; simp only [D.tm_den, den_int, den_bool, den_str, den_v, den_op, dens_nil, dens_cons, vals_at, List.getD_cons_succ, List.getD_cons_zero, List.getD_nil, List.map_cons, List.map_nil, Int.toNat_natCast, tden_bin, tden_shift, tden_conv, tden_not, tden_and, tden_sbin, tden_slen, tden_len, tden_nth, tden_fld, tden_mk, tden_cat, tden_sub, tden_set, tden_setf, tden_rep, tden_sget, tden_ssub, tden_ite, tden_bytes, tden_text, tden_fits, tden_nadd, tden_nsub, tden_small, intD_add, intD_sub, intD_mul, intD_quo, intD_rem, intD_eql, intD_neq, intD_lss, intD_leq, intD_gtr, intD_geq, D.int.injEq, D.bool.injEq, D.str.injEq, D.list.injEq, decide_eq_true_eq, decide_eq_false_iff_not, beq_iff_eq]

def Fin (V0 : Val) (V' : Val) (ex : AExit) (σ' : St) : Prop := V' = V0 ∧ ex = .ret ∧ σ' = fin

theorem tail (d0 d1 : D) (own : Int) (E O : List (Int × Bool)) (M : List (Int × Int)) (i : Nat) (hI : Inv own i E O M) (A B C : Tm) (V0 : Val) (hV : ∀ V : Val, V.code = codeAt P → valsC V.code ([A, B, C].map (@Tm.den V)) = V0) :
    TriL P G (V d0 d1 own E O M i) cx none 1 (L.drop 7) laid (Fin V0) := by
  have hg : cx.glob = G := by kernel_rfl
  obtain ⟨hm, hlen⟩ := hI.same
  have hle := hI.le
  have hEO := hI.len
  have hu := us.ok own E O (by omega) (by omega)
  unfold us.V0 at hu
  have hcl := cmp_len (outs own (E ++ O))
  have hol := us.outs_len own (E ++ O)
  have hrl := rowOf_len (outs own (E ++ O))
  have hrow : ∀ j (h : j < (cmp (outs own (E ++ O))).length), ((rowOf (outs own (E ++ O))).map D.int).getD j .bad = .int ((cmp (outs own (E ++ O)))[j]) := by
    intro j h
    rw [ints_nth _ j (by omega)]
    congr 1
    unfold rowOf
    rw [List.getElem_append_left h]
  have hlt := List.pairwise_iff_getElem.1 (cmp_lt (outs own (E ++ O)))
  rw [List.length_append] at hol
  generalize cmp (outs own (E ++ O)) = R at *
  generalize rowOf (outs own (E ++ O)) = Z at *
  generalize outs own (E ++ O) = o at *
  refine TriL.go 0 (envAt _) hg stays_none (tb := []) trivial (by show 1 ≤ 2; omega) (kG0 (.int (R.length : Int)) (ints Z).tm) ?_
  simp only [seven, List.cons_append, List.nil_append]
  simp only [D.tm_den, den_int, den_bool, den_str, den_v, den_op, dens_nil, dens_cons, vals_at, List.getD_cons_succ, List.getD_cons_zero, List.getD_nil, List.map_cons, List.map_nil, Int.toNat_natCast, tden_bin, tden_shift, tden_conv, tden_not, tden_and, tden_sbin, tden_slen, tden_len, tden_nth, tden_fld, tden_mk, tden_cat, tden_sub, tden_set, tden_setf, tden_rep, tden_sget, tden_ssub, tden_ite, tden_bytes, tden_text, tden_fits, tden_nadd, tden_nsub, tden_small, intD_add, intD_sub, intD_mul, intD_quo, intD_rem, intD_eql, intD_neq, intD_lss, intD_leq, intD_gtr, intD_geq, D.int.injEq, D.bool.injEq, D.str.injEq, D.list.injEq, decide_eq_true_eq, decide_eq_false_iff_not, beq_iff_eq]
  have hE : @EnvOk (vals [d0, d1, .int own, bs E, bs O, md M, .int i, .int (R.length : Nat), ints Z]) P G (E0.know [yu]) := @EnvOk.know (vals _) P G _ (envAt _) [yu] fun z hz => by
    simp only [List.mem_singleton] at hz
    subst hz
    refine Fact.use (tb := []) (ts := [.v 2, .v 3, .v 4, .v 7, .v 8]) (l := [(5, 2)]) trivial ?_ hu useU
    simp only [D.tm_den, den_int, den_bool, den_str, den_v, den_op, dens_nil, dens_cons, vals_at, List.getD_cons_succ, List.getD_cons_zero, List.getD_nil, List.map_cons, List.map_nil, Int.toNat_natCast, tden_bin, tden_shift, tden_conv, tden_not, tden_and, tden_sbin, tden_slen, tden_len, tden_nth, tden_fld, tden_mk, tden_cat, tden_sub, tden_set, tden_setf, tden_rep, tden_sget, tden_ssub, tden_ite, tden_bytes, tden_text, tden_fits, tden_nadd, tden_nsub, tden_small, intD_add, intD_sub, intD_mul, intD_quo, intD_rem, intD_eql, intD_neq, intD_lss, intD_leq, intD_gtr, intD_geq, D.int.injEq, D.bool.injEq, D.str.injEq, D.list.injEq, decide_eq_true_eq, decide_eq_false_iff_not, beq_iff_eq]
  refine TriL.go 2 hE hg stays_none (tb := []) trivial (by show 1 ≤ 2; omega) kG ?_
  simp only [nine, List.cons_append, List.nil_append]
  simp only [D.tm_den, den_int, den_bool, den_str, den_v, den_op, dens_nil, dens_cons, vals_at, List.getD_cons_succ, List.getD_cons_zero, List.getD_nil, List.map_cons, List.map_nil, Int.toNat_natCast, tden_bin, tden_shift, tden_conv, tden_not, tden_and, tden_sbin, tden_slen, tden_len, tden_nth, tden_fld, tden_mk, tden_cat, tden_sub, tden_set, tden_setf, tden_rep, tden_sget, tden_ssub, tden_ite, tden_bytes, tden_text, tden_fits, tden_nadd, tden_nsub, tden_small, intD_add, intD_sub, intD_mul, intD_quo, intD_rem, intD_eql, intD_neq, intD_lss, intD_leq, intD_gtr, intD_geq, D.int.injEq, D.bool.injEq, D.str.injEq, D.list.injEq, decide_eq_true_eq, decide_eq_false_iff_not, beq_iff_eq]
  rw [at9]
  refine TriL.cons stays_none (Q1 := fun V' ex σ' => ex = .normal ∧ σ' = last ∧ ∃ j : Nat, V' = vals [d0, d1, .int own, bs E, bs O, md M, .int i, .int (R.length : Nat), ints Z, .int (j : Nat)]) (Tri.block ?_) ?_ (fun V' ex σ' hne h => absurd h.1 hne)
  · refine Tri.loop (α := Nat) (fun j => j ≤ R.length) (fun j => R.length - j) (fun j => vals [d0, d1, .int own, bs E, bs O, md M, .int i, .int (R.length : Nat), ints Z, .int (j : Nat)]) stays_none ?_ 0 (Nat.zero_le _)
    intro j hj
    refine Tri.flat (by kernel_rfl) ?_
    show TriL P G _ cx none 1 lp2 last _
    have hltJ : @Tm.den (vals [d0, d1, .int own, bs E, bs O, md M, .int i, .int (R.length : Nat), ints Z, .int (j : Nat)]) (.op (.bin .lss .i64) [.v 9, .v 7]) = .bool (decide (j < R.length)) := by
      simp only [D.tm_den, den_int, den_bool, den_str, den_v, den_op, dens_nil, dens_cons, vals_at, List.getD_cons_succ, List.getD_cons_zero, List.getD_nil, List.map_cons, List.map_nil, Int.toNat_natCast, tden_bin, tden_shift, tden_conv, tden_not, tden_and, tden_sbin, tden_slen, tden_len, tden_nth, tden_fld, tden_mk, tden_cat, tden_sub, tden_set, tden_setf, tden_rep, tden_sget, tden_ssub, tden_ite, tden_bytes, tden_text, tden_fits, tden_nadd, tden_nsub, tden_small, intD_add, intD_sub, intD_mul, intD_quo, intD_rem, intD_eql, intD_neq, intD_lss, intD_leq, intD_gtr, intD_geq, D.int.injEq, D.bool.injEq, D.str.injEq, D.list.injEq, decide_eq_true_eq, decide_eq_false_iff_not, beq_iff_eq]; rw [Bool.eq_iff_iff]; simp
    by_cases hjl : j < R.length
    · refine TriL.go 2 (envAt _) hg stays_none (tb := [ltJ true]) ⟨by simp only [ltJ]; rw [hltJ]; simp [hjl], trivial⟩ (by show 1 ≤ 3; omega) kJ0 ?_
      simp only [ten, nine, List.cons_append, List.nil_append]
      simp only [D.tm_den, den_int, den_bool, den_str, den_v, den_op, dens_nil, dens_cons, vals_at, List.getD_cons_succ, List.getD_cons_zero, List.getD_nil, List.map_cons, List.map_nil, Int.toNat_natCast, tden_bin, tden_shift, tden_conv, tden_not, tden_and, tden_sbin, tden_slen, tden_len, tden_nth, tden_fld, tden_mk, tden_cat, tden_sub, tden_set, tden_setf, tden_rep, tden_sget, tden_ssub, tden_ite, tden_bytes, tden_text, tden_fits, tden_nadd, tden_nsub, tden_small, intD_add, intD_sub, intD_mul, intD_quo, intD_rem, intD_eql, intD_neq, intD_lss, intD_leq, intD_gtr, intD_geq, D.int.injEq, D.bool.injEq, D.str.injEq, D.list.injEq, decide_eq_true_eq, decide_eq_false_iff_not, beq_iff_eq]
      rw [lq_at]
      have hin : R[j] ∈ keys M := (hm _).1 (List.getElem_mem hjl)
      obtain ⟨q, hq1, hq2, hq3⟩ := key_some R[j] M 0 hin
      rw [Nat.zero_add] at hq1
      have hpq := hI.pos M[q] (List.getElem_mem hq2)
      have hnq : (M.map pr).getD q .bad = pr M[q] := by simp [List.getD_eq_getElem?_getD, hq2]
      have hmg : @Tm.den (vals [d0, d1, .int own, bs E, bs O, md M, .int i, .int (R.length : Nat), ints Z, .int (j : Nat)]) mg = .int (q : Int) := by
        simp only [mg]; simp only [D.tm_den, den_int, den_bool, den_str, den_v, den_op, dens_nil, dens_cons, vals_at, List.getD_cons_succ, List.getD_cons_zero, List.getD_nil, List.map_cons, List.map_nil, Int.toNat_natCast, tden_bin, tden_shift, tden_conv, tden_not, tden_and, tden_sbin, tden_slen, tden_len, tden_nth, tden_fld, tden_mk, tden_cat, tden_sub, tden_set, tden_setf, tden_rep, tden_sget, tden_ssub, tden_ite, tden_bytes, tden_text, tden_fits, tden_nadd, tden_nsub, tden_small, intD_add, intD_sub, intD_mul, intD_quo, intD_rem, intD_eql, intD_neq, intD_lss, intD_leq, intD_gtr, intD_geq, D.int.injEq, D.bool.injEq, D.str.injEq, D.list.injEq, decide_eq_true_eq, decide_eq_false_iff_not, beq_iff_eq, ints, hrow j hjl, md, tden_mfind, hq1]
      have tK_ok : @AllEq (vals [d0, d1, .int own, bs E, bs O, md M, .int i, .int (R.length : Nat), ints Z, .int (j : Nat)]) tK := by
        refine ⟨?_, ?_, ?_, ?_, ?_, trivial⟩
        · simp only [D.tm_den, den_int, den_bool, den_str, den_v, den_op, dens_nil, dens_cons, vals_at, List.getD_cons_succ, List.getD_cons_zero, List.getD_nil, List.map_cons, List.map_nil, Int.toNat_natCast, tden_bin, tden_shift, tden_conv, tden_not, tden_and, tden_sbin, tden_slen, tden_len, tden_nth, tden_fld, tden_mk, tden_cat, tden_sub, tden_set, tden_setf, tden_rep, tden_sget, tden_ssub, tden_ite, tden_bytes, tden_text, tden_fits, tden_nadd, tden_nsub, tden_small, intD_add, intD_sub, intD_mul, intD_quo, intD_rem, intD_eql, intD_neq, intD_lss, intD_leq, intD_gtr, intD_geq, D.int.injEq, D.bool.injEq, D.str.injEq, D.list.injEq, decide_eq_true_eq, decide_eq_false_iff_not, beq_iff_eq, hmg]; omega
        · simp only [D.tm_den, den_int, den_bool, den_str, den_v, den_op, dens_nil, dens_cons, vals_at, List.getD_cons_succ, List.getD_cons_zero, List.getD_nil, List.map_cons, List.map_nil, Int.toNat_natCast, tden_bin, tden_shift, tden_conv, tden_not, tden_and, tden_sbin, tden_slen, tden_len, tden_nth, tden_fld, tden_mk, tden_cat, tden_sub, tden_set, tden_setf, tden_rep, tden_sget, tden_ssub, tden_ite, tden_bytes, tden_text, tden_fits, tden_nadd, tden_nsub, tden_small, intD_add, intD_sub, intD_mul, intD_quo, intD_rem, intD_eql, intD_neq, intD_lss, intD_leq, intD_gtr, intD_geq, D.int.injEq, D.bool.injEq, D.str.injEq, D.list.injEq, decide_eq_true_eq, decide_eq_false_iff_not, beq_iff_eq]; omega
        · simp only [ltJ]; rw [hltJ]; simp [hjl]
        · simp only [D.tm_den, den_int, den_bool, den_str, den_v, den_op, dens_nil, dens_cons, vals_at, List.getD_cons_succ, List.getD_cons_zero, List.getD_nil, List.map_cons, List.map_nil, Int.toNat_natCast, tden_bin, tden_shift, tden_conv, tden_not, tden_and, tden_sbin, tden_slen, tden_len, tden_nth, tden_fld, tden_mk, tden_cat, tden_sub, tden_set, tden_setf, tden_rep, tden_sget, tden_ssub, tden_ite, tden_bytes, tden_text, tden_fits, tden_nadd, tden_nsub, tden_small, intD_add, intD_sub, intD_mul, intD_quo, intD_rem, intD_eql, intD_neq, intD_lss, intD_leq, intD_gtr, intD_geq, D.int.injEq, D.bool.injEq, D.str.injEq, D.list.injEq, decide_eq_true_eq, decide_eq_false_iff_not, beq_iff_eq, ints, ints_len]; omega
        · simp only [D.tm_den, den_int, den_bool, den_str, den_v, den_op, dens_nil, dens_cons, vals_at, List.getD_cons_succ, List.getD_cons_zero, List.getD_nil, List.map_cons, List.map_nil, Int.toNat_natCast, tden_bin, tden_shift, tden_conv, tden_not, tden_and, tden_sbin, tden_slen, tden_len, tden_nth, tden_fld, tden_mk, tden_cat, tden_sub, tden_set, tden_setf, tden_rep, tden_sget, tden_ssub, tden_ite, tden_bytes, tden_text, tden_fits, tden_nadd, tden_nsub, tden_small, intD_add, intD_sub, intD_mul, intD_quo, intD_rem, intD_eql, intD_neq, intD_lss, intD_leq, intD_gtr, intD_geq, D.int.injEq, D.bool.injEq, D.str.injEq, D.list.injEq, decide_eq_true_eq, decide_eq_false_iff_not, beq_iff_eq, hmg, md, hnq, pr]; simp; omega
      have hgt : @Tm.den (vals [d0, d1, .int own, bs E, bs O, md M, .int i, .int (R.length : Nat), ints Z, .int (j : Nat)]) (.op (.bin .gtr .i64) [.v 9, .int 0]) = .bool (decide (0 < j)) := by
        simp only [D.tm_den, den_int, den_bool, den_str, den_v, den_op, dens_nil, dens_cons, vals_at, List.getD_cons_succ, List.getD_cons_zero, List.getD_nil, List.map_cons, List.map_nil, Int.toNat_natCast, tden_bin, tden_shift, tden_conv, tden_not, tden_and, tden_sbin, tden_slen, tden_len, tden_nth, tden_fld, tden_mk, tden_cat, tden_sub, tden_set, tden_setf, tden_rep, tden_sget, tden_ssub, tden_ite, tden_bytes, tden_text, tden_fits, tden_nadd, tden_nsub, tden_small, intD_add, intD_sub, intD_mul, intD_quo, intD_rem, intD_eql, intD_neq, intD_lss, intD_leq, intD_gtr, intD_geq, D.int.injEq, D.bool.injEq, D.str.injEq, D.list.injEq, decide_eq_true_eq, decide_eq_false_iff_not, beq_iff_eq, gt_iff_lt]; rw [Bool.eq_iff_iff]; simp
      refine TriL.cons stays_none (Q1 := fun V' ex σ' => ex = .normal ∧ σ' = last ∧ V' = vals [d0, d1, .int own, bs E, bs O, md M, .int i, .int (R.length : Nat), ints Z, .int (j : Nat)]) (Tri.block (Tri.flat (by kernel_rfl) ?_)) ?_ (fun V' ex σ' hne h => absurd h.1 hne)
      · show TriL P G _ cx none 1 lb2 last _
        by_cases h0 : 0 < j
        · have hpre : @Tm.den (vals [d0, d1, .int own, bs E, bs O, md M, .int i, .int (R.length : Nat), ints Z, .int (j : Nat)]) pre = .int ((j - 1 : Nat) : Int) := by
            simp only [pre]; simp only [D.tm_den, den_int, den_bool, den_str, den_v, den_op, dens_nil, dens_cons, vals_at, List.getD_cons_succ, List.getD_cons_zero, List.getD_nil, List.map_cons, List.map_nil, Int.toNat_natCast, tden_bin, tden_shift, tden_conv, tden_not, tden_and, tden_sbin, tden_slen, tden_len, tden_nth, tden_fld, tden_mk, tden_cat, tden_sub, tden_set, tden_setf, tden_rep, tden_sget, tden_ssub, tden_ite, tden_bytes, tden_text, tden_fits, tden_nadd, tden_nsub, tden_small, intD_add, intD_sub, intD_mul, intD_quo, intD_rem, intD_eql, intD_neq, intD_lss, intD_leq, intD_gtr, intD_geq, D.int.injEq, D.bool.injEq, D.str.injEq, D.list.injEq, decide_eq_true_eq, decide_eq_false_iff_not, beq_iff_eq]; rw [wrap_i64 (by omega)]; omega
          have hlt2 := hlt (j - 1) j (by omega) hjl (by omega)
          refine TriL.fin (envAt _) hg (tb := tK2 ++ tK) ⟨by simp only [gtJ]; rw [hgt]; simp [h0], ?_, ?_, ?_, ?_, tK_ok⟩ (by show 1 ≤ 3; omega) kK2 ⟨rfl, rfl, ?_⟩
          · simp only [D.tm_den, den_int, den_bool, den_str, den_v, den_op, dens_nil, dens_cons, vals_at, List.getD_cons_succ, List.getD_cons_zero, List.getD_nil, List.map_cons, List.map_nil, Int.toNat_natCast, tden_bin, tden_shift, tden_conv, tden_not, tden_and, tden_sbin, tden_slen, tden_len, tden_nth, tden_fld, tden_mk, tden_cat, tden_sub, tden_set, tden_setf, tden_rep, tden_sget, tden_ssub, tden_ite, tden_bytes, tden_text, tden_fits, tden_nadd, tden_nsub, tden_small, intD_add, intD_sub, intD_mul, intD_quo, intD_rem, intD_eql, intD_neq, intD_lss, intD_leq, intD_gtr, intD_geq, D.int.injEq, D.bool.injEq, D.str.injEq, D.list.injEq, decide_eq_true_eq, decide_eq_false_iff_not, beq_iff_eq, hpre]; omega
          · simp only [D.tm_den, den_int, den_bool, den_str, den_v, den_op, dens_nil, dens_cons, vals_at, List.getD_cons_succ, List.getD_cons_zero, List.getD_nil, List.map_cons, List.map_nil, Int.toNat_natCast, tden_bin, tden_shift, tden_conv, tden_not, tden_and, tden_sbin, tden_slen, tden_len, tden_nth, tden_fld, tden_mk, tden_cat, tden_sub, tden_set, tden_setf, tden_rep, tden_sget, tden_ssub, tden_ite, tden_bytes, tden_text, tden_fits, tden_nadd, tden_nsub, tden_small, intD_add, intD_sub, intD_mul, intD_quo, intD_rem, intD_eql, intD_neq, intD_lss, intD_leq, intD_gtr, intD_geq, D.int.injEq, D.bool.injEq, D.str.injEq, D.list.injEq, decide_eq_true_eq, decide_eq_false_iff_not, beq_iff_eq, hpre]; omega
          · simp only [D.tm_den, den_int, den_bool, den_str, den_v, den_op, dens_nil, dens_cons, vals_at, List.getD_cons_succ, List.getD_cons_zero, List.getD_nil, List.map_cons, List.map_nil, Int.toNat_natCast, tden_bin, tden_shift, tden_conv, tden_not, tden_and, tden_sbin, tden_slen, tden_len, tden_nth, tden_fld, tden_mk, tden_cat, tden_sub, tden_set, tden_setf, tden_rep, tden_sget, tden_ssub, tden_ite, tden_bytes, tden_text, tden_fits, tden_nadd, tden_nsub, tden_small, intD_add, intD_sub, intD_mul, intD_quo, intD_rem, intD_eql, intD_neq, intD_lss, intD_leq, intD_gtr, intD_geq, D.int.injEq, D.bool.injEq, D.str.injEq, D.list.injEq, decide_eq_true_eq, decide_eq_false_iff_not, beq_iff_eq, hpre, ints, ints_len]; omega
          · simp only [D.tm_den, den_int, den_bool, den_str, den_v, den_op, dens_nil, dens_cons, vals_at, List.getD_cons_succ, List.getD_cons_zero, List.getD_nil, List.map_cons, List.map_nil, Int.toNat_natCast, tden_bin, tden_shift, tden_conv, tden_not, tden_and, tden_sbin, tden_slen, tden_len, tden_nth, tden_fld, tden_mk, tden_cat, tden_sub, tden_set, tden_setf, tden_rep, tden_sget, tden_ssub, tden_ite, tden_bytes, tden_text, tden_fits, tden_nadd, tden_nsub, tden_small, intD_add, intD_sub, intD_mul, intD_quo, intD_rem, intD_eql, intD_neq, intD_lss, intD_leq, intD_gtr, intD_geq, D.int.injEq, D.bool.injEq, D.str.injEq, D.list.injEq, decide_eq_true_eq, decide_eq_false_iff_not, beq_iff_eq, hpre, ints, hrow j hjl, hrow (j - 1) (by omega)]; simp; omega
          · simp only [ten, nine, List.cons_append, List.nil_append]; simp only [D.tm_den, den_int, den_bool, den_str, den_v, den_op, dens_nil, dens_cons, vals_at, List.getD_cons_succ, List.getD_cons_zero, List.getD_nil, List.map_cons, List.map_nil, Int.toNat_natCast, tden_bin, tden_shift, tden_conv, tden_not, tden_and, tden_sbin, tden_slen, tden_len, tden_nth, tden_fld, tden_mk, tden_cat, tden_sub, tden_set, tden_setf, tden_rep, tden_sget, tden_ssub, tden_ite, tden_bytes, tden_text, tden_fits, tden_nadd, tden_nsub, tden_small, intD_add, intD_sub, intD_mul, intD_quo, intD_rem, intD_eql, intD_neq, intD_lss, intD_leq, intD_gtr, intD_geq, D.int.injEq, D.bool.injEq, D.str.injEq, D.list.injEq, decide_eq_true_eq, decide_eq_false_iff_not, beq_iff_eq]
        · refine TriL.fin (envAt _) hg (tb := gtJ false :: tK) ⟨by simp only [gtJ]; rw [hgt]; simp [h0], tK_ok⟩ (by show 1 ≤ 3; omega) kK1 ⟨rfl, rfl, ?_⟩
          simp only [ten, nine, List.cons_append, List.nil_append]; simp only [D.tm_den, den_int, den_bool, den_str, den_v, den_op, dens_nil, dens_cons, vals_at, List.getD_cons_succ, List.getD_cons_zero, List.getD_nil, List.map_cons, List.map_nil, Int.toNat_natCast, tden_bin, tden_shift, tden_conv, tden_not, tden_and, tden_sbin, tden_slen, tden_len, tden_nth, tden_fld, tden_mk, tden_cat, tden_sub, tden_set, tden_setf, tden_rep, tden_sget, tden_ssub, tden_ite, tden_bytes, tden_text, tden_fits, tden_nadd, tden_nsub, tden_small, intD_add, intD_sub, intD_mul, intD_quo, intD_rem, intD_eql, intD_neq, intD_lss, intD_leq, intD_gtr, intD_geq, D.int.injEq, D.bool.injEq, D.str.injEq, D.list.injEq, decide_eq_true_eq, decide_eq_false_iff_not, beq_iff_eq]
      · rintro V' σ' ⟨-, rfl, rfl⟩
        refine TriL.fin (envAt _) hg (tb := []) trivial (by show 1 ≤ 3; omega) kN (.inl ⟨rfl, rfl, j + 1, ?_, hjl, by omega⟩)
        simp only [nine, List.cons_append, List.nil_append]
        simp only [D.tm_den, den_int, den_bool, den_str, den_v, den_op, dens_nil, dens_cons, vals_at, List.getD_cons_succ, List.getD_cons_zero, List.getD_nil, List.map_cons, List.map_nil, Int.toNat_natCast, tden_bin, tden_shift, tden_conv, tden_not, tden_and, tden_sbin, tden_slen, tden_len, tden_nth, tden_fld, tden_mk, tden_cat, tden_sub, tden_set, tden_setf, tden_rep, tden_sget, tden_ssub, tden_ite, tden_bytes, tden_text, tden_fits, tden_nadd, tden_nsub, tden_small, intD_add, intD_sub, intD_mul, intD_quo, intD_rem, intD_eql, intD_neq, intD_lss, intD_leq, intD_gtr, intD_geq, D.int.injEq, D.bool.injEq, D.str.injEq, D.list.injEq, decide_eq_true_eq, decide_eq_false_iff_not, beq_iff_eq]
        rw [show IntKind.i64.wrap ((j : Int) + 1) = ((j + 1 : Nat) : Int) from by rw [wrap_i64 (by omega)]; simp]
    · refine TriL.fin (envAt _) hg (tb := [ltJ false]) ⟨by simp only [ltJ]; rw [hltJ]; simp [hjl], trivial⟩ (by show 1 ≤ 3; omega) kJ1 (.inr ⟨by simp, rfl, rfl, j, ?_⟩)
      simp only [ten, nine, List.cons_append, List.nil_append]; simp only [D.tm_den, den_int, den_bool, den_str, den_v, den_op, dens_nil, dens_cons, vals_at, List.getD_cons_succ, List.getD_cons_zero, List.getD_nil, List.map_cons, List.map_nil, Int.toNat_natCast, tden_bin, tden_shift, tden_conv, tden_not, tden_and, tden_sbin, tden_slen, tden_len, tden_nth, tden_fld, tden_mk, tden_cat, tden_sub, tden_set, tden_setf, tden_rep, tden_sget, tden_ssub, tden_ite, tden_bytes, tden_text, tden_fits, tden_nadd, tden_nsub, tden_small, intD_add, intD_sub, intD_mul, intD_quo, intD_rem, intD_eql, intD_neq, intD_lss, intD_leq, intD_gtr, intD_geq, D.int.injEq, D.bool.injEq, D.str.injEq, D.list.injEq, decide_eq_true_eq, decide_eq_false_iff_not, beq_iff_eq]
  · rintro V' σ' ⟨-, rfl, j, rfl⟩
    refine TriL.fin (envAt _) hg (tb := [(.op (.bin .eql .i64) [.v 7, .op .len [.v 5]], .bool true)]) ⟨?_, trivial⟩ (by show 1 ≤ 3; omega) (kZ A B C) ⟨hV _ rfl, rfl, rfl⟩
    simp only [D.tm_den, den_int, den_bool, den_str, den_v, den_op, dens_nil, dens_cons, vals_at, List.getD_cons_succ, List.getD_cons_zero, List.getD_nil, List.map_cons, List.map_nil, Int.toNat_natCast, tden_bin, tden_shift, tden_conv, tden_not, tden_and, tden_sbin, tden_slen, tden_len, tden_nth, tden_fld, tden_mk, tden_cat, tden_sub, tden_set, tden_setf, tden_rep, tden_sget, tden_ssub, tden_ite, tden_bytes, tden_text, tden_fits, tden_nadd, tden_nsub, tden_small, intD_add, intD_sub, intD_mul, intD_quo, intD_rem, intD_eql, intD_neq, intD_lss, intD_leq, intD_gtr, intD_geq, D.int.injEq, D.bool.injEq, D.str.injEq, D.list.injEq, decide_eq_true_eq, decide_eq_false_iff_not, beq_iff_eq, md, md_len, hlen]

theorem ok (hsp : ∀ V : Val, @Fact.Ok V P G spk) (ids : List Int) (fnd : List Bool) (own : Int) : @Fact.Ok (vals [ints ids, .list (fnd.map .bool), .int own]) P G x := by
  have hg : cx.glob = G := by kernel_rfl
  have le1 : (1 : Nat) ≤ 1 := Nat.le_refl 1
  refine Fact.ok_tri (fn := fn) (cd := cd) (envAt _) func body (Q := Fin (vals [ints ids, .list (fnd.map .bool), .int own])) ?tri ?hq
  case hq =>
    rintro V' ex σ' ⟨rfl, rfl, rfl⟩
    exact ⟨rfl, .inr rfl, by kernel_rfl⟩
  refine Tri.flat (by kernel_rfl) ?_
  show TriL P G _ cx none 1 L _ _
  have hE0 : @EnvOk (vals [ints ids, .list (fnd.map .bool), .int own]) P G (E0.know [spk]) := @EnvOk.know (vals _) P G _ (envAt _) [spk] fun z hz => by
    simp only [List.mem_singleton] at hz
    subst hz
    exact hsp _
  refine TriL.go 6 hE0 hg stays_none (tb := []) trivial le1 kA ?_
  simp only [D.tm_den, den_int, den_bool, den_str, den_v, den_op, dens_nil, dens_cons, vals_at, List.getD_cons_succ, List.getD_cons_zero, List.getD_nil, List.map_cons, List.map_nil, Int.toNat_natCast, tden_bin, tden_shift, tden_conv, tden_not, tden_and, tden_sbin, tden_slen, tden_len, tden_nth, tden_fld, tden_mk, tden_cat, tden_sub, tden_set, tden_setf, tden_rep, tden_sget, tden_ssub, tden_ite, tden_bytes, tden_text, tden_fits, tden_nadd, tden_nsub, tden_small, intD_add, intD_sub, intD_mul, intD_quo, intD_rem, intD_eql, intD_neq, intD_lss, intD_leq, intD_gtr, intD_geq, D.int.injEq, D.bool.injEq, D.str.injEq, D.list.injEq, decide_eq_true_eq, decide_eq_false_iff_not, beq_iff_eq]
  rw [at6]
  have hVf : ∀ V : Val, V.code = codeAt P → valsC V.code ([(ints ids).tm, (D.list (fnd.map D.bool)).tm, .int own].map (@Tm.den V)) = vals [ints ids, .list (fnd.map .bool), .int own] := by
    intro V hV
    rw [hV]
    simp only [D.tm_den, den_int, den_bool, den_str, den_v, den_op, dens_nil, dens_cons, vals_at, List.getD_cons_succ, List.getD_cons_zero, List.getD_nil, List.map_cons, List.map_nil, Int.toNat_natCast, tden_bin, tden_shift, tden_conv, tden_not, tden_and, tden_sbin, tden_slen, tden_len, tden_nth, tden_fld, tden_mk, tden_cat, tden_sub, tden_set, tden_setf, tden_rep, tden_sget, tden_ssub, tden_ite, tden_bytes, tden_text, tden_fits, tden_nadd, tden_nsub, tden_small, intD_add, intD_sub, intD_mul, intD_quo, intD_rem, intD_eql, intD_neq, intD_lss, intD_leq, intD_gtr, intD_geq, D.int.injEq, D.bool.injEq, D.str.injEq, D.list.injEq, decide_eq_true_eq, decide_eq_false_iff_not, beq_iff_eq]
  refine TriL.cons stays_none (Q1 := fun V' ex σ' => ex = .normal ∧ End1 (ints ids) (.list (fnd.map .bool)) own V' σ') (Tri.block ?_) ?_ (fun V' ex σ' hne h => absurd h.1 hne)
  · exact rounds ids fnd own
  · rintro V' σ' ⟨-, rfl, E, O, M, i, hI, rfl⟩
    exact tail _ _ own E O M i hI _ _ _ _ hVf
end lw
end ru
end Go.Proofs.YtjmjbjnbfodalaaGreat
