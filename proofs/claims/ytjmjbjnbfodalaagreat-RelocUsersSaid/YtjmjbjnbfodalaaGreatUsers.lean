/- reloc.Users: the numbers of the members that bound relocations name, rising, each once. No condition but the lists' length. -/
import Derived.Test.YtjmjbjnbfodalaaGreatSorts
set_option linter.unusedSimpArgs false
set_option linter.unusedVariables false
set_option linter.unusedSectionVars false
set_option maxRecDepth 100000
namespace Go.Proofs.YtjmjbjnbfodalaaGreat
open Go.Tc

/-! ### the plain law: sorted, each once -/
def srt (l : List Int) : List Int := l.mergeSort fun x y => decide (x ≤ y)
def cmp (l : List Int) : List Int := Lib.compact (srt l)
theorem srt_le (l : List Int) : (srt l).Pairwise (· ≤ ·) := by
  have := List.pairwise_mergeSort (le := fun (x y : Int) => decide (x ≤ y)) (fun a b c h1 h2 => by simp at *; omega) (fun a b => by simp; omega) l
  unfold srt
  simpa using this
theorem srt_mem (l : List Int) (x : Int) : x ∈ srt l ↔ x ∈ l := (List.mergeSort_perm l _).mem_iff
theorem srt_len (l : List Int) : (srt l).length = l.length := (List.mergeSort_perm l _).length_eq
theorem cmp_step (s : List Int) (hs : s.Pairwise (· ≤ ·)) : ∀ m, m ≤ s.length → (Lib.compactUpTo s.toArray m).Pairwise (· < ·) ∧ ∀ x, x ∈ Lib.compactUpTo s.toArray m ↔ x ∈ s.take m
  | 0, _ => by simp [Lib.compactUpTo]
  | m + 1, hm => by
    obtain ⟨h1, h2⟩ := cmp_step s hs m (by omega)
    have hp := List.pairwise_iff_getElem.1 hs
    have hml : m < s.length := by omega
    have hget : s.toArray[m]! = s[m] := by simp [hml]
    have htake : s.take (m + 1) = s.take m ++ [s[m]] := by rw [List.take_add_one, List.getElem?_eq_getElem hml]; rfl
    rw [Lib.compactUpTo_succ, htake, hget]
    by_cases hk : Lib.keeps s.toArray m = true
    · rw [if_pos hk]
      refine ⟨List.pairwise_append.2 ⟨h1, List.pairwise_singleton _ _, fun a ha b hb => ?_⟩, fun x => by rw [List.mem_append, List.mem_append, h2]⟩
      rw [List.mem_singleton] at hb
      subst hb
      rw [h2] at ha
      obtain ⟨j, hj, rfl⟩ := List.mem_iff_getElem.1 ha
      rw [List.getElem_take]
      have hjm : j < m := by rw [List.length_take] at hj; omega
      have hne : m = 0 ∨ s.toArray[m]! ≠ s.toArray[m - 1]! := by simpa [Lib.keeps] using hk
      rcases hne with h0 | hne
      · omega
      · have hg1 : s.toArray[m - 1]! = s[m - 1] := by simp [show m - 1 < s.length by omega]
        rw [hget, hg1] at hne
        have a1 : s[m - 1] ≤ s[m] := hp (m - 1) m (by omega) hml (by omega)
        have a2 : s[j] ≤ s[m - 1] := by
          by_cases e : j = m - 1
          · subst e; exact Int.le_refl _
          · exact hp j (m - 1) (by omega) (by omega) (by omega)
        omega
    · rw [if_neg hk, List.append_nil]
      refine ⟨h1, fun x => ?_⟩
      rw [h2, List.mem_append, List.mem_singleton]
      refine ⟨.inl, ?_⟩
      rintro (h | rfl)
      · exact h
      · have hne : ¬ (m = 0 ∨ s.toArray[m]! ≠ s.toArray[m - 1]!) := by simpa [Lib.keeps] using hk
        have h0 : m ≠ 0 := fun e => hne (.inl e)
        have he : s.toArray[m]! = s.toArray[m - 1]! := Classical.byContradiction fun e => hne (.inr e)
        have hg1 : s.toArray[m - 1]! = s[m - 1] := by simp [show m - 1 < s.length by omega]
        rw [hget, hg1] at he
        rw [he]
        exact List.mem_iff_getElem.2 ⟨m - 1, by rw [List.length_take]; omega, by rw [List.getElem_take]⟩
theorem cmp_lt (l : List Int) : (cmp l).Pairwise (· < ·) := (cmp_step (srt l) (srt_le l) _ (Nat.le_refl _)).1
theorem cmp_mem (l : List Int) (x : Int) : x ∈ cmp l ↔ x ∈ l := by
  have := (cmp_step (srt l) (srt_le l) _ (Nat.le_refl _)).2 x
  rw [List.take_length, srt_mem] at this
  exact this
theorem compactUpTo_len (s : List Int) : ∀ m, (Lib.compactUpTo s.toArray m).length ≤ m := by
  intro m
  unfold Lib.compactUpTo
  rw [List.length_map]
  exact Nat.le_trans (List.length_filter_le _ _) (by simp)
theorem cmp_len (l : List Int) : (cmp l).length ≤ l.length := by
  have := compactUpTo_len (srt l) (srt l).length
  rw [srt_len] at this
  unfold cmp Lib.compact
  rwa [srt_len]
theorem nodup_sub : ∀ (l m : List Int), l.Nodup → (∀ x ∈ l, x ∈ m) → l.length ≤ m.length
  | [], m, _, _ => Nat.zero_le _
  | a :: l, m, hn, hs => by
    obtain ⟨h1, h2⟩ := List.nodup_cons.1 hn
    have ha : a ∈ m := hs a (by simp)
    have := nodup_sub l (m.erase a) h2 fun x hx => (List.mem_erase_of_ne (fun (e : x = a) => h1 (e ▸ hx))).2 (hs x (by simp [hx]))
    rw [List.length_erase_of_mem ha] at this
    have := List.length_pos_of_mem ha
    simp only [List.length_cons]; omega

namespace ru
-- 0: ids; 1: found; 2: own; 3: the even ones; 4: the odd ones; 5: the pairs of the map; 6: the loop's number; 7: the id; 8: is it found?
def i64 (t : Tm) : AV := .sy (.int .i64) t
def bl (t : Tm) : AV := .sy .bool t
def kB : List CK := [.int .u64, .int .i64, .int .i64, .int .u64, .int .i64, .int .i64, .int .u64, .bool]
def isl (t : Tm) : AV := .sy (.isl [.int .i64]) t
def islb (t : Tm) : AV := .sy (.isl [.bool]) t
def islB (t : Tm) : AV := .sy (.isl kB) t
def base : List (Nat × AV) := [(0, isl (.v 0)), (1, islb (.v 1)), (2, i64 (.v 2)), (7, .lsl 2 8 (.int 0) (.op .len [.v 3]) .opn), (8, .lsl 3 8 (.int 0) (.op .len [.v 4]) .opn), (9, .map 1), (10, i64 (.v 6))]
def objs3 : List (Nat × AObj) := [(1, .lmap (.int .i64) (.int .i64) (.v 5)), (2, .lrow kB (.v 3) 33 (.buf 0 false)), (3, .lrow kB (.v 4) 33 (.buf 0 false))]
def inv : St := { vars := base, loc := [], marks := [], objs := objs3, next := 4 }
def bObj (b : Bool) : Nat × AObj := (4, .row [.int .u64 0, .int .i64 0, .int .i64 0, .int .u64 0, i64 (.v 7), .int .i64 0, .int .u64 0, .bool b] 33 .solid)
def mid (b : Bool) : St := { vars := base ++ [(11, .ptr 4 0)], loc := [], marks := [], objs := objs3 ++ [bObj b], next := 5 }
def laid : St := { vars := [(0, isl (.v 0)), (1, islb (.v 1)), (2, i64 (.v 2)), (7, islB (.v 3)), (8, islB (.v 4)), (9, .map 1)], loc := [], marks := [], objs := [(1, .lmap (.int .i64) (.int .i64) (.v 5))], next := 2 }
-- Users. 0: own; 1: evens; 2: odds; 3: how many; 4: the row; 5: all; 6: out; 7: number
def ui64 (t : Tm) : AV := .sy (.int .i64) t
def uislB (t : Tm) : AV := .sy (.isl kB) t
def xu : Fact := ⟨8, [ui64 (.v 0), .slice 5 0 2 (.exact 2)], 6, [(5, .row [uislB (.v 1), uislB (.v 2)] 25 .solid)], .lsl 6 1 (.int 0) (.v 3) .opn, [(6, .lrow [.int .i64] (.v 4) 3 (.buf 0 false))], 7⟩
def uinv : St := { vars := [(0, ui64 (.v 0)), (5, .lsl 7 1 (.int 0) (.op .len [.v 6]) .opn), (9, .lsl 6 8 (.int 0) (.op .len [.v 5]) .opn), (10, ui64 (.op .len [.v 5])), (11, ui64 (.v 7))], loc := [], marks := [], objs := [(6, .lrow kB (.v 5) 33 (.buf 0 false)), (7, .lrow [.int .i64] (.v 6) 3 (.buf 0 false))], next := 8 }
/-- behind the loop. -/
def ufin : St := { vars := [(5, .lsl 6 1 (.int 0) (.op .len [.v 6]) .opn)], loc := [], marks := [], objs := [(6, .lrow [.int .i64] (.v 6) 3 (.buf 0 false))], next := 7 }
def ufinE : St := { vars := [(5, .lsl 6 1 (.int 0) (.int 0) .opn)], loc := [], marks := [], objs := [(6, .lrow [.int .i64] (.v 6) 3 (.buf 0 false))], next := 7 }
def yso : Fact := ⟨29, [.lsl 6 1 (.int 0) (.op .len [.v 6]) .opn], 7, [(6, .lrow [.int .i64] (.v 6) 3 (.buf 0 false))], .tuple [], [(6, .lrow [.int .i64] (.v 9) 3 (.buf 0 false))], 7⟩
def yco : Fact := ⟨30, [.lsl 6 1 (.int 0) (.op .len [.v 6]) .opn], 7, [(6, .lrow [.int .i64] (.v 9) 3 (.buf 0 false))], .lsl 6 1 (.int 0) (.v 3) .opn, [(6, .lrow [.int .i64] (.v 4) 3 (.buf 0 false))], 7⟩
def uend : St := { vars := [(4, .lsl 6 1 (.int 0) (.v 3) .opn)], loc := [], marks := [], objs := [(6, .lrow [.int .i64] (.v 4) 3 (.buf 0 false))], next := 7 }
-- the law behind Users. 7: how many; 8: the row; 9: the loop's number
def yu : Fact := ⟨8, [i64 (.v 2), .slice 2 0 2 (.exact 2)], 3, [(2, .row [islB (.v 3), islB (.v 4)] 25 .solid)], .lsl 3 1 (.int 0) (.v 7) .opn, [(3, .lrow [.int .i64] (.v 8) 3 (.buf 0 false))], 4⟩
def last : St := { vars := [(9, .map 1), (12, .lsl 2 1 (.int 0) (.v 7) .opn), (13, i64 (.v 9))], loc := [], marks := [], objs := [(1, .lmap (.int .i64) (.int .i64) (.v 5)), (2, .lrow [.int .i64] (.v 8) 3 (.buf 0 false))], next := 3 }
def fin : St := { vars := [(6, .bool true)], loc := [], marks := [], objs := [], next := 1 }


/-- numbers, bound relocations, as data. -/
def ints (l : List Int) : D := .list (l.map D.int)
def bd (p : Int × Bool) : D := .list [.int 0, .int 0, .int 0, .int 0, .int p.1, .int 0, .int 0, .bool p.2]
def bs (l : List (Int × Bool)) : D := .list (l.map bd)
theorem ints_len (l : List Int) : (l.map D.int).length = l.length := List.length_map _
theorem bs_len (l : List (Int × Bool)) : (l.map bd).length = l.length := List.length_map _
theorem ints_nth (l : List Int) (k : Nat) (h : k < l.length) : (l.map D.int).getD k .bad = .int l[k] := by simp [List.getD_eq_getElem?_getD, h]
theorem bs_nth (l : List (Int × Bool)) (k : Nat) (h : k < l.length) : (l.map bd).getD k .bad = bd l[k] := by simp [List.getD_eq_getElem?_getD, h]
/-- the numbers that are told, as they come. -/
def outs (own : Int) (l : List (Int × Bool)) : List Int := (l.filter fun p => p.2 && decide (p.1 ≠ own)).map (·.1)
def rowOf (l : List Int) : List Int := cmp l ++ List.replicate (l.length - (cmp l).length) 0
theorem rowOf_len (l : List Int) : (rowOf l).length = l.length := by
  have := cmp_len l
  simp [rowOf]; omega

namespace us
noncomputable def fn : Func := Tryz.f8
noncomputable def cd : Code := match fn.body with | some c => c | none => .skip
noncomputable def cx : Ctx := cxOf P fn cd 2
noncomputable def L : List Code := flat cd
noncomputable def bd : Code := inLoop (inBlock (L.getD 3 .skip))
noncomputable def lp : List Code := flat bd
noncomputable def lb : List Code := flat (inBlock (lp.getD 2 .skip))
theorem func : P.funcs[8]? = some fn := Tryz.func8
theorem body : fn.body = some cd := by kernel_rfl
theorem at3 : L.drop 3 = .block 0 (.loop bd) :: L.drop 4 := by kernel_rfl
theorem at2 : lp.drop 2 = .block 1 (inBlock (lp.getD 2 .skip)) :: lp.drop 3 := by kernel_rfl
noncomputable def cd29 : Code := match Tryz.f29.body with | some c => c | none => .skip
theorem body29 : Tryz.f29.body = some cd29 := by kernel_rfl
noncomputable def cd30 : Code := match Tryz.f30.body with | some c => c | none => .skip
theorem body30 : Tryz.f30.body = some cd30 := by kernel_rfl
-- from the start to the loop: 5: how many there are
def l1 : Tm := .op .len [.v 1]
def l2 : Tm := .op .len [.v 2]
def zB : Tm := .op .mk [.int 0, .int 0, .int 0, .int 0, .int 0, .int 0, .int 0, .bool false]
def tS : List (Tm × Tm) := [(.op (.bin .add .i64) [.int 0, l1], l1), (.op (.bin .add .i64) [l1, l2], .v 5), (.op (.bin .sub .i64) [.v 5, .int 0], .v 5), (.op .sub [.op .rep [.v 5, zB], .int 0, .int 0], .op .mk []), (.op .sub [.v 1, .int 0, l1], .v 1), (.op .len [.op .rep [.v 5, zB]], .v 5), (.op .len [.op .cat [.v 1, .v 2]], .v 5), (.op .nadd [l1, l2], .v 5),
  (.op (.bin .lss .i64) [l1, .int 0], .bool false), (.op (.bin .lss .i64) [.v 5, .int 0], .bool false), (.op .small [l1], .bool true), (.op .small [.v 5], .bool true), (.op (.bin .leq .i64) [l1, l1], .bool true), (.op (.bin .leq .i64) [.int 0, .v 5], .bool true)]
def gtS (b : Bool) : List (Tm × Tm) := (.op (.bin .gtr .i64) [.v 5, .int 0], .bool b) :: tS
theorem kG (a : Tm) : evFl P (E0.tab []) 100000 cx none 6 (L.take 0) (startSt xu) [] (subs [.v 0, .v 1, .v 2, .v 3, .v 4, a]) [] .normal (startSt xu) = true := by kernel_rfl
def toInv : List Tm := [.v 0, .v 1, .v 2, .v 3, .v 4, .op .cat [.v 1, .v 2], .op .mk [], .int 0]
theorem kA0 : evFl P (E0.tab (gtS true)) 100000 cx none 6 ((L.drop 0).take 3) (startSt xu) [] (subs toInv) [(6, 8)] .normal uinv = true := by kernel_rfl
theorem kA1 : evFl P (E0.tab (gtS false)) 100000 cx none 6 ((L.drop 0).take 3) (startSt xu) [] (subs toInv) [(6, 7)] .normal uinv = true := by kernel_rfl
def ltS (b : Bool) : List (Tm × Tm) := [(.op (.bin .lss .i64) [.v 7, .op .len [.v 5]], .bool b)]
def eight : List Tm := [.v 0, .v 1, .v 2, .v 3, .v 4, .v 5, .v 6, .v 7]
theorem kH0 : evFl P (E0.tab (ltS true)) 100000 cx none 6 (lp.take 2) uinv [] (subs eight) [(7, 7), (6, 6)] .normal uinv = true := by kernel_rfl
theorem kH1 (a : Tm) : evFl P (E0.tab (ltS false)) 100000 cx none 6 lp uinv [] (subs (eight ++ [.int 0, a])) [(6, 7)] (.exit 0) ufin = true := by kernel_rfl
def ltE : List (Tm × Tm) := [(.op (.bin .lss .i64) [.v 7, .op .len [.v 5]], .bool false), (.op .len [.v 6], .int 0)]
theorem kH2 : evFl P (E0.tab ltE) 100000 cx none 6 lp uinv [] (subs eight) [(6, 7)] (.exit 0) ufinE = true := by kernel_rfl
def inS : List (Tm × Tm) := [(.op (.bin .leq .i64) [.int 0, .v 7], .bool true), (.op (.bin .lss .i64) [.v 7, .op .len [.v 5]], .bool true)]
def nS : Tm := .op .nth [.v 5, .v 7]
def idS : Tm := .op (.fld 4) [nS]
def flS (b : Bool) : Tm × Tm := (.op (.fld 7) [nS], .bool b)
def neS (b : Bool) : Tm × Tm := (.op (.bin .neq .i64) [idS, .v 0], .bool b)
def catS : Tm := .op .cat [.v 6, .op .mk [idS]]
theorem kB0 : evFl P (E0.tab (flS false :: inS)) 100000 cx none 6 lb uinv [] (subs eight) [(7, 7), (6, 6)] .normal uinv = true := by kernel_rfl
theorem kB1 : evFl P (E0.tab (flS true :: neS false :: inS)) 100000 cx none 6 lb uinv [] (subs eight) [(7, 7), (6, 6)] .normal uinv = true := by kernel_rfl
theorem kB2 : evFl P (E0.tab (flS true :: neS true :: (.op (.bin .leq .i64) [.op .len [.v 6], .op .len [.v 6]], .bool true) :: (.op .small [.op .nadd [.op .len [.v 6], .int 1]], .bool true) :: (.op .len [catS], .op .nadd [.op .len [.v 6], .int 1]) :: inS)) 100000 cx none 6 lb uinv [] (subs [.v 0, .v 1, .v 2, .v 3, .v 4, .v 5, catS, .v 7]) [(7, 10), (6, 6)] .normal uinv = true := by kernel_rfl
theorem kI : evFl P (E0.tab []) 100000 cx none 6 (lp.drop 3) uinv [] (subs [.v 0, .v 1, .v 2, .v 3, .v 4, .v 5, .v 6, .op (.bin .add .i64) [.v 7, .int 1]]) [(7, 7), (6, 6)] .normal uinv = true := by kernel_rfl
theorem kS : evFl P ((E0.know [yso, yco]).tab []) 100000 cx none 6 (L.drop 4) ufin [] (subs [.v 0, .v 1, .v 2, .v 3, .v 4]) [(6, 6)] .ret uend = true := by kernel_rfl
theorem kE : evFl P (E0.tab []) 100000 cx none 6 (L.drop 4) ufinE [] (subs [.v 0, .v 1, .v 2, .int 0, .v 6]) [(6, 6)] .ret uend = true := by kernel_rfl

/-- slices.Sort, slices.Compact, as facts. -/
theorem sort_ok (V : Val) (o : List Int) (h6 : V.θ 6 = ints o) (h9 : V.θ 9 = ints (srt o)) (hp : 0 < o.length) (hl : o.length ≤ 1000) : @Fact.Ok V P G yso := by
  refine @Fact.ok_row P G V E0 (envAt V) 29 6 _ _ Tryz.func29 body29 3 o (srt o) (.v 6) (.v 9) (.op .len [.v 6]) (.tuple []) (fun _ _ _ => .tuple #[]) h6 h9 ?_ (srt_len o) hp (by decide) (fun _ _ _ _ _ _ => @VR.tuple V _ _ _ (@VRs.nil V _)) ?_
  · have : @Tm.den V (.op .len [.v 6]) = TOp.den .len [V.θ 6] := rfl
    rw [this, h6]; simp only [ints, tden_len, ints_len]
  · intro blk off cap w hH hb hc
    exact Any.slices_Sort_int laysSort blk off cap o w hH hb (by omega)
theorem compact_ok (V : Val) (o : List Int) (h3 : V.θ 3 = .int ((cmp o).length : Int)) (h4 : V.θ 4 = ints (rowOf o)) (h6 : V.θ 6 = ints o) (h9 : V.θ 9 = ints (srt o)) (hp : 0 < o.length) (hl : o.length ≤ 1000) : @Fact.Ok V P G yco := by
  refine @Fact.ok_row P G V E0 (envAt V) 30 6 _ _ Tryz.func30 body30 3 (srt o) (rowOf o) (.v 9) (.v 4) (.op .len [.v 6]) (.lsl 6 1 (.int 0) (.v 3) .opn) (fun b f c => .slice (some ⟨b, f, none⟩) (cmp o).length c) h9 h4 ?_ (by rw [rowOf_len, srt_len]) (by rw [srt_len]; exact hp) (by decide) ?_ ?_
  · have : @Tm.den V (.op .len [.v 6]) = TOp.den .len [V.θ 6] := rfl
    rw [this, h6]; simp only [ints, tden_len, ints_len, srt_len]
  · intro β p c hb hc hle
    have h3' : @Tm.den V (.v 3) = .int ((cmp o).length : Int) := h3
    have := @VR.lsl V β 6 1 (.int 0) (.v 3) .opn 0 (cmp o).length c p rfl h3' hb (by simpa using hc) (by have := cmp_len o; rw [srt_len] at hle; omega)
    simpa using this
  · intro blk off cap w hH hb hc
    refine Calls.mono (Any.slices_Compact_int laysCompact blk off cap (srt o) w hH (by rw [srt_len]; omega) hc) ?_
    rintro e w' ⟨rfl, q, rfl⟩
    refine ⟨rfl, q, #[], ?_⟩
    rw [Go.Sort.grow_empty]
    unfold rowOf cmp
    rw [srt_len]

theorem outs_append (own : Int) (l : List (Int × Bool)) (p : Int × Bool) : outs own (l ++ [p]) = outs own l ++ (if p.2 && decide (p.1 ≠ own) then [p.1] else []) := by
  unfold outs
  rw [List.filter_append, List.map_append]
  congr 1
  simp only [List.filter_cons, List.filter_nil]
  cases h : (p.2 && decide (p.1 ≠ own)) <;> rfl
theorem outs_len (own : Int) (l : List (Int × Bool)) : (outs own l).length ≤ l.length := by
  unfold outs
  rw [List.length_map]
  exact List.length_filter_le _ _

noncomputable abbrev V0 (own : Int) (E O : List (Int × Bool)) : Val := vals [.int own, bs E, bs O, .int ((cmp (outs own (E ++ O))).length : Nat), ints (rowOf (outs own (E ++ O)))]

theorem ok (own : Int) (E O : List (Int × Bool)) (hE : E.length ≤ 100) (hO : O.length ≤ 100) : @Fact.Ok (V0 own E O) P G xu := by
  have hg : cx.glob = G := by kernel_rfl
  have le6 : (6 : Nat) ≤ 6 := Nat.le_refl 6
  refine Fact.ok_tri (fn := fn) (cd := cd) (envAt _) func body (Q := fun V' ex σ' => V' = V0 own E O ∧ ex = .ret ∧ σ' = uend) ?tri ?hq
  case hq =>
    rintro V' ex σ' ⟨rfl, rfl, rfl⟩
    exact ⟨rfl, .inr rfl, by kernel_rfl⟩
  refine Tri.flat (by kernel_rfl) ?_
  show TriL P G _ cx none 6 L _ _
  unfold V0
  generalize hc : (D.int ((cmp (outs own (E ++ O))).length : Nat)) = dc
  generalize hr : ints (rowOf (outs own (E ++ O))) = dr
  refine TriL.go 0 (envAt _) hg stays_none (tb := []) trivial le6 (kG (.int ((E.length + O.length : Nat) : Int))) ?_
  simp only [D.tm_den, den_int, den_bool, den_str, den_v, den_op, dens_nil, dens_cons, vals_at, List.getD_cons_succ, List.getD_cons_zero, List.getD_nil, List.map_cons, List.map_nil, Int.toNat_natCast, tden_bin, tden_shift, tden_conv, tden_not, tden_and, tden_sbin, tden_slen, tden_len, tden_nth, tden_fld, tden_mk, tden_cat, tden_sub, tden_set, tden_setf, tden_rep, tden_sget, tden_ssub, tden_ite, tden_bytes, tden_text, tden_fits, tden_nadd, tden_nsub, tden_small, intD_add, intD_sub, intD_mul, intD_quo, intD_rem, intD_eql, intD_neq, intD_lss, intD_leq, intD_gtr, intD_geq, D.int.injEq, D.bool.injEq, D.str.injEq, D.list.injEq, decide_eq_true_eq, decide_eq_false_iff_not, beq_iff_eq]
  have tS_ok : @AllEq (vals [.int own, bs E, bs O, dc, dr, .int ((E.length + O.length : Nat) : Int)]) tS := by
    refine ⟨?_, ?_, ?_, ?_, ?_, ?_, ?_, ?_, ?_, ?_, ?_, ?_, ?_, ?_, trivial⟩
    all_goals simp only [l1, l2, zB]
    · simp only [D.tm_den, den_int, den_bool, den_str, den_v, den_op, dens_nil, dens_cons, vals_at, List.getD_cons_succ, List.getD_cons_zero, List.getD_nil, List.map_cons, List.map_nil, Int.toNat_natCast, tden_bin, tden_shift, tden_conv, tden_not, tden_and, tden_sbin, tden_slen, tden_len, tden_nth, tden_fld, tden_mk, tden_cat, tden_sub, tden_set, tden_setf, tden_rep, tden_sget, tden_ssub, tden_ite, tden_bytes, tden_text, tden_fits, tden_nadd, tden_nsub, tden_small, intD_add, intD_sub, intD_mul, intD_quo, intD_rem, intD_eql, intD_neq, intD_lss, intD_leq, intD_gtr, intD_geq, D.int.injEq, D.bool.injEq, D.str.injEq, D.list.injEq, decide_eq_true_eq, decide_eq_false_iff_not, beq_iff_eq, bs, bs_len]; rw [wrap_i64 (by omega)]; omega
    · simp only [D.tm_den, den_int, den_bool, den_str, den_v, den_op, dens_nil, dens_cons, vals_at, List.getD_cons_succ, List.getD_cons_zero, List.getD_nil, List.map_cons, List.map_nil, Int.toNat_natCast, tden_bin, tden_shift, tden_conv, tden_not, tden_and, tden_sbin, tden_slen, tden_len, tden_nth, tden_fld, tden_mk, tden_cat, tden_sub, tden_set, tden_setf, tden_rep, tden_sget, tden_ssub, tden_ite, tden_bytes, tden_text, tden_fits, tden_nadd, tden_nsub, tden_small, intD_add, intD_sub, intD_mul, intD_quo, intD_rem, intD_eql, intD_neq, intD_lss, intD_leq, intD_gtr, intD_geq, D.int.injEq, D.bool.injEq, D.str.injEq, D.list.injEq, decide_eq_true_eq, decide_eq_false_iff_not, beq_iff_eq, bs, bs_len]; rw [wrap_i64 (by omega)]; omega
    · simp only [D.tm_den, den_int, den_bool, den_str, den_v, den_op, dens_nil, dens_cons, vals_at, List.getD_cons_succ, List.getD_cons_zero, List.getD_nil, List.map_cons, List.map_nil, Int.toNat_natCast, tden_bin, tden_shift, tden_conv, tden_not, tden_and, tden_sbin, tden_slen, tden_len, tden_nth, tden_fld, tden_mk, tden_cat, tden_sub, tden_set, tden_setf, tden_rep, tden_sget, tden_ssub, tden_ite, tden_bytes, tden_text, tden_fits, tden_nadd, tden_nsub, tden_small, intD_add, intD_sub, intD_mul, intD_quo, intD_rem, intD_eql, intD_neq, intD_lss, intD_leq, intD_gtr, intD_geq, D.int.injEq, D.bool.injEq, D.str.injEq, D.list.injEq, decide_eq_true_eq, decide_eq_false_iff_not, beq_iff_eq]; rw [wrap_i64 (by omega)]; omega
    · simp only [D.tm_den, den_int, den_bool, den_str, den_v, den_op, dens_nil, dens_cons, vals_at, List.getD_cons_succ, List.getD_cons_zero, List.getD_nil, List.map_cons, List.map_nil, Int.toNat_natCast, tden_bin, tden_shift, tden_conv, tden_not, tden_and, tden_sbin, tden_slen, tden_len, tden_nth, tden_fld, tden_mk, tden_cat, tden_sub, tden_set, tden_setf, tden_rep, tden_sget, tden_ssub, tden_ite, tden_bytes, tden_text, tden_fits, tden_nadd, tden_nsub, tden_small, intD_add, intD_sub, intD_mul, intD_quo, intD_rem, intD_eql, intD_neq, intD_lss, intD_leq, intD_gtr, intD_geq, D.int.injEq, D.bool.injEq, D.str.injEq, D.list.injEq, decide_eq_true_eq, decide_eq_false_iff_not, beq_iff_eq]; simp
    · simp only [D.tm_den, den_int, den_bool, den_str, den_v, den_op, dens_nil, dens_cons, vals_at, List.getD_cons_succ, List.getD_cons_zero, List.getD_nil, List.map_cons, List.map_nil, Int.toNat_natCast, tden_bin, tden_shift, tden_conv, tden_not, tden_and, tden_sbin, tden_slen, tden_len, tden_nth, tden_fld, tden_mk, tden_cat, tden_sub, tden_set, tden_setf, tden_rep, tden_sget, tden_ssub, tden_ite, tden_bytes, tden_text, tden_fits, tden_nadd, tden_nsub, tden_small, intD_add, intD_sub, intD_mul, intD_quo, intD_rem, intD_eql, intD_neq, intD_lss, intD_leq, intD_gtr, intD_geq, D.int.injEq, D.bool.injEq, D.str.injEq, D.list.injEq, decide_eq_true_eq, decide_eq_false_iff_not, beq_iff_eq, bs, bs_len]; simp only [show (0 : Int).toNat = 0 from rfl, List.drop_zero]; exact List.take_of_length_le (by simp)
    · simp only [D.tm_den, den_int, den_bool, den_str, den_v, den_op, dens_nil, dens_cons, vals_at, List.getD_cons_succ, List.getD_cons_zero, List.getD_nil, List.map_cons, List.map_nil, Int.toNat_natCast, tden_bin, tden_shift, tden_conv, tden_not, tden_and, tden_sbin, tden_slen, tden_len, tden_nth, tden_fld, tden_mk, tden_cat, tden_sub, tden_set, tden_setf, tden_rep, tden_sget, tden_ssub, tden_ite, tden_bytes, tden_text, tden_fits, tden_nadd, tden_nsub, tden_small, intD_add, intD_sub, intD_mul, intD_quo, intD_rem, intD_eql, intD_neq, intD_lss, intD_leq, intD_gtr, intD_geq, D.int.injEq, D.bool.injEq, D.str.injEq, D.list.injEq, decide_eq_true_eq, decide_eq_false_iff_not, beq_iff_eq]; simp
    · simp only [D.tm_den, den_int, den_bool, den_str, den_v, den_op, dens_nil, dens_cons, vals_at, List.getD_cons_succ, List.getD_cons_zero, List.getD_nil, List.map_cons, List.map_nil, Int.toNat_natCast, tden_bin, tden_shift, tden_conv, tden_not, tden_and, tden_sbin, tden_slen, tden_len, tden_nth, tden_fld, tden_mk, tden_cat, tden_sub, tden_set, tden_setf, tden_rep, tden_sget, tden_ssub, tden_ite, tden_bytes, tden_text, tden_fits, tden_nadd, tden_nsub, tden_small, intD_add, intD_sub, intD_mul, intD_quo, intD_rem, intD_eql, intD_neq, intD_lss, intD_leq, intD_gtr, intD_geq, D.int.injEq, D.bool.injEq, D.str.injEq, D.list.injEq, decide_eq_true_eq, decide_eq_false_iff_not, beq_iff_eq, bs, bs_len]; simp
    · simp only [D.tm_den, den_int, den_bool, den_str, den_v, den_op, dens_nil, dens_cons, vals_at, List.getD_cons_succ, List.getD_cons_zero, List.getD_nil, List.map_cons, List.map_nil, Int.toNat_natCast, tden_bin, tden_shift, tden_conv, tden_not, tden_and, tden_sbin, tden_slen, tden_len, tden_nth, tden_fld, tden_mk, tden_cat, tden_sub, tden_set, tden_setf, tden_rep, tden_sget, tden_ssub, tden_ite, tden_bytes, tden_text, tden_fits, tden_nadd, tden_nsub, tden_small, intD_add, intD_sub, intD_mul, intD_quo, intD_rem, intD_eql, intD_neq, intD_lss, intD_leq, intD_gtr, intD_geq, D.int.injEq, D.bool.injEq, D.str.injEq, D.list.injEq, decide_eq_true_eq, decide_eq_false_iff_not, beq_iff_eq, bs, bs_len]; omega
    · simp only [D.tm_den, den_int, den_bool, den_str, den_v, den_op, dens_nil, dens_cons, vals_at, List.getD_cons_succ, List.getD_cons_zero, List.getD_nil, List.map_cons, List.map_nil, Int.toNat_natCast, tden_bin, tden_shift, tden_conv, tden_not, tden_and, tden_sbin, tden_slen, tden_len, tden_nth, tden_fld, tden_mk, tden_cat, tden_sub, tden_set, tden_setf, tden_rep, tden_sget, tden_ssub, tden_ite, tden_bytes, tden_text, tden_fits, tden_nadd, tden_nsub, tden_small, intD_add, intD_sub, intD_mul, intD_quo, intD_rem, intD_eql, intD_neq, intD_lss, intD_leq, intD_gtr, intD_geq, D.int.injEq, D.bool.injEq, D.str.injEq, D.list.injEq, decide_eq_true_eq, decide_eq_false_iff_not, beq_iff_eq, bs, bs_len]; omega
    · simp only [D.tm_den, den_int, den_bool, den_str, den_v, den_op, dens_nil, dens_cons, vals_at, List.getD_cons_succ, List.getD_cons_zero, List.getD_nil, List.map_cons, List.map_nil, Int.toNat_natCast, tden_bin, tden_shift, tden_conv, tden_not, tden_and, tden_sbin, tden_slen, tden_len, tden_nth, tden_fld, tden_mk, tden_cat, tden_sub, tden_set, tden_setf, tden_rep, tden_sget, tden_ssub, tden_ite, tden_bytes, tden_text, tden_fits, tden_nadd, tden_nsub, tden_small, intD_add, intD_sub, intD_mul, intD_quo, intD_rem, intD_eql, intD_neq, intD_lss, intD_leq, intD_gtr, intD_geq, D.int.injEq, D.bool.injEq, D.str.injEq, D.list.injEq, decide_eq_true_eq, decide_eq_false_iff_not, beq_iff_eq]; omega
    · simp only [D.tm_den, den_int, den_bool, den_str, den_v, den_op, dens_nil, dens_cons, vals_at, List.getD_cons_succ, List.getD_cons_zero, List.getD_nil, List.map_cons, List.map_nil, Int.toNat_natCast, tden_bin, tden_shift, tden_conv, tden_not, tden_and, tden_sbin, tden_slen, tden_len, tden_nth, tden_fld, tden_mk, tden_cat, tden_sub, tden_set, tden_setf, tden_rep, tden_sget, tden_ssub, tden_ite, tden_bytes, tden_text, tden_fits, tden_nadd, tden_nsub, tden_small, intD_add, intD_sub, intD_mul, intD_quo, intD_rem, intD_eql, intD_neq, intD_lss, intD_leq, intD_gtr, intD_geq, D.int.injEq, D.bool.injEq, D.str.injEq, D.list.injEq, decide_eq_true_eq, decide_eq_false_iff_not, beq_iff_eq, bs, bs_len]; omega
    · simp only [D.tm_den, den_int, den_bool, den_str, den_v, den_op, dens_nil, dens_cons, vals_at, List.getD_cons_succ, List.getD_cons_zero, List.getD_nil, List.map_cons, List.map_nil, Int.toNat_natCast, tden_bin, tden_shift, tden_conv, tden_not, tden_and, tden_sbin, tden_slen, tden_len, tden_nth, tden_fld, tden_mk, tden_cat, tden_sub, tden_set, tden_setf, tden_rep, tden_sget, tden_ssub, tden_ite, tden_bytes, tden_text, tden_fits, tden_nadd, tden_nsub, tden_small, intD_add, intD_sub, intD_mul, intD_quo, intD_rem, intD_eql, intD_neq, intD_lss, intD_leq, intD_gtr, intD_geq, D.int.injEq, D.bool.injEq, D.str.injEq, D.list.injEq, decide_eq_true_eq, decide_eq_false_iff_not, beq_iff_eq]; omega
    · simp only [D.tm_den, den_int, den_bool, den_str, den_v, den_op, dens_nil, dens_cons, vals_at, List.getD_cons_succ, List.getD_cons_zero, List.getD_nil, List.map_cons, List.map_nil, Int.toNat_natCast, tden_bin, tden_shift, tden_conv, tden_not, tden_and, tden_sbin, tden_slen, tden_len, tden_nth, tden_fld, tden_mk, tden_cat, tden_sub, tden_set, tden_setf, tden_rep, tden_sget, tden_ssub, tden_ite, tden_bytes, tden_text, tden_fits, tden_nadd, tden_nsub, tden_small, intD_add, intD_sub, intD_mul, intD_quo, intD_rem, intD_eql, intD_neq, intD_lss, intD_leq, intD_gtr, intD_geq, D.int.injEq, D.bool.injEq, D.str.injEq, D.list.injEq, decide_eq_true_eq, decide_eq_false_iff_not, beq_iff_eq, bs, bs_len]; omega
    · simp only [D.tm_den, den_int, den_bool, den_str, den_v, den_op, dens_nil, dens_cons, vals_at, List.getD_cons_succ, List.getD_cons_zero, List.getD_nil, List.map_cons, List.map_nil, Int.toNat_natCast, tden_bin, tden_shift, tden_conv, tden_not, tden_and, tden_sbin, tden_slen, tden_len, tden_nth, tden_fld, tden_mk, tden_cat, tden_sub, tden_set, tden_setf, tden_rep, tden_sget, tden_ssub, tden_ite, tden_bytes, tden_text, tden_fits, tden_nadd, tden_nsub, tden_small, intD_add, intD_sub, intD_mul, intD_quo, intD_rem, intD_eql, intD_neq, intD_lss, intD_leq, intD_gtr, intD_geq, D.int.injEq, D.bool.injEq, D.str.injEq, D.list.injEq, decide_eq_true_eq, decide_eq_false_iff_not, beq_iff_eq]; omega
  have hcat : @Tm.den (vals [.int own, bs E, bs O, dc, dr, .int ((E.length + O.length : Nat) : Int)]) (.op .cat [.v 1, .v 2]) = bs (E ++ O) := by
    simp only [D.tm_den, den_int, den_bool, den_str, den_v, den_op, dens_nil, dens_cons, vals_at, List.getD_cons_succ, List.getD_cons_zero, List.getD_nil, List.map_cons, List.map_nil, Int.toNat_natCast, tden_bin, tden_shift, tden_conv, tden_not, tden_and, tden_sbin, tden_slen, tden_len, tden_nth, tden_fld, tden_mk, tden_cat, tden_sub, tden_set, tden_setf, tden_rep, tden_sget, tden_ssub, tden_ite, tden_bytes, tden_text, tden_fits, tden_nadd, tden_nsub, tden_small, intD_add, intD_sub, intD_mul, intD_quo, intD_rem, intD_eql, intD_neq, intD_lss, intD_leq, intD_gtr, intD_geq, D.int.injEq, D.bool.injEq, D.str.injEq, D.list.injEq, decide_eq_true_eq, decide_eq_false_iff_not, beq_iff_eq, bs]; rw [List.map_append]
  have key : TriL P G (vals [.int own, bs E, bs O, dc, dr, bs (E ++ O), ints [], .int (0 : Nat)]) cx none 6 (((L.drop 0).drop 0).drop 3) uinv fun V' ex σ' => V' = vals [.int own, bs E, bs O, dc, dr] ∧ ex = .ret ∧ σ' = uend := by
    rw [List.drop_zero, List.drop_zero, at3]
    generalize hL : E ++ O = T at *
    have hTl : T.length ≤ 200 := by rw [← hL, List.length_append]; omega
    have hol := outs_len own T
    refine TriL.cons stays_none (Q1 := fun V' ex σ' => ex = .normal ∧ ((outs own T = [] ∧ σ' = ufinE ∧ V' = vals [.int own, bs E, bs O, dc, dr, bs T, ints [], .int (T.length : Nat)]) ∨ (outs own T ≠ [] ∧ σ' = ufin ∧ V' = vals [.int own, bs E, bs O, dc, dr, bs T, ints (outs own T), .int (T.length : Nat), .int 0, ints (srt (outs own T))]))) (Tri.block ?_) ?_ (fun V' ex σ' hne h => absurd h.1 hne)
    · have h := Tri.loop (P := P) (G := G) (c := cx) (around := none) (k0 := 6) (b := bd) (σ := uinv) (α := Nat) (fun k => k ≤ T.length) (fun k => T.length - k) (fun k => vals [.int own, bs E, bs O, dc, dr, bs T, ints (outs own (T.take k)), .int (k : Nat)]) (Q := fun V' ex σ' => outOf 0 ex = .normal ∧ ((outs own T = [] ∧ σ' = ufinE ∧ V' = vals [.int own, bs E, bs O, dc, dr, bs T, ints [], .int (T.length : Nat)]) ∨ (outs own T ≠ [] ∧ σ' = ufin ∧ V' = vals [.int own, bs E, bs O, dc, dr, bs T, ints (outs own T), .int (T.length : Nat), .int 0, ints (srt (outs own T))]))) stays_none (by
        intro k hk
        refine Tri.flat (by kernel_rfl) ?_
        show TriL P G _ cx none 6 lp uinv _
        have hlt0 : @Tm.den (vals [.int own, bs E, bs O, dc, dr, bs T, ints (outs own (T.take k)), .int (k : Nat)]) (.op (.bin .lss .i64) [.v 7, .op .len [.v 5]]) = .bool (decide (k < T.length)) := by
          simp only [D.tm_den, den_int, den_bool, den_str, den_v, den_op, dens_nil, dens_cons, vals_at, List.getD_cons_succ, List.getD_cons_zero, List.getD_nil, List.map_cons, List.map_nil, Int.toNat_natCast, tden_bin, tden_shift, tden_conv, tden_not, tden_and, tden_sbin, tden_slen, tden_len, tden_nth, tden_fld, tden_mk, tden_cat, tden_sub, tden_set, tden_setf, tden_rep, tden_sget, tden_ssub, tden_ite, tden_bytes, tden_text, tden_fits, tden_nadd, tden_nsub, tden_small, intD_add, intD_sub, intD_mul, intD_quo, intD_rem, intD_eql, intD_neq, intD_lss, intD_leq, intD_gtr, intD_geq, D.int.injEq, D.bool.injEq, D.str.injEq, D.list.injEq, decide_eq_true_eq, decide_eq_false_iff_not, beq_iff_eq, bs, bs_len]; rw [Bool.eq_iff_iff]; simp
        by_cases hlt : k < T.length
        · refine TriL.go 2 (envAt _) hg stays_none (tb := ltS true) ⟨by rw [hlt0]; simp [hlt], trivial⟩ (by show 6 ≤ 8; omega) kH0 ?_
          simp only [eight]
          simp only [D.tm_den, den_int, den_bool, den_str, den_v, den_op, dens_nil, dens_cons, vals_at, List.getD_cons_succ, List.getD_cons_zero, List.getD_nil, List.map_cons, List.map_nil, Int.toNat_natCast, tden_bin, tden_shift, tden_conv, tden_not, tden_and, tden_sbin, tden_slen, tden_len, tden_nth, tden_fld, tden_mk, tden_cat, tden_sub, tden_set, tden_setf, tden_rep, tden_sget, tden_ssub, tden_ite, tden_bytes, tden_text, tden_fits, tden_nadd, tden_nsub, tden_small, intD_add, intD_sub, intD_mul, intD_quo, intD_rem, intD_eql, intD_neq, intD_lss, intD_leq, intD_gtr, intD_geq, D.int.injEq, D.bool.injEq, D.str.injEq, D.list.injEq, decide_eq_true_eq, decide_eq_false_iff_not, beq_iff_eq]
          rw [at2]
          have htake : T.take (k + 1) = T.take k ++ [T[k]] := by rw [List.take_add_one, List.getElem?_eq_getElem hlt]; rfl
          have hout := outs_append own (T.take k) T[k]
          rw [← htake] at hout
          have hn : (T.map ru.bd).getD k .bad = ru.bd T[k] := bs_nth T k hlt
          have hok : (outs own (T.take k)).length ≤ 200 := Nat.le_trans (outs_len own _) (by rw [List.length_take]; omega)
          generalize T[k] = p at hout hn
          obtain ⟨x, f⟩ := p
          have hfl : @Tm.den (vals [.int own, bs E, bs O, dc, dr, bs T, ints (outs own (T.take k)), .int (k : Nat)]) (.op (.fld 7) [nS]) = .bool f := by
            simp only [nS]; simp only [D.tm_den, den_int, den_bool, den_str, den_v, den_op, dens_nil, dens_cons, vals_at, List.getD_cons_succ, List.getD_cons_zero, List.getD_nil, List.map_cons, List.map_nil, Int.toNat_natCast, tden_bin, tden_shift, tden_conv, tden_not, tden_and, tden_sbin, tden_slen, tden_len, tden_nth, tden_fld, tden_mk, tden_cat, tden_sub, tden_set, tden_setf, tden_rep, tden_sget, tden_ssub, tden_ite, tden_bytes, tden_text, tden_fits, tden_nadd, tden_nsub, tden_small, intD_add, intD_sub, intD_mul, intD_quo, intD_rem, intD_eql, intD_neq, intD_lss, intD_leq, intD_gtr, intD_geq, D.int.injEq, D.bool.injEq, D.str.injEq, D.list.injEq, decide_eq_true_eq, decide_eq_false_iff_not, beq_iff_eq, bs, hn, ru.bd]
          have hid : @Tm.den (vals [.int own, bs E, bs O, dc, dr, bs T, ints (outs own (T.take k)), .int (k : Nat)]) idS = .int x := by
            simp only [idS, nS]; simp only [D.tm_den, den_int, den_bool, den_str, den_v, den_op, dens_nil, dens_cons, vals_at, List.getD_cons_succ, List.getD_cons_zero, List.getD_nil, List.map_cons, List.map_nil, Int.toNat_natCast, tden_bin, tden_shift, tden_conv, tden_not, tden_and, tden_sbin, tden_slen, tden_len, tden_nth, tden_fld, tden_mk, tden_cat, tden_sub, tden_set, tden_setf, tden_rep, tden_sget, tden_ssub, tden_ite, tden_bytes, tden_text, tden_fits, tden_nadd, tden_nsub, tden_small, intD_add, intD_sub, intD_mul, intD_quo, intD_rem, intD_eql, intD_neq, intD_lss, intD_leq, intD_gtr, intD_geq, D.int.injEq, D.bool.injEq, D.str.injEq, D.list.injEq, decide_eq_true_eq, decide_eq_false_iff_not, beq_iff_eq, bs, hn, ru.bd]
          have hin : @AllEq (vals [.int own, bs E, bs O, dc, dr, bs T, ints (outs own (T.take k)), .int (k : Nat)]) inS := by
            refine ⟨?_, ?_, trivial⟩
            · simp only [D.tm_den, den_int, den_bool, den_str, den_v, den_op, dens_nil, dens_cons, vals_at, List.getD_cons_succ, List.getD_cons_zero, List.getD_nil, List.map_cons, List.map_nil, Int.toNat_natCast, tden_bin, tden_shift, tden_conv, tden_not, tden_and, tden_sbin, tden_slen, tden_len, tden_nth, tden_fld, tden_mk, tden_cat, tden_sub, tden_set, tden_setf, tden_rep, tden_sget, tden_ssub, tden_ite, tden_bytes, tden_text, tden_fits, tden_nadd, tden_nsub, tden_small, intD_add, intD_sub, intD_mul, intD_quo, intD_rem, intD_eql, intD_neq, intD_lss, intD_leq, intD_gtr, intD_geq, D.int.injEq, D.bool.injEq, D.str.injEq, D.list.injEq, decide_eq_true_eq, decide_eq_false_iff_not, beq_iff_eq]; omega
            · rw [hlt0]; simp [hlt]
          have w1 : IntKind.i64.wrap ((k : Int) + 1) = ((k + 1 : Nat) : Int) := by rw [wrap_i64 (by omega)]; simp
          refine TriL.cons stays_none (Q1 := fun V' ex σ' => ex = .normal ∧ σ' = uinv ∧ V' = vals [.int own, bs E, bs O, dc, dr, bs T, ints (outs own (T.take (k + 1))), .int (k : Nat)]) (Tri.block (Tri.flat (by kernel_rfl) ?_)) ?_ (fun V' ex σ' hne h => absurd h.1 hne)
          · show TriL P G _ cx none 6 lb uinv _
            cases f with
            | false =>
              refine TriL.fin (envAt _) hg (tb := flS false :: inS) ⟨hfl, hin⟩ (by show 6 ≤ 8; omega) kB0 ⟨rfl, rfl, ?_⟩
              simp only [Bool.false_and, Bool.false_eq_true, if_false, List.append_nil] at hout
              rw [hout]; simp only [eight]; simp only [D.tm_den, den_int, den_bool, den_str, den_v, den_op, dens_nil, dens_cons, vals_at, List.getD_cons_succ, List.getD_cons_zero, List.getD_nil, List.map_cons, List.map_nil, Int.toNat_natCast, tden_bin, tden_shift, tden_conv, tden_not, tden_and, tden_sbin, tden_slen, tden_len, tden_nth, tden_fld, tden_mk, tden_cat, tden_sub, tden_set, tden_setf, tden_rep, tden_sget, tden_ssub, tden_ite, tden_bytes, tden_text, tden_fits, tden_nadd, tden_nsub, tden_small, intD_add, intD_sub, intD_mul, intD_quo, intD_rem, intD_eql, intD_neq, intD_lss, intD_leq, intD_gtr, intD_geq, D.int.injEq, D.bool.injEq, D.str.injEq, D.list.injEq, decide_eq_true_eq, decide_eq_false_iff_not, beq_iff_eq]
            | true =>
              have hne0 : @Tm.den (vals [.int own, bs E, bs O, dc, dr, bs T, ints (outs own (T.take k)), .int (k : Nat)]) (.op (.bin .neq .i64) [idS, .v 0]) = .bool (decide (x ≠ own)) := by
                simp only [D.tm_den, den_int, den_bool, den_str, den_v, den_op, dens_nil, dens_cons, vals_at, List.getD_cons_succ, List.getD_cons_zero, List.getD_nil, List.map_cons, List.map_nil, Int.toNat_natCast, tden_bin, tden_shift, tden_conv, tden_not, tden_and, tden_sbin, tden_slen, tden_len, tden_nth, tden_fld, tden_mk, tden_cat, tden_sub, tden_set, tden_setf, tden_rep, tden_sget, tden_ssub, tden_ite, tden_bytes, tden_text, tden_fits, tden_nadd, tden_nsub, tden_small, intD_add, intD_sub, intD_mul, intD_quo, intD_rem, intD_eql, intD_neq, intD_lss, intD_leq, intD_gtr, intD_geq, D.int.injEq, D.bool.injEq, D.str.injEq, D.list.injEq, decide_eq_true_eq, decide_eq_false_iff_not, beq_iff_eq, hid]
                rw [Bool.eq_iff_iff]; simp
              by_cases hx : x ≠ own
              · refine TriL.fin (envAt _) hg (tb := flS true :: neS true :: (.op (.bin .leq .i64) [.op .len [.v 6], .op .len [.v 6]], .bool true) :: (.op .small [.op .nadd [.op .len [.v 6], .int 1]], .bool true) :: (.op .len [catS], .op .nadd [.op .len [.v 6], .int 1]) :: inS) ⟨hfl, ?_, ?_, ?_, ?_, hin⟩ (by show 6 ≤ 8; omega) kB2 ⟨rfl, rfl, ?_⟩
                · simp only [neS]; rw [hne0]; simp [hx]
                · simp only [D.tm_den, den_int, den_bool, den_str, den_v, den_op, dens_nil, dens_cons, vals_at, List.getD_cons_succ, List.getD_cons_zero, List.getD_nil, List.map_cons, List.map_nil, Int.toNat_natCast, tden_bin, tden_shift, tden_conv, tden_not, tden_and, tden_sbin, tden_slen, tden_len, tden_nth, tden_fld, tden_mk, tden_cat, tden_sub, tden_set, tden_setf, tden_rep, tden_sget, tden_ssub, tden_ite, tden_bytes, tden_text, tden_fits, tden_nadd, tden_nsub, tden_small, intD_add, intD_sub, intD_mul, intD_quo, intD_rem, intD_eql, intD_neq, intD_lss, intD_leq, intD_gtr, intD_geq, D.int.injEq, D.bool.injEq, D.str.injEq, D.list.injEq, decide_eq_true_eq, decide_eq_false_iff_not, beq_iff_eq, ints, ints_len]; omega
                · simp only [D.tm_den, den_int, den_bool, den_str, den_v, den_op, dens_nil, dens_cons, vals_at, List.getD_cons_succ, List.getD_cons_zero, List.getD_nil, List.map_cons, List.map_nil, Int.toNat_natCast, tden_bin, tden_shift, tden_conv, tden_not, tden_and, tden_sbin, tden_slen, tden_len, tden_nth, tden_fld, tden_mk, tden_cat, tden_sub, tden_set, tden_setf, tden_rep, tden_sget, tden_ssub, tden_ite, tden_bytes, tden_text, tden_fits, tden_nadd, tden_nsub, tden_small, intD_add, intD_sub, intD_mul, intD_quo, intD_rem, intD_eql, intD_neq, intD_lss, intD_leq, intD_gtr, intD_geq, D.int.injEq, D.bool.injEq, D.str.injEq, D.list.injEq, decide_eq_true_eq, decide_eq_false_iff_not, beq_iff_eq, ints, ints_len]; omega
                · simp only [catS]; simp only [D.tm_den, den_int, den_bool, den_str, den_v, den_op, dens_nil, dens_cons, vals_at, List.getD_cons_succ, List.getD_cons_zero, List.getD_nil, List.map_cons, List.map_nil, Int.toNat_natCast, tden_bin, tden_shift, tden_conv, tden_not, tden_and, tden_sbin, tden_slen, tden_len, tden_nth, tden_fld, tden_mk, tden_cat, tden_sub, tden_set, tden_setf, tden_rep, tden_sget, tden_ssub, tden_ite, tden_bytes, tden_text, tden_fits, tden_nadd, tden_nsub, tden_small, intD_add, intD_sub, intD_mul, intD_quo, intD_rem, intD_eql, intD_neq, intD_lss, intD_leq, intD_gtr, intD_geq, D.int.injEq, D.bool.injEq, D.str.injEq, D.list.injEq, decide_eq_true_eq, decide_eq_false_iff_not, beq_iff_eq, ints, ints_len, hid]; simp
                · simp only [Bool.true_and, hx, ne_eq, not_false_eq_true, decide_true, if_true] at hout
                  rw [hout]
                  simp only [catS]
                  simp only [D.tm_den, den_int, den_bool, den_str, den_v, den_op, dens_nil, dens_cons, vals_at, List.getD_cons_succ, List.getD_cons_zero, List.getD_nil, List.map_cons, List.map_nil, Int.toNat_natCast, tden_bin, tden_shift, tden_conv, tden_not, tden_and, tden_sbin, tden_slen, tden_len, tden_nth, tden_fld, tden_mk, tden_cat, tden_sub, tden_set, tden_setf, tden_rep, tden_sget, tden_ssub, tden_ite, tden_bytes, tden_text, tden_fits, tden_nadd, tden_nsub, tden_small, intD_add, intD_sub, intD_mul, intD_quo, intD_rem, intD_eql, intD_neq, intD_lss, intD_leq, intD_gtr, intD_geq, D.int.injEq, D.bool.injEq, D.str.injEq, D.list.injEq, decide_eq_true_eq, decide_eq_false_iff_not, beq_iff_eq, hid, ints]
                  rw [List.map_append]; rfl
              · refine TriL.fin (envAt _) hg (tb := flS true :: neS false :: inS) ⟨hfl, ?_, hin⟩ (by show 6 ≤ 8; omega) kB1 ⟨rfl, rfl, ?_⟩
                · simp only [neS]; rw [hne0]; simp [hx]
                · rw [if_neg (by simp [hx]), List.append_nil] at hout
                  rw [hout]; simp only [eight]; simp only [D.tm_den, den_int, den_bool, den_str, den_v, den_op, dens_nil, dens_cons, vals_at, List.getD_cons_succ, List.getD_cons_zero, List.getD_nil, List.map_cons, List.map_nil, Int.toNat_natCast, tden_bin, tden_shift, tden_conv, tden_not, tden_and, tden_sbin, tden_slen, tden_len, tden_nth, tden_fld, tden_mk, tden_cat, tden_sub, tden_set, tden_setf, tden_rep, tden_sget, tden_ssub, tden_ite, tden_bytes, tden_text, tden_fits, tden_nadd, tden_nsub, tden_small, intD_add, intD_sub, intD_mul, intD_quo, intD_rem, intD_eql, intD_neq, intD_lss, intD_leq, intD_gtr, intD_geq, D.int.injEq, D.bool.injEq, D.str.injEq, D.list.injEq, decide_eq_true_eq, decide_eq_false_iff_not, beq_iff_eq]
          · rintro V' σ' ⟨-, rfl, rfl⟩
            refine TriL.fin (envAt _) hg (tb := []) trivial (by show 6 ≤ 8; omega) kI (.inl ⟨rfl, rfl, k + 1, ?_, hlt, by omega⟩)
            simp only [D.tm_den, den_int, den_bool, den_str, den_v, den_op, dens_nil, dens_cons, vals_at, List.getD_cons_succ, List.getD_cons_zero, List.getD_nil, List.map_cons, List.map_nil, Int.toNat_natCast, tden_bin, tden_shift, tden_conv, tden_not, tden_and, tden_sbin, tden_slen, tden_len, tden_nth, tden_fld, tden_mk, tden_cat, tden_sub, tden_set, tden_setf, tden_rep, tden_sget, tden_ssub, tden_ite, tden_bytes, tden_text, tden_fits, tden_nadd, tden_nsub, tden_small, intD_add, intD_sub, intD_mul, intD_quo, intD_rem, intD_eql, intD_neq, intD_lss, intD_leq, intD_gtr, intD_geq, D.int.injEq, D.bool.injEq, D.str.injEq, D.list.injEq, decide_eq_true_eq, decide_eq_false_iff_not, beq_iff_eq, w1]
        · have hkT : k = T.length := by omega
          subst hkT
          rw [List.take_length] at hlt0 ⊢
          by_cases ho : outs own T = []
          · refine TriL.fin (envAt _) hg (tb := ltE) ⟨by rw [hlt0]; simp, ?_, trivial⟩ (by show 6 ≤ 8; omega) kH2 (.inr ⟨by simp, rfl, .inl ⟨ho, rfl, ?_⟩⟩)
            · simp only [D.tm_den, den_int, den_bool, den_str, den_v, den_op, dens_nil, dens_cons, vals_at, List.getD_cons_succ, List.getD_cons_zero, List.getD_nil, List.map_cons, List.map_nil, Int.toNat_natCast, tden_bin, tden_shift, tden_conv, tden_not, tden_and, tden_sbin, tden_slen, tden_len, tden_nth, tden_fld, tden_mk, tden_cat, tden_sub, tden_set, tden_setf, tden_rep, tden_sget, tden_ssub, tden_ite, tden_bytes, tden_text, tden_fits, tden_nadd, tden_nsub, tden_small, intD_add, intD_sub, intD_mul, intD_quo, intD_rem, intD_eql, intD_neq, intD_lss, intD_leq, intD_gtr, intD_geq, D.int.injEq, D.bool.injEq, D.str.injEq, D.list.injEq, decide_eq_true_eq, decide_eq_false_iff_not, beq_iff_eq, ints, ints_len, ho]; simp
            · simp only [eight]; simp only [D.tm_den, den_int, den_bool, den_str, den_v, den_op, dens_nil, dens_cons, vals_at, List.getD_cons_succ, List.getD_cons_zero, List.getD_nil, List.map_cons, List.map_nil, Int.toNat_natCast, tden_bin, tden_shift, tden_conv, tden_not, tden_and, tden_sbin, tden_slen, tden_len, tden_nth, tden_fld, tden_mk, tden_cat, tden_sub, tden_set, tden_setf, tden_rep, tden_sget, tden_ssub, tden_ite, tden_bytes, tden_text, tden_fits, tden_nadd, tden_nsub, tden_small, intD_add, intD_sub, intD_mul, intD_quo, intD_rem, intD_eql, intD_neq, intD_lss, intD_leq, intD_gtr, intD_geq, D.int.injEq, D.bool.injEq, D.str.injEq, D.list.injEq, decide_eq_true_eq, decide_eq_false_iff_not, beq_iff_eq, ho]
          · refine TriL.fin (envAt _) hg (tb := ltS false) ⟨by rw [hlt0]; simp, trivial⟩ (by show 6 ≤ 8; omega) (kH1 (ints (srt (outs own T))).tm) (.inr ⟨by simp, rfl, .inr ⟨ho, rfl, ?_⟩⟩)
            simp only [eight, List.cons_append, List.nil_append]; simp only [D.tm_den, den_int, den_bool, den_str, den_v, den_op, dens_nil, dens_cons, vals_at, List.getD_cons_succ, List.getD_cons_zero, List.getD_nil, List.map_cons, List.map_nil, Int.toNat_natCast, tden_bin, tden_shift, tden_conv, tden_not, tden_and, tden_sbin, tden_slen, tden_len, tden_nth, tden_fld, tden_mk, tden_cat, tden_sub, tden_set, tden_setf, tden_rep, tden_sget, tden_ssub, tden_ite, tden_bytes, tden_text, tden_fits, tden_nadd, tden_nsub, tden_small, intD_add, intD_sub, intD_mul, intD_quo, intD_rem, intD_eql, intD_neq, intD_lss, intD_leq, intD_gtr, intD_geq, D.int.injEq, D.bool.injEq, D.str.injEq, D.list.injEq, decide_eq_true_eq, decide_eq_false_iff_not, beq_iff_eq]) 0 (Nat.zero_le _)
      rw [List.take_zero] at h
      exact h
    · rintro V' σ' ⟨-, ⟨ho, rfl, rfl⟩ | ⟨ho, rfl, rfl⟩⟩
      · refine TriL.fin (envAt _) hg (tb := []) trivial (by show 6 ≤ 7; omega) kE ⟨?_, rfl, rfl⟩
        have e1 : (cmp ([] : List Int)).length = 0 := Nat.le_zero.1 (cmp_len [])
        have e2 : rowOf [] = [] := List.length_eq_zero_iff.1 (rowOf_len [])
        rw [← hc, ← hr, ho, e1, e2]
        simp only [D.tm_den, den_int, den_bool, den_str, den_v, den_op, dens_nil, dens_cons, vals_at, List.getD_cons_succ, List.getD_cons_zero, List.getD_nil, List.map_cons, List.map_nil, Int.toNat_natCast, tden_bin, tden_shift, tden_conv, tden_not, tden_and, tden_sbin, tden_slen, tden_len, tden_nth, tden_fld, tden_mk, tden_cat, tden_sub, tden_set, tden_setf, tden_rep, tden_sget, tden_ssub, tden_ite, tden_bytes, tden_text, tden_fits, tden_nadd, tden_nsub, tden_small, intD_add, intD_sub, intD_mul, intD_quo, intD_rem, intD_eql, intD_neq, intD_lss, intD_leq, intD_gtr, intD_geq, D.int.injEq, D.bool.injEq, D.str.injEq, D.list.injEq, decide_eq_true_eq, decide_eq_false_iff_not, beq_iff_eq]; rfl
      · have hp : 0 < (outs own T).length := List.length_pos_iff.2 ho
        have hE2 : @EnvOk (vals [.int own, bs E, bs O, dc, dr, bs T, ints (outs own T), .int (T.length : Nat), .int 0, ints (srt (outs own T))]) P G (E0.know [yso, yco]) := @EnvOk.know (vals _) P G _ (envAt _) [yso, yco] fun z hz => by
          simp only [List.mem_cons, List.mem_nil_iff, or_false] at hz
          rcases hz with rfl | rfl
          · exact sort_ok _ (outs own T) rfl rfl hp (by omega)
          · exact compact_ok _ (outs own T) hc.symm hr.symm rfl rfl hp (by omega)
        refine TriL.fin hE2 hg (tb := []) trivial (by show 6 ≤ 7; omega) kS ⟨?_, rfl, rfl⟩
        simp only [D.tm_den, den_int, den_bool, den_str, den_v, den_op, dens_nil, dens_cons, vals_at, List.getD_cons_succ, List.getD_cons_zero, List.getD_nil, List.map_cons, List.map_nil, Int.toNat_natCast, tden_bin, tden_shift, tden_conv, tden_not, tden_and, tden_sbin, tden_slen, tden_len, tden_nth, tden_fld, tden_mk, tden_cat, tden_sub, tden_set, tden_setf, tden_rep, tden_sget, tden_ssub, tden_ite, tden_bytes, tden_text, tden_fits, tden_nadd, tden_nsub, tden_small, intD_add, intD_sub, intD_mul, intD_quo, intD_rem, intD_eql, intD_neq, intD_lss, intD_leq, intD_gtr, intD_geq, D.int.injEq, D.bool.injEq, D.str.injEq, D.list.injEq, decide_eq_true_eq, decide_eq_false_iff_not, beq_iff_eq]
  have fin : ∀ b : Bool, b = decide (0 < E.length + O.length) → TriL P G (vals [.int own, bs E, bs O, dc, dr, .int ((E.length + O.length : Nat) : Int)]) cx none 6 ((L.drop 0)) (startSt xu) fun V' ex σ' => V' = vals [.int own, bs E, bs O, dc, dr] ∧ ex = .ret ∧ σ' = uend := by
    intro b hb
    have hall : @AllEq (vals [.int own, bs E, bs O, dc, dr, .int ((E.length + O.length : Nat) : Int)]) (gtS b) := by
      refine ⟨?_, tS_ok⟩
      simp only [D.tm_den, den_int, den_bool, den_str, den_v, den_op, dens_nil, dens_cons, vals_at, List.getD_cons_succ, List.getD_cons_zero, List.getD_nil, List.map_cons, List.map_nil, Int.toNat_natCast, tden_bin, tden_shift, tden_conv, tden_not, tden_and, tden_sbin, tden_slen, tden_len, tden_nth, tden_fld, tden_mk, tden_cat, tden_sub, tden_set, tden_setf, tden_rep, tden_sget, tden_ssub, tden_ite, tden_bytes, tden_text, tden_fits, tden_nadd, tden_nsub, tden_small, intD_add, intD_sub, intD_mul, intD_quo, intD_rem, intD_eql, intD_neq, intD_lss, intD_leq, intD_gtr, intD_geq, D.int.injEq, D.bool.injEq, D.str.injEq, D.list.injEq, decide_eq_true_eq, decide_eq_false_iff_not, beq_iff_eq, gt_iff_lt]; subst hb; rw [Bool.eq_iff_iff]; simp; omega
    have hto : toInv.map (@Tm.den (vals [.int own, bs E, bs O, dc, dr, .int ((E.length + O.length : Nat) : Int)])) = [.int own, bs E, bs O, dc, dr, bs (E ++ O), ints [], .int (0 : Nat)] := by
      simp only [toInv, List.map_cons, List.map_nil]
      rw [hcat]
      simp only [D.tm_den, den_int, den_bool, den_str, den_v, den_op, dens_nil, dens_cons, vals_at, List.getD_cons_succ, List.getD_cons_zero, List.getD_nil, List.map_cons, List.map_nil, Int.toNat_natCast, tden_bin, tden_shift, tden_conv, tden_not, tden_and, tden_sbin, tden_slen, tden_len, tden_nth, tden_fld, tden_mk, tden_cat, tden_sub, tden_set, tden_setf, tden_rep, tden_sget, tden_ssub, tden_ite, tden_bytes, tden_text, tden_fits, tden_nadd, tden_nsub, tden_small, intD_add, intD_sub, intD_mul, intD_quo, intD_rem, intD_eql, intD_neq, intD_lss, intD_leq, intD_gtr, intD_geq, D.int.injEq, D.bool.injEq, D.str.injEq, D.list.injEq, decide_eq_true_eq, decide_eq_false_iff_not, beq_iff_eq]; rfl
    cases b with
    | true => refine TriL.go 3 (envAt _) hg stays_none (tb := gtS true) hall le6 kA0 ?_; rw [hto]; exact key
    | false => refine TriL.go 3 (envAt _) hg stays_none (tb := gtS false) hall le6 kA1 ?_; rw [hto]; exact key
  exact fin _ rfl
end us
end ru
end Go.Proofs.YtjmjbjnbfodalaaGreat
