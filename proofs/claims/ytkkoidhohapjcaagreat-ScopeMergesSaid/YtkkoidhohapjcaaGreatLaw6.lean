/- the law ScopeMerges behind its first question: lists of members, merged, and what is wanted. No condition. -/
import Derived.Test.YtkkoidhohapjcaaGreatMerge
set_option linter.unusedSimpArgs false
set_option linter.unusedVariables false
set_option linter.unusedSectionVars false
namespace Go.Proofs.YtkkoidhohapjcaaGreat
open Go.Tc

/-! ### members, each once: plain laws -/
theorem mergeTo_append (G : List D) : ∀ (F O : List D), mergeTo O (F ++ G) = mergeTo (mergeTo O F) G
  | [], O => rfl
  | d :: r, O => by simp only [List.cons_append, mergeTo]; exact mergeTo_append G r _
theorem mergeTo_mem : ∀ (F O : List D) (d : D), d ∈ mergeTo O F → d ∈ O ∨ d ∈ F
  | [], O, d, h => .inl h
  | e :: r, O, d, h => by
    simp only [mergeTo] at h
    rcases mergeTo_mem r _ d h with h | h
    · split at h
      · split at h
        · rcases List.mem_append.1 h with h | h
          · exact .inl h
          · exact .inr (by rw [List.mem_singleton.1 h]; simp)
        · exact .inl h
      · exact .inl h
    · exact .inr (List.mem_cons_of_mem _ h)
theorem mergeTo_len : ∀ (F O : List D), (mergeTo O F).length ≤ O.length + F.length
  | [], O => by simp [mergeTo]
  | e :: r, O => by
    simp only [mergeTo]
    have := mergeTo_len r (match idOf e with
      | .int n => if indexOf n O < 0 then O ++ [e] else O
      | _ => O)
    refine Nat.le_trans this ?_
    split
    · split
      · simp only [List.length_append, List.length_cons, List.length_nil]; omega
      · simp only [List.length_cons]; omega
    · simp only [List.length_cons]; omega
/-- members, without objects. -/
def memsOk (F : List D) : Prop := ∀ d ∈ F, ∃ (n : Int) (a b : D), d = .list [.int n, a, b] ∧ -2 ^ 63 ≤ n ∧ n < 2 ^ 63
theorem indexOf_mem (n : Int) : ∀ {O : List D}, memsOk O → (0 ≤ indexOf n O ↔ D.int n ∈ O.map idOf)
  | [], _ => by simp [indexOf]
  | d :: r, h => by
    obtain ⟨m, a, b, rfl, -⟩ := h d (by simp)
    have ih := indexOf_mem n (O := r) fun d hd => h d (by simp [hd])
    have hid : idOf (.list [.int m, a, b]) = .int m := rfl
    simp only [indexOf, hid, List.map_cons, List.mem_cons, D.int.injEq]
    have := indexOf_ge n r
    by_cases e : m = n
    · simp [e]
    · rw [if_neg e]
      constructor
      · intro h0
        split at h0
        · omega
        · exact .inr (ih.1 (by omega))
      · rintro (h0 | h0)
        · exact absurd h0.symm e
        · have := ih.2 h0
          rw [if_neg (by omega)]; omega

namespace l6
-- 0: the input; 1: the lists; 2: what is wanted; 3: i; 4: a list; 5: k; 6: j; 7: what is got
noncomputable def fn : Func := Tryz.f6
noncomputable def cd : Code := match fn.body with | some c => c | none => .skip
noncomputable def cx : Ctx := cxOf P fn cd 1
theorem func : P.funcs[6]? = some fn := Tryz.func6
theorem body : fn.body = some cd := by kernel_rfl
def iK : CK := .isl [.isl [.int .i64]]
def ins : AV := .sy iK (.v 0)
def len (t : Tm) : Tm := .op .len [t]
def leq (a b : Tm) : Tm := .op (.bin .leq .i64) [a, b]
def lss (a b : Tm) : Tm := .op (.bin .lss .i64) [a, b]
def aL : AV := .lsl 1 1 (.int 0) (len (.v 1)) .opn
def aW : AV := .lsl 2 1 (.int 0) (len (.v 2)) .opn
def aM : AV := .lsl 3 3 (.int 0) (len (.v 4)) .opn
def rL : Nat × AObj := (1, .lrow [.isl mK] (.v 1) 76 (.buf 0 false))
def rW : Nat × AObj := (2, .lrow [.int .i64] (.v 2) 3 (.buf 0 false))
def rM : Nat × AObj := (3, .lrow mK (.v 4) 79 (.buf 0 false))
def i64 (t : Tm) : AV := .sy (.int .i64) t
def v1 : List (Nat × AV) := [(0, ins), (3, aL), (4, aW)]
def v2 : List (Nat × AV) := [(0, ins), (3, aL), (4, aW), (5, i64 (.v 3)), (6, aM), (7, i64 (.v 5))]
def s1 : St := { vars := [(0, ins)], loc := [], marks := [], objs := [], next := 1 }
def s2 : St := { vars := [(0, ins), (3, .nilSlice)], loc := [], marks := [], objs := [], next := 1 }
def s3 : St := { vars := [(0, ins), (3, .nilSlice), (4, .nilSlice)], loc := [], marks := [], objs := [], next := 1 }
def inv1 : St := { vars := (5, i64 (.v 3)) :: v1, loc := [], marks := [], objs := [rL, rW], next := 3 }
def s4 : St := { vars := (5, i64 (.v 3)) :: v1, loc := [], marks := [], objs := [rL, rW], next := 3 }
def s5 : St := { vars := (5, i64 (.v 3)) :: (6, .nilSlice) :: v1, loc := [], marks := [], objs := [rL, rW], next := 3 }
def inv2 : St := { vars := v2, loc := [], marks := [], objs := [rL, rW, rM], next := 4 }
def s6 : St := { vars := (8, .bool false) :: v2, loc := [], marks := [], objs := [rL, rW, rM], next := 4 }
def inv3 (b : Bool) : St := { vars := (8, .bool b) :: (9, i64 (.v 6)) :: v2, loc := [], marks := [], objs := [rL, rW, rM], next := 4 }
def s7 (b : Bool) : St := { vars := (8, .bool b) :: v2, loc := [], marks := [], objs := [rL, rW, rM], next := 4 }
/-- the list is made. -/
def s8 : St := { vars := (5, i64 (.v 3)) :: (6, .sy (.isl mK) (.v 4)) :: v1, loc := [], marks := [], objs := [rL, rW], next := 3 }
/-- all lists are made. -/
def s9 : St := { vars := [(3, .sy cc.lK (.v 1)), (4, aW)], loc := [], marks := [], objs := [rW], next := 3 }
noncomputable def p (l : List Nat) : Code := pieceOf cd l
noncomputable def o1 : Code := p [1, 1, 1, 1, 0, 1, 2, 2]
noncomputable def A1 : Code := pieceOf o1 [0]
noncomputable def B1 : Code := pieceOf o1 [1, 0, 2]
noncomputable def o2 : Code := pieceOf B1 [1, 0, 1, 2, 2]
noncomputable def B3 : Code := pieceOf o2 [1, 0, 2]
noncomputable def o3 : Code := pieceOf B3 [1, 1, 0, 1, 2, 2]
theorem o1_eq : o1 = .seq A1 (.seq (.block 1 B1) (pieceOf o1 [1, 1])) := by kernel_rfl
theorem B1_eq : B1 = .seq (pieceOf B1 [0]) (.seq (.seq (pieceOf B1 [1, 0, 0]) (.block 2 (.loop o2))) (pieceOf B1 [1, 1])) := by kernel_rfl
theorem o2_eq : o2 = .seq (pieceOf o2 [0]) (.seq (.block 3 B3) (pieceOf o2 [1, 1])) := by kernel_rfl
theorem B3_eq : B3 = .seq (pieceOf B3 [0]) (.seq (pieceOf B3 [1, 0]) (.seq (.seq (pieceOf B3 [1, 1, 0, 0]) (.block 4 (.loop o3))) (pieceOf B3 [1, 1, 1]))) := by kernel_rfl
theorem cd_eq : cd = .seq (p [0]) (.seq (p [1, 0]) (.seq (p [1, 1, 0]) (.seq (p [1, 1, 1, 0]) (.seq (.seq (p [1, 1, 1, 1, 0, 0]) (.block 0 (.loop o1))) (p [1, 1, 1, 1, 1]))))) := by kernel_rfl
-- terms
def all1 : List Tm := [.v 0, .v 1, .v 2, .v 3]
def row : Tm := .op .nth [.v 0, .v 3]
def num : Tm := .op .nth [row, .v 5]
def tT : List (Tm × Tm) := [(lss (.v 3) (len (.v 0)), .bool true), (lss (.v 3) (.int 6), .bool true), (leq (.int 0) (.v 3), .bool true)]
theorem kA1 : evIce P (E0.tab tT) 100000 cx none 1 A1 inv1 [] (subs all1) [(1, 1), (2, 2)] .normal s4 = true := by kernel_rfl
theorem kA1x (u : Tm) : evIce P (E0.tab [(lss (.v 3) (len (.v 0)), .bool false)]) 100000 cx none 1 A1 inv1 [.ice 1] (subs (all1 ++ [.int 0, .int 0, .int 0, u])) [(2, 2)] (.exit 0) s9 = true := by kernel_rfl
theorem kA1y (u : Tm) : evIce P (E0.tab [(lss (.v 3) (len (.v 0)), .bool true), (lss (.v 3) (.int 6), .bool false)]) 100000 cx none 1 A1 inv1 [.ice 1] (subs (all1 ++ [.int 0, .int 0, .int 0, u])) [(2, 2)] (.exit 0) s9 = true := by kernel_rfl
theorem kB0 : evIce P (E0.tab []) 100000 cx none 1 (pieceOf B1 [0]) s4 [] (subs all1) [(1, 1), (2, 2)] .normal s5 = true := by kernel_rfl
theorem kB1 : evIce P (E0.tab []) 100000 cx none 1 (pieceOf B1 [1, 0, 0]) s5 [] (subs (all1 ++ [.op .mk [], .int 0])) [(1, 1), (2, 2)] .normal inv2 = true := by kernel_rfl
def all2 : List Tm := [.v 0, .v 1, .v 2, .v 3, .v 4, .v 5]
def n3 : List (Nat × Nat) := [(1, 1), (2, 2), (3, 3)]
def inI : List (Tm × Tm) := [(leq (.int 0) (.v 3), .bool true), (lss (.v 3) (len (.v 0)), .bool true)]
def kT (b : Bool) : Tm × Tm := (lss (.v 5) (len row), .bool b)
def k8 (b : Bool) : Tm × Tm := (lss (.v 5) (.int 8), .bool b)
theorem kA2 : evIce P (E0.tab (kT true :: k8 true :: inI)) 100000 cx none 1 (pieceOf o2 [0]) inv2 [] (subs all2) n3 .normal inv2 = true := by kernel_rfl
theorem kA2x : evIce P (E0.tab (kT false :: inI)) 100000 cx none 1 (pieceOf o2 [0]) inv2 [.ice 3] (subs [.v 0, .v 1, .v 2, .v 3, .v 4]) [(1, 1), (2, 2)] (.exit 2) s8 = true := by kernel_rfl
theorem kA2y : evIce P (E0.tab (kT true :: k8 false :: inI)) 100000 cx none 1 (pieceOf o2 [0]) inv2 [.ice 3] (subs [.v 0, .v 1, .v 2, .v 3, .v 4]) [(1, 1), (2, 2)] (.exit 2) s8 = true := by kernel_rfl
/-- one more behind a list. -/
def app (l x : Tm) : Tm := .op .cat [l, .op .mk [x]]
def tapp (l x : Tm) : List (Tm × Tm) := [(leq (len l) (len l), .bool true), (.op .small [.op .nadd [len l, .int 1]], .bool true), (len (app l x), .op .nadd [len l, .int 1])]
theorem k20 : evIce P (E0.tab (tapp (.v 1) (.v 4))) 100000 cx none 1 (pieceOf B1 [1, 1]) s8 [] (subs [.v 0, app (.v 1) (.v 4), .v 2, .v 3]) [(1, 4), (2, 2)] .normal inv1 = true := by kernel_rfl
def next (i : Nat) : Tm := .op (.bin .add .i64) [.v i, .int 1]
theorem k7 : evIce P (E0.tab []) 100000 cx none 1 (pieceOf o1 [1, 1]) inv1 [] (subs [.v 0, .v 1, .v 2, next 3]) [(1, 1), (2, 2)] .normal inv1 = true := by kernel_rfl
def base : Tm := .op (.conv .u64) [.op (.bin .add .i64) [.op (.bin .mul .i64) [.int 10, .v 3], .v 5]]
def elem : Tm := .op .mk [num, base, .op .mk []]
def inK : List (Tm × Tm) := (leq (.int 0) (.v 5), .bool true) :: kT true :: inI
theorem k12 : evIce P (E0.tab (tapp (.v 4) elem ++ inK)) 100000 cx none 1 (pieceOf B3 [0]) inv2 [] (subs [.v 0, .v 1, .v 2, .v 3, app (.v 4) elem, .v 5]) [(1, 1), (2, 2), (3, 5)] .normal inv2 = true := by kernel_rfl
theorem k13 : evIce P (E0.tab []) 100000 cx none 1 (pieceOf B3 [1, 0]) inv2 [] (subs all2) n3 .normal s6 = true := by kernel_rfl
theorem k14 : evIce P (E0.tab []) 100000 cx none 1 (pieceOf B3 [1, 1, 0, 0]) s6 [] (subs (all2 ++ [.int 0])) n3 .normal (inv3 false) = true := by kernel_rfl
def jT (b : Bool) : Tm × Tm := (lss (.v 6) (len (.v 2)), .bool b)
def j0 : Tm × Tm := (leq (.int 0) (.v 6), .bool true)
def eqJ (b : Bool) : Tm × Tm := (.op (.bin .eql .i64) [.op .nth [.v 2, .v 6], num], .bool b)
theorem k3x (b : Bool) : evIce P (E0.tab [jT false]) 100000 cx none 1 o3 (inv3 b) [] (subs all2) n3 (.exit 4) (s7 b) = true := by cases b <;> kernel_rfl
theorem k3t : evIce P (E0.tab [jT true]) 100000 cx none 1 o3 (inv3 true) [] (subs (all2 ++ [next 6])) n3 .normal (inv3 true) = true := by kernel_rfl
theorem k3f (b : Bool) : evIce P (E0.tab (jT true :: j0 :: eqJ b :: inK)) 100000 cx none 1 o3 (inv3 false) [] (subs (all2 ++ [next 6])) n3 .normal (inv3 b) = true := by cases b <;> kernel_rfl
theorem k18t : evIce P (E0.tab []) 100000 cx none 1 (pieceOf B3 [1, 1, 1]) (s7 true) [] (subs all2) n3 .normal inv2 = true := by kernel_rfl
theorem k18f : evIce P (E0.tab (tapp (.v 2) num ++ inK)) 100000 cx none 1 (pieceOf B3 [1, 1, 1]) (s7 false) [] (subs [.v 0, .v 1, app (.v 2) num, .v 3, .v 4, .v 5]) [(1, 1), (2, 5), (3, 3)] .normal inv2 = true := by kernel_rfl
theorem k11 : evIce P (E0.tab []) 100000 cx none 1 (pieceOf o2 [1, 1]) inv2 [] (subs [.v 0, .v 1, .v 2, .v 3, .v 4, next 5]) n3 .normal inv2 = true := by kernel_rfl
-- behind the lists
def ym : Fact := ⟨27, [.sy cc.lK (.v 1)], 3, [], .sy (.isl mK) (.v 7), [], 3⟩
def s10 : St := { vars := [(4, aW), (10, .sy (.isl mK) (.v 7))], loc := [], marks := [], objs := [rW], next := 3 }
def inv4 : St := { vars := [(4, aW), (10, .sy (.isl mK) (.v 7)), (11, i64 (.v 3))], loc := [], marks := [], objs := [rW], next := 3 }
noncomputable def tl : Code := p [1, 1, 1, 1, 1]
noncomputable def o4 : Code := pieceOf tl [1, 1, 0, 1, 2, 2]
theorem tl_eq : tl = .seq (pieceOf tl [0]) (.seq (pieceOf tl [1, 0]) (.seq (.seq (pieceOf tl [1, 1, 0, 0]) (.block 6 (.loop o4))) (pieceOf tl [1, 1, 1]))) := by kernel_rfl
theorem usem : usesSo (tableNf []) G (subs [.v 1, .v 7]) [] mg.x ym = true := by kernel_rfl
theorem k21 : evIce P ((E0.know [ym]).tab []) 100000 cx none 1 (pieceOf tl [0]) s9 [] (subs [.v 0, .v 1, .v 2, .int 0, .int 0, .int 0, .int 0, .v 7]) [(2, 2)] .normal s10 = true := by kernel_rfl
theorem k22 : evIce P (E0.tab [(.op (.bin .neq .i64) [len (.v 7), len (.v 2)], .bool false)]) 100000 cx none 1 (pieceOf tl [1, 0]) s10 [] (subs [.v 0, .v 1, .v 2, .int 0, .int 0, .int 0, .int 0, .v 7]) [(2, 2)] .normal s10 = true := by kernel_rfl
theorem k24 : evIce P (E0.tab []) 100000 cx none 1 (pieceOf tl [1, 1, 0, 0]) s10 [] (subs [.v 0, .v 1, .v 2, .int 0, .int 0, .int 0, .int 0, .v 7]) [(2, 2)] .normal inv4 = true := by kernel_rfl
def fT : List (Tm × Tm) := [(lss (.v 3) (len (.v 2)), .bool true), (leq (.int 0) (.v 3), .bool true), (lss (.v 3) (len (.v 7)), .bool true), (.op (.bin .neq .i64) [.op (.fld 0) [.op .nth [.v 7, .v 3]], .op .nth [.v 2, .v 3]], .bool false)]
theorem k4 : evIce P (E0.tab fT) 100000 cx none 1 o4 inv4 [] (subs [.v 0, .v 1, .v 2, next 3, .int 0, .int 0, .int 0, .v 7]) [(2, 2)] .normal inv4 = true := by kernel_rfl
theorem k4x : evIce P (E0.tab [(lss (.v 3) (len (.v 2)), .bool false)]) 100000 cx none 1 o4 inv4 [] (subs [.v 0]) [(2, 2)] (.exit 6) { inv4 with vars := [], objs := [] } = true := by kernel_rfl
def fin : St := { vars := [(2, .bool true)], loc := [], marks := [], objs := [], next := 1 }
theorem k29 : evIce P (E0.tab []) 100000 cx none 1 (pieceOf tl [1, 1, 1]) { inv4 with vars := [], objs := [] } [] (subs [.v 0]) [] .ret fin = true := by kernel_rfl

def input (l : List (List Int)) : D := .list (l.map fun r => .list (r.map .int))

/-- the loop over what is wanted: is it there? -/
theorem loop3 (I : D) (Ls W M : D) (i k : Nat) (w : List Int) (n : Int) (hW : W = .list (w.map .int)) (hn : ∀ (V : Val), V.θ 0 = I → V.θ 3 = .int i → V.θ 5 = .int k → @Tm.den V num = .int n)
    (hi : ∀ (V : Val), V.θ 0 = I → V.θ 3 = .int i → V.θ 5 = .int k → @AllEq V inK) (hw : w.length ≤ 1000) :
    Tri P G (vals [I, Ls, W, .int i, M, .int k, .int 0]) cx none 1 (.loop o3) (inv3 false) fun V' ex σ' => ex = .exit 4 ∧ V' = vals [I, Ls, W, .int i, M, .int k] ∧ σ' = s7 (decide (n ∈ w)) := by
  have hg : cx.glob = G := by kernel_rfl
  subst hW
  refine Tri.loops (α := Nat) (fun j => j ≤ w.length) (fun j => w.length - j) (fun j => vals [I, Ls, .list (w.map .int), .int i, M, .int k, .int (j : Int)]) (fun j => inv3 (decide (n ∈ w.take j))) stays_none ?_ 0 (Nat.zero_le _)
  intro j hj
  by_cases hlt : j < w.length
  · have w1 : IntKind.i64.wrap ((j : Int) + 1) = ((j + 1 : Nat) : Int) := by rw [wrap_i64 (by omega)]; simp
    have ht : w.take (j + 1) = w.take j ++ [w[j]] := List.take_succ_eq_append_getElem hlt
    have hq : (w.map D.int).getD j .bad = .int w[j] := by simp [List.getD_eq_getElem?_getD, hlt]
    by_cases hb : n ∈ w.take j
    · rw [decide_eq_true hb]
      refine Tri.go (envAt _) hg (tb := [jT true]) ⟨?_, trivial⟩ (show (1 : Nat) ≤ 4 by omega) k3t (.inl ⟨rfl, j + 1, ?_, ?_, hlt, by omega⟩)
      · simp only [D.tm_den, den_int, den_bool, den_str, den_v, den_op, dens_nil, dens_cons, vals_at, List.getD_cons_succ, List.getD_cons_zero, List.getD_nil, List.map_cons, List.map_nil, Int.toNat_natCast, tden_bin, tden_shift, tden_conv, tden_not, tden_and, tden_sbin, tden_slen, tden_len, tden_nth, tden_fld, tden_mk, tden_cat, tden_sub, tden_set, tden_setf, tden_rep, tden_sget, tden_ssub, tden_ite, tden_bytes, tden_text, tden_fits, tden_nadd, tden_nsub, tden_small, intD_add, intD_sub, intD_mul, intD_quo, intD_rem, intD_eql, intD_neq, intD_lss, intD_leq, intD_gtr, intD_geq, D.int.injEq, D.bool.injEq, D.str.injEq, D.list.injEq, decide_eq_true_eq, decide_eq_false_iff_not, beq_iff_eq, jT, lss, len, List.length_map]; omega
      · rw [decide_eq_true (by rw [ht]; exact List.mem_append_left _ hb)]
      · simp only [all2, List.cons_append, List.nil_append]; simp only [D.tm_den, den_int, den_bool, den_str, den_v, den_op, dens_nil, dens_cons, vals_at, List.getD_cons_succ, List.getD_cons_zero, List.getD_nil, List.map_cons, List.map_nil, Int.toNat_natCast, tden_bin, tden_shift, tden_conv, tden_not, tden_and, tden_sbin, tden_slen, tden_len, tden_nth, tden_fld, tden_mk, tden_cat, tden_sub, tden_set, tden_setf, tden_rep, tden_sget, tden_ssub, tden_ite, tden_bytes, tden_text, tden_fits, tden_nadd, tden_nsub, tden_small, intD_add, intD_sub, intD_mul, intD_quo, intD_rem, intD_eql, intD_neq, intD_lss, intD_leq, intD_gtr, intD_geq, D.int.injEq, D.bool.injEq, D.str.injEq, D.list.injEq, decide_eq_true_eq, decide_eq_false_iff_not, beq_iff_eq, next, w1]
    · rw [decide_eq_false hb]
      have hnum := hn (vals [I, Ls, .list (w.map .int), .int i, M, .int k, .int (j : Int)]) rfl rfl rfl
      have hin := hi (vals [I, Ls, .list (w.map .int), .int i, M, .int k, .int (j : Int)]) rfl rfl rfl
      refine Tri.go (envAt _) hg (tb := jT true :: j0 :: eqJ (decide (n = w[j])) :: inK) ⟨?_, ?_, ?_, hin⟩ (show (1 : Nat) ≤ 4 by omega) (k3f _) (.inl ⟨rfl, j + 1, ?_, ?_, hlt, by omega⟩)
      · simp only [D.tm_den, den_int, den_bool, den_str, den_v, den_op, dens_nil, dens_cons, vals_at, List.getD_cons_succ, List.getD_cons_zero, List.getD_nil, List.map_cons, List.map_nil, Int.toNat_natCast, tden_bin, tden_shift, tden_conv, tden_not, tden_and, tden_sbin, tden_slen, tden_len, tden_nth, tden_fld, tden_mk, tden_cat, tden_sub, tden_set, tden_setf, tden_rep, tden_sget, tden_ssub, tden_ite, tden_bytes, tden_text, tden_fits, tden_nadd, tden_nsub, tden_small, intD_add, intD_sub, intD_mul, intD_quo, intD_rem, intD_eql, intD_neq, intD_lss, intD_leq, intD_gtr, intD_geq, D.int.injEq, D.bool.injEq, D.str.injEq, D.list.injEq, decide_eq_true_eq, decide_eq_false_iff_not, beq_iff_eq, jT, lss, len, List.length_map]; omega
      · simp only [D.tm_den, den_int, den_bool, den_str, den_v, den_op, dens_nil, dens_cons, vals_at, List.getD_cons_succ, List.getD_cons_zero, List.getD_nil, List.map_cons, List.map_nil, Int.toNat_natCast, tden_bin, tden_shift, tden_conv, tden_not, tden_and, tden_sbin, tden_slen, tden_len, tden_nth, tden_fld, tden_mk, tden_cat, tden_sub, tden_set, tden_setf, tden_rep, tden_sget, tden_ssub, tden_ite, tden_bytes, tden_text, tden_fits, tden_nadd, tden_nsub, tden_small, intD_add, intD_sub, intD_mul, intD_quo, intD_rem, intD_eql, intD_neq, intD_lss, intD_leq, intD_gtr, intD_geq, D.int.injEq, D.bool.injEq, D.str.injEq, D.list.injEq, decide_eq_true_eq, decide_eq_false_iff_not, beq_iff_eq, j0, leq]; omega
      · simp only [D.tm_den, den_int, den_bool, den_str, den_v, den_op, dens_nil, dens_cons, vals_at, List.getD_cons_succ, List.getD_cons_zero, List.getD_nil, List.map_cons, List.map_nil, Int.toNat_natCast, tden_bin, tden_shift, tden_conv, tden_not, tden_and, tden_sbin, tden_slen, tden_len, tden_nth, tden_fld, tden_mk, tden_cat, tden_sub, tden_set, tden_setf, tden_rep, tden_sget, tden_ssub, tden_ite, tden_bytes, tden_text, tden_fits, tden_nadd, tden_nsub, tden_small, intD_add, intD_sub, intD_mul, intD_quo, intD_rem, intD_eql, intD_neq, intD_lss, intD_leq, intD_gtr, intD_geq, D.int.injEq, D.bool.injEq, D.str.injEq, D.list.injEq, decide_eq_true_eq, decide_eq_false_iff_not, beq_iff_eq, eqJ, hq, hnum]
        by_cases e : n = w[j]
        · simp [e]
        · rw [decide_eq_false e, beq_eq_false_iff_ne]; exact fun h => e h.symm
      · rw [show decide (n ∈ w.take (j + 1)) = decide (n = w[j]) from by simp only [ht, List.mem_append, List.mem_singleton, hb, false_or]]
      · simp only [all2, List.cons_append, List.nil_append]; simp only [D.tm_den, den_int, den_bool, den_str, den_v, den_op, dens_nil, dens_cons, vals_at, List.getD_cons_succ, List.getD_cons_zero, List.getD_nil, List.map_cons, List.map_nil, Int.toNat_natCast, tden_bin, tden_shift, tden_conv, tden_not, tden_and, tden_sbin, tden_slen, tden_len, tden_nth, tden_fld, tden_mk, tden_cat, tden_sub, tden_set, tden_setf, tden_rep, tden_sget, tden_ssub, tden_ite, tden_bytes, tden_text, tden_fits, tden_nadd, tden_nsub, tden_small, intD_add, intD_sub, intD_mul, intD_quo, intD_rem, intD_eql, intD_neq, intD_lss, intD_leq, intD_gtr, intD_geq, D.int.injEq, D.bool.injEq, D.str.injEq, D.list.injEq, decide_eq_true_eq, decide_eq_false_iff_not, beq_iff_eq, next, w1]
  · have : j = w.length := by omega
    subst this
    rw [List.take_length]
    refine Tri.go (envAt _) hg (tb := [jT false]) ⟨?_, trivial⟩ (show (1 : Nat) ≤ 4 by omega) (k3x _) (.inr ⟨by simp, rfl, rfl, rfl⟩)
    simp only [D.tm_den, den_int, den_bool, den_str, den_v, den_op, dens_nil, dens_cons, vals_at, List.getD_cons_succ, List.getD_cons_zero, List.getD_nil, List.map_cons, List.map_nil, Int.toNat_natCast, tden_bin, tden_shift, tden_conv, tden_not, tden_and, tden_sbin, tden_slen, tden_len, tden_nth, tden_fld, tden_mk, tden_cat, tden_sub, tden_set, tden_setf, tden_rep, tden_sget, tden_ssub, tden_ite, tden_bytes, tden_text, tden_fits, tden_nadd, tden_nsub, tden_small, intD_add, intD_sub, intD_mul, intD_quo, intD_rem, intD_eql, intD_neq, intD_lss, intD_leq, intD_gtr, intD_geq, D.int.injEq, D.bool.injEq, D.str.injEq, D.list.injEq, decide_eq_true_eq, decide_eq_false_iff_not, beq_iff_eq, jT, lss, len, List.length_map]; omega

section
variable {l : List (List Int)} {i k : Nat}
theorem rowV (hi : i < l.length) (V : Val) (h0 : V.θ 0 = input l) (h3 : V.θ 3 = .int i) : @Tm.den V row = .list (l[i].map .int) := by
  simp only [D.tm_den, den_int, den_bool, den_str, den_v, den_op, dens_nil, dens_cons, vals_at, List.getD_cons_succ, List.getD_cons_zero, List.getD_nil, List.map_cons, List.map_nil, Int.toNat_natCast, tden_bin, tden_shift, tden_conv, tden_not, tden_and, tden_sbin, tden_slen, tden_len, tden_nth, tden_fld, tden_mk, tden_cat, tden_sub, tden_set, tden_setf, tden_rep, tden_sget, tden_ssub, tden_ite, tden_bytes, tden_text, tden_fits, tden_nadd, tden_nsub, tden_small, intD_add, intD_sub, intD_mul, intD_quo, intD_rem, intD_eql, intD_neq, intD_lss, intD_leq, intD_gtr, intD_geq, D.int.injEq, D.bool.injEq, D.str.injEq, D.list.injEq, decide_eq_true_eq, decide_eq_false_iff_not, beq_iff_eq, row, h0, h3, input]
  simp [List.getD_eq_getElem?_getD, hi]
theorem numV (hi : i < l.length) (hk : k < l[i].length) (V : Val) (h0 : V.θ 0 = input l) (h3 : V.θ 3 = .int i) (h5 : V.θ 5 = .int k) : @Tm.den V num = .int (l[i][k]) := by
  have := rowV hi V h0 h3
  simp only [D.tm_den, den_int, den_bool, den_str, den_v, den_op, dens_nil, dens_cons, vals_at, List.getD_cons_succ, List.getD_cons_zero, List.getD_nil, List.map_cons, List.map_nil, Int.toNat_natCast, tden_bin, tden_shift, tden_conv, tden_not, tden_and, tden_sbin, tden_slen, tden_len, tden_nth, tden_fld, tden_mk, tden_cat, tden_sub, tden_set, tden_setf, tden_rep, tden_sget, tden_ssub, tden_ite, tden_bytes, tden_text, tden_fits, tden_nadd, tden_nsub, tden_small, intD_add, intD_sub, intD_mul, intD_quo, intD_rem, intD_eql, intD_neq, intD_lss, intD_leq, intD_gtr, intD_geq, D.int.injEq, D.bool.injEq, D.str.injEq, D.list.injEq, decide_eq_true_eq, decide_eq_false_iff_not, beq_iff_eq, num, this, h5]
  simp [List.getD_eq_getElem?_getD, hk]
theorem inIV (hi : i < l.length) (V : Val) (h0 : V.θ 0 = input l) (h3 : V.θ 3 = .int i) : @AllEq V inI := by
  refine ⟨?_, ?_, trivial⟩
  · simp only [D.tm_den, den_int, den_bool, den_str, den_v, den_op, dens_nil, dens_cons, vals_at, List.getD_cons_succ, List.getD_cons_zero, List.getD_nil, List.map_cons, List.map_nil, Int.toNat_natCast, tden_bin, tden_shift, tden_conv, tden_not, tden_and, tden_sbin, tden_slen, tden_len, tden_nth, tden_fld, tden_mk, tden_cat, tden_sub, tden_set, tden_setf, tden_rep, tden_sget, tden_ssub, tden_ite, tden_bytes, tden_text, tden_fits, tden_nadd, tden_nsub, tden_small, intD_add, intD_sub, intD_mul, intD_quo, intD_rem, intD_eql, intD_neq, intD_lss, intD_leq, intD_gtr, intD_geq, D.int.injEq, D.bool.injEq, D.str.injEq, D.list.injEq, decide_eq_true_eq, decide_eq_false_iff_not, beq_iff_eq, leq, h3]; omega
  · simp only [D.tm_den, den_int, den_bool, den_str, den_v, den_op, dens_nil, dens_cons, vals_at, List.getD_cons_succ, List.getD_cons_zero, List.getD_nil, List.map_cons, List.map_nil, Int.toNat_natCast, tden_bin, tden_shift, tden_conv, tden_not, tden_and, tden_sbin, tden_slen, tden_len, tden_nth, tden_fld, tden_mk, tden_cat, tden_sub, tden_set, tden_setf, tden_rep, tden_sget, tden_ssub, tden_ite, tden_bytes, tden_text, tden_fits, tden_nadd, tden_nsub, tden_small, intD_add, intD_sub, intD_mul, intD_quo, intD_rem, intD_eql, intD_neq, intD_lss, intD_leq, intD_gtr, intD_geq, D.int.injEq, D.bool.injEq, D.str.injEq, D.list.injEq, decide_eq_true_eq, decide_eq_false_iff_not, beq_iff_eq, lss, len, h3, h0, input, List.length_map]; omega
theorem inKV (hi : i < l.length) (hk : k < l[i].length) (V : Val) (h0 : V.θ 0 = input l) (h3 : V.θ 3 = .int i) (h5 : V.θ 5 = .int k) : @AllEq V inK := by
  have := rowV hi V h0 h3
  refine ⟨?_, ?_, inIV hi V h0 h3⟩
  · simp only [D.tm_den, den_int, den_bool, den_str, den_v, den_op, dens_nil, dens_cons, vals_at, List.getD_cons_succ, List.getD_cons_zero, List.getD_nil, List.map_cons, List.map_nil, Int.toNat_natCast, tden_bin, tden_shift, tden_conv, tden_not, tden_and, tden_sbin, tden_slen, tden_len, tden_nth, tden_fld, tden_mk, tden_cat, tden_sub, tden_set, tden_setf, tden_rep, tden_sget, tden_ssub, tden_ite, tden_bytes, tden_text, tden_fits, tden_nadd, tden_nsub, tden_small, intD_add, intD_sub, intD_mul, intD_quo, intD_rem, intD_eql, intD_neq, intD_lss, intD_leq, intD_gtr, intD_geq, D.int.injEq, D.bool.injEq, D.str.injEq, D.list.injEq, decide_eq_true_eq, decide_eq_false_iff_not, beq_iff_eq, leq, h5]; omega
  · simp only [D.tm_den, den_int, den_bool, den_str, den_v, den_op, dens_nil, dens_cons, vals_at, List.getD_cons_succ, List.getD_cons_zero, List.getD_nil, List.map_cons, List.map_nil, Int.toNat_natCast, tden_bin, tden_shift, tden_conv, tden_not, tden_and, tden_sbin, tden_slen, tden_len, tden_nth, tden_fld, tden_mk, tden_cat, tden_sub, tden_set, tden_setf, tden_rep, tden_sget, tden_ssub, tden_ite, tden_bytes, tden_text, tden_fits, tden_nadd, tden_nsub, tden_small, intD_add, intD_sub, intD_mul, intD_quo, intD_rem, intD_eql, intD_neq, intD_lss, intD_leq, intD_gtr, intD_geq, D.int.injEq, D.bool.injEq, D.str.injEq, D.list.injEq, decide_eq_true_eq, decide_eq_false_iff_not, beq_iff_eq, kT, lss, len, h5, this, List.length_map]; omega
theorem tappV {L : List D} {a x : Tm} (V : Val) (h : @Tm.den V a = .list L) (hl : L.length ≤ 1000) : ∀ t, @AllEq V t → @AllEq V (tapp a x ++ t) := by
  intro t ht
  refine ⟨?_, ?_, ?_, ht⟩
  · simp only [D.tm_den, den_int, den_bool, den_str, den_v, den_op, dens_nil, dens_cons, vals_at, List.getD_cons_succ, List.getD_cons_zero, List.getD_nil, List.map_cons, List.map_nil, Int.toNat_natCast, tden_bin, tden_shift, tden_conv, tden_not, tden_and, tden_sbin, tden_slen, tden_len, tden_nth, tden_fld, tden_mk, tden_cat, tden_sub, tden_set, tden_setf, tden_rep, tden_sget, tden_ssub, tden_ite, tden_bytes, tden_text, tden_fits, tden_nadd, tden_nsub, tden_small, intD_add, intD_sub, intD_mul, intD_quo, intD_rem, intD_eql, intD_neq, intD_lss, intD_leq, intD_gtr, intD_geq, D.int.injEq, D.bool.injEq, D.str.injEq, D.list.injEq, decide_eq_true_eq, decide_eq_false_iff_not, beq_iff_eq, leq, len, h]; omega
  · simp only [D.tm_den, den_int, den_bool, den_str, den_v, den_op, dens_nil, dens_cons, vals_at, List.getD_cons_succ, List.getD_cons_zero, List.getD_nil, List.map_cons, List.map_nil, Int.toNat_natCast, tden_bin, tden_shift, tden_conv, tden_not, tden_and, tden_sbin, tden_slen, tden_len, tden_nth, tden_fld, tden_mk, tden_cat, tden_sub, tden_set, tden_setf, tden_rep, tden_sget, tden_ssub, tden_ite, tden_bytes, tden_text, tden_fits, tden_nadd, tden_nsub, tden_small, intD_add, intD_sub, intD_mul, intD_quo, intD_rem, intD_eql, intD_neq, intD_lss, intD_leq, intD_gtr, intD_geq, D.int.injEq, D.bool.injEq, D.str.injEq, D.list.injEq, decide_eq_true_eq, decide_eq_false_iff_not, beq_iff_eq, len, h]; omega
  · simp only [D.tm_den, den_int, den_bool, den_str, den_v, den_op, dens_nil, dens_cons, vals_at, List.getD_cons_succ, List.getD_cons_zero, List.getD_nil, List.map_cons, List.map_nil, Int.toNat_natCast, tden_bin, tden_shift, tden_conv, tden_not, tden_and, tden_sbin, tden_slen, tden_len, tden_nth, tden_fld, tden_mk, tden_cat, tden_sub, tden_set, tden_setf, tden_rep, tden_sget, tden_ssub, tden_ite, tden_bytes, tden_text, tden_fits, tden_nadd, tden_nsub, tden_small, intD_add, intD_sub, intD_mul, intD_quo, intD_rem, intD_eql, intD_neq, intD_lss, intD_leq, intD_gtr, intD_geq, D.int.injEq, D.bool.injEq, D.str.injEq, D.list.injEq, decide_eq_true_eq, decide_eq_false_iff_not, beq_iff_eq, len, app, h, List.length_append, List.length_cons, List.length_nil]; omega

/-- a member of a number. -/
def memOf (i k : Nat) (n : Int) : D := .list [.int n, .int (IntKind.u64.wrap (IntKind.i64.wrap (IntKind.i64.wrap (10 * (i : Int)) + (k : Int)))), .list []]

/-- one more member, and what is wanted then. -/
theorem step2 (hi : i < l.length) (hk : k < l[i].length) (Ls : D) (M : List D) (w : List Int) (hM : M.length ≤ 1000) (hw : w.length ≤ 1000) :
    Tri P G (vals [input l, Ls, .list (w.map .int), .int i, .list M, .int k]) cx none 1 (.block 3 B3) inv2 fun V' ex σ' => ex = .normal ∧
      V' = vals [input l, Ls, .list ((if l[i][k] ∈ w then w else w ++ [l[i][k]]).map .int), .int i, .list (M ++ [memOf i k l[i][k]]), .int k] ∧ σ' = inv2 := by
  have hg : cx.glob = G := by kernel_rfl
  have le4 : (1 : Nat) ≤ 4 := by omega
  rw [B3_eq]
  refine Tri.block (Tri.goSeq (envAt _) hg stays_none (tb := tapp (.v 4) elem ++ inK) ?_ le4 k12 ?_)
  · exact tappV (L := M) _ rfl hM _ (inKV hi hk _ rfl rfl rfl)
  have hnum := numV hi hk (vals [input l, Ls, .list (w.map .int), .int i, .list M, .int k]) rfl rfl rfl
  simp only [D.tm_den, den_int, den_bool, den_str, den_v, den_op, dens_nil, dens_cons, vals_at, List.getD_cons_succ, List.getD_cons_zero, List.getD_nil, List.map_cons, List.map_nil, Int.toNat_natCast, tden_bin, tden_shift, tden_conv, tden_not, tden_and, tden_sbin, tden_slen, tden_len, tden_nth, tden_fld, tden_mk, tden_cat, tden_sub, tden_set, tden_setf, tden_rep, tden_sget, tden_ssub, tden_ite, tden_bytes, tden_text, tden_fits, tden_nadd, tden_nsub, tden_small, intD_add, intD_sub, intD_mul, intD_quo, intD_rem, intD_eql, intD_neq, intD_lss, intD_leq, intD_gtr, intD_geq, D.int.injEq, D.bool.injEq, D.str.injEq, D.list.injEq, decide_eq_true_eq, decide_eq_false_iff_not, beq_iff_eq, app, elem, hnum, base]
  refine Tri.goSeq (envAt _) hg stays_none (tb := []) trivial le4 k13 ?_
  simp only [all2]
  simp only [D.tm_den, den_int, den_bool, den_str, den_v, den_op, dens_nil, dens_cons, vals_at, List.getD_cons_succ, List.getD_cons_zero, List.getD_nil, List.map_cons, List.map_nil, Int.toNat_natCast, tden_bin, tden_shift, tden_conv, tden_not, tden_and, tden_sbin, tden_slen, tden_len, tden_nth, tden_fld, tden_mk, tden_cat, tden_sub, tden_set, tden_setf, tden_rep, tden_sget, tden_ssub, tden_ite, tden_bytes, tden_text, tden_fits, tden_nadd, tden_nsub, tden_small, intD_add, intD_sub, intD_mul, intD_quo, intD_rem, intD_eql, intD_neq, intD_lss, intD_leq, intD_gtr, intD_geq, D.int.injEq, D.bool.injEq, D.str.injEq, D.list.injEq, decide_eq_true_eq, decide_eq_false_iff_not, beq_iff_eq]
  refine Tri.seq stays_none (Q1 := fun V' ex σ' => ex = .normal ∧ V' = vals [input l, Ls, .list (w.map .int), .int i, .list (M ++ [memOf i k l[i][k]]), .int k] ∧ σ' = s7 (decide (l[i][k] ∈ w))) ?_ ?_ (fun V' ex σ' hne h => absurd h.1 hne)
  · refine Tri.goSeq (envAt _) hg stays_none (tb := []) trivial le4 k14 ?_
    simp only [all2, List.cons_append, List.nil_append]
    simp only [D.tm_den, den_int, den_bool, den_str, den_v, den_op, dens_nil, dens_cons, vals_at, List.getD_cons_succ, List.getD_cons_zero, List.getD_nil, List.map_cons, List.map_nil, Int.toNat_natCast, tden_bin, tden_shift, tden_conv, tden_not, tden_and, tden_sbin, tden_slen, tden_len, tden_nth, tden_fld, tden_mk, tden_cat, tden_sub, tden_set, tden_setf, tden_rep, tden_sget, tden_ssub, tden_ite, tden_bytes, tden_text, tden_fits, tden_nadd, tden_nsub, tden_small, intD_add, intD_sub, intD_mul, intD_quo, intD_rem, intD_eql, intD_neq, intD_lss, intD_leq, intD_gtr, intD_geq, D.int.injEq, D.bool.injEq, D.str.injEq, D.list.injEq, decide_eq_true_eq, decide_eq_false_iff_not, beq_iff_eq]
    refine Tri.block (Tri.mono (loop3 (input l) Ls _ (.list (M ++ [memOf i k l[i][k]])) i k w l[i][k] rfl (numV hi hk) (inKV hi hk) hw) ?_)
    rintro V' ex σ' ⟨rfl, rfl, rfl⟩
    exact ⟨rfl, rfl, rfl⟩
  · rintro V' σ' ⟨-, rfl, rfl⟩
    by_cases hm : l[i][k] ∈ w
    · rw [decide_eq_true hm]
      refine Tri.go (envAt _) hg (tb := []) trivial le4 k18t ⟨rfl, ?_, rfl⟩
      rw [if_pos hm]; simp only [all2]; simp only [D.tm_den, den_int, den_bool, den_str, den_v, den_op, dens_nil, dens_cons, vals_at, List.getD_cons_succ, List.getD_cons_zero, List.getD_nil, List.map_cons, List.map_nil, Int.toNat_natCast, tden_bin, tden_shift, tden_conv, tden_not, tden_and, tden_sbin, tden_slen, tden_len, tden_nth, tden_fld, tden_mk, tden_cat, tden_sub, tden_set, tden_setf, tden_rep, tden_sget, tden_ssub, tden_ite, tden_bytes, tden_text, tden_fits, tden_nadd, tden_nsub, tden_small, intD_add, intD_sub, intD_mul, intD_quo, intD_rem, intD_eql, intD_neq, intD_lss, intD_leq, intD_gtr, intD_geq, D.int.injEq, D.bool.injEq, D.str.injEq, D.list.injEq, decide_eq_true_eq, decide_eq_false_iff_not, beq_iff_eq]
    · rw [decide_eq_false hm]
      refine Tri.go (envAt _) hg (tb := tapp (.v 2) num ++ inK) ?_ le4 k18f ⟨rfl, ?_, rfl⟩
      · exact tappV (L := w.map .int) _ rfl (by rw [List.length_map]; exact hw) _ (inKV hi hk _ rfl rfl rfl)
      · have hnum := numV hi hk (vals [input l, Ls, .list (w.map .int), .int i, .list (M ++ [memOf i k l[i][k]]), .int k]) rfl rfl rfl
        rw [if_neg hm]; simp only [D.tm_den, den_int, den_bool, den_str, den_v, den_op, dens_nil, dens_cons, vals_at, List.getD_cons_succ, List.getD_cons_zero, List.getD_nil, List.map_cons, List.map_nil, Int.toNat_natCast, tden_bin, tden_shift, tden_conv, tden_not, tden_and, tden_sbin, tden_slen, tden_len, tden_nth, tden_fld, tden_mk, tden_cat, tden_sub, tden_set, tden_setf, tden_rep, tden_sget, tden_ssub, tden_ite, tden_bytes, tden_text, tden_fits, tden_nadd, tden_nsub, tden_small, intD_add, intD_sub, intD_mul, intD_quo, intD_rem, intD_eql, intD_neq, intD_lss, intD_leq, intD_gtr, intD_geq, D.int.injEq, D.bool.injEq, D.str.injEq, D.list.injEq, decide_eq_true_eq, decide_eq_false_iff_not, beq_iff_eq, app, hnum, List.map_append]
end

/-- what is wanted is what comes of the members so far. -/
def Want (w : List Int) (F : List D) : Prop := w.map D.int = (mergeTo [] F).map idOf
theorem Want.len {w : List Int} {F : List D} (h : Want w F) : w.length ≤ F.length := by
  have h1 := congrArg List.length h
  rw [List.length_map, List.length_map] at h1
  have := mergeTo_len F []
  simp only [List.length_nil, Nat.zero_add] at this
  omega
theorem memsOk_merge {F : List D} (h : memsOk F) : memsOk (mergeTo [] F) := fun d hd => by
  rcases mergeTo_mem F [] d hd with h1 | h1
  · cases h1
  · exact h d h1
theorem Want.more {w : List Int} {F : List D} (h : Want w F) (hF : memsOk F) (i k : Nat) (n : Int) : Want (if n ∈ w then w else w ++ [n]) (F ++ [memOf i k n]) := by
  have hm := indexOf_mem n (memsOk_merge hF)
  have hw : D.int n ∈ (mergeTo [] F).map idOf ↔ n ∈ w := by
    rw [← (show w.map D.int = (mergeTo [] F).map idOf from h), List.mem_map]
    exact ⟨fun ⟨a, h1, h2⟩ => by cases h2; exact h1, fun h1 => ⟨n, h1, rfl⟩⟩
  have hid : idOf (memOf i k n) = .int n := rfl
  unfold Want
  rw [mergeTo_append]
  simp only [mergeTo, hid]
  have := indexOf_ge n (mergeTo [] F)
  by_cases e : n ∈ w
  · rw [if_pos e, if_neg (by have := hm.2 (hw.2 e); omega)]; exact h
  · have h0 : ¬ 0 ≤ indexOf n (mergeTo [] F) := fun h0 => e (hw.1 (hm.1 h0))
    rw [if_neg e, if_pos (by omega), List.map_append, List.map_append, show w.map D.int = (mergeTo [] F).map idOf from h]
    rfl

section
variable {l : List (List Int)}
/-- the loop over a list. -/
theorem loop2 (hr : ∀ r ∈ l, ∀ n ∈ r, -2 ^ 63 ≤ n ∧ n < 2 ^ 63) (i : Nat) (hi : i < l.length) (Ls : D) (F : List D) (hF : memsOk F) (hFl : F.length ≤ 48) (w0 : List Int) (hw0 : Want w0 F) :
    Tri P G (vals [input l, Ls, .list (w0.map .int), .int i, .list [], .int 0]) cx none 1 (.loop o2) inv2 fun V' ex σ' => ex = .exit 2 ∧ σ' = s8 ∧
      ∃ M w, V' = vals [input l, Ls, .list (w.map .int), .int i, .list M] ∧ memsOk M ∧ M.length ≤ 8 ∧ Want w (F ++ M) := by
  have hg : cx.glob = G := by kernel_rfl
  have le4 : (1 : Nat) ≤ 4 := by omega
  refine Tri.loop (α := Nat × List D × List Int) (fun (k, M, w) => k ≤ 8 ∧ M.length ≤ k ∧ memsOk M ∧ Want w (F ++ M)) (fun (k, _, _) => 8 - k) (fun (k, M, w) => vals [input l, Ls, .list (w.map .int), .int i, .list M, .int (k : Int)]) stays_none ?_ (0, [], w0) ⟨by omega, Nat.le_refl 0, (fun d h => by cases h), by rw [List.append_nil]; exact hw0⟩
  rintro ⟨k, M, w⟩ ⟨hk, hM, hMo, hW⟩
  simp only at hk hM hMo hW ⊢
  have hrow := rowV hi (vals [input l, Ls, .list (w.map .int), .int i, .list M, .int (k : Int)]) rfl rfl
  have hin := inIV hi (vals [input l, Ls, .list (w.map .int), .int i, .list M, .int (k : Int)]) rfl rfl
  have hex : ∀ V', V' = vals [input l, Ls, .list (w.map .int), .int i, .list M] → ∃ M w, V' = vals [input l, Ls, .list (w.map .int), .int i, .list M] ∧ memsOk M ∧ M.length ≤ 8 ∧ Want w (F ++ M) :=
    fun V' h => ⟨M, w, h, hMo, by omega, hW⟩
  rw [o2_eq]
  by_cases h1 : k < l[i].length
  · have hkT : ∀ b, b = true → @Tm.den (vals [input l, Ls, .list (w.map .int), .int i, .list M, .int (k : Int)]) (kT b).1 = @Tm.den (vals [input l, Ls, .list (w.map .int), .int i, .list M, .int (k : Int)]) (kT b).2 := by
      rintro b rfl
      simp only [D.tm_den, den_int, den_bool, den_str, den_v, den_op, dens_nil, dens_cons, vals_at, List.getD_cons_succ, List.getD_cons_zero, List.getD_nil, List.map_cons, List.map_nil, Int.toNat_natCast, tden_bin, tden_shift, tden_conv, tden_not, tden_and, tden_sbin, tden_slen, tden_len, tden_nth, tden_fld, tden_mk, tden_cat, tden_sub, tden_set, tden_setf, tden_rep, tden_sget, tden_ssub, tden_ite, tden_bytes, tden_text, tden_fits, tden_nadd, tden_nsub, tden_small, intD_add, intD_sub, intD_mul, intD_quo, intD_rem, intD_eql, intD_neq, intD_lss, intD_leq, intD_gtr, intD_geq, D.int.injEq, D.bool.injEq, D.str.injEq, D.list.injEq, decide_eq_true_eq, decide_eq_false_iff_not, beq_iff_eq, kT, lss, len, hrow, List.length_map]; omega
    by_cases h2 : k < 8
    · have hwl := hW.len
      rw [List.length_append] at hwl
      refine Tri.goSeq (envAt _) hg stays_none (tb := kT true :: k8 true :: inI) ⟨hkT _ rfl, ?_, hin⟩ le4 kA2 ?_
      · simp only [D.tm_den, den_int, den_bool, den_str, den_v, den_op, dens_nil, dens_cons, vals_at, List.getD_cons_succ, List.getD_cons_zero, List.getD_nil, List.map_cons, List.map_nil, Int.toNat_natCast, tden_bin, tden_shift, tden_conv, tden_not, tden_and, tden_sbin, tden_slen, tden_len, tden_nth, tden_fld, tden_mk, tden_cat, tden_sub, tden_set, tden_setf, tden_rep, tden_sget, tden_ssub, tden_ite, tden_bytes, tden_text, tden_fits, tden_nadd, tden_nsub, tden_small, intD_add, intD_sub, intD_mul, intD_quo, intD_rem, intD_eql, intD_neq, intD_lss, intD_leq, intD_gtr, intD_geq, D.int.injEq, D.bool.injEq, D.str.injEq, D.list.injEq, decide_eq_true_eq, decide_eq_false_iff_not, beq_iff_eq, k8, lss]; omega
      simp only [all2]
      simp only [D.tm_den, den_int, den_bool, den_str, den_v, den_op, dens_nil, dens_cons, vals_at, List.getD_cons_succ, List.getD_cons_zero, List.getD_nil, List.map_cons, List.map_nil, Int.toNat_natCast, tden_bin, tden_shift, tden_conv, tden_not, tden_and, tden_sbin, tden_slen, tden_len, tden_nth, tden_fld, tden_mk, tden_cat, tden_sub, tden_set, tden_setf, tden_rep, tden_sget, tden_ssub, tden_ite, tden_bytes, tden_text, tden_fits, tden_nadd, tden_nsub, tden_small, intD_add, intD_sub, intD_mul, intD_quo, intD_rem, intD_eql, intD_neq, intD_lss, intD_leq, intD_gtr, intD_geq, D.int.injEq, D.bool.injEq, D.str.injEq, D.list.injEq, decide_eq_true_eq, decide_eq_false_iff_not, beq_iff_eq]
      refine Tri.seq stays_none (step2 hi h1 Ls M w (by omega) (by omega)) ?_ (fun V' ex σ' hne h => absurd h.1 hne)
      rintro V' σ' ⟨-, rfl, rfl⟩
      have w1 : IntKind.i64.wrap ((k : Int) + 1) = ((k + 1 : Nat) : Int) := by rw [wrap_i64 (by omega)]; simp
      refine Tri.go (envAt _) hg (tb := []) trivial le4 k11 (.inl ⟨rfl, rfl, (k + 1, M ++ [memOf i k l[i][k]], if l[i][k] ∈ w then w else w ++ [l[i][k]]), ?_, ⟨h2, ?_, ?_, ?_⟩, by show 8 - (k + 1) < 8 - k; omega⟩)
      · simp only [D.tm_den, den_int, den_bool, den_str, den_v, den_op, dens_nil, dens_cons, vals_at, List.getD_cons_succ, List.getD_cons_zero, List.getD_nil, List.map_cons, List.map_nil, Int.toNat_natCast, tden_bin, tden_shift, tden_conv, tden_not, tden_and, tden_sbin, tden_slen, tden_len, tden_nth, tden_fld, tden_mk, tden_cat, tden_sub, tden_set, tden_setf, tden_rep, tden_sget, tden_ssub, tden_ite, tden_bytes, tden_text, tden_fits, tden_nadd, tden_nsub, tden_small, intD_add, intD_sub, intD_mul, intD_quo, intD_rem, intD_eql, intD_neq, intD_lss, intD_leq, intD_gtr, intD_geq, D.int.injEq, D.bool.injEq, D.str.injEq, D.list.injEq, decide_eq_true_eq, decide_eq_false_iff_not, beq_iff_eq, next, w1]
      · simp only [List.length_append, List.length_cons, List.length_nil]; omega
      · intro d hd
        rcases List.mem_append.1 hd with h | h
        · exact hMo d h
        · rw [List.mem_singleton] at h
          exact ⟨_, _, _, h, hr _ (List.getElem_mem hi) _ (List.getElem_mem h1)⟩
      · show Want _ (F ++ (M ++ [memOf i k l[i][k]]))
        rw [← List.append_assoc]
        refine hW.more (fun d hd => ?_) _ _ _
        rcases List.mem_append.1 hd with h | h
        · exact hF d h
        · exact hMo d h
    · refine Tri.seq stays_none (Tri.go (Q := fun V' ex σ' => ex = .exit 2 ∧ σ' = s8 ∧ V' = vals [input l, Ls, .list (w.map .int), .int i, .list M]) (envAt _) hg (tb := kT true :: k8 false :: inI) ⟨hkT _ rfl, ?_, hin⟩ le4 kA2y ⟨rfl, rfl, by simp only [D.tm_den, den_int, den_bool, den_str, den_v, den_op, dens_nil, dens_cons, vals_at, List.getD_cons_succ, List.getD_cons_zero, List.getD_nil, List.map_cons, List.map_nil, Int.toNat_natCast, tden_bin, tden_shift, tden_conv, tden_not, tden_and, tden_sbin, tden_slen, tden_len, tden_nth, tden_fld, tden_mk, tden_cat, tden_sub, tden_set, tden_setf, tden_rep, tden_sget, tden_ssub, tden_ite, tden_bytes, tden_text, tden_fits, tden_nadd, tden_nsub, tden_small, intD_add, intD_sub, intD_mul, intD_quo, intD_rem, intD_eql, intD_neq, intD_lss, intD_leq, intD_gtr, intD_geq, D.int.injEq, D.bool.injEq, D.str.injEq, D.list.injEq, decide_eq_true_eq, decide_eq_false_iff_not, beq_iff_eq]⟩) ?_ ?_
      · simp only [D.tm_den, den_int, den_bool, den_str, den_v, den_op, dens_nil, dens_cons, vals_at, List.getD_cons_succ, List.getD_cons_zero, List.getD_nil, List.map_cons, List.map_nil, Int.toNat_natCast, tden_bin, tden_shift, tden_conv, tden_not, tden_and, tden_sbin, tden_slen, tden_len, tden_nth, tden_fld, tden_mk, tden_cat, tden_sub, tden_set, tden_setf, tden_rep, tden_sget, tden_ssub, tden_ite, tden_bytes, tden_text, tden_fits, tden_nadd, tden_nsub, tden_small, intD_add, intD_sub, intD_mul, intD_quo, intD_rem, intD_eql, intD_neq, intD_lss, intD_leq, intD_gtr, intD_geq, D.int.injEq, D.bool.injEq, D.str.injEq, D.list.injEq, decide_eq_true_eq, decide_eq_false_iff_not, beq_iff_eq, k8, lss]; omega
      · rintro V' σ' ⟨h, -⟩; cases h
      · rintro V' ex σ' - ⟨rfl, rfl, h⟩; exact .inr ⟨by simp, rfl, rfl, hex _ h⟩
  · refine Tri.seq stays_none (Tri.go (Q := fun V' ex σ' => ex = .exit 2 ∧ σ' = s8 ∧ V' = vals [input l, Ls, .list (w.map .int), .int i, .list M]) (envAt _) hg (tb := kT false :: inI) ⟨?_, hin⟩ le4 kA2x ⟨rfl, rfl, by simp only [D.tm_den, den_int, den_bool, den_str, den_v, den_op, dens_nil, dens_cons, vals_at, List.getD_cons_succ, List.getD_cons_zero, List.getD_nil, List.map_cons, List.map_nil, Int.toNat_natCast, tden_bin, tden_shift, tden_conv, tden_not, tden_and, tden_sbin, tden_slen, tden_len, tden_nth, tden_fld, tden_mk, tden_cat, tden_sub, tden_set, tden_setf, tden_rep, tden_sget, tden_ssub, tden_ite, tden_bytes, tden_text, tden_fits, tden_nadd, tden_nsub, tden_small, intD_add, intD_sub, intD_mul, intD_quo, intD_rem, intD_eql, intD_neq, intD_lss, intD_leq, intD_gtr, intD_geq, D.int.injEq, D.bool.injEq, D.str.injEq, D.list.injEq, decide_eq_true_eq, decide_eq_false_iff_not, beq_iff_eq]⟩) ?_ ?_
    · simp only [D.tm_den, den_int, den_bool, den_str, den_v, den_op, dens_nil, dens_cons, vals_at, List.getD_cons_succ, List.getD_cons_zero, List.getD_nil, List.map_cons, List.map_nil, Int.toNat_natCast, tden_bin, tden_shift, tden_conv, tden_not, tden_and, tden_sbin, tden_slen, tden_len, tden_nth, tden_fld, tden_mk, tden_cat, tden_sub, tden_set, tden_setf, tden_rep, tden_sget, tden_ssub, tden_ite, tden_bytes, tden_text, tden_fits, tden_nadd, tden_nsub, tden_small, intD_add, intD_sub, intD_mul, intD_quo, intD_rem, intD_eql, intD_neq, intD_lss, intD_leq, intD_gtr, intD_geq, D.int.injEq, D.bool.injEq, D.str.injEq, D.list.injEq, decide_eq_true_eq, decide_eq_false_iff_not, beq_iff_eq, kT, lss, len, hrow, List.length_map]; omega
    · rintro V' σ' ⟨h, -⟩; cases h
    · rintro V' ex σ' - ⟨rfl, rfl, h⟩; exact .inr ⟨by simp, rfl, rfl, hex _ h⟩

/-- the loop over the lists. -/
theorem loop1 (hr : ∀ r ∈ l, ∀ n ∈ r, -2 ^ 63 ≤ n ∧ n < 2 ^ 63) :
    Tri P G (vals [input l, .list [], .list [], .int 0]) cx none 1 (.loop o1) inv1 fun V' ex σ' => ex = .exit 0 ∧ σ' = s9 ∧
      ∃ (Ls : List (List D)) (w : List Int) (i : Nat), V' = vals [input l, .list (Ls.map .list), .list (w.map .int), .int i, .int 0, .int 0, .int 0, .list (mergeTo [] Ls.flatten)] ∧ Ls.length ≤ 6 ∧ memsOk Ls.flatten ∧ Ls.flatten.length ≤ 48 ∧ Want w Ls.flatten := by
  have hg : cx.glob = G := by kernel_rfl
  have le3 : (1 : Nat) ≤ 3 := by omega
  refine Tri.loop (α := Nat × List (List D) × List Int) (fun (i, Ls, w) => i ≤ 6 ∧ Ls.length ≤ i ∧ Ls.flatten.length ≤ 8 * i ∧ memsOk Ls.flatten ∧ Want w Ls.flatten) (fun (i, _, _) => 6 - i) (fun (i, Ls, w) => vals [input l, .list (Ls.map .list), .list (w.map .int), .int (i : Int)]) stays_none ?_ (0, [], []) ⟨by omega, Nat.le_refl 0, Nat.zero_le _, (fun d h => by cases h), rfl⟩
  rintro ⟨i, Ls, w⟩ ⟨hi, hL, hFl, hF, hW⟩
  simp only at hi hL hFl hF hW ⊢
  have hex : ∀ V', V' = vals [input l, .list (Ls.map .list), .list (w.map .int), .int (i : Int), .int 0, .int 0, .int 0, .list (mergeTo [] Ls.flatten)] → ∃ (Ls : List (List D)) (w : List Int) (i : Nat), V' = vals [input l, .list (Ls.map .list), .list (w.map .int), .int i, .int 0, .int 0, .int 0, .list (mergeTo [] Ls.flatten)] ∧ Ls.length ≤ 6 ∧ memsOk Ls.flatten ∧ Ls.flatten.length ≤ 48 ∧ Want w Ls.flatten :=
    fun V' h => ⟨Ls, w, i, h, by omega, hF, by omega, hW⟩
  rw [o1_eq]
  by_cases h1 : i < l.length
  · by_cases h2 : i < 6
    · refine Tri.goSeq (envAt _) hg stays_none (tb := tT) ⟨?_, ?_, ?_, trivial⟩ le3 kA1 ?_
      · simp only [D.tm_den, den_int, den_bool, den_str, den_v, den_op, dens_nil, dens_cons, vals_at, List.getD_cons_succ, List.getD_cons_zero, List.getD_nil, List.map_cons, List.map_nil, Int.toNat_natCast, tden_bin, tden_shift, tden_conv, tden_not, tden_and, tden_sbin, tden_slen, tden_len, tden_nth, tden_fld, tden_mk, tden_cat, tden_sub, tden_set, tden_setf, tden_rep, tden_sget, tden_ssub, tden_ite, tden_bytes, tden_text, tden_fits, tden_nadd, tden_nsub, tden_small, intD_add, intD_sub, intD_mul, intD_quo, intD_rem, intD_eql, intD_neq, intD_lss, intD_leq, intD_gtr, intD_geq, D.int.injEq, D.bool.injEq, D.str.injEq, D.list.injEq, decide_eq_true_eq, decide_eq_false_iff_not, beq_iff_eq, lss, len, input, List.length_map]; omega
      · simp only [D.tm_den, den_int, den_bool, den_str, den_v, den_op, dens_nil, dens_cons, vals_at, List.getD_cons_succ, List.getD_cons_zero, List.getD_nil, List.map_cons, List.map_nil, Int.toNat_natCast, tden_bin, tden_shift, tden_conv, tden_not, tden_and, tden_sbin, tden_slen, tden_len, tden_nth, tden_fld, tden_mk, tden_cat, tden_sub, tden_set, tden_setf, tden_rep, tden_sget, tden_ssub, tden_ite, tden_bytes, tden_text, tden_fits, tden_nadd, tden_nsub, tden_small, intD_add, intD_sub, intD_mul, intD_quo, intD_rem, intD_eql, intD_neq, intD_lss, intD_leq, intD_gtr, intD_geq, D.int.injEq, D.bool.injEq, D.str.injEq, D.list.injEq, decide_eq_true_eq, decide_eq_false_iff_not, beq_iff_eq, lss]; omega
      · simp only [D.tm_den, den_int, den_bool, den_str, den_v, den_op, dens_nil, dens_cons, vals_at, List.getD_cons_succ, List.getD_cons_zero, List.getD_nil, List.map_cons, List.map_nil, Int.toNat_natCast, tden_bin, tden_shift, tden_conv, tden_not, tden_and, tden_sbin, tden_slen, tden_len, tden_nth, tden_fld, tden_mk, tden_cat, tden_sub, tden_set, tden_setf, tden_rep, tden_sget, tden_ssub, tden_ite, tden_bytes, tden_text, tden_fits, tden_nadd, tden_nsub, tden_small, intD_add, intD_sub, intD_mul, intD_quo, intD_rem, intD_eql, intD_neq, intD_lss, intD_leq, intD_gtr, intD_geq, D.int.injEq, D.bool.injEq, D.str.injEq, D.list.injEq, decide_eq_true_eq, decide_eq_false_iff_not, beq_iff_eq, leq]; omega
      simp only [all1]
      simp only [D.tm_den, den_int, den_bool, den_str, den_v, den_op, dens_nil, dens_cons, vals_at, List.getD_cons_succ, List.getD_cons_zero, List.getD_nil, List.map_cons, List.map_nil, Int.toNat_natCast, tden_bin, tden_shift, tden_conv, tden_not, tden_and, tden_sbin, tden_slen, tden_len, tden_nth, tden_fld, tden_mk, tden_cat, tden_sub, tden_set, tden_setf, tden_rep, tden_sget, tden_ssub, tden_ite, tden_bytes, tden_text, tden_fits, tden_nadd, tden_nsub, tden_small, intD_add, intD_sub, intD_mul, intD_quo, intD_rem, intD_eql, intD_neq, intD_lss, intD_leq, intD_gtr, intD_geq, D.int.injEq, D.bool.injEq, D.str.injEq, D.list.injEq, decide_eq_true_eq, decide_eq_false_iff_not, beq_iff_eq]
      rw [B1_eq]
      refine Tri.seq stays_none (Q1 := fun V' ex σ' => ex = .normal ∧ σ' = inv1 ∧ ∃ M w', V' = vals [input l, .list ((Ls ++ [M]).map .list), .list (w'.map .int), .int i] ∧ memsOk M ∧ M.length ≤ 8 ∧ Want w' (Ls.flatten ++ M)) (Tri.block ?_) ?_ (fun V' ex σ' hne h => absurd h.1 hne)
      · refine Tri.goSeq (envAt _) hg stays_none (tb := []) trivial le3 kB0 ?_
        simp only [all1]
        simp only [D.tm_den, den_int, den_bool, den_str, den_v, den_op, dens_nil, dens_cons, vals_at, List.getD_cons_succ, List.getD_cons_zero, List.getD_nil, List.map_cons, List.map_nil, Int.toNat_natCast, tden_bin, tden_shift, tden_conv, tden_not, tden_and, tden_sbin, tden_slen, tden_len, tden_nth, tden_fld, tden_mk, tden_cat, tden_sub, tden_set, tden_setf, tden_rep, tden_sget, tden_ssub, tden_ite, tden_bytes, tden_text, tden_fits, tden_nadd, tden_nsub, tden_small, intD_add, intD_sub, intD_mul, intD_quo, intD_rem, intD_eql, intD_neq, intD_lss, intD_leq, intD_gtr, intD_geq, D.int.injEq, D.bool.injEq, D.str.injEq, D.list.injEq, decide_eq_true_eq, decide_eq_false_iff_not, beq_iff_eq]
        refine Tri.seq stays_none (Q1 := fun V' ex σ' => ex = .normal ∧ σ' = s8 ∧ ∃ M w, V' = vals [input l, .list (Ls.map .list), .list (w.map .int), .int i, .list M] ∧ memsOk M ∧ M.length ≤ 8 ∧ Want w (Ls.flatten ++ M)) ?_ ?_ (fun V' ex σ' hne h => absurd h.1 hne)
        · refine Tri.goSeq (envAt _) hg stays_none (tb := []) trivial le3 kB1 ?_
          simp only [all1, List.cons_append, List.nil_append]
          simp only [D.tm_den, den_int, den_bool, den_str, den_v, den_op, dens_nil, dens_cons, vals_at, List.getD_cons_succ, List.getD_cons_zero, List.getD_nil, List.map_cons, List.map_nil, Int.toNat_natCast, tden_bin, tden_shift, tden_conv, tden_not, tden_and, tden_sbin, tden_slen, tden_len, tden_nth, tden_fld, tden_mk, tden_cat, tden_sub, tden_set, tden_setf, tden_rep, tden_sget, tden_ssub, tden_ite, tden_bytes, tden_text, tden_fits, tden_nadd, tden_nsub, tden_small, intD_add, intD_sub, intD_mul, intD_quo, intD_rem, intD_eql, intD_neq, intD_lss, intD_leq, intD_gtr, intD_geq, D.int.injEq, D.bool.injEq, D.str.injEq, D.list.injEq, decide_eq_true_eq, decide_eq_false_iff_not, beq_iff_eq]
          refine Tri.block (Tri.mono (loop2 hr i h1 (.list (Ls.map .list)) Ls.flatten hF (by omega) w hW) ?_)
          rintro V' ex σ' ⟨rfl, rfl, h⟩
          exact ⟨rfl, rfl, h⟩
        · rintro V' σ' ⟨-, rfl, M, w', rfl, hMo, hMl, hW'⟩
          refine Tri.go (envAt _) hg (tb := tapp (.v 1) (.v 4)) ?_ le3 k20 ⟨rfl, rfl, M, w', ?_, hMo, hMl, hW'⟩
          · have := tappV (L := Ls.map .list) (a := .v 1) (x := .v 4) (vals [input l, .list (Ls.map .list), .list (w'.map .int), .int i, .list M]) rfl (by rw [List.length_map]; omega) [] trivial
            rwa [List.append_nil] at this
          · simp only [D.tm_den, den_int, den_bool, den_str, den_v, den_op, dens_nil, dens_cons, vals_at, List.getD_cons_succ, List.getD_cons_zero, List.getD_nil, List.map_cons, List.map_nil, Int.toNat_natCast, tden_bin, tden_shift, tden_conv, tden_not, tden_and, tden_sbin, tden_slen, tden_len, tden_nth, tden_fld, tden_mk, tden_cat, tden_sub, tden_set, tden_setf, tden_rep, tden_sget, tden_ssub, tden_ite, tden_bytes, tden_text, tden_fits, tden_nadd, tden_nsub, tden_small, intD_add, intD_sub, intD_mul, intD_quo, intD_rem, intD_eql, intD_neq, intD_lss, intD_leq, intD_gtr, intD_geq, D.int.injEq, D.bool.injEq, D.str.injEq, D.list.injEq, decide_eq_true_eq, decide_eq_false_iff_not, beq_iff_eq, app, List.map_append]
      · rintro V' σ' ⟨-, rfl, M, w', rfl, hMo, hMl, hW'⟩
        have w1 : IntKind.i64.wrap ((i : Int) + 1) = ((i + 1 : Nat) : Int) := by rw [wrap_i64 (by omega)]; simp
        have hfl : (Ls ++ [M]).flatten = Ls.flatten ++ M := by rw [List.flatten_append]; simp
        refine Tri.go (envAt _) hg (tb := []) trivial le3 k7 (.inl ⟨rfl, rfl, (i + 1, Ls ++ [M], w'), ?_, ⟨h2, ?_, ?_, ?_, ?_⟩, by show 6 - (i + 1) < 6 - i; omega⟩)
        · simp only [D.tm_den, den_int, den_bool, den_str, den_v, den_op, dens_nil, dens_cons, vals_at, List.getD_cons_succ, List.getD_cons_zero, List.getD_nil, List.map_cons, List.map_nil, Int.toNat_natCast, tden_bin, tden_shift, tden_conv, tden_not, tden_and, tden_sbin, tden_slen, tden_len, tden_nth, tden_fld, tden_mk, tden_cat, tden_sub, tden_set, tden_setf, tden_rep, tden_sget, tden_ssub, tden_ite, tden_bytes, tden_text, tden_fits, tden_nadd, tden_nsub, tden_small, intD_add, intD_sub, intD_mul, intD_quo, intD_rem, intD_eql, intD_neq, intD_lss, intD_leq, intD_gtr, intD_geq, D.int.injEq, D.bool.injEq, D.str.injEq, D.list.injEq, decide_eq_true_eq, decide_eq_false_iff_not, beq_iff_eq, next, w1]
        · simp only [List.length_append, List.length_cons, List.length_nil]; omega
        · simp only [hfl]; rw [List.length_append]; omega
        · simp only [hfl]
          intro d hd
          rcases List.mem_append.1 hd with h | h
          · exact hF d h
          · exact hMo d h
        · simp only [hfl]; exact hW'
    · refine Tri.seq stays_none (Tri.go (Q := fun V' ex σ' => ex = .exit 0 ∧ σ' = s9 ∧ V' = vals [input l, .list (Ls.map .list), .list (w.map .int), .int (i : Int), .int 0, .int 0, .int 0, .list (mergeTo [] Ls.flatten)]) (envAt _) hg (tb := [(lss (.v 3) (len (.v 0)), .bool true), (lss (.v 3) (.int 6), .bool false)]) ⟨?_, ?_, trivial⟩ le3 (kA1y (D.list (mergeTo [] Ls.flatten)).tm) ⟨rfl, rfl, by simp only [all1, List.cons_append, List.nil_append]; simp only [D.tm_den, den_int, den_bool, den_str, den_v, den_op, dens_nil, dens_cons, vals_at, List.getD_cons_succ, List.getD_cons_zero, List.getD_nil, List.map_cons, List.map_nil, Int.toNat_natCast, tden_bin, tden_shift, tden_conv, tden_not, tden_and, tden_sbin, tden_slen, tden_len, tden_nth, tden_fld, tden_mk, tden_cat, tden_sub, tden_set, tden_setf, tden_rep, tden_sget, tden_ssub, tden_ite, tden_bytes, tden_text, tden_fits, tden_nadd, tden_nsub, tden_small, intD_add, intD_sub, intD_mul, intD_quo, intD_rem, intD_eql, intD_neq, intD_lss, intD_leq, intD_gtr, intD_geq, D.int.injEq, D.bool.injEq, D.str.injEq, D.list.injEq, decide_eq_true_eq, decide_eq_false_iff_not, beq_iff_eq]⟩) ?_ ?_
      · simp only [D.tm_den, den_int, den_bool, den_str, den_v, den_op, dens_nil, dens_cons, vals_at, List.getD_cons_succ, List.getD_cons_zero, List.getD_nil, List.map_cons, List.map_nil, Int.toNat_natCast, tden_bin, tden_shift, tden_conv, tden_not, tden_and, tden_sbin, tden_slen, tden_len, tden_nth, tden_fld, tden_mk, tden_cat, tden_sub, tden_set, tden_setf, tden_rep, tden_sget, tden_ssub, tden_ite, tden_bytes, tden_text, tden_fits, tden_nadd, tden_nsub, tden_small, intD_add, intD_sub, intD_mul, intD_quo, intD_rem, intD_eql, intD_neq, intD_lss, intD_leq, intD_gtr, intD_geq, D.int.injEq, D.bool.injEq, D.str.injEq, D.list.injEq, decide_eq_true_eq, decide_eq_false_iff_not, beq_iff_eq, lss, len, input, List.length_map]; omega
      · simp only [D.tm_den, den_int, den_bool, den_str, den_v, den_op, dens_nil, dens_cons, vals_at, List.getD_cons_succ, List.getD_cons_zero, List.getD_nil, List.map_cons, List.map_nil, Int.toNat_natCast, tden_bin, tden_shift, tden_conv, tden_not, tden_and, tden_sbin, tden_slen, tden_len, tden_nth, tden_fld, tden_mk, tden_cat, tden_sub, tden_set, tden_setf, tden_rep, tden_sget, tden_ssub, tden_ite, tden_bytes, tden_text, tden_fits, tden_nadd, tden_nsub, tden_small, intD_add, intD_sub, intD_mul, intD_quo, intD_rem, intD_eql, intD_neq, intD_lss, intD_leq, intD_gtr, intD_geq, D.int.injEq, D.bool.injEq, D.str.injEq, D.list.injEq, decide_eq_true_eq, decide_eq_false_iff_not, beq_iff_eq, lss]; omega
      · rintro V' σ' ⟨h, -⟩; cases h
      · rintro V' ex σ' - ⟨rfl, rfl, h⟩; exact .inr ⟨by simp, rfl, rfl, hex _ h⟩
  · refine Tri.seq stays_none (Tri.go (Q := fun V' ex σ' => ex = .exit 0 ∧ σ' = s9 ∧ V' = vals [input l, .list (Ls.map .list), .list (w.map .int), .int (i : Int), .int 0, .int 0, .int 0, .list (mergeTo [] Ls.flatten)]) (envAt _) hg (tb := [(lss (.v 3) (len (.v 0)), .bool false)]) ⟨?_, trivial⟩ le3 (kA1x (D.list (mergeTo [] Ls.flatten)).tm) ⟨rfl, rfl, by simp only [all1, List.cons_append, List.nil_append]; simp only [D.tm_den, den_int, den_bool, den_str, den_v, den_op, dens_nil, dens_cons, vals_at, List.getD_cons_succ, List.getD_cons_zero, List.getD_nil, List.map_cons, List.map_nil, Int.toNat_natCast, tden_bin, tden_shift, tden_conv, tden_not, tden_and, tden_sbin, tden_slen, tden_len, tden_nth, tden_fld, tden_mk, tden_cat, tden_sub, tden_set, tden_setf, tden_rep, tden_sget, tden_ssub, tden_ite, tden_bytes, tden_text, tden_fits, tden_nadd, tden_nsub, tden_small, intD_add, intD_sub, intD_mul, intD_quo, intD_rem, intD_eql, intD_neq, intD_lss, intD_leq, intD_gtr, intD_geq, D.int.injEq, D.bool.injEq, D.str.injEq, D.list.injEq, decide_eq_true_eq, decide_eq_false_iff_not, beq_iff_eq]⟩) ?_ ?_
    · simp only [D.tm_den, den_int, den_bool, den_str, den_v, den_op, dens_nil, dens_cons, vals_at, List.getD_cons_succ, List.getD_cons_zero, List.getD_nil, List.map_cons, List.map_nil, Int.toNat_natCast, tden_bin, tden_shift, tden_conv, tden_not, tden_and, tden_sbin, tden_slen, tden_len, tden_nth, tden_fld, tden_mk, tden_cat, tden_sub, tden_set, tden_setf, tden_rep, tden_sget, tden_ssub, tden_ite, tden_bytes, tden_text, tden_fits, tden_nadd, tden_nsub, tden_small, intD_add, intD_sub, intD_mul, intD_quo, intD_rem, intD_eql, intD_neq, intD_lss, intD_leq, intD_gtr, intD_geq, D.int.injEq, D.bool.injEq, D.str.injEq, D.list.injEq, decide_eq_true_eq, decide_eq_false_iff_not, beq_iff_eq, lss, len, input, List.length_map]; omega
    · rintro V' σ' ⟨h, -⟩; cases h
    · rintro V' ex σ' - ⟨rfl, rfl, h⟩; exact .inr ⟨by simp, rfl, rfl, hex _ h⟩
end

/-- what is got, and what is wanted. -/
theorem tail (I : D) (Ls : List (List D)) (w : List Int) (i : Nat) (hl : Ls.length ≤ 6) (hm : memsOk Ls.flatten) (hn : Ls.flatten.length ≤ 48) (hW : Want w Ls.flatten) :
    Tri P G (vals [I, .list (Ls.map .list), .list (w.map .int), .int i, .int 0, .int 0, .int 0, .list (mergeTo [] Ls.flatten)]) cx none 1 tl s9 fun V' ex σ' => V' = vals [I] ∧ ex = .ret ∧ σ' = fin := by
  have hg : cx.glob = G := by kernel_rfl
  have le3 : (1 : Nat) ≤ 3 := by omega
  have hok := mg.ok Ls (by omega) (by omega) hm
  have hmm := memsOk_merge hm
  have hwl := hW.len
  have hwd : w.map D.int = (mergeTo [] Ls.flatten).map idOf := hW
  have hlen : w.length = (mergeTo [] Ls.flatten).length := by have := congrArg List.length hwd; rwa [List.length_map, List.length_map] at this
  generalize mergeTo [] Ls.flatten = M at *
  generalize Ls.map D.list = LL at *
  rw [tl_eq]
  have hE : @EnvOk (vals [I, .list LL, .list (w.map .int), .int i, .int 0, .int 0, .int 0, .list M]) P G (E0.know [ym]) := @EnvOk.know (vals _) P G _ (envAt _) [ym] fun z hz => by
    simp only [List.mem_singleton] at hz
    subst hz
    exact Fact.use (tb := []) (ts := [.v 1, .v 7]) (l := []) trivial rfl hok usem
  refine Tri.goSeq hE hg stays_none (tb := []) trivial le3 k21 ?_
  simp only [D.tm_den, den_int, den_bool, den_str, den_v, den_op, dens_nil, dens_cons, vals_at, List.getD_cons_succ, List.getD_cons_zero, List.getD_nil, List.map_cons, List.map_nil, Int.toNat_natCast, tden_bin, tden_shift, tden_conv, tden_not, tden_and, tden_sbin, tden_slen, tden_len, tden_nth, tden_fld, tden_mk, tden_cat, tden_sub, tden_set, tden_setf, tden_rep, tden_sget, tden_ssub, tden_ite, tden_bytes, tden_text, tden_fits, tden_nadd, tden_nsub, tden_small, intD_add, intD_sub, intD_mul, intD_quo, intD_rem, intD_eql, intD_neq, intD_lss, intD_leq, intD_gtr, intD_geq, D.int.injEq, D.bool.injEq, D.str.injEq, D.list.injEq, decide_eq_true_eq, decide_eq_false_iff_not, beq_iff_eq]
  refine Tri.goSeq (envAt _) hg stays_none (tb := [(.op (.bin .neq .i64) [len (.v 7), len (.v 2)], .bool false)]) ⟨?_, trivial⟩ le3 k22 ?_
  · simp only [D.tm_den, den_int, den_bool, den_str, den_v, den_op, dens_nil, dens_cons, vals_at, List.getD_cons_succ, List.getD_cons_zero, List.getD_nil, List.map_cons, List.map_nil, Int.toNat_natCast, tden_bin, tden_shift, tden_conv, tden_not, tden_and, tden_sbin, tden_slen, tden_len, tden_nth, tden_fld, tden_mk, tden_cat, tden_sub, tden_set, tden_setf, tden_rep, tden_sget, tden_ssub, tden_ite, tden_bytes, tden_text, tden_fits, tden_nadd, tden_nsub, tden_small, intD_add, intD_sub, intD_mul, intD_quo, intD_rem, intD_eql, intD_neq, intD_lss, intD_leq, intD_gtr, intD_geq, D.int.injEq, D.bool.injEq, D.str.injEq, D.list.injEq, decide_eq_true_eq, decide_eq_false_iff_not, beq_iff_eq, len, List.length_map, hlen]; simp
  simp only [D.tm_den, den_int, den_bool, den_str, den_v, den_op, dens_nil, dens_cons, vals_at, List.getD_cons_succ, List.getD_cons_zero, List.getD_nil, List.map_cons, List.map_nil, Int.toNat_natCast, tden_bin, tden_shift, tden_conv, tden_not, tden_and, tden_sbin, tden_slen, tden_len, tden_nth, tden_fld, tden_mk, tden_cat, tden_sub, tden_set, tden_setf, tden_rep, tden_sget, tden_ssub, tden_ite, tden_bytes, tden_text, tden_fits, tden_nadd, tden_nsub, tden_small, intD_add, intD_sub, intD_mul, intD_quo, intD_rem, intD_eql, intD_neq, intD_lss, intD_leq, intD_gtr, intD_geq, D.int.injEq, D.bool.injEq, D.str.injEq, D.list.injEq, decide_eq_true_eq, decide_eq_false_iff_not, beq_iff_eq]
  refine Tri.seq stays_none (Q1 := fun V' ex σ' => ex = .normal ∧ V' = vals [I] ∧ σ' = { inv4 with vars := [], objs := [] }) ?_ ?_ (fun V' ex σ' hne h => absurd h.1 hne)
  · refine Tri.goSeq (envAt _) hg stays_none (tb := []) trivial le3 k24 (Tri.block ?_)
    simp only [D.tm_den, den_int, den_bool, den_str, den_v, den_op, dens_nil, dens_cons, vals_at, List.getD_cons_succ, List.getD_cons_zero, List.getD_nil, List.map_cons, List.map_nil, Int.toNat_natCast, tden_bin, tden_shift, tden_conv, tden_not, tden_and, tden_sbin, tden_slen, tden_len, tden_nth, tden_fld, tden_mk, tden_cat, tden_sub, tden_set, tden_setf, tden_rep, tden_sget, tden_ssub, tden_ite, tden_bytes, tden_text, tden_fits, tden_nadd, tden_nsub, tden_small, intD_add, intD_sub, intD_mul, intD_quo, intD_rem, intD_eql, intD_neq, intD_lss, intD_leq, intD_gtr, intD_geq, D.int.injEq, D.bool.injEq, D.str.injEq, D.list.injEq, decide_eq_true_eq, decide_eq_false_iff_not, beq_iff_eq]
    refine Tri.loop (α := Nat) (fun j => j ≤ w.length) (fun j => w.length - j) (fun j => vals [I, .list LL, .list (w.map .int), .int (j : Int), .int 0, .int 0, .int 0, .list M]) stays_none ?_ 0 (Nat.zero_le _)
    intro j hj
    by_cases hlt : j < w.length
    · have w1 : IntKind.i64.wrap ((j : Int) + 1) = ((j + 1 : Nat) : Int) := by rw [wrap_i64 (by omega)]; simp
      have hltM : j < M.length := by omega
      have hq : (w.map D.int).getD j .bad = .int w[j] := by simp [List.getD_eq_getElem?_getD, hlt]
      have hM : M.getD j .bad = M[j] := by simp [List.getD_eq_getElem?_getD, hltM]
      obtain ⟨n, a, b, hd, -⟩ := hmm M[j] (List.getElem_mem hltM)
      have hn : n = w[j] := by
        have := congrArg (fun l : List D => l[j]?) hwd
        simp only [List.getElem?_map, List.getElem?_eq_getElem hlt, List.getElem?_eq_getElem hltM, Option.map_some, Option.some.injEq] at this
        rw [hd, show idOf (.list [.int n, a, b]) = .int n from rfl] at this
        exact (D.int.inj this).symm
      refine Tri.go (envAt _) hg (tb := fT) ⟨?_, ?_, ?_, ?_, trivial⟩ le3 k4 (.inl ⟨rfl, rfl, j + 1, ?_, hlt, by omega⟩)
      · simp only [D.tm_den, den_int, den_bool, den_str, den_v, den_op, dens_nil, dens_cons, vals_at, List.getD_cons_succ, List.getD_cons_zero, List.getD_nil, List.map_cons, List.map_nil, Int.toNat_natCast, tden_bin, tden_shift, tden_conv, tden_not, tden_and, tden_sbin, tden_slen, tden_len, tden_nth, tden_fld, tden_mk, tden_cat, tden_sub, tden_set, tden_setf, tden_rep, tden_sget, tden_ssub, tden_ite, tden_bytes, tden_text, tden_fits, tden_nadd, tden_nsub, tden_small, intD_add, intD_sub, intD_mul, intD_quo, intD_rem, intD_eql, intD_neq, intD_lss, intD_leq, intD_gtr, intD_geq, D.int.injEq, D.bool.injEq, D.str.injEq, D.list.injEq, decide_eq_true_eq, decide_eq_false_iff_not, beq_iff_eq, lss, len, List.length_map]; omega
      · simp only [D.tm_den, den_int, den_bool, den_str, den_v, den_op, dens_nil, dens_cons, vals_at, List.getD_cons_succ, List.getD_cons_zero, List.getD_nil, List.map_cons, List.map_nil, Int.toNat_natCast, tden_bin, tden_shift, tden_conv, tden_not, tden_and, tden_sbin, tden_slen, tden_len, tden_nth, tden_fld, tden_mk, tden_cat, tden_sub, tden_set, tden_setf, tden_rep, tden_sget, tden_ssub, tden_ite, tden_bytes, tden_text, tden_fits, tden_nadd, tden_nsub, tden_small, intD_add, intD_sub, intD_mul, intD_quo, intD_rem, intD_eql, intD_neq, intD_lss, intD_leq, intD_gtr, intD_geq, D.int.injEq, D.bool.injEq, D.str.injEq, D.list.injEq, decide_eq_true_eq, decide_eq_false_iff_not, beq_iff_eq, leq]; omega
      · simp only [D.tm_den, den_int, den_bool, den_str, den_v, den_op, dens_nil, dens_cons, vals_at, List.getD_cons_succ, List.getD_cons_zero, List.getD_nil, List.map_cons, List.map_nil, Int.toNat_natCast, tden_bin, tden_shift, tden_conv, tden_not, tden_and, tden_sbin, tden_slen, tden_len, tden_nth, tden_fld, tden_mk, tden_cat, tden_sub, tden_set, tden_setf, tden_rep, tden_sget, tden_ssub, tden_ite, tden_bytes, tden_text, tden_fits, tden_nadd, tden_nsub, tden_small, intD_add, intD_sub, intD_mul, intD_quo, intD_rem, intD_eql, intD_neq, intD_lss, intD_leq, intD_gtr, intD_geq, D.int.injEq, D.bool.injEq, D.str.injEq, D.list.injEq, decide_eq_true_eq, decide_eq_false_iff_not, beq_iff_eq, lss, len]; omega
      · simp only [D.tm_den, den_int, den_bool, den_str, den_v, den_op, dens_nil, dens_cons, vals_at, List.getD_cons_succ, List.getD_cons_zero, List.getD_nil, List.map_cons, List.map_nil, Int.toNat_natCast, tden_bin, tden_shift, tden_conv, tden_not, tden_and, tden_sbin, tden_slen, tden_len, tden_nth, tden_fld, tden_mk, tden_cat, tden_sub, tden_set, tden_setf, tden_rep, tden_sget, tden_ssub, tden_ite, tden_bytes, tden_text, tden_fits, tden_nadd, tden_nsub, tden_small, intD_add, intD_sub, intD_mul, intD_quo, intD_rem, intD_eql, intD_neq, intD_lss, intD_leq, intD_gtr, intD_geq, D.int.injEq, D.bool.injEq, D.str.injEq, D.list.injEq, decide_eq_true_eq, decide_eq_false_iff_not, beq_iff_eq, hM, hd, hq, hn]; simp
      · simp only [D.tm_den, den_int, den_bool, den_str, den_v, den_op, dens_nil, dens_cons, vals_at, List.getD_cons_succ, List.getD_cons_zero, List.getD_nil, List.map_cons, List.map_nil, Int.toNat_natCast, tden_bin, tden_shift, tden_conv, tden_not, tden_and, tden_sbin, tden_slen, tden_len, tden_nth, tden_fld, tden_mk, tden_cat, tden_sub, tden_set, tden_setf, tden_rep, tden_sget, tden_ssub, tden_ite, tden_bytes, tden_text, tden_fits, tden_nadd, tden_nsub, tden_small, intD_add, intD_sub, intD_mul, intD_quo, intD_rem, intD_eql, intD_neq, intD_lss, intD_leq, intD_gtr, intD_geq, D.int.injEq, D.bool.injEq, D.str.injEq, D.list.injEq, decide_eq_true_eq, decide_eq_false_iff_not, beq_iff_eq, next, w1]
    · have : j = w.length := by omega
      subst this
      refine Tri.go (envAt _) hg (tb := [(lss (.v 3) (len (.v 2)), .bool false)]) ⟨?_, trivial⟩ le3 k4x (.inr ⟨by simp, rfl, rfl, rfl⟩)
      simp only [D.tm_den, den_int, den_bool, den_str, den_v, den_op, dens_nil, dens_cons, vals_at, List.getD_cons_succ, List.getD_cons_zero, List.getD_nil, List.map_cons, List.map_nil, Int.toNat_natCast, tden_bin, tden_shift, tden_conv, tden_not, tden_and, tden_sbin, tden_slen, tden_len, tden_nth, tden_fld, tden_mk, tden_cat, tden_sub, tden_set, tden_setf, tden_rep, tden_sget, tden_ssub, tden_ite, tden_bytes, tden_text, tden_fits, tden_nadd, tden_nsub, tden_small, intD_add, intD_sub, intD_mul, intD_quo, intD_rem, intD_eql, intD_neq, intD_lss, intD_leq, intD_gtr, intD_geq, D.int.injEq, D.bool.injEq, D.str.injEq, D.list.injEq, decide_eq_true_eq, decide_eq_false_iff_not, beq_iff_eq, lss, len, List.length_map]; omega
  · rintro V' σ' ⟨-, rfl, rfl⟩
    exact Tri.go (envAt _) hg (tb := []) trivial le3 k29 ⟨rfl, rfl, rfl⟩

/-- the law, told as a contract: true. -/
def x : Fact := ⟨6, [ins], 1, [], .bool true, [], 1⟩
def ysp : Fact := ⟨26, [], 1, [], .bool true, [], 4382⟩
theorem kp0 : evIce P (E0.tab []) 100000 cx none 1 (p [0]) (startSt x) [] (subs [.v 0]) [] .normal s1 = true := by kernel_rfl
theorem kp1 : evIce P ((E0.know [ysp]).tab []) 100000 cx none 1 (p [1, 0]) s1 [] (subs [.v 0]) [] .normal s1 = true := by kernel_rfl
theorem kp2 : evIce P (E0.tab []) 100000 cx none 1 (p [1, 1, 0]) s1 [] (subs [.v 0]) [] .normal s2 = true := by kernel_rfl
theorem kp3 : evIce P (E0.tab []) 100000 cx none 1 (p [1, 1, 1, 0]) s2 [] (subs [.v 0]) [] .normal s3 = true := by kernel_rfl
theorem kp4 : evIce P (E0.tab []) 100000 cx none 1 (p [1, 1, 1, 1, 0, 0]) s3 [] (subs [.v 0, .op .mk [], .op .mk [], .int 0]) [] .normal inv1 = true := by kernel_rfl
theorem ok (hsp : ∀ V : Val, @Fact.Ok V P G ysp) (l : List (List Int)) (hr : ∀ r ∈ l, ∀ n ∈ r, -2 ^ 63 ≤ n ∧ n < 2 ^ 63) : @Fact.Ok (vals [input l]) P G x := by
  have hg : cx.glob = G := by kernel_rfl
  have le1 : (1 : Nat) ≤ 1 := Nat.le_refl 1
  refine Fact.ok_tri (fn := fn) (cd := cd) (envAt _) func body (Q := fun V' ex σ' => V' = vals [input l] ∧ ex = .ret ∧ σ' = fin) ?tri ?hq
  case hq =>
    rintro V' ex σ' ⟨rfl, rfl, rfl⟩
    exact ⟨rfl, .inr rfl, by kernel_rfl⟩
  show Tri P G _ cx none 1 cd (startSt x) _
  rw [cd_eq]
  refine Tri.goSeq (envAt _) hg stays_none (tb := []) trivial le1 kp0 ?_
  have hE : @EnvOk (vals [input l]) P G (E0.know [ysp]) := @EnvOk.know (vals _) P G _ (envAt _) [ysp] fun z hz => by
    simp only [List.mem_singleton] at hz
    subst hz
    exact hsp _
  simp only [D.tm_den, den_int, den_bool, den_str, den_v, den_op, dens_nil, dens_cons, vals_at, List.getD_cons_succ, List.getD_cons_zero, List.getD_nil, List.map_cons, List.map_nil, Int.toNat_natCast, tden_bin, tden_shift, tden_conv, tden_not, tden_and, tden_sbin, tden_slen, tden_len, tden_nth, tden_fld, tden_mk, tden_cat, tden_sub, tden_set, tden_setf, tden_rep, tden_sget, tden_ssub, tden_ite, tden_bytes, tden_text, tden_fits, tden_nadd, tden_nsub, tden_small, intD_add, intD_sub, intD_mul, intD_quo, intD_rem, intD_eql, intD_neq, intD_lss, intD_leq, intD_gtr, intD_geq, D.int.injEq, D.bool.injEq, D.str.injEq, D.list.injEq, decide_eq_true_eq, decide_eq_false_iff_not, beq_iff_eq]
  refine Tri.goSeq hE hg stays_none (tb := []) trivial le1 kp1 ?_
  simp only [D.tm_den, den_int, den_bool, den_str, den_v, den_op, dens_nil, dens_cons, vals_at, List.getD_cons_succ, List.getD_cons_zero, List.getD_nil, List.map_cons, List.map_nil, Int.toNat_natCast, tden_bin, tden_shift, tden_conv, tden_not, tden_and, tden_sbin, tden_slen, tden_len, tden_nth, tden_fld, tden_mk, tden_cat, tden_sub, tden_set, tden_setf, tden_rep, tden_sget, tden_ssub, tden_ite, tden_bytes, tden_text, tden_fits, tden_nadd, tden_nsub, tden_small, intD_add, intD_sub, intD_mul, intD_quo, intD_rem, intD_eql, intD_neq, intD_lss, intD_leq, intD_gtr, intD_geq, D.int.injEq, D.bool.injEq, D.str.injEq, D.list.injEq, decide_eq_true_eq, decide_eq_false_iff_not, beq_iff_eq]
  refine Tri.goSeq (envAt _) hg stays_none (tb := []) trivial le1 kp2 ?_
  simp only [D.tm_den, den_int, den_bool, den_str, den_v, den_op, dens_nil, dens_cons, vals_at, List.getD_cons_succ, List.getD_cons_zero, List.getD_nil, List.map_cons, List.map_nil, Int.toNat_natCast, tden_bin, tden_shift, tden_conv, tden_not, tden_and, tden_sbin, tden_slen, tden_len, tden_nth, tden_fld, tden_mk, tden_cat, tden_sub, tden_set, tden_setf, tden_rep, tden_sget, tden_ssub, tden_ite, tden_bytes, tden_text, tden_fits, tden_nadd, tden_nsub, tden_small, intD_add, intD_sub, intD_mul, intD_quo, intD_rem, intD_eql, intD_neq, intD_lss, intD_leq, intD_gtr, intD_geq, D.int.injEq, D.bool.injEq, D.str.injEq, D.list.injEq, decide_eq_true_eq, decide_eq_false_iff_not, beq_iff_eq]
  refine Tri.goSeq (envAt _) hg stays_none (tb := []) trivial le1 kp3 ?_
  simp only [D.tm_den, den_int, den_bool, den_str, den_v, den_op, dens_nil, dens_cons, vals_at, List.getD_cons_succ, List.getD_cons_zero, List.getD_nil, List.map_cons, List.map_nil, Int.toNat_natCast, tden_bin, tden_shift, tden_conv, tden_not, tden_and, tden_sbin, tden_slen, tden_len, tden_nth, tden_fld, tden_mk, tden_cat, tden_sub, tden_set, tden_setf, tden_rep, tden_sget, tden_ssub, tden_ite, tden_bytes, tden_text, tden_fits, tden_nadd, tden_nsub, tden_small, intD_add, intD_sub, intD_mul, intD_quo, intD_rem, intD_eql, intD_neq, intD_lss, intD_leq, intD_gtr, intD_geq, D.int.injEq, D.bool.injEq, D.str.injEq, D.list.injEq, decide_eq_true_eq, decide_eq_false_iff_not, beq_iff_eq]
  refine Tri.seq stays_none (Q1 := fun V' ex σ' => ex = .normal ∧ σ' = s9 ∧
      ∃ (Ls : List (List D)) (w : List Int) (i : Nat), V' = vals [input l, .list (Ls.map .list), .list (w.map .int), .int i, .int 0, .int 0, .int 0, .list (mergeTo [] Ls.flatten)] ∧ Ls.length ≤ 6 ∧ memsOk Ls.flatten ∧ Ls.flatten.length ≤ 48 ∧ Want w Ls.flatten) ?_ ?_ (fun V' ex σ' hne h => absurd h.1 hne)
  · refine Tri.goSeq (envAt _) hg stays_none (tb := []) trivial le1 kp4 (Tri.block ?_)
    simp only [D.tm_den, den_int, den_bool, den_str, den_v, den_op, dens_nil, dens_cons, vals_at, List.getD_cons_succ, List.getD_cons_zero, List.getD_nil, List.map_cons, List.map_nil, Int.toNat_natCast, tden_bin, tden_shift, tden_conv, tden_not, tden_and, tden_sbin, tden_slen, tden_len, tden_nth, tden_fld, tden_mk, tden_cat, tden_sub, tden_set, tden_setf, tden_rep, tden_sget, tden_ssub, tden_ite, tden_bytes, tden_text, tden_fits, tden_nadd, tden_nsub, tden_small, intD_add, intD_sub, intD_mul, intD_quo, intD_rem, intD_eql, intD_neq, intD_lss, intD_leq, intD_gtr, intD_geq, D.int.injEq, D.bool.injEq, D.str.injEq, D.list.injEq, decide_eq_true_eq, decide_eq_false_iff_not, beq_iff_eq]
    refine Tri.mono (loop1 hr) ?_
    rintro V' ex σ' ⟨rfl, rfl, h⟩
    exact ⟨rfl, rfl, h⟩
  · rintro V' σ' ⟨-, rfl, Ls, w, i, rfl, h1, h2, h3, h4⟩
    exact tail _ Ls w i h1 h2 h3 h4
end l6
end Go.Proofs.YtkkoidhohapjcaaGreat
