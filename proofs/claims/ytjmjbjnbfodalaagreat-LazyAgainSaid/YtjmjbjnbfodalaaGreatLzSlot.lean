/- what is known of a slot's symbol, in plain numbers: 0 to 2, as one more its place in the file. No condition. -/
import Derived.Test.YtjmjbjnbfodalaaGreatLzE
import Derived.Test.YtjmjbjnbfodalaaGreatTcStr
import Derived.Test.YtjmjbjnbfodalaaGreatEnv
set_option linter.unusedSimpArgs false
set_option linter.unusedVariables false
set_option linter.unusedSectionVars false
namespace Go.Proofs.YtjmjbjnbfodalaaGreat
open Go.Tc
namespace lz
def tt (x : Int) : Int := (x.tmod 3 + 3).tmod 3
theorem tmod3 (x : Int) : -3 < x.tmod 3 ∧ x.tmod 3 < 3 := by
  have h := Int.tmod_eq_emod (a := x) (b := 3)
  have h1 := Int.emod_nonneg x (b := 3) (by omega)
  have h2 := Int.emod_lt_of_pos x (b := 3) (by omega)
  have h3 : x % 3 = 0 → 3 ∣ x := fun h => Int.dvd_of_emod_eq_zero h
  rw [h]
  split
  · omega
  · rename_i hn
    have : x % 3 ≠ 0 := fun e => hn (.inr (h3 e))
    have h4 : ((3 : Int).natAbs : Int) = 3 := rfl
    omega
theorem tt_cases (x : Int) : tt x = 0 ∨ tt x = 1 ∨ tt x = 2 := by
  have h := tmod3 x
  have : tt x = (x.tmod 3 + 3) % 3 := by unfold tt; rw [Int.tmod_eq_emod_of_nonneg (by omega)]
  omega
theorem AllEq.app [Val] : ∀ {a b : List (Tm × Tm)}, AllEq a → AllEq b → AllEq (a ++ b)
  | [], _, _, h => h
  | _ :: _, _, h1, h2 => ⟨h1.1, AllEq.app h1.2 h2⟩
theorem slotRows_ok [V : Val] {i : Nat} {t u : Tm} {x : Int} (hx : (Tm.op .nth [.v 0, .int i]).den = .int x) (ht : t.den = .int (tt x)) (hu : u.den = .int (tt x + 1)) : AllEq (slotRows i t u) := by
  have h3 := tmod3 x
  have hT : (Tm.op (.bin .rem .i64) [.op (.bin .add .i64) [.op (.bin .rem .i64) [.op .nth [.v 0, .int i], .int 3], .int 3], .int 3]).den = .int (tt x) := by
    rw [den_op, dens_cons, den_op, dens_cons, den_op, dens_cons, hx]
    simp only [dens_cons, dens_nil, den_int, tden_bin, intD, tt]
    rw [wrap_i64 (by omega)]
  have hc := tt_cases x
  generalize tt x = k at *
  unfold slotRows
  refine ⟨by rw [hT, ht], ?_⟩
  rcases hc with rfl | rfl | rfl <;>
    (refine ⟨?_, ?_, ?_, ?_, ?_, ?_, ?_, ?_, ?_, ?_, ?_, ?_, ?_, ?_, ?_, ?_, ?_, trivial⟩ <;> simp only [den_op, dens_cons, dens_nil, den_int, den_bool, ht, hu] <;> rfl)
def Mof (b : Int) (n : Nat) (s : Nat → Int) : List (Int × Int) := (List.range n).map fun (i : Nat) => (b + 8 * (i : Int), s i)
def symOf (sl : List Int) (i : Nat) : Int := tt (sl.getD i 0) + 1
theorem symOf_cases (sl : List Int) (i : Nat) : symOf sl i = 1 ∨ symOf sl i = 2 ∨ symOf sl i = 3 := by
  have := tt_cases (sl.getD i 0)
  unfold symOf; omega
end lz
end Go.Proofs.YtjmjbjnbfodalaaGreat
set_option maxRecDepth 100000
namespace Go.Proofs.YtjmjbjnbfodalaaGreat
open Go.Tc
namespace lz
def kR : List CK := [.int .u64, .int .i64, .int .i64, .int .u64]
def kB : List CK := [.int .u64, .int .i64, .int .i64, .int .u64, .int .i64, .int .i64, .int .u64, .bool]
def bi (t : Tm) : AV := .sy (.int .i64) t
def se : AV := .str ⟨0, 0⟩
def wz : AV := .int .u64 0
def iz : AV := .int .i64 0
def rsl : AV := .lsl 8 4 (.int 0) (.op .len [.v 1]) .rd
def memb : List AV := [bi (.v 0), .int .u64 65536, .ptr 1 0]
def obO : Nat × AObj := (1, .row [.sy .str (.v 2), wz, .slice 4 0 6 (.opn 6), se, .nilSlice, .slice 2 0 4 (.opn 7), .slice 3 0 4 (.exact 4), .nilSlice, rsl, wz, wz, wz, wz, .slice 5 0 1 (.opn 2), .bool false, .bool false, .iface 268 (.agg [.slice 6 0 2 (.exact 2), .slice 6 2 4 (.opn 1)]), .slice 7 0 8 (.opn 2), .int .i64 4] 103 .solid)
def obS : Nat × AObj := (2, .row [se, iz, iz, iz, .bool false, wz, wz, .str ⟨1, 102⟩, .int .i64 1, iz, iz, .bool true, .sy (.int .u64) (.v 3), wz, .str ⟨1, 103⟩, .int .i64 1, iz, iz, .bool false, wz, wz, .str ⟨1, 104⟩, .int .i64 2, iz, iz, .bool false, wz, wz] 150 (.buf 0 false))
def obV : Nat × AObj := (3, .row [se, se, .bool false, se, se, .bool false, se, se, .bool false, se, se, .bool false] 210 .solid)
def obH : Nat × AObj := (6, .row [.int .u32 3, .int .u32 2, .int .u32 0, .int .u32 0, .int .u32 0, .int .u32 1] 167 (.buf 0 false))
def obM : Nat × AObj := (8, .lrow kR (.v 1) 31 (.buf 0 false))
def obL : Nat × AObj := (9, .row memb 50 .solid)
def objsO : List (Nat × AObj) := [obO, obS, obV, obH, obM, obL]
def xB (r : AV) (o : List (Nat × AObj)) (nx : Nat) : Fact := ⟨26, [.agg memb, .slice 9 0 1 (.exact 1), rsl, .bool false], 10, objsO, r, o, nx⟩
def fault : List AV := [iz, wz, se]
def bout : Nat × AObj := (12, .lrow kB (.v 4) 33 (.buf 0 false))
def invB : St := { vars := [(1, .slice 9 0 1 (.exact 1)), (3, .bool false), (4, .ptr 10 0), (9, .ptr 11 0), (10, .lsl 12 8 (.int 0) (.op .len [.v 4]) .opn), (18, rsl), (19, bi (.op .len [.v 1])), (20, bi (.v 5))], loc := [], marks := [], objs := objsO ++ [(10, .row memb 50 .solid), (11, .row fault 43 .solid), bout], next := 13 }
def finB : St := { vars := [(8, .lsl 12 8 (.int 0) (.op .len [.v 4]) .opn), (9, .ptr 11 0)], loc := [], marks := [], objs := objsO ++ [(11, .row fault 43 .solid), bout], next := 13 }
namespace bd
noncomputable def fn : Func := Tryz.f26
noncomputable def cd : Code := match fn.body with | some c => c | none => .skip
noncomputable def cx : Ctx := cxOf P fn cd 4
noncomputable def L : List Code := flat cd
noncomputable def bl : Code := inLoop (inBlock (L.getD 3 .skip))
noncomputable def lp : List Code := flat bl
noncomputable def lb : List Code := flat (inBlock (lp.getD 2 .skip))
theorem func : P.funcs[26]? = some fn := Tryz.func26
theorem body : fn.body = some cd := by kernel_rfl
theorem at3 : L.drop 3 = .block 0 (.loop bl) :: L.drop 4 := by kernel_rfl
theorem at2 : lp.drop 2 = .block 1 (inBlock (lp.getD 2 .skip)) :: lp.drop 3 := by kernel_rfl
def x : Fact := xB (.tuple [.lsl 12 8 (.int 0) (.op .len [.v 4]) .opn, .agg fault]) (objsO ++ [bout]) 13
def six : List Tm := [.v 0, .v 1, .v 2, .v 3, .v 4, .v 5]
def nm : List (Nat × Nat) := [(10, 10), (11, 11), (12, 12)]
theorem kA : evFl P (E0.tab []) 100000 cx none 10 (L.take 3) (startSt x) [] (subs [.v 0, .v 1, .v 2, .v 3, .op .mk [], .int 0]) [(10, 10), (11, 11)] .normal invB = true := by kernel_rfl
def ltT (b : Bool) : Tm × Tm := (.op (.bin .lss .i64) [.v 5, .op .len [.v 1]], .bool b)
theorem kH0 : evFl P (E0.tab [ltT true]) 100000 cx none 10 (lp.take 2) invB [] (subs six) nm .normal invB = true := by kernel_rfl
theorem kH1 : evFl P (E0.tab [ltT false]) 100000 cx none 10 lp invB [] (subs six) nm (.exit 0) invB = true := by kernel_rfl
def el : Tm := .op .nth [.v 1, .v 5]
def e1 : Tm := .op .mk [.op (.fld 0) [el], .int 5, .int 1, .op (.fld 3) [el], .v 0, .int 1, .op (.bin .add .u64) [.int 65536, .v 3], .bool true]
def eN (k : Int) : Tm := .op .mk [.op (.fld 0) [el], .int 5, .int k, .op (.fld 3) [el], .int 0, .int 0, .int 0, .bool false]
def catE (e : Tm) : Tm := .op .cat [.v 4, .op .mk [e]]
def tB (k : Int) (e : Tm) : List (Tm × Tm) := [(.op (.fld 1) [el], .int 5), (.op (.fld 2) [el], .int k), (.op (.bin .leq .i64) [.int 0, .v 5], .bool true), ltT true, (.op (.bin .leq .i64) [.op .len [.v 4], .op .len [.v 4]], .bool true), (.op .small [.op .nadd [.op .len [.v 4], .int 1]], .bool true), (.op .len [catE e], .op .nadd [.op .len [.v 4], .int 1])]
def toB (e : Tm) : List Tm := [.v 0, .v 1, .v 2, .v 3, catE e, .v 5]
theorem kB1 : evFl P (E0.tab (tB 1 e1)) 100000 cx none 10 lb invB [] (subs (toB e1)) [(10, 10), (11, 11), (12, 154)] .normal invB = true := by kernel_rfl
theorem kB2 : evFl P (E0.tab (tB 2 (eN 2))) 100000 cx none 10 lb invB [] (subs (toB (eN 2))) [(10, 10), (11, 11), (12, 100)] .normal invB = true := by kernel_rfl
theorem kB3 : evFl P (E0.tab (tB 3 (eN 3))) 100000 cx none 10 lb invB [] (subs (toB (eN 3))) [(10, 10), (11, 11), (12, 132)] .normal invB = true := by kernel_rfl
theorem kN : evFl P (E0.tab []) 100000 cx none 10 (lp.drop 3) invB [] (subs [.v 0, .v 1, .v 2, .v 3, .v 4, .op (.bin .add .i64) [.v 5, .int 1]]) nm .normal invB = true := by kernel_rfl
theorem kZ : evFl P (E0.tab []) 100000 cx none 10 (L.drop 4) invB [] (subs [.v 0, .v 1, .v 2, .v 3, .v 4]) [(12, 12), (11, 11)] .ret finB = true := by kernel_rfl
end bd
def mv (p : Int × Int) : D := .list [.int p.1, .int 5, .int p.2, .int 0]
def mvs (M : List (Int × Int)) : D := .list (M.map mv)
def bnd (id fv : Int) (p : Int × Int) : D := if p.2 = 1 then .list [.int p.1, .int 5, .int 1, .int 0, .int id, .int 1, .int (65536 + fv), .bool true] else .list [.int p.1, .int 5, .int p.2, .int 0, .int 0, .int 0, .int 0, .bool false]
def bnds (id fv : Int) (M : List (Int × Int)) : D := .list (M.map (bnd id fv))
theorem mvs_len (M : List (Int × Int)) : (M.map mv).length = M.length := List.length_map _
theorem mvs_nth (M : List (Int × Int)) (k : Nat) (h : k < M.length) : (M.map mv).getD k .bad = mv M[k] := by simp [List.getD_eq_getElem?_getD, h]
theorem bnds_len (id fv : Int) (M : List (Int × Int)) : (M.map (bnd id fv)).length = M.length := List.length_map _
namespace bd
noncomputable abbrev V (id fv : Int) (tx : D) (M : List (Int × Int)) : Val := vals [.int id, mvs M, tx, .int fv, bnds id fv M]
noncomputable abbrev Vk (id fv : Int) (tx : D) (M : List (Int × Int)) (k j : Nat) : Val := vals [.int id, mvs M, tx, .int fv, bnds id fv (M.take k), .int (j : Nat)]
theorem ok (id fv : Int) (tx : D) (M : List (Int × Int)) (hM : ∀ p ∈ M, p.2 = 1 ∨ p.2 = 2 ∨ p.2 = 3) (hl : M.length ≤ 100) (hf : 0 ≤ fv ∧ fv ≤ 10000) : @Fact.Ok (V id fv tx M) P G x := by
  have hg : cx.glob = G := by kernel_rfl
  have le10 : (10 : Nat) ≤ 10 := Nat.le_refl 10
  refine Fact.ok_tri (fn := fn) (cd := cd) (envAt _) func body (Q := fun V' ex σ' => V' = V id fv tx M ∧ ex = .ret ∧ σ' = finB) ?tri ?hq
  case hq =>
    rintro V' ex σ' ⟨rfl, rfl, rfl⟩
    exact ⟨rfl, .inr rfl, by kernel_rfl⟩
  refine Tri.flat (by kernel_rfl) ?_
  show TriL P G _ cx none 10 L _ _
  unfold V
  refine TriL.go 3 (envAt _) hg stays_none (tb := []) trivial le10 kA ?_
  simp only [D.tm_den, den_int, den_bool, den_str, den_v, den_op, dens_nil, dens_cons, vals_at, List.getD_cons_succ, List.getD_cons_zero, List.getD_nil, List.map_cons, List.map_nil, Int.toNat_natCast, tden_bin, tden_shift, tden_conv, tden_not, tden_and, tden_sbin, tden_slen, tden_len, tden_nth, tden_fld, tden_mk, tden_cat, tden_sub, tden_set, tden_setf, tden_rep, tden_sget, tden_ssub, tden_ite, tden_bytes, tden_text, tden_fits, tden_nadd, tden_nsub, tden_small, intD_add, intD_sub, intD_mul, intD_quo, intD_rem, intD_eql, intD_neq, intD_lss, intD_leq, intD_gtr, intD_geq, D.int.injEq, D.bool.injEq, D.str.injEq, D.list.injEq, decide_eq_true_eq, decide_eq_false_iff_not, beq_iff_eq]
  rw [at3]
  refine TriL.cons stays_none (Q1 := fun V' ex σ' => ex = .normal ∧ σ' = invB ∧ V' = Vk id fv tx M M.length M.length) (Tri.block ?_) ?_ (fun V' ex σ' hne h => absurd h.1 hne)
  · have h := Tri.loop (P := P) (G := G) (c := cx) (around := none) (k0 := 10) (b := bl) (σ := invB) (α := Nat) (fun k => k ≤ M.length) (fun k => M.length - k) (fun k => Vk id fv tx M k k) (Q := fun V' ex σ' => outOf 0 ex = .normal ∧ σ' = invB ∧ V' = Vk id fv tx M M.length M.length) stays_none (by
      intro k hk
      refine Tri.flat (by kernel_rfl) ?_
      show TriL P G _ cx none 10 lp invB _
      have hlt0 : @Tm.den (Vk id fv tx M k k) (.op (.bin .lss .i64) [.v 5, .op .len [.v 1]]) = .bool (decide (k < M.length)) := by
        simp only [D.tm_den, den_int, den_bool, den_str, den_v, den_op, dens_nil, dens_cons, vals_at, List.getD_cons_succ, List.getD_cons_zero, List.getD_nil, List.map_cons, List.map_nil, Int.toNat_natCast, tden_bin, tden_shift, tden_conv, tden_not, tden_and, tden_sbin, tden_slen, tden_len, tden_nth, tden_fld, tden_mk, tden_cat, tden_sub, tden_set, tden_setf, tden_rep, tden_sget, tden_ssub, tden_ite, tden_bytes, tden_text, tden_fits, tden_nadd, tden_nsub, tden_small, intD_add, intD_sub, intD_mul, intD_quo, intD_rem, intD_eql, intD_neq, intD_lss, intD_leq, intD_gtr, intD_geq, D.int.injEq, D.bool.injEq, D.str.injEq, D.list.injEq, decide_eq_true_eq, decide_eq_false_iff_not, beq_iff_eq, mvs, mvs_len]; rw [Bool.eq_iff_iff]; simp
      by_cases hlt : k < M.length
      · refine TriL.go 2 (envAt _) hg stays_none (tb := [ltT true]) ⟨by simp only [ltT]; rw [hlt0]; simp [hlt], trivial⟩ (by show 10 ≤ 13; omega) kH0 ?_
        simp only [six]
        simp only [D.tm_den, den_int, den_bool, den_str, den_v, den_op, dens_nil, dens_cons, vals_at, List.getD_cons_succ, List.getD_cons_zero, List.getD_nil, List.map_cons, List.map_nil, Int.toNat_natCast, tden_bin, tden_shift, tden_conv, tden_not, tden_and, tden_sbin, tden_slen, tden_len, tden_nth, tden_fld, tden_mk, tden_cat, tden_sub, tden_set, tden_setf, tden_rep, tden_sget, tden_ssub, tden_ite, tden_bytes, tden_text, tden_fits, tden_nadd, tden_nsub, tden_small, intD_add, intD_sub, intD_mul, intD_quo, intD_rem, intD_eql, intD_neq, intD_lss, intD_leq, intD_gtr, intD_geq, D.int.injEq, D.bool.injEq, D.str.injEq, D.list.injEq, decide_eq_true_eq, decide_eq_false_iff_not, beq_iff_eq]
        rw [at2]
        have htake : M.take (k + 1) = M.take k ++ [M[k]] := by rw [List.take_add_one, List.getElem?_eq_getElem hlt]; rfl
        have hn : (M.map mv).getD k .bad = mv M[k] := mvs_nth M k hlt
        have hp := hM M[k] (List.getElem_mem hlt)
        have hkl : (M.take k).length = k := by rw [List.length_take]; omega
        generalize M[k] = p at htake hn hp
        obtain ⟨a, u⟩ := p
        have w1 : IntKind.i64.wrap ((k : Int) + 1) = ((k + 1 : Nat) : Int) := by rw [wrap_i64 (by omega)]; simp
        have w2 : IntKind.u64.wrap (65536 + fv) = 65536 + fv := by rw [wrap_u64 (by omega)]
        have hel : @Tm.den (Vk id fv tx M k k) el = mv (a, u) := by
          simp only [el]; simp only [D.tm_den, den_int, den_bool, den_str, den_v, den_op, dens_nil, dens_cons, vals_at, List.getD_cons_succ, List.getD_cons_zero, List.getD_nil, List.map_cons, List.map_nil, Int.toNat_natCast, tden_bin, tden_shift, tden_conv, tden_not, tden_and, tden_sbin, tden_slen, tden_len, tden_nth, tden_fld, tden_mk, tden_cat, tden_sub, tden_set, tden_setf, tden_rep, tden_sget, tden_ssub, tden_ite, tden_bytes, tden_text, tden_fits, tden_nadd, tden_nsub, tden_small, intD_add, intD_sub, intD_mul, intD_quo, intD_rem, intD_eql, intD_neq, intD_lss, intD_leq, intD_gtr, intD_geq, D.int.injEq, D.bool.injEq, D.str.injEq, D.list.injEq, decide_eq_true_eq, decide_eq_false_iff_not, beq_iff_eq, mvs, hn]
        refine TriL.cons stays_none (Q1 := fun V' ex σ' => ex = .normal ∧ σ' = invB ∧ V' = Vk id fv tx M (k + 1) k) (Tri.block (Tri.flat (by kernel_rfl) ?_)) ?_ (fun V' ex σ' hne h => absurd h.1 hne)
        · show TriL P G _ cx none 10 lb invB _
          have tb_ok : ∀ (s : Int) (e : Tm), u = s → @AllEq (Vk id fv tx M k k) (tB s e) := by
            intro s e hs
            refine ⟨?_, ?_, ?_, ?_, ?_, ?_, ?_, trivial⟩
            · simp only [D.tm_den, den_int, den_bool, den_str, den_v, den_op, dens_nil, dens_cons, vals_at, List.getD_cons_succ, List.getD_cons_zero, List.getD_nil, List.map_cons, List.map_nil, Int.toNat_natCast, tden_bin, tden_shift, tden_conv, tden_not, tden_and, tden_sbin, tden_slen, tden_len, tden_nth, tden_fld, tden_mk, tden_cat, tden_sub, tden_set, tden_setf, tden_rep, tden_sget, tden_ssub, tden_ite, tden_bytes, tden_text, tden_fits, tden_nadd, tden_nsub, tden_small, intD_add, intD_sub, intD_mul, intD_quo, intD_rem, intD_eql, intD_neq, intD_lss, intD_leq, intD_gtr, intD_geq, D.int.injEq, D.bool.injEq, D.str.injEq, D.list.injEq, decide_eq_true_eq, decide_eq_false_iff_not, beq_iff_eq, hel, mv]
            · simp only [D.tm_den, den_int, den_bool, den_str, den_v, den_op, dens_nil, dens_cons, vals_at, List.getD_cons_succ, List.getD_cons_zero, List.getD_nil, List.map_cons, List.map_nil, Int.toNat_natCast, tden_bin, tden_shift, tden_conv, tden_not, tden_and, tden_sbin, tden_slen, tden_len, tden_nth, tden_fld, tden_mk, tden_cat, tden_sub, tden_set, tden_setf, tden_rep, tden_sget, tden_ssub, tden_ite, tden_bytes, tden_text, tden_fits, tden_nadd, tden_nsub, tden_small, intD_add, intD_sub, intD_mul, intD_quo, intD_rem, intD_eql, intD_neq, intD_lss, intD_leq, intD_gtr, intD_geq, D.int.injEq, D.bool.injEq, D.str.injEq, D.list.injEq, decide_eq_true_eq, decide_eq_false_iff_not, beq_iff_eq, hel, mv, hs]
            · simp only [D.tm_den, den_int, den_bool, den_str, den_v, den_op, dens_nil, dens_cons, vals_at, List.getD_cons_succ, List.getD_cons_zero, List.getD_nil, List.map_cons, List.map_nil, Int.toNat_natCast, tden_bin, tden_shift, tden_conv, tden_not, tden_and, tden_sbin, tden_slen, tden_len, tden_nth, tden_fld, tden_mk, tden_cat, tden_sub, tden_set, tden_setf, tden_rep, tden_sget, tden_ssub, tden_ite, tden_bytes, tden_text, tden_fits, tden_nadd, tden_nsub, tden_small, intD_add, intD_sub, intD_mul, intD_quo, intD_rem, intD_eql, intD_neq, intD_lss, intD_leq, intD_gtr, intD_geq, D.int.injEq, D.bool.injEq, D.str.injEq, D.list.injEq, decide_eq_true_eq, decide_eq_false_iff_not, beq_iff_eq]; omega
            · simp only [ltT]; rw [hlt0]; simp [hlt]
            · simp only [D.tm_den, den_int, den_bool, den_str, den_v, den_op, dens_nil, dens_cons, vals_at, List.getD_cons_succ, List.getD_cons_zero, List.getD_nil, List.map_cons, List.map_nil, Int.toNat_natCast, tden_bin, tden_shift, tden_conv, tden_not, tden_and, tden_sbin, tden_slen, tden_len, tden_nth, tden_fld, tden_mk, tden_cat, tden_sub, tden_set, tden_setf, tden_rep, tden_sget, tden_ssub, tden_ite, tden_bytes, tden_text, tden_fits, tden_nadd, tden_nsub, tden_small, intD_add, intD_sub, intD_mul, intD_quo, intD_rem, intD_eql, intD_neq, intD_lss, intD_leq, intD_gtr, intD_geq, D.int.injEq, D.bool.injEq, D.str.injEq, D.list.injEq, decide_eq_true_eq, decide_eq_false_iff_not, beq_iff_eq, bnds, bnds_len]; omega
            · simp only [D.tm_den, den_int, den_bool, den_str, den_v, den_op, dens_nil, dens_cons, vals_at, List.getD_cons_succ, List.getD_cons_zero, List.getD_nil, List.map_cons, List.map_nil, Int.toNat_natCast, tden_bin, tden_shift, tden_conv, tden_not, tden_and, tden_sbin, tden_slen, tden_len, tden_nth, tden_fld, tden_mk, tden_cat, tden_sub, tden_set, tden_setf, tden_rep, tden_sget, tden_ssub, tden_ite, tden_bytes, tden_text, tden_fits, tden_nadd, tden_nsub, tden_small, intD_add, intD_sub, intD_mul, intD_quo, intD_rem, intD_eql, intD_neq, intD_lss, intD_leq, intD_gtr, intD_geq, D.int.injEq, D.bool.injEq, D.str.injEq, D.list.injEq, decide_eq_true_eq, decide_eq_false_iff_not, beq_iff_eq, bnds, bnds_len, hkl]; omega
            · simp only [catE]; simp only [D.tm_den, den_int, den_bool, den_str, den_v, den_op, dens_nil, dens_cons, vals_at, List.getD_cons_succ, List.getD_cons_zero, List.getD_nil, List.map_cons, List.map_nil, Int.toNat_natCast, tden_bin, tden_shift, tden_conv, tden_not, tden_and, tden_sbin, tden_slen, tden_len, tden_nth, tden_fld, tden_mk, tden_cat, tden_sub, tden_set, tden_setf, tden_rep, tden_sget, tden_ssub, tden_ite, tden_bytes, tden_text, tden_fits, tden_nadd, tden_nsub, tden_small, intD_add, intD_sub, intD_mul, intD_quo, intD_rem, intD_eql, intD_neq, intD_lss, intD_leq, intD_gtr, intD_geq, D.int.injEq, D.bool.injEq, D.str.injEq, D.list.injEq, decide_eq_true_eq, decide_eq_false_iff_not, beq_iff_eq, bnds, bnds_len]; simp
          have out_ok : ∀ (s : Int) (e : Tm), @Tm.den (Vk id fv tx M k k) e = bnd id fv (a, u) → @Tm.den (Vk id fv tx M k k) (catE e) = bnds id fv (M.take (k + 1)) := by
            intro s e he
            simp only [catE]
            simp only [D.tm_den, den_int, den_bool, den_str, den_v, den_op, dens_nil, dens_cons, vals_at, List.getD_cons_succ, List.getD_cons_zero, List.getD_nil, List.map_cons, List.map_nil, Int.toNat_natCast, tden_bin, tden_shift, tden_conv, tden_not, tden_and, tden_sbin, tden_slen, tden_len, tden_nth, tden_fld, tden_mk, tden_cat, tden_sub, tden_set, tden_setf, tden_rep, tden_sget, tden_ssub, tden_ite, tden_bytes, tden_text, tden_fits, tden_nadd, tden_nsub, tden_small, intD_add, intD_sub, intD_mul, intD_quo, intD_rem, intD_eql, intD_neq, intD_lss, intD_leq, intD_gtr, intD_geq, D.int.injEq, D.bool.injEq, D.str.injEq, D.list.injEq, decide_eq_true_eq, decide_eq_false_iff_not, beq_iff_eq, he, bnds]
            rw [htake, List.map_append]; rfl
          rcases hp with hp | hp | hp <;> simp only at hp
          · refine TriL.fin (envAt _) hg (tb := tB 1 e1) (tb_ok 1 e1 hp) (by show 10 ≤ 13; omega) kB1 ⟨rfl, rfl, ?_⟩
            have he : @Tm.den (Vk id fv tx M k k) e1 = bnd id fv (a, u) := by
              simp only [e1, bnd, hp, if_true]; simp only [D.tm_den, den_int, den_bool, den_str, den_v, den_op, dens_nil, dens_cons, vals_at, List.getD_cons_succ, List.getD_cons_zero, List.getD_nil, List.map_cons, List.map_nil, Int.toNat_natCast, tden_bin, tden_shift, tden_conv, tden_not, tden_and, tden_sbin, tden_slen, tden_len, tden_nth, tden_fld, tden_mk, tden_cat, tden_sub, tden_set, tden_setf, tden_rep, tden_sget, tden_ssub, tden_ite, tden_bytes, tden_text, tden_fits, tden_nadd, tden_nsub, tden_small, intD_add, intD_sub, intD_mul, intD_quo, intD_rem, intD_eql, intD_neq, intD_lss, intD_leq, intD_gtr, intD_geq, D.int.injEq, D.bool.injEq, D.str.injEq, D.list.injEq, decide_eq_true_eq, decide_eq_false_iff_not, beq_iff_eq, hel, mv, w2]
            simp only [toB]
            simp only [D.tm_den, den_int, den_bool, den_str, den_v, den_op, dens_nil, dens_cons, vals_at, List.getD_cons_succ, List.getD_cons_zero, List.getD_nil, List.map_cons, List.map_nil, Int.toNat_natCast, tden_bin, tden_shift, tden_conv, tden_not, tden_and, tden_sbin, tden_slen, tden_len, tden_nth, tden_fld, tden_mk, tden_cat, tden_sub, tden_set, tden_setf, tden_rep, tden_sget, tden_ssub, tden_ite, tden_bytes, tden_text, tden_fits, tden_nadd, tden_nsub, tden_small, intD_add, intD_sub, intD_mul, intD_quo, intD_rem, intD_eql, intD_neq, intD_lss, intD_leq, intD_gtr, intD_geq, D.int.injEq, D.bool.injEq, D.str.injEq, D.list.injEq, decide_eq_true_eq, decide_eq_false_iff_not, beq_iff_eq, out_ok 1 e1 he]
          · refine TriL.fin (envAt _) hg (tb := tB 2 (eN 2)) (tb_ok 2 _ hp) (by show 10 ≤ 13; omega) kB2 ⟨rfl, rfl, ?_⟩
            have he : @Tm.den (Vk id fv tx M k k) (eN 2) = bnd id fv (a, u) := by
              simp only [eN, bnd, hp]; simp only [D.tm_den, den_int, den_bool, den_str, den_v, den_op, dens_nil, dens_cons, vals_at, List.getD_cons_succ, List.getD_cons_zero, List.getD_nil, List.map_cons, List.map_nil, Int.toNat_natCast, tden_bin, tden_shift, tden_conv, tden_not, tden_and, tden_sbin, tden_slen, tden_len, tden_nth, tden_fld, tden_mk, tden_cat, tden_sub, tden_set, tden_setf, tden_rep, tden_sget, tden_ssub, tden_ite, tden_bytes, tden_text, tden_fits, tden_nadd, tden_nsub, tden_small, intD_add, intD_sub, intD_mul, intD_quo, intD_rem, intD_eql, intD_neq, intD_lss, intD_leq, intD_gtr, intD_geq, D.int.injEq, D.bool.injEq, D.str.injEq, D.list.injEq, decide_eq_true_eq, decide_eq_false_iff_not, beq_iff_eq, hel, mv]; simp
            simp only [toB]
            simp only [D.tm_den, den_int, den_bool, den_str, den_v, den_op, dens_nil, dens_cons, vals_at, List.getD_cons_succ, List.getD_cons_zero, List.getD_nil, List.map_cons, List.map_nil, Int.toNat_natCast, tden_bin, tden_shift, tden_conv, tden_not, tden_and, tden_sbin, tden_slen, tden_len, tden_nth, tden_fld, tden_mk, tden_cat, tden_sub, tden_set, tden_setf, tden_rep, tden_sget, tden_ssub, tden_ite, tden_bytes, tden_text, tden_fits, tden_nadd, tden_nsub, tden_small, intD_add, intD_sub, intD_mul, intD_quo, intD_rem, intD_eql, intD_neq, intD_lss, intD_leq, intD_gtr, intD_geq, D.int.injEq, D.bool.injEq, D.str.injEq, D.list.injEq, decide_eq_true_eq, decide_eq_false_iff_not, beq_iff_eq, out_ok 2 _ he]
          · refine TriL.fin (envAt _) hg (tb := tB 3 (eN 3)) (tb_ok 3 _ hp) (by show 10 ≤ 13; omega) kB3 ⟨rfl, rfl, ?_⟩
            have he : @Tm.den (Vk id fv tx M k k) (eN 3) = bnd id fv (a, u) := by
              simp only [eN, bnd, hp]; simp only [D.tm_den, den_int, den_bool, den_str, den_v, den_op, dens_nil, dens_cons, vals_at, List.getD_cons_succ, List.getD_cons_zero, List.getD_nil, List.map_cons, List.map_nil, Int.toNat_natCast, tden_bin, tden_shift, tden_conv, tden_not, tden_and, tden_sbin, tden_slen, tden_len, tden_nth, tden_fld, tden_mk, tden_cat, tden_sub, tden_set, tden_setf, tden_rep, tden_sget, tden_ssub, tden_ite, tden_bytes, tden_text, tden_fits, tden_nadd, tden_nsub, tden_small, intD_add, intD_sub, intD_mul, intD_quo, intD_rem, intD_eql, intD_neq, intD_lss, intD_leq, intD_gtr, intD_geq, D.int.injEq, D.bool.injEq, D.str.injEq, D.list.injEq, decide_eq_true_eq, decide_eq_false_iff_not, beq_iff_eq, hel, mv]; simp
            simp only [toB]
            simp only [D.tm_den, den_int, den_bool, den_str, den_v, den_op, dens_nil, dens_cons, vals_at, List.getD_cons_succ, List.getD_cons_zero, List.getD_nil, List.map_cons, List.map_nil, Int.toNat_natCast, tden_bin, tden_shift, tden_conv, tden_not, tden_and, tden_sbin, tden_slen, tden_len, tden_nth, tden_fld, tden_mk, tden_cat, tden_sub, tden_set, tden_setf, tden_rep, tden_sget, tden_ssub, tden_ite, tden_bytes, tden_text, tden_fits, tden_nadd, tden_nsub, tden_small, intD_add, intD_sub, intD_mul, intD_quo, intD_rem, intD_eql, intD_neq, intD_lss, intD_leq, intD_gtr, intD_geq, D.int.injEq, D.bool.injEq, D.str.injEq, D.list.injEq, decide_eq_true_eq, decide_eq_false_iff_not, beq_iff_eq, out_ok 3 _ he]
        · rintro V' σ' ⟨-, rfl, rfl⟩
          refine TriL.fin (envAt _) hg (tb := []) trivial (by show 10 ≤ 13; omega) kN (.inl ⟨rfl, rfl, k + 1, ?_, hlt, by omega⟩)
          simp only [D.tm_den, den_int, den_bool, den_str, den_v, den_op, dens_nil, dens_cons, vals_at, List.getD_cons_succ, List.getD_cons_zero, List.getD_nil, List.map_cons, List.map_nil, Int.toNat_natCast, tden_bin, tden_shift, tden_conv, tden_not, tden_and, tden_sbin, tden_slen, tden_len, tden_nth, tden_fld, tden_mk, tden_cat, tden_sub, tden_set, tden_setf, tden_rep, tden_sget, tden_ssub, tden_ite, tden_bytes, tden_text, tden_fits, tden_nadd, tden_nsub, tden_small, intD_add, intD_sub, intD_mul, intD_quo, intD_rem, intD_eql, intD_neq, intD_lss, intD_leq, intD_gtr, intD_geq, D.int.injEq, D.bool.injEq, D.str.injEq, D.list.injEq, decide_eq_true_eq, decide_eq_false_iff_not, beq_iff_eq, w1]
      · have hkT : k = M.length := by omega
        subst hkT
        refine TriL.fin (envAt _) hg (tb := [ltT false]) ⟨by simp only [ltT]; rw [hlt0]; simp, trivial⟩ (by show 10 ≤ 13; omega) kH1 (.inr ⟨by simp, rfl, rfl, ?_⟩)
        simp only [six]; simp only [D.tm_den, den_int, den_bool, den_str, den_v, den_op, dens_nil, dens_cons, vals_at, List.getD_cons_succ, List.getD_cons_zero, List.getD_nil, List.map_cons, List.map_nil, Int.toNat_natCast, tden_bin, tden_shift, tden_conv, tden_not, tden_and, tden_sbin, tden_slen, tden_len, tden_nth, tden_fld, tden_mk, tden_cat, tden_sub, tden_set, tden_setf, tden_rep, tden_sget, tden_ssub, tden_ite, tden_bytes, tden_text, tden_fits, tden_nadd, tden_nsub, tden_small, intD_add, intD_sub, intD_mul, intD_quo, intD_rem, intD_eql, intD_neq, intD_lss, intD_leq, intD_gtr, intD_geq, D.int.injEq, D.bool.injEq, D.str.injEq, D.list.injEq, decide_eq_true_eq, decide_eq_false_iff_not, beq_iff_eq]) 0 (Nat.zero_le _)
    exact h
  · rintro V' σ' ⟨-, rfl, rfl⟩
    refine TriL.fin (envAt _) hg (tb := []) trivial (by show 10 ≤ 13; omega) kZ ⟨?_, rfl, rfl⟩
    simp only [D.tm_den, den_int, den_bool, den_str, den_v, den_op, dens_nil, dens_cons, vals_at, List.getD_cons_succ, List.getD_cons_zero, List.getD_nil, List.map_cons, List.map_nil, Int.toNat_natCast, tden_bin, tden_shift, tden_conv, tden_not, tden_and, tden_sbin, tden_slen, tden_len, tden_nth, tden_fld, tden_mk, tden_cat, tden_sub, tden_set, tden_setf, tden_rep, tden_sget, tden_ssub, tden_ite, tden_bytes, tden_text, tden_fits, tden_nadd, tden_nsub, tden_small, intD_add, intD_sub, intD_mul, intD_quo, intD_rem, intD_eql, intD_neq, intD_lss, intD_leq, intD_gtr, intD_geq, D.int.injEq, D.bool.injEq, D.str.injEq, D.list.injEq, decide_eq_true_eq, decide_eq_false_iff_not, beq_iff_eq, List.take_length]
end bd
end lz
end Go.Proofs.YtjmjbjnbfodalaaGreat
set_option maxRecDepth 100000
namespace Go.Proofs.YtjmjbjnbfodalaaGreat
open Go.Tc
namespace lz
def obX : Nat × AObj := (11, .row [iz, wz, .nilPtr] 50 .solid)
def obG (c : List AV) : Nat × AObj := (4, .row c 169 (.buf 0 false))
def midM (segs : List AV) : St := { vars := [(5, .ptr 11 0), (13, .ptr 1 0), (15, .ptr 10 0)], loc := [], marks := [], objs := [obO, obS, obV, obH, obM, obG segs, (10, .row memb 50 .solid), obX], next := 12 }
def yB : Fact := ⟨26, [.agg memb, .slice 14 0 1 (.exact 1), rsl, .bool false], 26, [obO, obS, obV, obH, obM, (14, .row memb 50 .solid)], .tuple [.lsl 28 8 (.int 0) (.op .len [.v 5]) .opn, .agg fault], [obO, obS, obV, obH, obM, (14, .row memb 50 .solid), (28, .lrow kB (.v 5) 33 (.buf 0 false))], 29⟩
def membE : List AV := [bi (.v 1), .int .u64 65536, .ptr 1 0]
def obOE : Nat × AObj := (1, .row [.sy .str (.v 3), wz, .slice 4 0 6 (.opn 6), se, .nilSlice, .slice 2 0 4 (.opn 7), .slice 3 0 4 (.exact 4), .nilSlice, .lsl 8 4 (.int 0) (.op .len [.v 2]) .rd, wz, wz, wz, wz, .slice 5 0 1 (.opn 2), .bool false, .bool false, .iface 268 (.agg [.slice 6 0 2 (.exact 2), .slice 6 2 4 (.opn 1)]), .slice 7 0 8 (.opn 2), .int .i64 4] 103 .solid)
def obSE : Nat × AObj := (2, .row [se, iz, iz, iz, .bool false, wz, wz, .str ⟨1, 102⟩, .int .i64 1, iz, iz, .bool true, .sy (.int .u64) (.v 4), wz, .str ⟨1, 103⟩, .int .i64 1, iz, iz, .bool false, wz, wz, .str ⟨1, 104⟩, .int .i64 2, iz, iz, .bool false, wz, wz] 150 (.buf 0 false))
def boundE : Nat × AObj := (9, .lrow kB (.v 2) 33 (.buf 0 false))
def entE (i : Nat) : AEnt := ⟨.int .u64 (65536 + 256 * i : Nat), .ptr (14 + i) 0, i⟩
def pageE (i : Nat) : Nat × AObj := (14 + i, .row (.int .i64 4 :: List.replicate 256 (.int .u8 0)) 131 .solid)
def spaceE (np : Nat) : List (Nat × AObj) := (10, .row [.map 11, .slice 12 0 1 (.opn 2), .int .i64 40] 122 .solid) :: (11, .map ((List.range np).map entE) np) :: (12, .row [.int .u64 65536, .int .u64 (65536 + 256 * np : Nat)] 96 (.buf 0 false)) :: (List.range np).map pageE
def objsE (np : Nat) : List (Nat × AObj) := [obOE, obSE, boundE] ++ spaceE np
def lE : AV := .lsl 9 8 (.int 0) (.op .len [.v 2]) .opn
def endM (np : Nat) : St := { vars := [(4, .ptr 10 0), (5, .ptr 13 0), (6, lE), (7, .bool true)], loc := [], marks := [], objs := objsE np ++ [(13, .row membE 50 .solid)], next := 19 }
def xM (np : Nat) : Fact := ⟨15, [.sy (.isl [.int .i64]) (.v 0), bi (.v 1)], 1, [], .tuple [.ptr 10 0, .agg membE, lE, .bool true], objsE np, 19⟩
namespace md
noncomputable def fn : Func := Tryz.f15
noncomputable def cd : Code := match fn.body with | some c => c | none => .skip
noncomputable def cx : Ctx := cxOf P fn cd 2
noncomputable def L : List Code := flat cd
theorem func : P.funcs[15]? = some fn := Tryz.func15
theorem body : fn.body = some cd := by kernel_rfl
theorem kG (np : Nat) (l : List Tm) : evFl P (E0.tab []) 100000 cx none 1 (L.take 0) (startSt (xM np)) [] (subs (.v 0 :: .v 1 :: l)) [] .normal (startSt (xM np)) = true := by kernel_rfl
theorem useB : usesSo (tableNf []) G (subs [.v 0, .v 1, .v 2, .v 3, .v 5]) [(1, 1), (2, 2), (3, 3), (4, 4), (5, 5), (6, 6), (7, 7), (8, 8), (9, 14)] bd.x yB = true := by kernel_rfl
def ints (l : List Int) : D := .list (l.map D.int)
theorem ints_len (l : List Int) : (l.map D.int).length = l.length := List.length_map _
theorem ints_nth (l : List Int) (k : Nat) (h : k < l.length) : (l.map D.int).getD k .bad = .int (l.getD k 0) := by simp [List.getD_eq_getElem?_getD, h]
def tsl (sl : List Int) : List Tm := (List.range 12).map (fun i => .int (tt (sl.getD i 0))) ++ (List.range 12).map (fun i => .int (symOf sl i))
def W (sl : List Int) (id : Int) : List D := ints sl :: .int id :: (List.range 12).map (fun i => .int (tt (sl.getD i 0))) ++ (List.range 12).map (fun i => .int (symOf sl i))
theorem W_of (sl : List Int) (id : Int) (l : List D) : (Tm.v 0 :: Tm.v 1 :: tsl sl).map (@Tm.den (vals (.cons (ints sl) (.cons (.int id) l)))) = W sl id := by
  simp [tsl, W, valsC, List.range_succ]
theorem nth_W (sl : List Int) (id : Int) (i : Nat) (h : i < sl.length) : @Tm.den (vals (W sl id)) (.op .nth [.v 0, .int i]) = .int (sl.getD i 0) := by
  show TOp.den .nth [ints sl, .int i] = _
  simp only [ints, tden_nth, Int.toNat_natCast]
  exact ints_nth sl i h
end md
namespace md
theorem len_of {sl : List Int} {id : Int} {n : Nat} (h : sl.length = n) : @AllEq (vals (W sl id)) [(.op .len [.v 0], .int n)] := by
  refine ⟨?_, trivial⟩
  show TOp.den .len [ints sl] = .int n
  simp only [ints, tden_len, ints_len]
  congr 1; omega
def LSS : List (Tm × Tm) := (List.range 13).map fun i => (.op (.bin .lss .i64) [.int (i : Nat), .op .len [.v 0]], .bool true)
theorem lss_of {sl : List Int} {id : Int} (h : 12 < sl.length) : @AllEq (vals (W sl id)) LSS := by
  refine ⟨?_, ?_, ?_, ?_, ?_, ?_, ?_, ?_, ?_, ?_, ?_, ?_, ?_, trivial⟩ <;>
    (show TOp.den (.bin .lss .i64) [.int _, TOp.den .len [ints sl]] = .bool true
     simp only [ints, tden_len, ints_len, tden_bin, intD, D.bool.injEq, decide_eq_true_eq]
     omega)
theorem gen {np n : Nat} {base fv : Int} {mid : St} {LT tb : List (Tm × Tm)} {ice : List Ice} {nA nZ : List (Nat × Nat)} {bB bR : Fact} {txt rel : Tm} (hfv : 0 ≤ fv ∧ fv ≤ 10000) (hn : n ≤ 100) (sl : List Int) (id : Int)
    (hA : ∀ g, evFl P ((E0.know [bB, bR]).tab (LT ++ tb)) 100000 cx none 1 (L.take 9) (startSt (xM np)) ice (subs [.v 1, rel, txt, .int fv, .v 0, g]) nA .normal mid = true)
    (hZ : evFl P ((E0.know [yB]).tab [(.op .len [.v 5], .op .len [.v 1])]) 100000 cx none 1 (L.drop 9) mid [] (subs [.v 4, .v 0, .v 5, .v 2, .v 3]) nZ .ret (endM np) = true)
    (hE : endsSo P E0 cx fn (xM np) (endM np) = true) (hk : 1 ≤ mid.next) (ht : @AllEq (vals (W sl id)) tb) (hLT : @AllEq (vals (W sl id)) LT) (hb : @Fact.Ok (vals (W sl id)) P G bB) (hr : @Fact.Ok (vals (W sl id)) P G bR)
    (hrel : @Tm.den (vals (W sl id)) rel = mvs (Mof base n (symOf sl))) : ∃ tx, @Fact.Ok (vals [ints sl, .int id, bnds id fv (Mof base n (symOf sl)), tx, .int fv]) P G (xM np) := by
  have hg : cx.glob = G := by kernel_rfl
  refine ⟨@Tm.den (vals (W sl id)) txt, ?_⟩
  have htx : @Tm.den (vals (W sl id)) txt = @Tm.den (vals (W sl id)) txt := rfl
  generalize hy : @Tm.den (vals (W sl id)) txt = tx at htx ⊢
  refine Fact.ok_tri (fn := fn) (cd := cd) (envAt _) func body (Q := fun V' ex σ' => V' = vals [ints sl, .int id, bnds id fv (Mof base n (symOf sl)), tx, .int fv] ∧ ex = .ret ∧ σ' = endM np) ?tri ?hq
  case hq =>
    rintro V' ex σ' ⟨rfl, rfl, rfl⟩
    exact ⟨rfl, .inr rfl, hE⟩
  refine Tri.flat (by kernel_rfl) ?_
  show TriL P G _ cx none 1 L _ _
  refine TriL.go 0 (envAt _) hg stays_none (tb := []) trivial (Nat.le_refl 1) (kG np (tsl sl)) ?_
  rw [W_of]
  have hE1 : @EnvOk (vals (W sl id)) P G (E0.know [bB, bR]) := @EnvOk.know (vals (W sl id)) P G _ (envAt _) [bB, bR] fun z hz => by
    rcases List.mem_cons.1 hz with e | e
    · rw [e]; exact hb
    · rw [List.mem_singleton] at e
      rw [e]; exact hr
  refine TriL.go 9 hE1 hg stays_none (tb := LT ++ tb) (@AllEq.app (vals (W sl id)) _ _ hLT ht) (Nat.le_refl 1) (hA (bnds id fv (Mof base n (symOf sl))).tm) ?_
  have hmap : ([.v 1, rel, txt, .int fv, .v 0, (bnds id fv (Mof base n (symOf sl))).tm] : List Tm).map (@Tm.den (vals (W sl id))) = [.int id, mvs (Mof base n (symOf sl)), tx, .int fv, ints sl, bnds id fv (Mof base n (symOf sl))] := by
    simp only [List.map_cons, List.map_nil, hrel, hy, den_int, den_v, D.tm_den]
    rfl
  rw [hmap]
  have hM : ∀ p ∈ Mof base n (symOf sl), p.2 = 1 ∨ p.2 = 2 ∨ p.2 = 3 := fun p hp => by
    obtain ⟨i, -, rfl⟩ := List.mem_map.1 hp
    exact symOf_cases sl i
  have hlM : (Mof base n (symOf sl)).length = n := by simp [Mof]
  have hB := bd.ok id fv tx _ hM (by omega) hfv
  have hy2 : @Fact.Ok (vals [.int id, mvs (Mof base n (symOf sl)), tx, .int fv, ints sl, bnds id fv (Mof base n (symOf sl))]) P G yB := Fact.use (tb := []) trivial (ts := [.v 0, .v 1, .v 2, .v 3, .v 5]) (by rfl) hB useB
  have hE2 : @EnvOk (vals [.int id, mvs (Mof base n (symOf sl)), tx, .int fv, ints sl, bnds id fv (Mof base n (symOf sl))]) P G (E0.know [yB]) := @EnvOk.know (vals [.int id, mvs (Mof base n (symOf sl)), tx, .int fv, ints sl, bnds id fv (Mof base n (symOf sl))]) P G _ (envAt _) [yB] fun z hz => by
    rw [List.mem_singleton] at hz
    rw [hz]; exact hy2
  refine TriL.fin hE2 hg (tb := [(.op .len [.v 5], .op .len [.v 1])]) ⟨?_, trivial⟩ hk hZ ⟨?_, rfl, rfl⟩
  · show TOp.den .len [bnds id fv (Mof base n (symOf sl))] = TOp.den .len [mvs (Mof base n (symOf sl))]
    simp only [bnds, mvs, tden_len, List.length_map]
  · rfl
end md
end lz
end Go.Proofs.YtjmjbjnbfodalaaGreat
