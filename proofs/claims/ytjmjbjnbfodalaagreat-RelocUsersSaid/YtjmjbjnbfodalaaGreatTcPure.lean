/- Operations that leave memory alone: what the evaluator answers, the model answers. -/
import Derived.Test.YtjmjbjnbfodalaaGreatTcMem
import Derived.IntWalk
import Derived.Laws.Cover1
import Derived.Laws.Tables
set_option linter.unusedSimpArgs false
set_option linter.unusedVariables false
set_option linter.unusedSectionVars false
namespace Go.Tc
variable [Val]

section
variable {P : Program} {G : Nat} {β : Pl} {H : AHeap} {w : World}

/-! ### operands -/
theorem aeval_VR {n : Nat} {c : Ctx} {T : Tmps} {a : Act} {x : Operand} {v : AV} (hT : TR β c T a.tmps) (hg : c.glob = G) (hw : WR G β H.get n w) (h : aeval c T x = some v) : VR β v (a.eval x) := by
  cases x with
  | tmp t =>
    obtain ⟨u, h1, h2⟩ := hT.2 t v h
    simp only [Act.eval, Array.getD_eq_getD_getElem?, h1, Option.getD_some]
    exact h2
  | const u => exact ofValue_VR u v h
  | global g =>
    simp only [aeval, Bool.cond_eq_ite, Nat.blt_eq] at h
    split at h
    · rename_i hlt
      cases h
      obtain ⟨sz, hs⟩ := hw.glob g (hg ▸ hlt)
      exact .ptr 0 hs
    · cases h
  | func f => cases h; exact .fn (.func f) .nil .nil

theorem aevals_VRs {n : Nat} {c : Ctx} {T : Tmps} {a : Act} (hT : TR β c T a.tmps) (hg : c.glob = G) (hw : WR G β H.get n w) : ∀ (l : List Operand) (vs : List AV), aevals c T l = some vs → VRs β vs (l.map a.eval)
  | [], vs, h => by cases h; exact .nil
  | x :: r, vs, h => by
    simp only [aevals] at h
    cases hx : aeval c T x with
    | none => simp [hx] at h
    | some y =>
      cases hr : aevals c T r with
      | none => simp [hx, hr] at h
      | some ys =>
        simp only [hx, hr, Option.some.injEq] at h
        subst h
        exact .cons (aeval_VR hT hg hw hx) (aevals_VRs hT hg hw r ys hr)

/-! ### integers, texts -/
theorem intOpA_run {op : BinOp} {k : IntKind} {a b : Int} {r : AV} (t : TypeId) (h : intOpA op k a b = some r) (hop : op ≠ .shl) (hop' : op ≠ .shr) :
    ∃ v, (binOp op t (.int k a) (.int k b)).run P w = .ok v w ∧ VR β r v := by
  cases op <;> simp only [intOpA] at h
  case shl => exact absurd rfl hop
  case shr => exact absurd rfl hop'
  case quo =>
    split at h
    · cases h
    · rename_i hb; cases h
      exact ⟨_, by simp [binOp, Op.intDiv, hb], .int _ _⟩
  case rem =>
    split at h
    · cases h
    · rename_i hb; cases h
      exact ⟨_, by simp [binOp, Op.intDiv, hb], .int _ _⟩
  all_goals first
    | (cases h; exact ⟨_, by simp [binOp, Op.intArith, Op.intBits, Op.intCmp], .int _ _⟩)
    | (cases h; exact ⟨.bool (a == b), by simp [binOp, Op.intCmp], .bool _⟩)
    | (cases h; exact ⟨.bool (a != b), by simp [binOp, Op.intCmp], .bool _⟩)
    | (cases h; exact ⟨.bool (decide (a < b)), by simp [binOp, Op.intCmp], .bool _⟩)
    | (cases h; exact ⟨.bool (decide (a ≤ b)), by simp [binOp, Op.intCmp], .bool _⟩)
    | (cases h; exact ⟨.bool (decide (a > b)), by simp [binOp, Op.intCmp], .bool _⟩)
    | (cases h; exact ⟨.bool (decide (a ≥ b)), by simp [binOp, Op.intCmp], .bool _⟩)

theorem shiftA_run {op : BinOp} {k : IntKind} (j : IntKind) {a b : Int} {r : AV} (t : TypeId) (h : shiftA op k a b = some r) :
    ∃ v, (binOp op t (.int k a) (.int j b)).run P w = .ok v w ∧ VR β r v := by
  unfold shiftA at h
  split at h
  · cases h
  · rename_i hb
    simp only at h
    split at h
    · cases h; exact ⟨_, by simp [binOp, Op.shift, hb], .int _ _⟩
    · cases h; exact ⟨_, by simp [binOp, Op.shift, hb], .int _ _⟩
    · cases h

omit [Val] in
theorem BS.lt_of (x y : ByteArray) : (BS.of x).lt (BS.of y) = Op.bytesLess x.toList y.toList := by
  rw [ByteArray.toList_eq, ByteArray.toList_eq]
  unfold BS.of
  generalize x.data.toList = l
  generalize y.data.toList = m
  induction l generalizing m with
  | nil =>
    cases m with
    | nil => simp [BS.lt, BS.ofList, Op.bytesLess]; rfl
    | cons c m =>
      simp only [BS.lt, BS.ofList, Op.bytesLess, List.foldl_nil, List.length_nil, Nat.zero_mul, Nat.pow_zero, Nat.mul_one, List.length_cons]
      rw [Bool.or_eq_true_iff]
      by_cases h : List.foldl (fun a b => a * 256 + b.toNat) 0 (c :: m) = 0
      · right; rw [h]; simp [Nat.blt_eq]
      · left; rw [Nat.blt_eq]; omega
  | cons b l ih =>
    cases m with
    | nil =>
      simp only [BS.lt, BS.ofList, Op.bytesLess, List.foldl_nil, List.length_nil, Nat.zero_mul, Nat.pow_zero, Nat.mul_one, List.length_cons]
      rw [Bool.or_eq_false_iff]
      refine ⟨?_, ?_⟩
      · rw [← Bool.not_eq_true, Nat.blt_eq]; omega
      · rw [Bool.and_eq_false_iff]; right; rw [← Bool.not_eq_true, Nat.blt_eq]; omega
    | cons c m =>
      have ihm := ih m
      simp only [BS.lt, BS.ofList, Op.bytesLess, List.length_cons] at ihm ⊢
      rw [List.foldl_cons, foldl_digits l, List.foldl_cons, foldl_digits m]
      simp only [Nat.zero_mul, Nat.zero_add]
      have hl := digits_lt l
      have hm := digits_lt m
      generalize List.foldl (fun a b => a * 256 + b.toNat) 0 l = x at *
      generalize List.foldl (fun a b => a * 256 + b.toNat) 0 m = y at *
      have e1 : (b.toNat * 256 ^ l.length + x) * 256 ^ (m.length + 1) = (b.toNat * (256 ^ l.length * 256 ^ m.length) + x * 256 ^ m.length) * 256 := by
        rw [Nat.pow_succ, ← Nat.mul_assoc, Nat.add_mul, Nat.mul_assoc]
      have e2 : (c.toNat * 256 ^ m.length + y) * 256 ^ (l.length + 1) = (c.toNat * (256 ^ l.length * 256 ^ m.length) + y * 256 ^ l.length) * 256 := by
        rw [Nat.pow_succ, ← Nat.mul_assoc, Nat.add_mul, Nat.mul_assoc, Nat.mul_comm (256 ^ m.length)]
      rw [e1, e2]
      have hx : x * 256 ^ m.length < 256 ^ l.length * 256 ^ m.length := Nat.mul_lt_mul_of_pos_right hl (Nat.pow_pos (by omega))
      have hy : y * 256 ^ l.length < 256 ^ l.length * 256 ^ m.length := by rw [Nat.mul_comm (256 ^ l.length)]; exact Nat.mul_lt_mul_of_pos_right hm (Nat.pow_pos (by omega))
      generalize 256 ^ l.length * 256 ^ m.length = K at *
      generalize x * 256 ^ m.length = X at *
      generalize y * 256 ^ l.length = Y at *
      have hbl : Nat.blt (l.length + 1) (m.length + 1) = Nat.blt l.length m.length := by
        rw [Bool.eq_iff_iff, Nat.blt_eq, Nat.blt_eq]; omega
      rw [hbl]
      rcases Nat.lt_trichotomy b.toNat c.toNat with hbc | hbc | hbc
      · have h1 : (b < c) = True := by simpa [UInt8.lt_iff_toNat_lt] using hbc
        have h2 : Nat.blt ((b.toNat * K + X) * 256) ((c.toNat * K + Y) * 256) = true := by
          rw [Nat.blt_eq]
          have : (b.toNat + 1) * K ≤ c.toNat * K := Nat.mul_le_mul_right _ hbc
          rw [Nat.add_mul] at this
          omega
        simp [h1, h2]
      · have h0 : b = c := UInt8.toNat_inj.1 hbc
        subst h0
        have h1 : ¬ (b < b) := by simp
        have h2 : Nat.blt ((b.toNat * K + X) * 256) ((b.toNat * K + Y) * 256) = Nat.blt X Y := by
          rw [Bool.eq_iff_iff, Nat.blt_eq, Nat.blt_eq]; omega
        have h3 : ((b.toNat * K + X) * 256 == (b.toNat * K + Y) * 256) = (X == Y) := by
          rw [Bool.eq_iff_iff, beq_iff_eq, beq_iff_eq]; omega
        simp only [h2, h3, ihm]
        simp
      · have h1 : ¬ (b < c) := by simp [UInt8.lt_iff_toNat_lt]; omega
        have h0 : ¬ (b = c) := by rintro rfl; omega
        have h2 : Nat.blt ((b.toNat * K + X) * 256) ((c.toNat * K + Y) * 256) = false := by
          rw [← Bool.not_eq_true, Nat.blt_eq]
          have : (c.toNat + 1) * K ≤ b.toNat * K := Nat.mul_le_mul_right _ hbc
          rw [Nat.add_mul] at this
          omega
        have h3 : ((b.toNat * K + X) * 256 == (c.toNat * K + Y) * 256) = false := by
          rw [← Bool.not_eq_true, beq_iff_eq]
          have : (c.toNat + 1) * K ≤ b.toNat * K := Nat.mul_le_mul_right _ hbc
          rw [Nat.add_mul] at this
          omega
        simp [h1, h0, h2, h3]

theorem strOpA_run {op : BinOp} {x y : ByteArray} {r : AV} (t : TypeId) (h : strOpA op (BS.of x) (BS.of y) = some r) (hop : op ≠ .shl) (hop' : op ≠ .shr) :
    ∃ v, (binOp op t (.string x) (.string y)).run P w = .ok v w ∧ VR β r v := by
  cases op <;> simp only [strOpA] at h
  case add =>
    split at h
    · rename_i hl
      cases h
      rw [BS.of_len, BS.of_len] at hl
      rw [BS.of_app]
      refine ⟨.string (x ++ y), ?_, .str _⟩
      have : ¬ (((x.size + y.size : Nat) : Int) > IntKind.i64.max) := by
        have : IntKind.i64.max = 9223372036854775807 := by decide
        omega
      simp only [binOp, Op.stringOp, if_neg this]
      rfl
    · cases h
  all_goals first
    | (cases h; exact ⟨_, by simp only [binOp, Op.stringOp, BS.eq_of, BS.lt_of]; rfl, .bool _⟩)
    | cases h

theorem unOpA_run {nf : Tm → Tm} (hn : ∀ t, (nf t).den = t.den) {op : UnOp} {x r : AV} {v : Value} (h : unOpA nf op x = some r) (hx : VR β x v) : ∃ u, (Op.unary op v).run P w = .ok u w ∧ VR β r u := by
  unfold unOpA at h
  split at h
  · rename_i k t
    cases h; cases hx with | sy hx =>
    obtain ⟨n, e, rfl⟩ := hx.intI
    exact ⟨_, by simp [Op.unary, Op.intArith], ofTm_int (n := k.wrap (0 - n)) (by rw [mkT_den hn]; simp [Tm.dens, Tm.den, e, TOp.den, intD])⟩
  · rename_i k t
    cases h; cases hx with | sy hx =>
    obtain ⟨n, e, rfl⟩ := hx.intI
    refine ⟨_, ?_, ofTm_int (n := k.wrap (BitVec.ofInt k.bits (if k.signed = true then -1 else k.max) ^^^ BitVec.ofInt k.bits n).toNat) (by rw [mkT_den hn]; simp only [Tm.dens, Tm.den, e, TOp.den, intD])⟩
    simp [Op.unary, Op.intBits]
  · rename_i t
    cases h; cases hx with | sy hx =>
    obtain ⟨b, e, rfl⟩ := hx.boolI
    exact ⟨.bool (!b), by simp [Op.unary], ofTm_bool (by rw [mkT_den hn]; simp only [Tm.dens, e, TOp.den])⟩
  · cases hx; cases h; exact ⟨_, by simp [Op.unary, Op.intArith], .int _ _⟩
  · cases hx
    simp only [intOpA] at h
    cases h
    exact ⟨_, by simp [Op.unary, Op.intBits], .int _ _⟩
  · cases hx; cases h; exact ⟨_, by simp [Op.unary], .bool _⟩
  · cases hx with
    | boolU b => cases h; exact ⟨.bool (!b), by simp [Op.unary], .boolU _⟩
  · cases h

/-! ### parts of aggregates -/
theorem partA_run {t : TypeId} {cs : List AV} {vs : Array Value} {off : Nat} {r : AV} (h : partA P t cs off = some r) (hc : VRs β cs vs.toList) :
    ∃ v, (part t vs off).run P w = .ok v w ∧ VR β r v := by
  unfold partA at h
  split at h
  · rename_i n ht hn
    rw [Option.map_eq_some_iff] at h
    obtain ⟨l, hl, rfl⟩ := h
    obtain ⟨rfl, hle⟩ := takeN_take _ _ _ hl
    rw [List.length_drop] at hle
    refine ⟨.agg (vs.extract off (off + n)), by simp [part, isAggT_run ht, sizeT_run hn], .agg ?_⟩
    rw [Array.toList_extract, List.extract_eq_take_drop, Nat.add_sub_cancel_left]
    exact (hc.drop off).take n
  · rename_i ht
    split at h
    · rename_i v0 r' hd
      cases h
      have hg : cs[off]? = some r := by
        have := congrArg (fun l => l[0]?) hd
        simpa using this
      obtain ⟨u, h1, h2⟩ := hc.get hg
      refine ⟨u, ?_, h2⟩
      have : vs[off]? = some u := by simpa using h1
      simp [part, isAggT_run ht, this]
    · cases h
  · cases h

theorem extractA_run {l : List AV} {i : Nat} {r : AV} {v : Value} (h : l[i]? = some r) (hx : VR β (.tuple l) v) : ∃ u, (Instr.extract v i).run P w = .ok u w ∧ VR β r u := by
  cases hx with
  | tuple hl =>
    rename_i a
    obtain ⟨u, h1, h2⟩ := hl.get h
    have : a[i]? = some u := by simpa using h1
    exact ⟨u, by simp [Instr.extract, this], h2⟩

theorem fieldAddrA_run {s : TypeId} {x r : AV} {i : Nat} {v : Value} (h : fieldAddrA P s x i = some r) (hx : VR β x v) : ∃ u, (Instr.fieldAt s v i).run P w = .ok u w ∧ VR β r u := by
  unfold fieldAddrA at h
  split at h
  · rename_i fs b off hu
    cases hx with
    | @ptr _ p _ hp =>
    split at h
    · rename_i f hf
      split at h
      · rename_i n hn
        split at h
        · cases h
        · rename_i hz
          cases h
          refine ⟨.pointer (some ⟨p.c, p.base + (off + f.offset), none⟩), ?_, .ptr _ hp⟩
          simp [Instr.fieldAt, run_underlying (undT_und hu), hf, Instr.sureAddr, fieldPlace, sizeT_run hn, hz, addr_add, Nat.add_assoc]
      · cases h
    · cases h
  · rename_i fs b es ti j hu
    cases hx with
    | @eptr _ _ _ ii p _ hi hp =>
    split at h
    · rename_i f hf
      split at h
      · rename_i n hn
        split at h
        · cases h
        · rename_i hz
          cases h
          refine ⟨.pointer (some ⟨p.c, p.base + (ii * es + (j + f.offset)), none⟩), ?_, .eptr _ hi hp⟩
          simp [Instr.fieldAt, run_underlying (undT_und hu), hf, Instr.sureAddr, fieldPlace, sizeT_run hn, hz, addr_add, Nat.add_assoc]
      · cases h
    · cases h
  · rename_i fs ks c ti j hu
    cases hx with
    | @iptr _ _ _ ii b o n cap _ hc hi hlt =>
    split at h
    · rename_i f hf
      split at h
      · rename_i n hn
        split at h
        · cases h
        · rename_i hz
          cases h
          refine ⟨.pointer (some ⟨b, o + (ii * ks.length + (j + f.offset)), none⟩), ?_, .iptr _ hc hi hlt⟩
          simp [Instr.fieldAt, run_underlying (undT_und hu), hf, Instr.sureAddr, fieldPlace, sizeT_run hn, hz, addr_add, Nat.add_assoc]
      · cases h
    · cases h
  · cases h

theorem fieldA_run {s : TypeId} {x r : AV} {i : Nat} {v : Value} (h : fieldA P s x i = some r) (hx : VR β x v) : ∃ u, (Instr.field s v i).run P w = .ok u w ∧ VR β r u := by
  unfold fieldA at h
  split at h
  · rename_i fs cs hu
    cases hx with
    | agg hl =>
    rename_i a
    split at h
    · rename_i f hf
      obtain ⟨u, h1, h2⟩ := partA_run (P := P) (w := w) h hl
      exact ⟨u, by simp [Instr.field, run_underlying (undT_und hu), hf, asAgg, h1], h2⟩
    · cases h
  · cases h

theorem indexAddrA_run {nf : Tm → Tm} (hn : ∀ t, (nf t).den = t.den) {t : TypeId} {x ix r : AV} {v u : Value} (h : indexAddrA P nf t x ix = some r) (hx : VR β x v) (hi : VR β ix u) : ∃ y, (Instr.indexAt t v u).run P w = .ok y w ∧ VR β r y := by
  unfold indexAddrA at h
  split at h
  · rename_i e b es lo n cm hu
    split at h
    · rename_i k i hit
      obtain ⟨m, hm, rfl⟩ := intTm_VR hit hi
      split at h
      · rename_i hc
        cases h
        obtain ⟨hsz, hin⟩ := hc
        cases hx with
        | @lsl _ _ _ _ _ l len c p hl hln hp hcap hle =>
          have hb := inRangeT_den hn hin hm hln
          refine ⟨.pointer (some ⟨p.c, p.base + ((l + m.toNat) * es + 0), none⟩), ?_, .eptr 0 (by rw [addT_den hn hl hm]; congr 1; omega) hp⟩
          have hb2 : 0 ≤ m ∧ m < (len : Int) := hb
          simp [Instr.indexAt, asIntOf, run_underlying (undT_und hu), hb2, sizeT_run hsz, addr_add, Nat.add_assoc, Nat.add_mul]
        | lsl0 _ hz => have := inRangeT_den hn hin hm hz; omega
        | lslE a c _ hz hc => have := inRangeT_den hn hin hm hz; omega
      · cases h
    · cases h
  · rename_i e ks c hu
    split at h
    · rename_i k i hit
      obtain ⟨m, hm, rfl⟩ := intTm_VR hit hi
      split at h
      · rename_i hc
        cases h
        obtain ⟨hsz, hin⟩ := hc
        cases hx with | sy hx =>
        generalize hd : c.den = d at hx
        cases hx with
        | nil => have := inRangeT_den hn hin hm (len_den hn hd); simp at this; omega
        | none => have := inRangeT_den hn hin hm (len_den hn hd); simp at this; omega
        | @isl _ L b o len cap cc T fz vals hz hn' hcap hk hv hr =>
          have hb := inRangeT_den hn hin hm (len_den hn hd)
          have hb2 : 0 ≤ m ∧ m < (len : Int) := by omega
          have hcell : CellR β.zone (.isl ks) c.den (.slice (some ⟨b, o, none⟩) len cap) := by rw [hd]; exact .isl hz hn' hcap hk hv hr
          refine ⟨.pointer (some ⟨b, o + (m.toNat * ks.length + 0), none⟩), ?_, .iptr 0 hcell (by rw [hm]; congr 1; omega) (by omega)⟩
          simp [Instr.indexAt, asIntOf, run_underlying (undT_und hu), hb2, sizeT_run hsz, addr_add]
      · cases h
    · cases h
  · rename_i k i len e b off hu
    cases hi; cases hx with
    | @ptr _ p _ hp =>
    split at h
    · rename_i n hn
      split at h
      · rename_i hb
        cases h
        refine ⟨.pointer (some ⟨p.c, p.base + (off + i.toNat * n), none⟩), ?_, .ptr _ hp⟩
        simp [Instr.indexAt, asIntOf, run_underlying (undT_und hu), Instr.sureAddr, hb, sizeT_run hn, addr_add, Nat.add_assoc]
      · cases h
    · cases h
  · rename_i k i e b off len cap hu
    cases hi; cases hx with
    | @slice _ p _ _ _ c hp hc hl =>
    split at h
    · rename_i n hn
      split at h
      · rename_i hb
        cases h
        refine ⟨.pointer (some ⟨p.c, p.base + (off + i.toNat * n), none⟩), ?_, .ptr _ hp⟩
        simp [Instr.indexAt, asIntOf, run_underlying (undT_und hu), hb, sizeT_run hn, addr_add, Nat.add_assoc]
      · cases h
    · cases h
  · cases h

theorem indexA_run {nf : Tm → Tm} (hn : ∀ t, (nf t).den = t.den) {t : TypeId} {x ix r : AV} {v u : Value} (h : indexA P nf t x ix = some r) (hx : VR β x v) (hi : VR β ix u) : ∃ y, (Instr.index t v u).run P w = .ok y w ∧ VR β r y := by
  unfold indexA at h
  have strCase : ∀ (s : Tm) (sb : ByteArray) (i : Tm) (k : IntKind) (m : Int), P.underlying t = some .string → s.den = .str (BS.of sb) → i.den = .int m → inRangeT nf i (mkT nf .slen [s]) = true →
      ∃ y, (Instr.index t (.string sb) (.int k m)).run P w = .ok y w ∧ VR β (ofTm (.int .u8) (mkT nf .sget [s, i])) y := by
    intro s sb i k m hu hs hm hin
    have hln : (mkT nf .slen [s]).den = .int (sb.size : Int) := by rw [mkT_den hn]; simp only [Tm.dens, hs, TOp.den, BS.of_len]
    have hb := inRangeT_den hn hin hm hln
    refine ⟨.int .u8 ((sb[m.toNat]'(by omega)).toNat : Int), ?_, ofTm_int ?_⟩
    · have hlt : m.toNat < sb.size := by omega
      have : sb[m.toNat]? = some sb[m.toNat] := by simp [hlt]
      simp [Instr.index, asIntOf, run_underlying hu, hb.1, this]
    · rw [mkT_den hn]; simp only [Tm.dens, hs, hm, TOp.den]
      rw [BS.of_get sb m.toNat (by omega)]
  split at h
  · rename_i s hu
    split at h
    · rename_i k i hit
      obtain ⟨m, hm, rfl⟩ := intTm_VR hit hi
      split at h
      · rename_i hin
        cases h
        cases hx with | sy hx =>
        obtain ⟨sb, hs, rfl⟩ := hx.strI
        exact strCase s sb i k m (undT_und hu) hs hm hin
      · cases h
    · cases h
  · rename_i k i s hu
    split at h
    · rename_i hin
      cases h
      cases hi with | sy hi =>
      obtain ⟨m, hm, rfl⟩ := hi.intI
      generalize hs : s = s0 at hx
      cases hx with | str sb =>
      subst hs
      exact strCase (.str (BS.of sb)) sb i k m (undT_und hu) rfl hm hin
    · cases h
  · rename_i k i len e cs hu
    cases hi; cases hx with
    | agg hl =>
    split at h
    · rename_i n hn
      split at h
      · rename_i hb
        obtain ⟨y, h1, h2⟩ := partA_run (P := P) (w := w) h hl
        exact ⟨y, by simp [Instr.index, asIntOf, run_underlying (undT_und hu), hb, sizeT_run hn, h1], h2⟩
      · cases h
    · cases h
  · rename_i k i s hu
    cases hi; cases hx with
    | str s =>
    split at h
    · rename_i hb
      cases h
      rw [BS.of_len] at hb
      have hlt : i.toNat < s.size := by omega
      rw [BS.of_get s i.toNat hlt]
      refine ⟨.int .u8 s[i.toNat].toNat, ?_, .int _ _⟩
      have : s[i.toNat]? = some s[i.toNat] := by simp [hlt]
      simp [Instr.index, asIntOf, run_underlying (undT_und hu), hb.1, this]
    · cases h
  · rename_i k i n hu
    cases hi; cases hx with
    | strU s =>
    split at h
    · rename_i hb
      cases h
      have hlt : i.toNat < s.size := by omega
      refine ⟨.int .u8 s[i.toNat].toNat, ?_, .rng _ (by omega) (by have := UInt8.toNat_lt s[i.toNat]; omega)⟩
      have : s[i.toNat]? = some s[i.toNat] := by simp [hlt]
      simp [Instr.index, asIntOf, run_underlying (undT_und hu), hb.1, this]
    · cases h
  · cases h

end
end Go.Tc
