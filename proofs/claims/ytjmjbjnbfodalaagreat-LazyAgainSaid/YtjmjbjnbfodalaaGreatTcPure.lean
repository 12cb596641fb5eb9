/- Operations that leave memory alone: what the evaluator answers, the model answers. -/
import Derived.Test.YtjmjbjnbfodalaaGreatTcSym
import Derived.IntWalk
import Derived.Laws.Cover1
import Derived.Laws.Tables
import Derived.Laws.Pointers
set_option linter.unusedSimpArgs false
set_option linter.unusedVariables false
set_option linter.unusedSectionVars false
namespace Go.Tc
variable [Val]
section
variable {P : Program} {G : Nat} {β : Pl} {H : AHeap} {w : World}
theorem aeval_VR {n : Nat} {c : Ctx} {T : Tmps} {a : Act} {x : Operand} {v : AV} (hT : TR β c T a.tmps) (hg : c.glob = G) (hw : WR G β H.get n w) (h : aeval c T x = some v) : VR β v (a.eval x) := by
  cases x with
  | tmp t =>
    obtain ⟨u, h1, h2⟩ := hT.2 t v h
    simp only [Act.eval, Array.getD_eq_getD_getElem?, h1, Option.getD_some]
    exact h2
  | const u => exact ofValue_VR u v h
  | global g =>
    simp only [aeval, Bool.cond_eq_ite, Nat.blt_eq] at h
    split at h
    · rename_i hlt
      cases h
      obtain ⟨sz, hs⟩ := hw.glob g (hg ▸ hlt)
      exact .ptr 0 hs
    · cases h
  | func f => cases h; exact .fn (.func f) .nil .nil
theorem intOpA_run {op : BinOp} {k : IntKind} {a b : Int} {r : AV} (t : TypeId) (h : intOpA op k a b = some r) (hop : op ≠ .shl) (hop' : op ≠ .shr) :
    ∃ v, (binOp op t (.int k a) (.int k b)).run P w = .ok v w ∧ VR β r v := by
  cases op <;> simp only [intOpA] at h
  case shl => exact absurd rfl hop
  case shr => exact absurd rfl hop'
  case quo =>
    split at h
    · cases h
    · rename_i hb; cases h
      exact ⟨_, by simp [binOp, Op.intDiv, hb], .int _ _⟩
  case rem =>
    split at h
    · cases h
    · rename_i hb; cases h
      exact ⟨_, by simp [binOp, Op.intDiv, hb], .int _ _⟩
  all_goals first
    | (cases h; exact ⟨_, by simp [binOp, Op.intArith, Op.intBits, Op.intCmp], .int _ _⟩)
    | (cases h; exact ⟨.bool (a == b), by simp [binOp, Op.intCmp], .bool _⟩)
    | (cases h; exact ⟨.bool (a != b), by simp [binOp, Op.intCmp], .bool _⟩)
    | (cases h; exact ⟨.bool (decide (a < b)), by simp [binOp, Op.intCmp], .bool _⟩)
    | (cases h; exact ⟨.bool (decide (a ≤ b)), by simp [binOp, Op.intCmp], .bool _⟩)
    | (cases h; exact ⟨.bool (decide (a > b)), by simp [binOp, Op.intCmp], .bool _⟩)
    | (cases h; exact ⟨.bool (decide (a ≥ b)), by simp [binOp, Op.intCmp], .bool _⟩)
theorem shiftA_run {op : BinOp} {k : IntKind} (j : IntKind) {a b : Int} {r : AV} (t : TypeId) (h : shiftA op k a b = some r) :
    ∃ v, (binOp op t (.int k a) (.int j b)).run P w = .ok v w ∧ VR β r v := by
  unfold shiftA at h
  split at h
  · cases h
  · rename_i hb
    simp only at h
    split at h
    · cases h; exact ⟨_, by simp [binOp, Op.shift, hb], .int _ _⟩
    · cases h; exact ⟨_, by simp [binOp, Op.shift, hb], .int _ _⟩
    · cases h
omit [Val] in
theorem BS.lt_of (x y : ByteArray) : (BS.of x).lt (BS.of y) = Op.bytesLess x.toList y.toList := by
  rw [ByteArray.toList_eq, ByteArray.toList_eq]
  unfold BS.of
  generalize x.data.toList = l
  generalize y.data.toList = m
  induction l generalizing m with
  | nil =>
    cases m with
    | nil => simp [BS.lt, BS.ofList, Op.bytesLess]; rfl
    | cons c m =>
      simp only [BS.lt, BS.ofList, Op.bytesLess, List.foldl_nil, List.length_nil, Nat.zero_mul, Nat.pow_zero, Nat.mul_one, List.length_cons]
      rw [Bool.or_eq_true_iff]
      by_cases h : List.foldl (fun a b => a * 256 + b.toNat) 0 (c :: m) = 0
      · right; rw [h]; simp [Nat.blt_eq]
      · left; rw [Nat.blt_eq]; omega
  | cons b l ih =>
    cases m with
    | nil =>
      simp only [BS.lt, BS.ofList, Op.bytesLess, List.foldl_nil, List.length_nil, Nat.zero_mul, Nat.pow_zero, Nat.mul_one, List.length_cons]
      rw [Bool.or_eq_false_iff]
      refine ⟨?_, ?_⟩
      · rw [← Bool.not_eq_true, Nat.blt_eq]; omega
      · rw [Bool.and_eq_false_iff]; right; rw [← Bool.not_eq_true, Nat.blt_eq]; omega
    | cons c m =>
      have ihm := ih m
      simp only [BS.lt, BS.ofList, Op.bytesLess, List.length_cons] at ihm ⊢
      rw [List.foldl_cons, foldl_digits l, List.foldl_cons, foldl_digits m]
      simp only [Nat.zero_mul, Nat.zero_add]
      have hl := digits_lt l
      have hm := digits_lt m
      generalize List.foldl (fun a b => a * 256 + b.toNat) 0 l = x at *
      generalize List.foldl (fun a b => a * 256 + b.toNat) 0 m = y at *
      have e1 : (b.toNat * 256 ^ l.length + x) * 256 ^ (m.length + 1) = (b.toNat * (256 ^ l.length * 256 ^ m.length) + x * 256 ^ m.length) * 256 := by
        rw [Nat.pow_succ, ← Nat.mul_assoc, Nat.add_mul, Nat.mul_assoc]
      have e2 : (c.toNat * 256 ^ m.length + y) * 256 ^ (l.length + 1) = (c.toNat * (256 ^ l.length * 256 ^ m.length) + y * 256 ^ l.length) * 256 := by
        rw [Nat.pow_succ, ← Nat.mul_assoc, Nat.add_mul, Nat.mul_assoc, Nat.mul_comm (256 ^ m.length)]
      rw [e1, e2]
      have hx : x * 256 ^ m.length < 256 ^ l.length * 256 ^ m.length := Nat.mul_lt_mul_of_pos_right hl (Nat.pow_pos (by omega))
      have hy : y * 256 ^ l.length < 256 ^ l.length * 256 ^ m.length := by rw [Nat.mul_comm (256 ^ l.length)]; exact Nat.mul_lt_mul_of_pos_right hm (Nat.pow_pos (by omega))
      generalize 256 ^ l.length * 256 ^ m.length = K at *
      generalize x * 256 ^ m.length = X at *
      generalize y * 256 ^ l.length = Y at *
      have hbl : Nat.blt (l.length + 1) (m.length + 1) = Nat.blt l.length m.length := by
        rw [Bool.eq_iff_iff, Nat.blt_eq, Nat.blt_eq]; omega
      rw [hbl]
      rcases Nat.lt_trichotomy b.toNat c.toNat with hbc | hbc | hbc
      · have h1 : (b < c) = True := by simpa [UInt8.lt_iff_toNat_lt] using hbc
        have h2 : Nat.blt ((b.toNat * K + X) * 256) ((c.toNat * K + Y) * 256) = true := by
          rw [Nat.blt_eq]
          have : (b.toNat + 1) * K ≤ c.toNat * K := Nat.mul_le_mul_right _ hbc
          rw [Nat.add_mul] at this
          omega
        simp [h1, h2]
      · have h0 : b = c := UInt8.toNat_inj.1 hbc
        subst h0
        have h1 : ¬ (b < b) := by simp
        have h2 : Nat.blt ((b.toNat * K + X) * 256) ((b.toNat * K + Y) * 256) = Nat.blt X Y := by
          rw [Bool.eq_iff_iff, Nat.blt_eq, Nat.blt_eq]; omega
        have h3 : ((b.toNat * K + X) * 256 == (b.toNat * K + Y) * 256) = (X == Y) := by
          rw [Bool.eq_iff_iff, beq_iff_eq, beq_iff_eq]; omega
        simp only [h2, h3, ihm]
        simp
      · have h1 : ¬ (b < c) := by simp [UInt8.lt_iff_toNat_lt]; omega
        have h0 : ¬ (b = c) := by rintro rfl; omega
        have h2 : Nat.blt ((b.toNat * K + X) * 256) ((c.toNat * K + Y) * 256) = false := by
          rw [← Bool.not_eq_true, Nat.blt_eq]
          have : (c.toNat + 1) * K ≤ b.toNat * K := Nat.mul_le_mul_right _ hbc
          rw [Nat.add_mul] at this
          omega
        have h3 : ((b.toNat * K + X) * 256 == (c.toNat * K + Y) * 256) = false := by
          rw [← Bool.not_eq_true, beq_iff_eq]
          have : (c.toNat + 1) * K ≤ b.toNat * K := Nat.mul_le_mul_right _ hbc
          rw [Nat.add_mul] at this
          omega
        simp [h1, h0, h2, h3]
theorem strOpA_run {op : BinOp} {x y : ByteArray} {r : AV} (t : TypeId) (h : strOpA op (BS.of x) (BS.of y) = some r) (hop : op ≠ .shl) (hop' : op ≠ .shr) :
    ∃ v, (binOp op t (.string x) (.string y)).run P w = .ok v w ∧ VR β r v := by
  cases op <;> simp only [strOpA] at h
  case add =>
    split at h
    · rename_i hl
      cases h
      rw [BS.of_len, BS.of_len] at hl
      rw [BS.of_app]
      refine ⟨.string (x ++ y), ?_, .str _⟩
      have : ¬ (((x.size + y.size : Nat) : Int) > IntKind.i64.max) := by
        have : IntKind.i64.max = 9223372036854775807 := by decide
        omega
      simp only [binOp, Op.stringOp, if_neg this]
      rfl
    · cases h
  all_goals first
    | (cases h; exact ⟨_, by simp only [binOp, Op.stringOp, BS.eq_of, BS.lt_of]; rfl, .bool _⟩)
    | cases h
theorem unOpA_run {nf : Tm → Tm} (hn : ∀ t, (nf t).den = t.den) {op : UnOp} {x r : AV} {v : Value} (h : unOpA nf op x = some r) (hx : VR β x v) : ∃ u, (Op.unary op v).run P w = .ok u w ∧ VR β r u := by
  unfold unOpA at h
  split at h
  · rename_i k t
    cases h; cases hx with | sy hx =>
    obtain ⟨n, e, rfl⟩ := hx.intI
    exact ⟨_, by simp [Op.unary, Op.intArith], ofTm_int (n := k.wrap (0 - n)) (by rw [mkT_den hn]; simp [Tm.dens, Tm.den, e, TOp.den, intD])⟩
  · rename_i k t
    cases h; cases hx with | sy hx =>
    obtain ⟨n, e, rfl⟩ := hx.intI
    refine ⟨_, ?_, ofTm_int (n := k.wrap (BitVec.ofInt k.bits (if k.signed = true then -1 else k.max) ^^^ BitVec.ofInt k.bits n).toNat) (by rw [mkT_den hn]; simp only [Tm.dens, Tm.den, e, TOp.den, intD])⟩
    simp [Op.unary, Op.intBits]
  · rename_i t
    cases h; cases hx with | sy hx =>
    obtain ⟨b, e, rfl⟩ := hx.boolI
    exact ⟨.bool (!b), by simp [Op.unary], ofTm_bool (by rw [mkT_den hn]; simp only [Tm.dens, e, TOp.den])⟩
  · cases hx; cases h; exact ⟨_, by simp [Op.unary, Op.intArith], .int _ _⟩
  · cases hx
    simp only [intOpA] at h
    cases h
    exact ⟨_, by simp [Op.unary, Op.intBits], .int _ _⟩
  · cases hx; cases h; exact ⟨_, by simp [Op.unary], .bool _⟩
  · cases hx with
    | boolU b => cases h; exact ⟨.bool (!b), by simp [Op.unary], .boolU _⟩
  · cases h
theorem partA_run {t : TypeId} {cs : List AV} {vs : Array Value} {off : Nat} {r : AV} (h : partA P t cs off = some r) (hc : VRs β cs vs.toList) :
    ∃ v, (part t vs off).run P w = .ok v w ∧ VR β r v := by
  unfold partA at h
  split at h
  · rename_i n ht hn
    rw [Option.map_eq_some_iff] at h
    obtain ⟨l, hl, rfl⟩ := h
    obtain ⟨rfl, hle⟩ := takeN_take _ _ _ hl
    rw [List.length_drop] at hle
    refine ⟨.agg (vs.extract off (off + n)), by simp [part, isAggT_run ht, sizeT_run hn], .agg ?_⟩
    rw [Array.toList_extract, List.extract_eq_take_drop, Nat.add_sub_cancel_left]
    exact (hc.drop off).take n
  · rename_i ht
    split at h
    · rename_i v0 r' hd
      cases h
      have hg : cs[off]? = some r := by
        have := congrArg (fun l => l[0]?) hd
        simpa using this
      obtain ⟨u, h1, h2⟩ := hc.get hg
      refine ⟨u, ?_, h2⟩
      have : vs[off]? = some u := by simpa using h1
      simp [part, isAggT_run ht, this]
    · cases h
  · cases h
theorem extractA_run {l : List AV} {i : Nat} {r : AV} {v : Value} (h : l[i]? = some r) (hx : VR β (.tuple l) v) : ∃ u, (Instr.extract v i).run P w = .ok u w ∧ VR β r u := by
  cases hx with
  | tuple hl =>
    rename_i a
    obtain ⟨u, h1, h2⟩ := hl.get h
    have : a[i]? = some u := by simpa using h1
    exact ⟨u, by simp [Instr.extract, this], h2⟩
theorem fieldAddrA_run {s : TypeId} {x r : AV} {i : Nat} {v : Value} (h : fieldAddrA P s x i = some r) (hx : VR β x v) : ∃ u, (Instr.fieldAt s v i).run P w = .ok u w ∧ VR β r u := by
  unfold fieldAddrA at h
  split at h
  · rename_i fs b off hu
    cases hx with
    | @ptr _ p _ hp =>
    split at h
    · rename_i f hf
      split at h
      · rename_i n hn
        split at h
        · cases h
        · rename_i hz
          cases h
          refine ⟨.pointer (some ⟨p.c, p.base + (off + f.offset), none⟩), ?_, .ptr _ hp⟩
          simp [Instr.fieldAt, run_underlying (undT_und hu), hf, Instr.sureAddr, fieldPlace, sizeT_run hn, hz, addr_add, Nat.add_assoc]
      · cases h
    · cases h
  · rename_i fs b es ti j hu
    cases hx with
    | @eptr _ _ _ ii p _ hi hp =>
    split at h
    · rename_i f hf
      split at h
      · rename_i n hn
        split at h
        · cases h
        · rename_i hz
          cases h
          refine ⟨.pointer (some ⟨p.c, p.base + (ii * es + (j + f.offset)), none⟩), ?_, .eptr _ hi hp⟩
          simp [Instr.fieldAt, run_underlying (undT_und hu), hf, Instr.sureAddr, fieldPlace, sizeT_run hn, hz, addr_add, Nat.add_assoc]
      · cases h
    · cases h
  · rename_i fs ks c ti j hu
    cases hx with
    | @iptr _ _ _ ii b o n cap _ hc hi hlt =>
    split at h
    · rename_i f hf
      split at h
      · rename_i n hn
        split at h
        · cases h
        · rename_i hz
          cases h
          refine ⟨.pointer (some ⟨b, o + (ii * ks.length + (j + f.offset)), none⟩), ?_, .iptr _ hc hi hlt⟩
          simp [Instr.fieldAt, run_underlying (undT_und hu), hf, Instr.sureAddr, fieldPlace, sizeT_run hn, hz, addr_add, Nat.add_assoc]
      · cases h
    · cases h
  · cases h
theorem fieldA_run {s : TypeId} {x r : AV} {i : Nat} {v : Value} (h : fieldA P s x i = some r) (hx : VR β x v) : ∃ u, (Instr.field s v i).run P w = .ok u w ∧ VR β r u := by
  unfold fieldA at h
  split at h
  · rename_i fs cs hu
    cases hx with
    | agg hl =>
    rename_i a
    split at h
    · rename_i f hf
      obtain ⟨u, h1, h2⟩ := partA_run (P := P) (w := w) h hl
      exact ⟨u, by simp [Instr.field, run_underlying (undT_und hu), hf, asAgg, h1], h2⟩
    · cases h
  · cases h
theorem indexAddrA_run {nf : Tm → Tm} (hn : ∀ t, (nf t).den = t.den) {t : TypeId} {x ix r : AV} {v u : Value} (h : indexAddrA P nf t x ix = some r) (hx : VR β x v) (hi : VR β ix u) : ∃ y, (Instr.indexAt t v u).run P w = .ok y w ∧ VR β r y := by
  unfold indexAddrA at h
  split at h
  · rename_i e b es lo n cm hu
    split at h
    · rename_i k i hit
      obtain ⟨m, hm, rfl⟩ := intTm_VR hit hi
      split at h
      · rename_i hc
        cases h
        obtain ⟨hsz, hin⟩ := hc
        cases hx with
        | @lsl _ _ _ _ _ l len c p hl hln hp hcap hle =>
          have hb := inRangeT_den hn hin hm hln
          refine ⟨.pointer (some ⟨p.c, p.base + ((l + m.toNat) * es + 0), none⟩), ?_, .eptr 0 (by rw [addT_den hn hl hm]; congr 1; omega) hp⟩
          have hb2 : 0 ≤ m ∧ m < (len : Int) := hb
          simp [Instr.indexAt, asIntOf, run_underlying (undT_und hu), hb2, sizeT_run hsz, addr_add, Nat.add_assoc, Nat.add_mul]
        | lsl0 _ hz => have := inRangeT_den hn hin hm hz; omega
        | lslE a c _ hz hc => have := inRangeT_den hn hin hm hz; omega
      · cases h
    · cases h
  · rename_i e ks c hu
    split at h
    · rename_i k i hit
      obtain ⟨m, hm, rfl⟩ := intTm_VR hit hi
      split at h
      · rename_i hc
        cases h
        obtain ⟨hsz, hin⟩ := hc
        cases hx with | sy hx =>
        generalize hd : c.den = d at hx
        cases hx with
        | nil => have := inRangeT_den hn hin hm (len_den hn hd); simp at this; omega
        | none => have := inRangeT_den hn hin hm (len_den hn hd); simp at this; omega
        | @isl _ L b o len cap cc T fz vals hz hn' hcap hk hv hr =>
          have hb := inRangeT_den hn hin hm (len_den hn hd)
          have hb2 : 0 ≤ m ∧ m < (len : Int) := by omega
          have hcell : CellR β.zone (.isl ks) c.den (.slice (some ⟨b, o, none⟩) len cap) := by rw [hd]; exact .isl hz hn' hcap hk hv hr
          refine ⟨.pointer (some ⟨b, o + (m.toNat * ks.length + 0), none⟩), ?_, .iptr 0 hcell (by rw [hm]; congr 1; omega) (by omega)⟩
          simp [Instr.indexAt, asIntOf, run_underlying (undT_und hu), hb2, sizeT_run hsz, addr_add]
      · cases h
    · cases h
  · rename_i k i e b off len cap hu
    cases hi with | sy hi =>
    obtain ⟨m, hm, rfl⟩ := hi.intI
    cases hx with
    | @slice _ p _ _ _ c hp hc hl =>
    split at h
    · rename_i n hsz
      split at h
      · rename_i hcd
        cases h
        obtain ⟨h0, hmod, hin⟩ := hcd
        have hb := inRangeT_den hn hin hm (b := (len : Int)) rfl
        have hb2 : 0 ≤ m ∧ m < (len : Int) := hb
        have hoff : off / n * n = off := Nat.div_mul_cancel (Nat.dvd_of_mod_eq_zero hmod)
        refine ⟨.pointer (some ⟨p.c, p.base + ((off / n + m.toNat) * n + 0), none⟩), ?_, .eptr 0 (by rw [addT_den hn rfl hm]; congr 1; omega) hp⟩
        have : p.base + ((off / n + m.toNat) * n + 0) = p.base + off + m.toNat * n := by rw [Nat.add_mul, hoff]; omega
        rw [this]
        simp [Instr.indexAt, asIntOf, run_underlying (undT_und hu), hb2, sizeT_run hsz, addr_add, Nat.add_assoc]
      · cases h
    · cases h
  · rename_i k i len e b off hu
    cases hi; cases hx with
    | @ptr _ p _ hp =>
    split at h
    · rename_i n hn
      split at h
      · rename_i hb
        cases h
        refine ⟨.pointer (some ⟨p.c, p.base + (off + i.toNat * n), none⟩), ?_, .ptr _ hp⟩
        simp [Instr.indexAt, asIntOf, run_underlying (undT_und hu), Instr.sureAddr, hb, sizeT_run hn, addr_add, Nat.add_assoc]
      · cases h
    · cases h
  · rename_i k i e b off len cap hu
    cases hi; cases hx with
    | @slice _ p _ _ _ c hp hc hl =>
    split at h
    · rename_i n hn
      split at h
      · rename_i hb
        cases h
        refine ⟨.pointer (some ⟨p.c, p.base + (off + i.toNat * n), none⟩), ?_, .ptr _ hp⟩
        simp [Instr.indexAt, asIntOf, run_underlying (undT_und hu), hb, sizeT_run hn, addr_add, Nat.add_assoc]
      · cases h
    · cases h
  · cases h
theorem indexA_run {nf : Tm → Tm} (hn : ∀ t, (nf t).den = t.den) {t : TypeId} {x ix r : AV} {v u : Value} (h : indexA P nf t x ix = some r) (hx : VR β x v) (hi : VR β ix u) : ∃ y, (Instr.index t v u).run P w = .ok y w ∧ VR β r y := by
  unfold indexA at h
  have strCase : ∀ (s : Tm) (sb : ByteArray) (i : Tm) (k : IntKind) (m : Int), P.underlying t = some .string → s.den = .str (BS.of sb) → i.den = .int m → inRangeT nf i (mkT nf .slen [s]) = true →
      ∃ y, (Instr.index t (.string sb) (.int k m)).run P w = .ok y w ∧ VR β (ofTm (.int .u8) (mkT nf .sget [s, i])) y := by
    intro s sb i k m hu hs hm hin
    have hln : (mkT nf .slen [s]).den = .int (sb.size : Int) := by rw [mkT_den hn]; simp only [Tm.dens, hs, TOp.den, BS.of_len]
    have hb := inRangeT_den hn hin hm hln
    refine ⟨.int .u8 ((sb[m.toNat]'(by omega)).toNat : Int), ?_, ofTm_int ?_⟩
    · have hlt : m.toNat < sb.size := by omega
      have : sb[m.toNat]? = some sb[m.toNat] := by simp [hlt]
      simp [Instr.index, asIntOf, run_underlying hu, hb.1, this]
    · rw [mkT_den hn]; simp only [Tm.dens, hs, hm, TOp.den]
      rw [BS.of_get sb m.toNat (by omega)]
  split at h
  · rename_i s hu
    split at h
    · rename_i k i hit
      obtain ⟨m, hm, rfl⟩ := intTm_VR hit hi
      split at h
      · rename_i hin
        cases h
        cases hx with | sy hx =>
        obtain ⟨sb, hs, rfl⟩ := hx.strI
        exact strCase s sb i k m (undT_und hu) hs hm hin
      · cases h
    · cases h
  · rename_i k i s hu
    split at h
    · rename_i hin
      cases h
      cases hi with | sy hi =>
      obtain ⟨m, hm, rfl⟩ := hi.intI
      generalize hs : s = s0 at hx
      cases hx with | str sb =>
      subst hs
      exact strCase (.str (BS.of sb)) sb i k m (undT_und hu) rfl hm hin
    · cases h
  · rename_i k i len e cs hu
    cases hi; cases hx with
    | agg hl =>
    split at h
    · rename_i n hn
      split at h
      · rename_i hb
        obtain ⟨y, h1, h2⟩ := partA_run (P := P) (w := w) h hl
        exact ⟨y, by simp [Instr.index, asIntOf, run_underlying (undT_und hu), hb, sizeT_run hn, h1], h2⟩
      · cases h
    · cases h
  · rename_i k i s hu
    cases hi; cases hx with
    | str s =>
    split at h
    · rename_i hb
      cases h
      rw [BS.of_len] at hb
      have hlt : i.toNat < s.size := by omega
      rw [BS.of_get s i.toNat hlt]
      refine ⟨.int .u8 s[i.toNat].toNat, ?_, .int _ _⟩
      have : s[i.toNat]? = some s[i.toNat] := by simp [hlt]
      simp [Instr.index, asIntOf, run_underlying (undT_und hu), hb.1, this]
    · cases h
  · rename_i k i n hu
    cases hi; cases hx with
    | strU s =>
    split at h
    · rename_i hb
      cases h
      have hlt : i.toNat < s.size := by omega
      refine ⟨.int .u8 s[i.toNat].toNat, ?_, .rng _ (by omega) (by have := UInt8.toNat_lt s[i.toNat]; omega)⟩
      have : s[i.toNat]? = some s[i.toNat] := by simp [hlt]
      simp [Instr.index, asIntOf, run_underlying (undT_und hu), hb.1, this]
    · cases h
  · cases h
end
end Go.Tc
namespace Go.Tc
variable [Val]
section
variable {P : Program} {G : Nat} {β : Pl} {H : AHeap} {w : World}
theorem eqFields_run {eq : TypeId → AV → AV → Option Bool} {d : Nat} {xs ys : List AV} {vs us : Array Value} (hx : VRs β xs vs.toList) (hy : VRs β ys us.toList)
    (heq : ∀ t a b r v u, eq t a b = some r → VR β a v → VR β b u → (Op.equalIn d t v u).run P w = .ok r w) :
    ∀ (fs : List Field) (r : Bool), eqFieldsW P eq xs ys fs = some r → (Op.eqFields d vs us fs).run P w = .ok r w
  | [], r, h => by cases h; rfl
  | f :: fs, r, h => by
    simp only [eqFieldsW] at h
    simp only [Op.eqFields]
    by_cases hn : f.name = "_"
    · rw [if_pos hn] at h
      rw [if_neg (by simpa using hn)]
      exact eqFields_run hx hy heq fs r h
    · rw [if_neg hn] at h
      rw [if_pos (by simpa using hn)]
      cases ha : partA P f.type xs f.offset with
      | none => simp [ha] at h
      | some a =>
        cases hb : partA P f.type ys f.offset with
        | none => simp [ha, hb] at h
        | some b =>
          obtain ⟨v, h1, h2⟩ := partA_run (P := P) (w := w) ha hx
          obtain ⟨u, h3, h4⟩ := partA_run (P := P) (w := w) hb hy
          simp only [ha, hb] at h
          cases he : eq f.type a b with
          | none => simp [he] at h
          | some q =>
            have h5 := heq _ _ _ _ _ _ he h2 h4
            cases q with
            | false =>
              simp only [he] at h
              cases h
              simp [h1, h3, h5]
            | true =>
              simp only [he] at h
              simp only [Sem.run_bind, h1, h3, h5, Result.andThen_ok, Bool.not_true, Bool.false_eq_true, if_false]
              exact eqFields_run hx hy heq fs r h
def eqElemsS (d : Nat) (e : TypeId) (n : Nat) (vs us : Array Value) : List Nat → Sem Bool
  | [] => pure true
  | i :: r => do
    let a ← part e vs (i * n)
    let b ← part e us (i * n)
    let q ← Op.equalIn d e a b
    if (!q) = true then pure false else eqElemsS d e n vs us r
omit [Val] in
theorem run_equalIn_array (d : Nat) (t : TypeId) (len : Nat) (e : TypeId) (n : Nat) (vs us : Array Value) (ht : P.underlying t = some (.array len e)) (hn : (sizeOf e).run P w = .ok n w) :
    (Op.equalIn (d + 1) t (.agg vs) (.agg us)).run P w = (eqElemsS d e n vs us (List.range' 0 len)).run P w := by
  simp only [Op.equalIn, Sem.run_bind, run_underlying ht, Result.andThen_ok, hn]
  rw [Std.Legacy.Range.forIn_eq_forIn_range']
  simp only [Std.Legacy.Range.size, Nat.sub_zero, Nat.add_sub_cancel, Nat.div_one]
  generalize List.range' 0 len = l
  clear ht hn
  induction l generalizing w with
  | nil => simp [eqElemsS]
  | cons i l ih =>
    simp only [List.forIn_cons, eqElemsS, Sem.run_bind]
    generalize (part e vs (i * n)).run P w = r1
    cases r1 with
    | halt x w1 => simp [Result.andThen]
    | ok a w1 =>
      simp only [Result.andThen_ok]
      generalize (part e us (i * n)).run P w1 = r2
      cases r2 with
      | halt x w2 => simp [Result.andThen]
      | ok b w2 =>
        simp only [Result.andThen_ok]
        generalize (Op.equalIn d e a b).run P w2 = r3
        cases r3 with
        | halt x w3 => simp [Result.andThen]
        | ok q w3 =>
          cases q
          · simp only [Result.andThen_ok, Bool.not_false, if_true, Sem.run_pure]
          · simp only [Result.andThen_ok, Bool.not_true, Bool.false_eq_true, if_false, Sem.run_pure]
            exact ih
theorem eqElems_run {eq : AV → AV → Option Bool} {d n : Nat} {e : TypeId} {xs ys : List AV} {vs us : Array Value} (hx : VRs β xs vs.toList) (hy : VRs β ys us.toList)
    (heq : ∀ a b r v u, eq a b = some r → VR β a v → VR β b u → (Op.equalIn d e v u).run P w = .ok r w) :
    ∀ (k i : Nat) (r : Bool), eqElemsW P eq xs ys e n k i = some r → (eqElemsS d e n vs us (List.range' i k)).run P w = .ok r w
  | 0, i, r, h => by cases h; rfl
  | k + 1, i, r, h => by
    simp only [eqElemsW] at h
    simp only [List.range'_succ, eqElemsS]
    cases ha : partA P e xs (i * n) with
    | none => simp [ha] at h
    | some a =>
      cases hb : partA P e ys (i * n) with
      | none => simp [ha, hb] at h
      | some b =>
        obtain ⟨v, h1, h2⟩ := partA_run (P := P) (w := w) ha hx
        obtain ⟨u, h3, h4⟩ := partA_run (P := P) (w := w) hb hy
        simp only [ha, hb] at h
        cases he : eq a b with
        | none => simp [he] at h
        | some q =>
          have h5 := heq _ _ _ _ _ he h2 h4
          cases q with
          | false =>
            simp only [he] at h
            cases h
            simp [h1, h3, h5]
          | true =>
            simp only [he] at h
            simp only [Sem.run_bind, h1, h3, h5, Result.andThen_ok, Bool.not_true, Bool.false_eq_true, if_false]
            exact eqElems_run hx hy heq k (i + 1) r h
theorem solidRow_at {n b : Nat} {p : Place} (hw : WR G β H.get n w) (h : solidRow H b = true) (hp : β b = some p) :
    ∃ o, H.get b = some o ∧ ∃ cc e, w.heap[p.c]? = some (.cells cc e (0, 0)) := by
  unfold solidRow at h
  split at h
  · rename_i c e hr
    obtain ⟨q, cc, lo, hi, hq, h1, h2, h3, h4, h5⟩ := row_at hw hr
    rw [hp] at hq; cases hq
    obtain ⟨_, _, rfl, rfl⟩ := h5
    exact ⟨_, rowOf_get hr, cc, e, h1⟩
  · cases h
omit [Val] in
theorem sameAddr_apart {a b : Addr} {ca cb : Array Value} {ea eb : TypeId} (hne : a.block ≠ b.block) (ha : w.heap[a.block]? = some (.cells ca ea (0, 0))) (hb : w.heap[b.block]? = some (.cells cb eb (0, 0))) :
    (sameAddr a b).run P w = .ok false w := by
  have fa : ∀ o, w.frozen? ⟨a.block, o, none⟩ = false := fun o => by simp [World.frozen?, ha]
  have fb : ∀ o, w.frozen? ⟨b.block, o, none⟩ = false := fun o => by simp [World.frozen?, hb]
  have fa' : w.frozen? a = false := by simp [World.frozen?, ha]
  have fb' : w.frozen? b = false := by simp [World.frozen?, hb]
  have sa : w.shape? a.block = some (ea, ca.size) := by simp [World.shape?, ha]
  have sb : w.shape? b.block = some (eb, cb.size) := by simp [World.shape?, hb]
  have hbeq : (a.block == b.block) = false := by simpa using hne
  simp [sameAddr, hbeq, fa', fb', noView, viewAt, sa, sb, mayBeOne, stringish, fa, fb]
omit [Val] in
theorem eqIn_step {d : Nat} {t : TypeId} {td : TypeDesc} {v u : Value} {r : Bool} (hu : P.underlying t = some td) (F : TypeDesc → Sem Bool) (hF : Op.equalIn (d + 1) t v u = (underlying t >>= F)) (h : (F td).run P w = .ok r w) :
    (Op.equalIn (d + 1) t v u).run P w = .ok r w := by
  rw [hF, Sem.run_bind, run_underlying hu]; exact h
set_option maxHeartbeats 1000000 in
theorem eqA_run {n : Nat} (hw : WR G β H.get n w) : ∀ (d D : Nat), d ≤ D → ∀ (t : TypeId) (x y : AV) (r : Bool) (v u : Value), eqA P H d t x y = some r → VR β x v → VR β y u → (Op.equalIn D t v u).run P w = .ok r w := by
  intro d
  induction d with
  | zero => intro D _ t x y r v u h; simp [eqA] at h
  | succ d ih =>
    intro D hD t x y r v u h hx hy
    obtain ⟨D, rfl⟩ : ∃ E, D = E + 1 := ⟨D - 1, by omega⟩
    have hD : d ≤ D := by omega
    unfold eqA at h
    split at h
    · rename_i hu; cases hx; cases hy; cases h
      exact eqIn_step (undT_und hu) _ (by simp only [Op.equalIn]; rfl) rfl
    · rename_i hu; cases hx; cases hy
      split at h
      · rename_i hk; cases h
        subst hk
        refine eqIn_step (undT_und hu) _ (by simp only [Op.equalIn]; rfl) ?_
        simp
      · cases h
    · rename_i hu; cases hx; cases hy; cases h
      rename_i a b
      rw [BS.eq_of, ← beq_toListBytes]
      exact eqIn_step (undT_und hu) _ (by simp only [Op.equalIn]; rfl) rfl
    · rename_i hu; cases hx; cases hy; cases h
      exact eqIn_step (undT_und hu) _ (by simp only [Op.equalIn]; rfl) rfl
    · rename_i hu; cases hx; cases hy; cases h
      exact eqIn_step (undT_und hu) _ (by simp only [Op.equalIn]; rfl) rfl
    · rename_i hu; cases hx; cases hy; cases h
      exact eqIn_step (undT_und hu) _ (by simp only [Op.equalIn]; rfl) rfl
    · rename_i e a o b q hu
      cases hx with
      | @ptr _ p1 _ h1 =>
      cases hy with
      | @ptr _ p2 _ h2 =>
      split at h
      · rename_i m hm
        split at h
        · cases h
        · rename_i hm0
          have hs := sizeT_run (w := w) hm
          split at h
          · rename_i hab
            cases h
            have : a = b := by simpa using hab
            subst this
            rw [h1] at h2; cases h2
            have : (({ block := p1.c, off := p1.base + o, spot := none } : Addr) == { block := p1.c, off := p1.base + q, spot := none }) = (o == q) := by
              rw [Bool.eq_iff_iff]; simp
            refine eqIn_step (undT_und hu) _ (by simp only [Op.equalIn]; rfl) ?_
            simp [hs, hm0, sameAddr, this]
          · rename_i hab
            split at h
            · rename_i hsol
              cases h
              simp only [Bool.and_eq_true] at hsol
              obtain ⟨o1, hg1, cc1, e1, k1⟩ := solidRow_at hw hsol.1 h1
              obtain ⟨o2, hg2, cc2, e2, k2⟩ := solidRow_at hw hsol.2 h2
              have hne : p1.c ≠ p2.c := fun e => hab (by simpa using hw.inj a b o1 o2 p1 p2 hg1 hg2 h1 h2 e)
              have := sameAddr_apart (P := P) (w := w) (a := ⟨p1.c, p1.base + o, none⟩) (b := ⟨p2.c, p2.base + q, none⟩) hne k1 k2
              refine eqIn_step (undT_und hu) _ (by simp only [Op.equalIn]; rfl) ?_
              simp [hs, hm0, this]
            · cases h
      · cases h
    · rename_i hu; cases hx; cases hy; cases h
      exact eqIn_step (undT_und hu) _ (by simp only [Op.equalIn]; rfl) rfl
    · rename_i hu; cases hx; cases hy; cases h
      exact eqIn_step (undT_und hu) _ (by simp only [Op.equalIn]; rfl) rfl
    · rename_i hu; cases hx; cases hy; cases h
      exact eqIn_step (undT_und hu) _ (by simp only [Op.equalIn]; rfl) rfl
    · rename_i t1 a t2 b hu
      cases hx; cases hy
      rename_i v' hv u' hu'
      split at h
      · rename_i hne
        cases h
        refine eqIn_step (undT_und hu) _ (by simp only [Op.equalIn]; rfl) ?_
        simp [hne]
      · rename_i hne
        have hne : t1 = t2 := by simpa using hne
        split at h
        · rename_i i hi
          split at h
          · rename_i hc
            have := ih D hD _ _ _ _ _ _ h hv hu'
            subst hne
            refine eqIn_step (undT_und hu) _ (by simp only [Op.equalIn]; rfl) ?_
            simp [typeInfo, infoT_info hi, hc, this]
          · cases h
        · cases h
    · rename_i hu; cases hx; cases hy; cases h
      exact eqIn_step (undT_und hu) _ (by simp only [Op.equalIn]; rfl) rfl
    · rename_i hu; cases hx; cases hy; cases h
      exact eqIn_step (undT_und hu) _ (by simp only [Op.equalIn]; rfl) rfl
    · rename_i hu; cases hx; cases hy; cases h
      exact eqIn_step (undT_und hu) _ (by simp only [Op.equalIn]; rfl) rfl
    · rename_i hu; cases hx; cases hy; cases h
      exact eqIn_step (undT_und hu) _ (by simp only [Op.equalIn]; rfl) rfl
    · rename_i hu; cases hx; cases hy; cases h
      exact eqIn_step (undT_und hu) _ (by simp only [Op.equalIn]; rfl) rfl
    · rename_i hu; cases hx; cases hy; cases h
      exact eqIn_step (undT_und hu) _ (by simp only [Op.equalIn]; rfl) rfl
    · rename_i hu; cases hx; cases hy; cases h
      exact eqIn_step (undT_und hu) _ (by simp only [Op.equalIn]; rfl) rfl
    · rename_i hu; cases hx; cases hy; cases h
      exact eqIn_step (undT_und hu) _ (by simp only [Op.equalIn]; rfl) rfl
    · rename_i hu; cases hx; cases hy; cases h
      exact eqIn_step (undT_und hu) _ (by simp only [Op.equalIn]; rfl) rfl
    · rename_i fs xs ys hu
      cases hx with
      | agg hx =>
      cases hy with
      | agg hy =>
      split at h
      · cases h
      · rename_i hst
        have hf : P.fieldsOf t = fs := by simp [Program.fieldsOf, undT_und hu]
        rw [run_equalIn_struct w D t _ _ (by rw [hf]; exact undT_und hu) (by simpa using hst), hf]
        exact eqFields_run hx hy (fun t a b r v u h1 h2 h3 => ih D hD t a b r v u h1 h2 h3) _ _ h
    · rename_i len e xs ys hu
      cases hx with
      | agg hx =>
      cases hy with
      | agg hy =>
      split at h
      · rename_i m hm
        rw [run_equalIn_array D t len e m _ _ (undT_und hu) (sizeT_run hm)]
        exact eqElems_run hx hy (fun a b r v u h1 h2 h3 => ih D hD e a b r v u h1 h2 h3) _ _ _ h
      · cases h
    · cases h
theorem eqGuardA_run {op : BinOp} {t : TypeId} {x y : Operand} {a b : AV} {v u : Value} (h : eqGuardA P t x y a b = true) (hx : VR β a v) (hy : VR β b u) : (eqGuard op t x y v u).run P w = .ok () w := by
  cases hx with
  | nilIface =>
    cases hy with
    | nilIface =>
      simp only [eqGuardA, Bool.or_eq_true] at h
      rcases h with h | h
      · cases x <;> first | (exact absurd h Bool.false_ne_true) | (cases op <;> rfl)
      · cases y <;> first | (exact absurd h Bool.false_ne_true) | (cases x <;> cases op <;> rfl)
    | @sy _ tm _ hc => generalize tm.den = d at hc; cases hc <;> cases op <;> rfl
    | _ => cases op <;> rfl
  | agg _ =>
    cases hy with
    | agg _ =>
      simp only [eqGuardA, Bool.not_eq_true'] at h
      exact run_eqGuard_agg w op t x y _ _ h
    | @sy _ tm _ hc => generalize tm.den = d at hc; cases hc <;> cases op <;> rfl
    | _ => cases op <;> rfl
  | @sy _ tm _ hc => generalize tm.den = d at hc; cases hc <;> cases op <;> rfl
  | _ => cases op <;> rfl
def plainEq : Value → Value → Bool
  | .int _ _, .int _ _ | .float _ _, .float _ _ | .complex _ _ _, .complex _ _ _ | .string _, .string _ => false
  | _, _ => true
omit [Val] in
theorem binOp_eql {t : TypeId} {v u : Value} (h : plainEq v u = true) : binOp .eql t v u = (do pure (.bool (← Op.equal t v u))) := by
  cases v <;> cases u <;> first | rfl | (simp [plainEq] at h)
omit [Val] in
theorem binOp_neq {t : TypeId} {v u : Value} (h : plainEq v u = true) : binOp .neq t v u = (do pure (.bool (!(← Op.equal t v u)))) := by
  cases v <;> cases u <;> first | rfl | (simp [plainEq] at h)
def AV.sure : AV → Bool
  | .junk | .esl | .rng _ _ _ | .strU _ | .boolU | .sy _ _ | .lsl _ _ _ _ _ | .eptr _ _ _ _ | .iptr _ _ _ _ => false
  | _ => true
theorem VR.plain {a b : AV} {v u : Value} (hx : VR β a v) (hy : VR β b u) (ha : a.sure = true) (hb : b.sure = true) (hi : ∀ k m j n, a = .int k m → b = .int j n → False) (hs : ∀ m n, a = .str m → b = .str n → False) : plainEq v u = true := by
  cases hx <;> first
    | (cases ha; done)
    | (cases hy <;> first
        | (cases hb; done)
        | rfl
        | exact (hi _ _ _ _ rfl rfl).elim
        | exact (hs _ _ rfl rfl).elim)
omit [Val] in
theorem eqA_sure {d : Nat} {t : TypeId} {a b : AV} {r : Bool} (h : eqA P H d t a b = some r) : a.sure = true ∧ b.sure = true := by
  cases d with
  | zero => simp [eqA] at h
  | succ d =>
    refine ⟨?_, ?_⟩
    · cases a <;> first
        | rfl
        | (exfalso; unfold eqA at h; split at h <;> simp_all)
    · cases b <;> first
        | rfl
        | (exfalso; unfold eqA at h; split at h <;> simp_all)
omit [Val] in
theorem wrap_range (k : IntKind) (x : Int) : k.min ≤ k.wrap x ∧ k.wrap x ≤ k.max := by
  cases k <;> simp only [IntKind.wrap, IntKind.min, IntKind.max, IntKind.signed, IntKind.bits] <;> simp <;> omega
omit [Val] in
theorem wrap_in (k : IntKind) {x : Int} (h1 : k.min ≤ x) (h2 : x ≤ k.max) : k.wrap x = x := by
  cases k <;> simp only [IntKind.wrap, IntKind.min, IntKind.max, IntKind.signed, IntKind.bits] at h1 h2 ⊢ <;> simp at h1 h2 ⊢ <;> omega
theorem fullR_VR (k : IntKind) (x : Int) : VR β (fullR k) (.int k (k.wrap x)) := .rng k (wrap_range k x).1 (wrap_range k x).2
theorem fitR_VR (k : IntKind) {lo hi x : Int} (h1 : lo ≤ x) (h2 : x ≤ hi) : VR β (fitR k lo hi) (.int k (k.wrap x)) := by
  unfold fitR
  split
  · rename_i h
    rw [wrap_in k (Int.le_trans h.1 h1) (Int.le_trans h2 h.2)]
    exact .rng k h1 h2
  · exact fullR_VR k x
theorem cmpR_VR {t f b : Bool} (h1 : t = true → b = true) (h2 : f = true → b = false) : VR β (cmpR t f) (.bool b) := by
  unfold cmpR
  split
  · rw [h1 rfl]; exact .bool _
  · split
    · rw [h2 rfl]; exact .bool _
    · exact .boolU b
theorem rngPair_VR {a b : AV} {v u : Value} {k j : IntKind} {l1 h1 l2 h2 : Int} (h : rngPair a b = some ((k, l1, h1), (j, l2, h2))) (hx : VR β a v) (hy : VR β b u) :
    ∃ m n, v = .int k m ∧ u = .int j n ∧ l1 ≤ m ∧ m ≤ h1 ∧ l2 ≤ n ∧ n ≤ h2 := by
  unfold rngPair at h
  split at h
  · cases h; cases hx with | rng k a1 a2 => cases hy with | rng j b1 b2 => exact ⟨_, _, rfl, rfl, a1, a2, b1, b2⟩
  · cases h; cases hx with | rng k a1 a2 => cases hy; exact ⟨_, _, rfl, rfl, a1, a2, Int.le_refl _, Int.le_refl _⟩
  · cases h; cases hx; cases hy with | rng j b1 b2 => exact ⟨_, _, rfl, rfl, Int.le_refl _, Int.le_refl _, b1, b2⟩
  · cases h
theorem rngOp_run {op : BinOp} {t : TypeId} {x y : Operand} {k j : IntKind} {l1 h1 l2 h2 m n : Int} {r : AV} (h : rngOp op k j l1 h1 l2 h2 = some r) (a1 : l1 ≤ m) (a2 : m ≤ h1) (b1 : l2 ≤ n) (b2 : n ≤ h2) :
    ∃ z, (do eqGuard op t x y (.int k m) (.int j n); binOp op t (.int k m) (.int j n) : Sem Value).run P w = .ok z w ∧ VR β r z := by
  have arith : ∀ r0, intOpA op k m n = some r0 → k = j → op ≠ .shl → op ≠ .shr → (∀ z, VR β r0 z → VR β r z) →
      ∃ z, (do eqGuard op t x y (.int k m) (.int j n); binOp op t (.int k m) (.int j n) : Sem Value).run P w = .ok z w ∧ VR β r z := by
    intro r0 e hk o1 o2 himp
    subst hk
    obtain ⟨z, q1, q2⟩ := intOpA_run (P := P) (β := β) (w := w) t e o1 o2
    refine ⟨z, ?_, himp z q2⟩
    rw [Sem.run_bind, eqGuardA_run (β := β) (a := .int k m) (b := .int k n) rfl (.int _ _) (.int _ _)]
    exact q1
  unfold rngOp at h
  split at h
  · split at h
    · rename_i h0
      cases h
      have e : shiftA .shl k m n = some (.int k (k.wrap (m * 2 ^ (min n.toNat k.bits)))) := by
        unfold shiftA; rw [if_neg (by omega)]
      obtain ⟨z, q1, q2⟩ := shiftA_run (P := P) (β := β) (w := w) (j := j) t e
      cases q2
      exact ⟨_, by rw [Sem.run_bind]; exact q1, fullR_VR k _⟩
    · cases h
  · split at h
    · rename_i h0
      obtain ⟨h0, rfl⟩ := h0
      cases h
      have hn : n = l2 := by omega
      subst hn
      have e : shiftA .shr k m n = some (.int k (m.fdiv (2 ^ (min n.toNat k.bits)))) := by
        unfold shiftA; rw [if_neg (by omega)]
      obtain ⟨z, q1, q2⟩ := shiftA_run (P := P) (β := β) (w := w) (j := j) t e
      cases q2
      have hpos : (0 : Int) < 2 ^ (min n.toNat k.bits) := Int.pow_pos (by omega)
      have hf : ∀ y : Int, y.fdiv (2 ^ (min n.toNat k.bits)) = y / 2 ^ (min n.toNat k.bits) := fun y => Int.fdiv_eq_ediv_of_nonneg y (Int.le_of_lt hpos)
      refine ⟨_, by rw [Sem.run_bind]; exact q1, .rng k ?_ ?_⟩
      · rw [hf, hf]; exact Int.ediv_le_ediv hpos a1
      · rw [hf, hf]; exact Int.ediv_le_ediv hpos a2
    · cases h
  · rename_i o1 o2
    split at h
    · rename_i hk
      split at h
      · cases h
        exact arith _ rfl hk (fun e => by cases e) (fun e => by cases e) fun z q => by cases q; exact fitR_VR k (by omega) (by omega)
      · cases h
        exact arith _ rfl hk (fun e => by cases e) (fun e => by cases e) fun z q => by cases q; exact fitR_VR k (by omega) (by omega)
      · cases h
        refine arith _ rfl hk (fun e => by cases e) (fun e => by cases e) fun z q => ?_
        cases q
        split
        · rename_i h0
          exact fitR_VR k (Int.mul_le_mul a1 b1 h0.2 (Int.le_trans h0.1 a1)) (Int.mul_le_mul a2 b2 (Int.le_trans h0.2 b1) (Int.le_trans (Int.le_trans h0.1 a1) a2))
        · exact fullR_VR k _
      · cases h
        exact arith _ rfl hk (fun e => by cases e) (fun e => by cases e) fun z q => by cases q; exact fullR_VR k _
      · cases h
        exact arith _ rfl hk (fun e => by cases e) (fun e => by cases e) fun z q => by cases q; exact fullR_VR k _
      · cases h
        exact arith _ rfl hk (fun e => by cases e) (fun e => by cases e) fun z q => by cases q; exact fullR_VR k _
      · cases h
        exact arith _ rfl hk (fun e => by cases e) (fun e => by cases e) fun z q => by cases q; exact fullR_VR k _
      · split at h
        · rename_i h0
          obtain ⟨g1, g2, rfl⟩ := h0
          cases h
          have hn : n = l2 := by omega
          subst hn
          refine arith (.int k (m.tmod n)) (by show (if n = 0 then none else some (AV.int k (m.tmod n))) = _; rw [if_neg (by omega)]) hk (fun e => by cases e) (fun e => by cases e) fun z q => ?_
          cases q
          have hm : m.tmod n = m % n := Int.tmod_eq_emod_of_nonneg (by omega)
          have q1 := Int.emod_nonneg m (show n ≠ 0 by omega)
          have q2 := Int.emod_lt_of_pos m g2
          exact .rng k (by rw [hm]; exact q1) (by rw [hm]; omega)
        · cases h
      all_goals first
        | (cases h; refine arith _ rfl hk (fun e => by cases e) (fun e => by cases e) fun z q => ?_; cases q; refine cmpR_VR (fun e => ?_) (fun e => ?_) <;> simp at e ⊢ <;> omega)
        | cases h
    · cases h
theorem intOp_int {op : BinOp} {k : IntKind} {m n x : Int} {t : TypeId} (h : intOpA op k m n = some (.int k x)) (h1 : op ≠ .shl) (h2 : op ≠ .shr) : (binOp op t (.int k m) (.int k n)).run P w = .ok (.int k x) w := by
  obtain ⟨z, q1, q2⟩ := intOpA_run (P := P) (β := ⟨fun _ => none, fun _ => none⟩) (w := w) t h h1 h2
  cases q2; exact q1
theorem intOp_bool {op : BinOp} {k : IntKind} {m n : Int} {x : Bool} {t : TypeId} (h : intOpA op k m n = some (.bool x)) (h1 : op ≠ .shl) (h2 : op ≠ .shr) : (binOp op t (.int k m) (.int k n)).run P w = .ok (.bool x) w := by
  obtain ⟨z, q1, q2⟩ := intOpA_run (P := P) (β := ⟨fun _ => none, fun _ => none⟩) (w := w) t h h1 h2
  cases q2; exact q1
theorem strOp_bool {op : BinOp} {m n : ByteArray} {x : Bool} {t : TypeId} (h : strOpA op (BS.of m) (BS.of n) = some (.bool x)) (h1 : op ≠ .shl) (h2 : op ≠ .shr) : (binOp op t (.string m) (.string n)).run P w = .ok (.bool x) w := by
  obtain ⟨z, q1, q2⟩ := strOpA_run (P := P) (β := ⟨fun _ => none, fun _ => none⟩) (w := w) t h h1 h2
  cases q2; exact q1
theorem symInt_run {nf : Tm → Tm} (hn : ∀ t, (nf t).den = t.den) {op : BinOp} {k j : IntKind} {s u : Tm} {m n : Int} {t : TypeId} {r : AV} (h : symInt nf op k j s u = some r) (hs : s.den = .int m) (hu : u.den = .int n) :
    ∃ z, (binOp op t (.int k m) (.int j n)).run P w = .ok z w ∧ VR β r z := by
  have hb : ∀ (o : TOp) (x : Int), (mkT nf o [s, u]).den = o.den [.int m, .int n] := fun o x => by rw [mkT_den hn]; simp only [Tm.dens, hs, hu]
  unfold symInt at h
  split at h
  · cases hh : holdsT nf (.bin .leq .i64) [.int 0, u]
    · rw [hh] at h; cases h
    · rw [hh] at h
      cases h
      have h0 : 0 ≤ n := by have := holdsT_den hn hh; simpa [Tm.dens, Tm.den, hu, TOp.den, intD] using this
      obtain ⟨z, h1, h2⟩ := shiftA_run (P := P) (β := β) (w := w) (op := .shl) (k := k) j (a := m) (b := n) (r := .int k (k.wrap (m * 2 ^ min n.toNat k.bits))) t (by unfold shiftA; rw [if_neg (by omega)])
      cases h2
      exact ⟨_, h1, ofTm_int (by rw [hb _ 0]; rfl)⟩
  · cases hh : holdsT nf (.bin .leq .i64) [.int 0, u]
    · rw [hh] at h; cases h
    · rw [hh] at h
      cases h
      have h0 : 0 ≤ n := by have := holdsT_den hn hh; simpa [Tm.dens, Tm.den, hu, TOp.den, intD] using this
      obtain ⟨z, h1, h2⟩ := shiftA_run (P := P) (β := β) (w := w) (op := .shr) (k := k) j (a := m) (b := n) (r := .int k (m.fdiv (2 ^ min n.toNat k.bits))) t (by unfold shiftA; rw [if_neg (by omega)])
      cases h2
      exact ⟨_, h1, ofTm_int (by rw [hb _ 0]; rfl)⟩
  · cases hh : (k == j && holdsT nf (.bin .neq .i64) [u, .int 0])
    · rw [hh] at h; cases h
    · rw [hh] at h
      cases h
      rw [Bool.and_eq_true, beq_iff_eq] at hh
      obtain ⟨rfl, hh⟩ := hh
      have h0 : n ≠ 0 := by have := holdsT_den hn hh; simpa [Tm.dens, Tm.den, hu, TOp.den, intD] using this
      obtain ⟨z, h1, h2⟩ := intOpA_run (P := P) (β := β) (w := w) (op := .quo) (k := k) (a := m) (b := n) (r := .int k (k.wrap (m.tdiv n))) t (by simp [intOpA, h0]) (by simp) (by simp)
      cases h2
      exact ⟨_, h1, ofTm_int (by rw [hb _ 0]; rfl)⟩
  · cases hh : (k == j && holdsT nf (.bin .neq .i64) [u, .int 0])
    · rw [hh] at h; cases h
    · rw [hh] at h
      cases h
      rw [Bool.and_eq_true, beq_iff_eq] at hh
      obtain ⟨rfl, hh⟩ := hh
      have h0 : n ≠ 0 := by have := holdsT_den hn hh; simpa [Tm.dens, Tm.den, hu, TOp.den, intD] using this
      obtain ⟨z, h1, h2⟩ := intOpA_run (P := P) (β := β) (w := w) (op := .rem) (k := k) (a := m) (b := n) (r := .int k (m.tmod n)) t (by simp [intOpA, h0]) (by simp) (by simp)
      cases h2
      exact ⟨_, h1, ofTm_int (by rw [hb _ 0]; rfl)⟩
  all_goals
    cases hh : (k == j)
    · rw [hh] at h; cases h
    · rw [hh] at h
      cases h
      rw [beq_iff_eq] at hh
      subst hh
      first
        | exact ⟨_, intOp_int rfl (by simp) (by simp), ofTm_int (by rw [hb _ 0]; rfl)⟩
        | exact ⟨_, intOp_bool rfl (by simp) (by simp), ofTm_bool (by rw [hb _ 0]; rfl)⟩
theorem symStr_run {nf : Tm → Tm} (hn : ∀ t, (nf t).den = t.den) {op : BinOp} {s u : Tm} {m n : ByteArray} {t : TypeId} {r : AV} (h : symStr nf op s u = some r) (hs : s.den = .str (BS.of m)) (hu : u.den = .str (BS.of n)) :
    ∃ z, (binOp op t (.string m) (.string n)).run P w = .ok z w ∧ VR β r z := by
  have hb : ∀ (o : TOp), (mkT nf o [s, u]).den = o.den [.str (BS.of m), .str (BS.of n)] := fun o => by rw [mkT_den hn]; simp only [Tm.dens, hs, hu]
  unfold symStr at h
  split at h
  · cases hh : holdsT nf .fits [s, u]
    · rw [hh] at h; cases h
    · rw [hh] at h
      cases h
      have h0 : (BS.of m).len + (BS.of n).len ≤ 2 ^ 62 := by have := holdsT_den hn hh; simpa [Tm.dens, hs, hu, TOp.den] using this
      obtain ⟨z, h1, h2⟩ := strOpA_run (P := P) (β := β) (w := w) (op := .add) (x := m) (y := n) (r := .str ((BS.of m).app (BS.of n))) t (by simp only [strOpA, if_pos h0]) (by simp) (by simp)
      refine ⟨_, h1, ?_⟩
      rw [BS.of_app] at h2
      generalize hq : BS.of (m ++ n) = q at h2
      cases h2
      exact ofTm_str (by rw [hb, ← hq, ← BS.of_app]; rfl)
  all_goals first
    | (cases h
       exact ⟨_, strOp_bool rfl (by simp) (by simp), ofTm_bool (by rw [hb]; rfl)⟩)
    | cases h
theorem symBin_run {nf : Tm → Tm} (hn : ∀ t, (nf t).den = t.den) {k : Nat} (hw : WR G β H.get k w) {op : BinOp} {t : TypeId} {x y : Operand} {a b r : AV} {v u : Value} (h : symBin P nf op t a b = some r) (hx : VR β a v) (hy : VR β b u) :
    ∃ z, (do eqGuard op t x y v u; binOp op t v u : Sem Value).run P w = .ok z w ∧ VR β r z := by
  unfold symBin at h
  split at h
  · rename_i k s j q h1 h2
    obtain ⟨m, e1, rfl⟩ := intTm_VR h1 hx
    obtain ⟨n, e2, rfl⟩ := intTm_VR h2 hy
    obtain ⟨z, q1, q2⟩ := symInt_run (P := P) (β := β) (w := w) (t := t) hn h e1 e2
    refine ⟨z, ?_, q2⟩
    rw [Sem.run_bind, eqGuardA_run (β := β) (a := .int k m) (b := .int j n) rfl (.int _ _) (.int _ _)]
    exact q1
  · split at h
    · rename_i s q h1 h2
      obtain ⟨m, e1, rfl⟩ := strTm_VR h1 hx
      obtain ⟨n, e2, rfl⟩ := strTm_VR h2 hy
      obtain ⟨z, q1, q2⟩ := symStr_run (P := P) (β := β) (w := w) (t := t) hn h e1 e2
      refine ⟨z, ?_, q2⟩
      rw [Sem.run_bind, eqGuardA_run (β := β) (a := .str (BS.of m)) (b := .str (BS.of n)) rfl (.str _) (.str _)]
      exact q1
    · split at h
      · rename_i s q h1 h2
        obtain ⟨m, e1, rfl⟩ := boolTm_VR h1 hx
        obtain ⟨n, e2, rfl⟩ := boolTm_VR h2 hy
        split at h
        · rename_i hu
          have hq : eqA P H 30 t (.bool m) (.bool n) = some (m == n) := by
            show eqA P H (29 + 1) t _ _ = _
            unfold eqA; rw [hu]
          have heq := eqA_run hw 30 10000 (by omega) _ _ _ _ _ _ hq (VR.bool (β := β) m) (VR.bool n)
          have hg := eqGuardA_run (P := P) (w := w) (β := β) (op := op) (t := t) (x := x) (y := y) (a := .bool m) (b := .bool n) rfl (.bool _) (.bool _)
          split at h
          · cases h
            refine ⟨.bool (m == n), ?_, ofTm_bool ?_⟩
            · rw [Sem.run_bind, hg, Result.andThen_ok, binOp_eql rfl, Sem.run_bind]
              simp only [Op.equal, Op.maxDepth, heq, Result.andThen_ok, Sem.run_pure]
            · rw [mkT_den hn]; simp only [Tm.dens, mkT_den hn, e1, e2, TOp.den]; cases m <;> cases n <;> rfl
          · cases h
            refine ⟨.bool (!(m == n)), ?_, ofTm_bool ?_⟩
            · rw [Sem.run_bind, hg, Result.andThen_ok, binOp_neq rfl, Sem.run_bind]
              simp only [Op.equal, Op.maxDepth, heq, Result.andThen_ok, Sem.run_pure]
            · rw [mkT_den hn]; simp only [Tm.dens, mkT_den hn, e1, e2, TOp.den]; cases m <;> cases n <;> rfl
          · cases h
        · cases h
      · cases h
theorem binOpA0_run {nf : Tm → Tm} (hn : ∀ t, (nf t).den = t.den) {n : Nat} {op : BinOp} {t : TypeId} {x y : Operand} {a b r : AV} {v u : Value} (hw : WR G β H.get n w) (h : binOpA0 P nf H op t x y a b = some r) (hx : VR β a v) (hy : VR β b u) :
    ∃ z, (do eqGuard op t x y v u; binOp op t v u : Sem Value).run P w = .ok z w ∧ VR β r z := by
  unfold binOpA0 at h
  split at h
  · exact symBin_run hn hw h hx hy
  rename_i hsy
  clear hsy
  split at h
  · rename_i k l1 h1 j l2 h2 hp
    obtain ⟨m, n, rfl, rfl, a1, a2, b1, b2⟩ := rngPair_VR hp hx hy
    exact rngOp_run h a1 a2 b1 b2
  rename_i hnone0
  clear hnone0
  split at h
  · cases hx; cases hy
    obtain ⟨z, h1, h2⟩ := shiftA_run (P := P) (β := β) (w := w) _ t h
    exact ⟨z, by rw [Sem.run_bind]; exact h1, h2⟩
  · cases hx; cases hy
    obtain ⟨z, h1, h2⟩ := shiftA_run (P := P) (β := β) (w := w) _ t h
    exact ⟨z, by rw [Sem.run_bind]; exact h1, h2⟩
  · rename_i k m j n' hshl hshr
    cases hx; cases hy
    split at h
    · rename_i hk
      subst hk
      obtain ⟨z, h1, h2⟩ := intOpA_run (P := P) (β := β) (w := w) t h (by rintro rfl; simp [intOpA] at h) (by rintro rfl; simp [intOpA] at h)
      refine ⟨z, ?_, h2⟩
      rw [Sem.run_bind, eqGuardA_run (β := β) (a := .int k m) (b := .int k n') rfl (.int _ _) (.int _ _)]
      exact h1
    · cases h
  · cases hx; cases hy
    rename_i s1 s2
    obtain ⟨z, h1, h2⟩ := strOpA_run (P := P) (β := β) (w := w) t h (by rintro rfl; simp [strOpA] at h) (by rintro rfl; simp [strOpA] at h)
    refine ⟨z, ?_, h2⟩
    rw [Sem.run_bind, eqGuardA_run (β := β) (a := .str (BS.of s1)) (b := .str (BS.of s2)) rfl (.str _) (.str _)]
    exact h1
  · rename_i hi hs
    split at h
    · rename_i hg
      split at h
      · rename_i q hq
        cases h
        have h1 := eqA_run hw 30 10000 (by omega) _ _ _ _ _ _ hq hx hy
        obtain ⟨ja, jb⟩ := eqA_sure hq
        refine ⟨.bool q, ?_, .bool q⟩
        rw [Sem.run_bind, eqGuardA_run hg hx hy, Result.andThen_ok, binOp_eql (hx.plain hy ja jb (fun k m j n e1 e2 => hi _ _ _ _ e1 e2) (fun m n e1 e2 => hs _ _ e1 e2)), Sem.run_bind]
        simp only [Op.equal, Op.maxDepth, h1, Result.andThen_ok, Sem.run_pure]
      · cases h
    · cases h
  · rename_i hi hs
    split at h
    · rename_i hg
      split at h
      · rename_i q hq
        cases h
        have h1 := eqA_run hw 30 10000 (by omega) _ _ _ _ _ _ hq hx hy
        obtain ⟨ja, jb⟩ := eqA_sure hq
        refine ⟨.bool (!q), ?_, .bool (!q)⟩
        rw [Sem.run_bind, eqGuardA_run hg hx hy, Result.andThen_ok, binOp_neq (hx.plain hy ja jb (fun k m j n e1 e2 => hi _ _ _ _ e1 e2) (fun m n e1 e2 => hs _ _ e1 e2)), Sem.run_bind]
        simp only [Op.equal, Op.maxDepth, h1, Result.andThen_ok, Sem.run_pure]
      · cases h
    · cases h
  · cases h
theorem eqS_run {nf : Tm → Tm} (hn : ∀ t, (nf t).den = t.den) : ∀ (d D : Nat), d ≤ D → ∀ (t : TypeId) (x y : AV) (r : Bool) (v u : Value), eqS P nf d t x y = some r → VR β x v → VR β y u → (Op.equalIn D t v u).run P w = .ok r w := by
  intro d
  induction d with
  | zero => intro D _ t x y r v u h; simp [eqS] at h
  | succ d ih =>
    intro D hD t x y r v u h hx hy
    obtain ⟨D, rfl⟩ : ∃ E, D = E + 1 := ⟨D - 1, by omega⟩
    have hD : d ≤ D := by omega
    simp only [eqS] at h
    split at h
    · rename_i fs hu
      split at h
      · rename_i xs ys
        cases hx with
        | agg hx =>
        cases hy with
        | agg hy =>
        split at h
        · cases h
        · rename_i hst
          have hf : P.fieldsOf t = fs := by simp [Program.fieldsOf, undT_und hu]
          rw [run_equalIn_struct w D t _ _ (by rw [hf]; exact undT_und hu) (by simpa using hst), hf]
          exact eqFields_run hx hy (fun t a b r v u h1 h2 h3 => ih D hD t a b r v u h1 h2 h3) _ _ h
      · cases h
    · rename_i len e hu
      split at h
      · rename_i xs ys
        cases hx with
        | agg hx =>
        cases hy with
        | agg hy =>
        split at h
        · rename_i m hm
          rw [run_equalIn_array D t len e m _ _ (undT_und hu) (sizeT_run hm)]
          exact eqElems_run hx hy (fun a b r v u h1 h2 h3 => ih D hD e a b r v u h1 h2 h3) _ _ _ h
        · cases h
      · cases h
    · rename_i hu
      split at h
      · rename_i k s j q h1 h2
        split at h
        · rename_i hk
          subst hk
          split at h
          · rename_i b hb
            cases h
            obtain ⟨m, e1, rfl⟩ := intTm_VR h1 hx
            obtain ⟨n, e2, rfl⟩ := intTm_VR h2 hy
            have hd : (mkT nf (.bin .eql .i64) [s, q]).den = .bool (m == n) := by rw [mkT_den hn]; simp only [Tm.dens, e1, e2]; rfl
            rw [hb] at hd
            obtain rfl : r = (m == n) := by simpa [Tm.den] using hd
            refine eqIn_step (undT_und hu) _ (by simp only [Op.equalIn]; rfl) ?_
            simp
          · cases h
        · cases h
      · cases h
    · rename_i hu
      split at h
      · rename_i s q h1 h2
        split at h
        · rename_i b hb
          cases h
          obtain ⟨m, e1, rfl⟩ := strTm_VR h1 hx
          obtain ⟨n, e2, rfl⟩ := strTm_VR h2 hy
          have hd : (mkT nf (.sbin .eql) [s, q]).den = .bool ((BS.of m).eq (BS.of n)) := by rw [mkT_den hn]; simp only [Tm.dens, e1, e2]; rfl
          rw [hb] at hd
          obtain rfl : r = (BS.of m).eq (BS.of n) := by simpa [Tm.den] using hd
          rw [BS.eq_of, ← beq_toListBytes]
          exact eqIn_step (undT_und hu) _ (by simp only [Op.equalIn]; rfl) rfl
        · cases h
      · cases h
    · rename_i hu
      split at h
      · rename_i s q h1 h2
        split at h
        · rename_i b hb
          cases h
          obtain ⟨m, e1, rfl⟩ := boolTm_VR h1 hx
          obtain ⟨n, e2, rfl⟩ := boolTm_VR h2 hy
          have hd : (mkT nf .ite [s, q, mkT nf .not [q]]).den = .bool (m == n) := by
            rw [mkT_den hn]
            simp only [Tm.dens, mkT_den hn, e1, e2]
            cases m <;> cases n <;> rfl
          rw [hb] at hd
          obtain rfl : r = (m == n) := by simpa [Tm.den] using hd
          exact eqIn_step (undT_und hu) _ (by simp only [Op.equalIn]; rfl) rfl
        · cases h
      · cases h
    · cases h
theorem binOpA_run {nf : Tm → Tm} (hn : ∀ t, (nf t).den = t.den) {n : Nat} {op : BinOp} {t : TypeId} {x y : Operand} {a b r : AV} {v u : Value} (hw : WR G β H.get n w) (h : binOpA P nf H op t x y a b = some r) (hx : VR β a v) (hy : VR β b u) :
    ∃ z, (do eqGuard op t x y v u; binOp op t v u : Sem Value).run P w = .ok z w ∧ VR β r z := by
  unfold binOpA at h
  split at h
  · rename_i r1 h1
    cases h
    exact binOpA0_run hn hw h1 hx hy
  · unfold aggEqA at h
    split at h
    · rename_i xs ys _
      have hpl : ∀ v u, VR β (.agg xs) v → VR β (.agg ys) u → plainEq v u = true := fun v u h1 h2 => by cases h1; rfl
      split at h
      · split at h
        · rename_i hg
          split at h
          · rename_i q hq
            cases h
            have h1 := eqS_run (P := P) (w := w) hn 8 10000 (by omega) _ _ _ _ _ _ hq hx hy
            refine ⟨.bool q, ?_, .bool q⟩
            rw [Sem.run_bind, eqGuardA_run hg hx hy, Result.andThen_ok, binOp_eql (hpl _ _ hx hy), Sem.run_bind]
            simp only [Op.equal, Op.maxDepth, h1, Result.andThen_ok, Sem.run_pure]
          · cases h
        · cases h
      · split at h
        · rename_i hg
          split at h
          · rename_i q hq
            cases h
            have h1 := eqS_run (P := P) (w := w) hn 8 10000 (by omega) _ _ _ _ _ _ hq hx hy
            refine ⟨.bool (!q), ?_, .bool (!q)⟩
            rw [Sem.run_bind, eqGuardA_run hg hx hy, Result.andThen_ok, binOp_neq (hpl _ _ hx hy), Sem.run_bind]
            simp only [Op.equal, Op.maxDepth, h1, Result.andThen_ok, Sem.run_pure]
          · cases h
        · cases h
      · cases h
    · cases h
end
end Go.Tc
namespace Go.Tc
variable [Val]
section
variable {P : Program} {G : Nat} {β : Pl} {H : AHeap} {w : World}
theorem typeAssertA_run {x r : AV} {xt t : TypeId} {ok : Bool} {v : Value} (h : typeAssertA P x t ok = some r) (hx : VR β x v) : ∃ u, (Instr.typeAssert v xt t ok).run P w = .ok u w ∧ VR β r u := by
  unfold typeAssertA at h
  split at h
  · cases h
  · rename_i td hni hu
    cases hx
    split at h
    · rename_i hok
      subst hok
      rw [Option.map_eq_some_iff] at h
      obtain ⟨z, hz, rfl⟩ := h
      obtain ⟨zv, h1, h2⟩ := zeroT_run (P := P) (β := β) (w := w) hz
      refine ⟨.tuple #[zv, .bool false], ?_, .tuple (.cons h2 (.cons (.bool false) .nil))⟩
      have := run_underlying (undT_und hu) w
      cases td <;> first
        | exact absurd rfl (hni _)
        | simp [Instr.typeAssert, this, h1]
    · cases h
  · rename_i td ti tv hni hu
    cases hx
    rename_i v' hv
    have hun := run_underlying (undT_und hu) w
    split at h
    · rename_i htt
      cases h
      cases ok
      · refine ⟨v', ?_, hv⟩
        cases td <;> first
          | exact absurd rfl (hni _)
          | simp [Instr.typeAssert, hun, htt]
      · refine ⟨.tuple #[v', .bool true], ?_, .tuple (.cons hv (.cons (.bool true) .nil))⟩
        cases td <;> first
          | exact absurd rfl (hni _)
          | simp [Instr.typeAssert, hun, htt]
    · rename_i htt
      split at h
      · rename_i hok
        subst hok
        rw [Option.map_eq_some_iff] at h
        obtain ⟨z, hz, rfl⟩ := h
        obtain ⟨zv, h1, h2⟩ := zeroT_run (P := P) (β := β) (w := w) hz
        refine ⟨.tuple #[zv, .bool false], ?_, .tuple (.cons h2 (.cons (.bool false) .nil))⟩
        cases td <;> first
          | exact absurd rfl (hni _)
          | simp [Instr.typeAssert, hun, htt, h1]
      · cases h
  · cases h
theorem lenA_run {nf : Tm → Tm} (hn : ∀ t, (nf t).den = t.den) {n : Nat} {t : TypeId} {x r : AV} {v : Value} {ts : List TypeId} {ty : TypeId} {rest : List Value} (hw : WR G β H.get n w) (h : lenA P nf H t x = some r) (hx : VR β x v) :
    ∃ u, (Builtin.len_ (t :: ts).toArray ty (v :: rest).toArray).run P w = .ok u w ∧ VR β r u := by
  have e1 : (t :: ts).toArray[0]? = some t := by simp
  have e2 : (v :: rest).toArray[0]? = some v := by simp
  unfold lenA at h
  split at h
  · rename_i s hu
    cases h; cases hx with | sy hx =>
    obtain ⟨sb, hs, rfl⟩ := hx.strI
    exact ⟨_, by simp only [Builtin.len_, e1, e2, Sem.run_bind, run_underlying (undT_und hu), Result.andThen_ok]; rfl, ofTm_int (by rw [mkT_den hn]; simp only [Tm.dens, hs, TOp.den, BS.of_len])⟩
  · rename_i e ks c hu
    cases h; cases hx with | sy hx =>
    generalize hd : c.den = d at hx
    cases hx with
    | nil => exact ⟨_, by simp only [Builtin.len_, e1, e2, Sem.run_bind, run_underlying (undT_und hu), Result.andThen_ok]; rfl, ofTm_int (by rw [mkT_den hn]; simp only [Tm.dens, hd, TOp.den]; rfl)⟩
    | none => exact ⟨_, by simp only [Builtin.len_, e1, e2, Sem.run_bind, run_underlying (undT_und hu), Result.andThen_ok]; rfl, ofTm_int (by rw [mkT_den hn]; simp only [Tm.dens, hd, TOp.den]; rfl)⟩
    | isl hz hn' hcap hk hv hr =>
      subst hn'
      exact ⟨_, by simp only [Builtin.len_, e1, e2, Sem.run_bind, run_underlying (undT_und hu), Result.andThen_ok]; rfl, ofTm_int (by rw [mkT_den hn]; simp only [Tm.dens, hd, TOp.den])⟩
  · rename_i e b es lo len cm hu
    cases h; cases hx with
    | lsl hl hln hp hcap hle => exact ⟨_, by simp only [Builtin.len_, e1, e2, Sem.run_bind, run_underlying (undT_und hu), Result.andThen_ok]; rfl, ofTm_int hln⟩
    | lsl0 _ hz => exact ⟨_, by simp only [Builtin.len_, e1, e2, Sem.run_bind, run_underlying (undT_und hu), Result.andThen_ok]; rfl, ofTm_int hz⟩
    | lslE a c _ hz hc => exact ⟨_, by simp only [Builtin.len_, e1, e2, Sem.run_bind, run_underlying (undT_und hu), Result.andThen_ok]; rfl, ofTm_int hz⟩
  · rename_i s hu
    cases h; cases hx
    exact ⟨_, by simp only [Builtin.len_, e1, e2, Sem.run_bind, run_underlying (undT_und hu), Result.andThen_ok]; rfl, .int _ _⟩
  · rename_i n0 hu
    cases h; cases hx
    exact ⟨_, by simp only [Builtin.len_, e1, e2, Sem.run_bind, run_underlying (undT_und hu), Result.andThen_ok]; rfl, .int _ _⟩
  · rename_i m e hu
    cases h
    exact ⟨_, by simp only [Builtin.len_, e1, e2, Sem.run_bind, run_underlying (undT_und hu), Result.andThen_ok]; rfl, .int _ _⟩
  · rename_i arr hu
    split at h
    · rename_i m e hu2
      cases h
      exact ⟨_, by simp only [Builtin.len_, e1, e2, Sem.run_bind, run_underlying (undT_und hu), run_underlying (undT_und hu2), Result.andThen_ok]; rfl, .int _ _⟩
    · cases h
  · rename_i hu
    cases h; cases hx
    exact ⟨_, by simp only [Builtin.len_, e1, e2, Sem.run_bind, run_underlying (undT_und hu), Result.andThen_ok]; rfl, .int _ _⟩
  · rename_i hu
    cases h; cases hx
    exact ⟨_, by simp only [Builtin.len_, e1, e2, Sem.run_bind, run_underlying (undT_und hu), Result.andThen_ok]; rfl, .int _ _⟩
  · rename_i hu
    cases h; cases hx
    exact ⟨_, by simp only [Builtin.len_, e1, e2, Sem.run_bind, run_underlying (undT_und hu), Result.andThen_ok]; rfl, .int _ _⟩
  · rename_i hu
    cases h; cases hx
    exact ⟨_, by simp only [Builtin.len_, e1, e2, Sem.run_bind, run_underlying (undT_und hu), Result.andThen_ok]; rfl, .int _ _⟩
  · rename_i b hu
    cases hx
    rename_i p hp
    split at h
    · rename_i es clock hm
      cases h
      obtain ⟨q, hq, ces, h1, h2⟩ := hw.obj b _ (mapOf_get hm)
      rw [hp] at hq; cases hq
      have hl : es.length = ces.size := by
        have : ∀ {a : List AEnt} {m : List MapEntry}, EntsR β a m → a.length = m.length := by
          intro a m h; induction h with
          | nil => rfl
          | cons _ _ _ _ ih => simp [ih]
        simpa using this h2
      refine ⟨goInt ces.size, ?_, by simp only [hl]; exact .int _ _⟩
      have hg : (getObj p.c).run P w = .ok (.map ces clock) w := by simp [getObj, Sem.run, h1]
      simp only [Builtin.len_, e1, e2, Sem.run_bind, run_underlying (undT_und hu), Result.andThen_ok, hg]
      rfl
    · split at h
      · rename_i kk vk c hm
        cases h
        have hget : H.get b = some (.lmap kk vk c) := by
          unfold lmapOf at hm
          split at hm
          · rename_i e; cases hm; exact e
          · cases hm
        obtain ⟨q, hq, L, ces, h0, h1, h2⟩ := hw.obj b _ hget
        rw [hp] at hq; cases hq
        have hl : L.length = ces.size := by
          have : ∀ {i : Nat} {a : List D} {m : List MapEntry}, PairsR β.zone kk vk i a m → a.length = m.length := by
            intro i a m h; induction h with
            | nil => rfl
            | cons _ _ _ _ ih => simp [ih]
          simpa using this h2
        refine ⟨goInt ces.size, ?_, ofTm_int (by rw [mkT_den hn]; simp only [Tm.dens, h0, TOp.den, hl])⟩
        have hg : (getObj p.c).run P w = .ok (.map ces L.length) w := by simp [getObj, Sem.run, h1]
        simp only [Builtin.len_, e1, e2, Sem.run_bind, run_underlying (undT_und hu), Result.andThen_ok, hg]
        rfl
      · cases h
  · cases h
theorem capA_run {t : TypeId} {x r : AV} {v : Value} {ts : List TypeId} {ty : TypeId} {rest : List Value} (h : capA P t x = some r) (hx : VR β x v) :
    ∃ u, (Builtin.cap_ (t :: ts).toArray ty (v :: rest).toArray).run P w = .ok u w ∧ VR β r u := by
  have e1 : (t :: ts).toArray[0]? = some t := by simp
  have e2 : (v :: rest).toArray[0]? = some v := by simp
  unfold capA at h
  split at h
  · rename_i hu
    cases h; cases hx
    exact ⟨_, by simp only [Builtin.cap_, e1, e2, Sem.run_bind, run_underlying (undT_und hu), Result.andThen_ok]; rfl, .int _ _⟩
  · rename_i hu
    cases h
    cases hx with
    | @slice _ p _ _ _ c hp hc hl =>
    have : c = _ := hc
    subst this
    exact ⟨_, by simp only [Builtin.cap_, e1, e2, Sem.run_bind, run_underlying (undT_und hu), Result.andThen_ok]; rfl, .int _ _⟩
  · rename_i hu
    cases h
    exact ⟨_, by simp only [Builtin.cap_, e1, e2, Sem.run_bind, run_underlying (undT_und hu), Result.andThen_ok]; rfl, .int _ _⟩
  · cases h
omit [Val] in
theorem foldl_none {f : Option Int → AV → Option Int} (hf : ∀ v, f none v = none) : ∀ l : List AV, l.foldl f none = none
  | [] => rfl
  | v :: r => by rw [List.foldl_cons, hf]; exact foldl_none hf r
theorem minA_run {l : List AV} {r : AV} {vs : List Value} {ts : Array TypeId} {ty : TypeId} (h : minA l = some r) (hl : VRs β l vs) : ∃ u, (Builtin.min_ ts ty vs.toArray).run P w = .ok u w ∧ VR β r u := by
  unfold minA at h
  split at h
  · rename_i k x rest
    cases hl with
    | cons h1 hs =>
    cases h1
    rw [Option.map_eq_some_iff] at h
    obtain ⟨m, hm, rfl⟩ := h
    refine ⟨.int k m, ?_, .int k m⟩
    simp only [Builtin.min_]
    rename_i ys
    clear ts ty
    induction rest generalizing x ys with
    | nil => cases hs; simp at hm; subst hm; rfl
    | cons y rest ih =>
      cases hs with
      | cons hy hs =>
      rw [List.foldl_cons] at hm
      cases hy with
      | int j n =>
        simp only at hm
        simp only [List.foldlM_cons, Sem.run_bind, Builtin.min2, Sem.run_pure, Result.andThen_ok]
        apply ih <;> assumption
      | _ => simp only at hm; rw [foldl_none (by intro v; cases v <;> rfl)] at hm; cases hm
  · cases h
theorem maxA_run {l : List AV} {r : AV} {vs : List Value} {ts : Array TypeId} {ty : TypeId} (h : maxA l = some r) (hl : VRs β l vs) : ∃ u, (Builtin.max_ ts ty vs.toArray).run P w = .ok u w ∧ VR β r u := by
  unfold maxA at h
  split at h
  · rename_i k x rest
    cases hl with
    | cons h1 hs =>
    cases h1
    rw [Option.map_eq_some_iff] at h
    obtain ⟨m, hm, rfl⟩ := h
    refine ⟨.int k m, ?_, .int k m⟩
    simp only [Builtin.max_]
    rename_i ys
    clear ts ty
    induction rest generalizing x ys with
    | nil => cases hs; simp at hm; subst hm; rfl
    | cons y rest ih =>
      cases hs with
      | cons hy hs =>
      rw [List.foldl_cons] at hm
      cases hy with
      | int j n =>
        simp only at hm
        simp only [List.foldlM_cons, Sem.run_bind, Builtin.max2, Sem.run_pure, Result.andThen_ok]
        apply ih <;> assumption
      | _ => simp only at hm; rw [foldl_none (by intro v; cases v <;> rfl)] at hm; cases hm
  · cases h
theorem iteT_den {nf : Tm → Tm} (hn : ∀ t, (nf t).den = t.den) {c x y : Tm} {b : Bool} (h : c.den = .bool b) : (iteT nf c x y).den = if b then x.den else y.den := by
  unfold iteT
  split
  · have : b = true := by simpa [Tm.den, eq_comm] using h
    subst this; rfl
  · have : b = false := by simpa [Tm.den, eq_comm] using h
    subst this; rfl
  · rw [mkT_den hn]; simp only [Tm.dens, h, TOp.den]
theorem minS_run {nf : Tm → Tm} (hn : ∀ t, (nf t).den = t.den) {l : List AV} {r : AV} {vs : List Value} {ts : Array TypeId} {ty : TypeId} (h : minS nf l = some r) (hl : VRs β l vs) : ∃ u, (Builtin.min_ ts ty vs.toArray).run P w = .ok u w ∧ VR β r u := by
  unfold minS at h
  split at h
  · rename_i a b
    split at h
    · rename_i k s j t ha hb
      split at h
      · rename_i hk
        subst hk
        cases h
        cases hl with | cons h1 hs =>
        cases hs with | cons h2 hs =>
        cases hs
        obtain ⟨m, d1, rfl⟩ := intTm_VR ha h1
        obtain ⟨n, d2, rfl⟩ := intTm_VR hb h2
        refine ⟨.int k (if n < m then n else m), ?_, ?_⟩
        · simp only [Builtin.min_]; rfl
        · have hc : (mkT nf (.bin .lss .i64) [t, s]).den = .bool (decide (n < m)) := by rw [mkT_den hn]; simp only [Tm.dens, d1, d2, TOp.den, intD]
          refine ofTm_int ?_
          rw [iteT_den hn hc, d1, d2]
          by_cases e : n < m <;> simp [e]
      · cases h
    · cases h
  · cases h
theorem maxS_run {nf : Tm → Tm} (hn : ∀ t, (nf t).den = t.den) {l : List AV} {r : AV} {vs : List Value} {ts : Array TypeId} {ty : TypeId} (h : maxS nf l = some r) (hl : VRs β l vs) : ∃ u, (Builtin.max_ ts ty vs.toArray).run P w = .ok u w ∧ VR β r u := by
  unfold maxS at h
  split at h
  · rename_i a b
    split at h
    · rename_i k s j t ha hb
      split at h
      · rename_i hk
        subst hk
        cases h
        cases hl with | cons h1 hs =>
        cases hs with | cons h2 hs =>
        cases hs
        obtain ⟨m, d1, rfl⟩ := intTm_VR ha h1
        obtain ⟨n, d2, rfl⟩ := intTm_VR hb h2
        refine ⟨.int k (if n > m then n else m), ?_, ?_⟩
        · simp only [Builtin.max_]; rfl
        · have hc : (mkT nf (.bin .gtr .i64) [t, s]).den = .bool (decide (n > m)) := by rw [mkT_den hn]; simp only [Tm.dens, d1, d2, TOp.den, intD]
          refine ofTm_int ?_
          rw [iteT_den hn hc, d1, d2]
          by_cases e : n > m <;> simp [e]
      · cases h
    · cases h
  · cases h
theorem boundA_run {x : AV} {y n : Nat} {v : Value} {code : BoundsCode} (h : boundA x y = some n) (hx : VR β x v) : (Instr.sliceBound v y code).run P w = .ok n w ∧ n ≤ y := by
  unfold boundA at h
  split at h
  · cases hx
    split at h
    · rename_i hb
      cases h
      refine ⟨by simp [Instr.sliceBound, asIntOf, hb], by omega⟩
    · cases h
  · cases h
omit [Val] in
theorem boundA_le {x : AV} {y n : Nat} (h : boundA x y = some n) : n ≤ y := by
  unfold boundA at h
  split at h
  · split at h
    · cases h; omega
    · cases h
  · cases h
omit [Val] in
theorem optBound_le {x : Option AV} {y d n : Nat} (h : optBound x y d = some n) (hd : d ≤ y) : n ≤ y := by
  unfold optBound at h
  split at h
  · unfold boundA at h
    split at h
    · split at h
      · cases h; omega
      · cases h
    · cases h
  · cases h; exact hd
def OptR (β : Pl) : Option AV → Option Value → Prop
  | none, none => True
  | some a, some v => VR β a v
  | _, _ => False
theorem bounds3_run {isSlice : Bool} {len cap l h m : Nat} {lo hi mx : Option AV} {lo' hi' mx' : Option Value} (rl : OptR β lo lo') (rh : OptR β hi hi') (rm : OptR β mx mx')
    (hb : bounds3 cap len lo hi mx = some (l, h, m)) :
    (Instr.sliceBounds isSlice len cap lo' hi' mx').run P w = .ok (l, h, m) w ∧ l ≤ h ∧ m ≤ cap ∧ (hi.isSome = true → h ≤ m) ∧ (hi.isSome = false → h = len) ∧ (mx.isSome = false → m = cap) := by
  unfold bounds3 at hb
  split at hb
  · cases hb
  · rename_i hmx
    split at hb
    · rename_i m0 hm
      split at hb
      · rename_i h0 hh
        split at hb
        · rename_i l0 hl
          simp only [Option.some.injEq, Prod.mk.injEq] at hb
          obtain ⟨rfl, rfl, rfl⟩ := hb
          refine ⟨?_, ?_, ?_, ?_, ?_, ?_⟩
          · unfold Instr.sliceBounds
            cases mx with
            | none =>
              cases mx' with
              | some _ => exact rm.elim
              | none =>
              cases hm
              cases hi with
              | none =>
                cases hi' with
                | some _ => exact rh.elim
                | none =>
                cases hh
                cases lo with
                | none =>
                  cases lo' with
                  | some _ => exact rl.elim
                  | none => cases hl; rfl
                | some a =>
                  cases lo' with
                  | none => exact rl.elim
                  | some v =>
                    have := (boundA_run (P := P) (w := w) (code := .sliceB) hl rl).1
                    simp [this]
              | some a =>
                cases hi' with
                | none => exact rh.elim
                | some v =>
                have h1 := fun code => (boundA_run (P := P) (w := w) (code := code) hh rh).1
                cases lo with
                | none =>
                  cases lo' with
                  | some _ => exact rl.elim
                  | none => cases hl; simp [h1]
                | some b =>
                  cases lo' with
                  | none => exact rl.elim
                  | some u =>
                    have h2 := fun code => (boundA_run (P := P) (w := w) (code := code) hl rl).1
                    simp [h1, h2]
            | some a =>
              cases mx' with
              | none => exact rm.elim
              | some v =>
              have h0 := fun code => (boundA_run (P := P) (w := w) (code := code) hm rm).1
              cases hi with
              | none => simp at hmx
              | some b =>
                cases hi' with
                | none => exact rh.elim
                | some u =>
                have h1 := fun code => (boundA_run (P := P) (w := w) (code := code) hh rh).1
                cases lo with
                | none =>
                  cases lo' with
                  | some _ => exact rl.elim
                  | none => cases hl; simp [h0, h1]
                | some c =>
                  cases lo' with
                  | none => exact rl.elim
                  | some z =>
                    have h2 := fun code => (boundA_run (P := P) (w := w) (code := code) hl rl).1
                    simp [h0, h1, h2]
          · exact optBound_le hl (Nat.zero_le _)
          · exact optBound_le hm (Nat.le_refl _)
          · intro hs
            cases hi with
            | none => simp at hs
            | some a => exact boundA_le hh
          · intro hs
            cases hi with
            | none => cases hh; rfl
            | some a => simp at hs
          · intro hs
            cases mx with
            | none => cases hm; rfl
            | some a => simp at hs
        · cases hb
      · cases hb
    · cases hb
omit [Val] in
theorem boundA_wider {x : AV} {y z n : Nat} (h : boundA x y = some n) (hz : y ≤ z) : boundA x z = some n := by
  unfold boundA at h ⊢
  split at h
  · split at h
    · rename_i hb
      cases h
      rw [if_pos ⟨hb.1, by omega⟩]
    · cases h
  · cases h
omit [Val] in
theorem bounds3_wider {len k c l h m : Nat} {lo hi mx : Option AV} (hb : bounds3 k len lo hi mx = some (l, h, m)) (hc : k ≤ c) : bounds3 c len lo hi mx = some (l, h, if mx.isSome then m else c) := by
  unfold bounds3 at hb ⊢
  split at hb
  · cases hb
  · rename_i hmx
    rw [if_neg hmx]
    cases mx with
    | none =>
      simp only [optBound] at hb ⊢
      cases hi with
      | none =>
        simp only at hb ⊢
        split at hb
        · rename_i l0 hl
          simp only [Option.some.injEq, Prod.mk.injEq] at hb
          obtain ⟨rfl, rfl, rfl⟩ := hb
          simp [hl]
        · cases hb
      | some a =>
        simp only at hb ⊢
        cases ha : boundA a k with
        | none => simp [ha] at hb
        | some h0 =>
          rw [boundA_wider ha hc]
          simp only [ha] at hb
          simp only
          split at hb
          · rename_i l0 hl
            simp only [Option.some.injEq, Prod.mk.injEq] at hb
            obtain ⟨rfl, rfl, rfl⟩ := hb
            simp [hl]
          · cases hb
    | some a =>
      have e : ∀ y, optBound (some a) y y = boundA a y := fun _ => rfl
      simp only [e] at hb ⊢
      cases ha : boundA a k with
      | none => simp [ha] at hb
      | some m0 =>
        rw [boundA_wider ha hc]
        simp only [ha] at hb
        simp only
        split at hb
        · rename_i h0 hh
          split at hb
          · rename_i l0 hl
            simp only [Option.some.injEq, Prod.mk.injEq] at hb
            obtain ⟨rfl, rfl, rfl⟩ := hb
            simp [hh, hl]
          · cases hb
        · cases hb
end
end Go.Tc
