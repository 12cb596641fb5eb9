/- functions without a body. -/
import Derived.Test.YtjmjbjnbfodalaaGreatTcMisc
import Derived.Lib.Bytealg
import Derived.Lib.MakeNoZero
set_option linter.unusedSimpArgs false
set_option linter.unusedVariables false
set_option linter.unusedSectionVars false
namespace Go.Tc
variable [Val]

def ExtK.Is (P : Program) (e : Array Value → Sem Value) : ExtK → Prop
  | .noEscape => e = Extern.AbiNoEscape.same
  | .indexByteString => e = Extern.BytealgIndexByte.indexByte
  | .countString => e = Extern.BytealgCount.count
  | .makeNoZero el => ∃ ps t, e = Extern.BytealgMakeNoZero.makeNoZero ps #[t] ∧ P.underlying t = some (.slice el)

/-- a function without a body, and the row that stands for it. -/
def ExtOk (P : Program) (f : FuncId) (x : ExtK) : Prop :=
  ∃ fn e, P.funcs[f]? = some fn ∧ (fn.name == "runtime.NumGoroutine") = false ∧ fn.body.isNone = true ∧ Extern.findNext fn = none ∧ Extern.find fn = some e ∧ x.Is P e

omit [Val] in
theorem findByte_index : ∀ (l : List UInt8) (c : UInt8) (i : Nat), Lib.indexByte l c = (match findByte (l.map (·.toNat)) c.toNat i with | some k => (k : Int) - i | none => -1) ∧ ∀ k, findByte (l.map (·.toNat)) c.toNat i = some k → i ≤ k
  | [], c, i => by simp [findByte, Lib.indexByte]
  | b :: l, c, i => by
    obtain ⟨h1, h2⟩ := findByte_index l c (i + 1)
    simp only [List.map_cons, findByte, Lib.indexByte]
    by_cases e : b = c
    · subst e
      simp only [beq_self_eq_true, if_true]
      exact ⟨by simp, fun k hk => by cases hk; exact Nat.le_refl _⟩
    · have en : ¬ (b.toNat = c.toNat) := fun h => e (UInt8.toNat_inj.1 h)
      have eb : (b == c) = false := by simpa using e
      simp only [eb, Bool.false_eq_true, if_false, if_neg en]
      refine ⟨?_, fun k hk => by have := h2 k hk; omega⟩
      rw [h1]
      cases hf : findByte (l.map (·.toNat)) c.toNat (i + 1) with
      | none => simp
      | some k =>
        have hk := h2 k hf
        simp only
        have : ¬ ((k : Int) - ((i + 1 : Nat) : Int) = -1) := by omega
        have hb : (((k : Int) - ((i + 1 : Nat) : Int)) == -1) = false := by simpa using this
        rw [hb]
        simp only [Bool.false_eq_true, if_false]
        omega

omit [Val] in
theorem countN_list (c : UInt8) : ∀ l : List UInt8, countN c.toNat (l.map (·.toNat)) = l.count c
  | [] => rfl
  | b :: l => by
    simp only [List.map_cons, countN, countN_list c l, List.count_cons, UInt8.toNat_inj]
    by_cases e : b = c <;> simp [e]

section
variable {P : Program} {G : Nat} {β : Pl} {H : AHeap} {w : World}

theorem digits_VRs : ∀ (n t : Nat) (acc : Array Value) (k : Nat), VRs β (List.replicate k .junk) acc.toList → VRs β (List.replicate (k + n) .junk) (Extern.BytealgMakeNoZero.digits n t acc).toList
  | 0, _, _, _, h => h
  | n + 1, t, acc, k, h => by
    have := digits_VRs n (t / 256) (acc.push (.int .u8 (Int.ofNat (t % 256)))) (k + 1) (by
      rw [Array.toList_push, List.replicate_succ']
      exact h.append (.cons (.junk _ (Nat.mod_lt _ (by omega))) .nil))
    rwa [show k + 1 + n = k + (n + 1) from by omega] at this

theorem extA0_run {f : FuncId} {x : ExtK} {args : List AV} {vs : List Value} {r : AV} {H' : AHeap} (hx : ExtOk P f x) (hw : WR G β H.get H.next w) (h : extA0 P x args H = some (r, H')) (ha : VRs β args vs) :
    ∃ β' w' z, (callFunc f vs.toArray).run P w = .ok (.value z) w' ∧ VR β' r z ∧ WR G β' H'.get H'.next w' ∧ Tran β H.get H.next w β' H'.get H'.next w' := by
  obtain ⟨fn, e, h1, h2, h3, h4, h5, h6⟩ := hx
  rw [run_callFunc_extern h1 h2 h3 h4 h5]
  unfold extA0 at h
  split at h
  · -- noEscape
    cases ha with | cons hv hs =>
    cases hs
    cases h
    subst h6
    exact ⟨β, w, _, rfl, hv, hw, Tran.refl _ _ _ _⟩
  · rename_i s c
    cases ha with | cons hv hs =>
    cases hs with | cons hc hs =>
    cases hs
    split at h
    · rename_i hcc
      simp only [Option.some.injEq, Prod.mk.injEq] at h
      obtain ⟨rfl, rfl⟩ := h
      generalize hbs : s.nats s.len = nats at *
      cases hv with | str sb =>
      rw [BS.of_nats] at hbs
      subst hbs
      cases hc
      subst h6
      have hi := (findByte_index sb.data.toList c.toNat.toUInt8 0).1
      have hcb : c.toNat.toUInt8.toNat = c.toNat := by
        simp [Nat.toUInt8]; omega
      rw [hcb] at hi
      refine ⟨β, w, .int .i64 (Lib.indexByte sb.data.toList c.toNat.toUInt8), ?_, ?_, hw, Tran.refl _ _ _ _⟩
      · rw [show [Value.string sb, Value.int .u8 c].toArray = #[.string sb, .int .u8 c] from rfl, Lib.run_indexByteString]; rfl
      · rw [hi]
        cases findByte (sb.data.toList.map (·.toNat)) c.toNat 0 with
        | none => exact .int _ _
        | some k => simp only [Int.ofNat_zero, Int.sub_zero]; exact .int _ _
    · cases h
  · rename_i s c
    cases ha with | cons hv hs =>
    cases hs with | cons hc hs =>
    cases hs
    split at h
    · rename_i hcc
      simp only [Option.some.injEq, Prod.mk.injEq] at h
      obtain ⟨rfl, rfl⟩ := h
      unfold BS.count
      generalize hbs : s.nats s.len = nats at *
      cases hv with | str sb =>
      rw [BS.of_nats] at hbs
      subst hbs
      cases hc
      subst h6
      have hcb : c.toNat.toUInt8.toNat = c.toNat := by
        simp [Nat.toUInt8]; omega
      refine ⟨β, w, .int .i64 (Lib.countByte sb.data.toList c.toNat.toUInt8), ?_, ?_, hw, Tran.refl _ _ _ _⟩
      · rw [show [Value.string sb, Value.int .u8 c].toArray = #[.string sb, .int .u8 c] from rfl, Lib.run_countString]; rfl
      · have hcn := countN_list c.toNat.toUInt8 sb.data.toList
        rw [hcb] at hcn
        rw [hcn]
        exact .int _ _
    · cases h
  · rename_i el n
    cases ha with | cons hv hs =>
    cases hs
    cases hv
    split at h
    · rename_i hn
      simp only [Option.some.injEq, Prod.mk.injEq] at h
      obtain ⟨rfl, rfl⟩ := h
      obtain ⟨ps, t, rfl, ht⟩ := h6
      obtain ⟨hn0, hn1, hsz⟩ := hn
      have hdef : Extern.BytealgMakeNoZero.makeNoZero ps #[t] #[.int .i64 n] =
          (do
            let .slice elem ← underlying t | stuck "bytealg.MakeNoZero: slice type expected"
            if n < 0 || n > 2 ^ 48 then runtimePanic (.error "makeslice: len out of range")
            let cap ← choose (.appendCap n.toNat 0 elem)
            askRoom cap
            let bytes ← choose (.extern "internal/bytealg.MakeNoZero.bytes" 0)
            let a ← newRow elem (Extern.BytealgMakeNoZero.digits cap bytes #[])
            pure (.slice (some a) n.toNat cap)) := rfl
      let cap := grownCap w n.toNat 0 el
      let by8 := (Question.extern "internal/bytealg.MakeNoZero.bytes" 0).cut (w.tape (w.drawn + 1) (.extern "internal/bytealg.MakeNoZero.bytes" 0))
      have hd : VRs β (List.replicate cap .junk) (Extern.BytealgMakeNoZero.digits cap by8 #[]).toList := by
        have := digits_VRs (β := β) cap by8 #[] 0 .nil
        simpa using this
      have hge : n.toNat ≤ cap := grownCap_ge w n.toNat 0 el
      have hlen : (Extern.BytealgMakeNoZero.digits cap by8 #[]).size = cap := by simpa using Lib.size_digits cap by8 #[]
      have htk : VRs β (List.replicate n.toNat .junk) ((Extern.BytealgMakeNoZero.digits cap by8 #[]).toList.take n.toNat) := by
        have := hd.take n.toNat
        rwa [List.take_replicate, Nat.min_eq_left hge] at this
      obtain ⟨k1, k2⟩ := grow_lay (e := el) (fz := 0) (sish := false) (rest := (Extern.BytealgMakeNoZero.digits cap by8 #[]).toList.drop n.toNat) hw.drew (fun _ _ h => h) htk
      have hN : ((Extern.BytealgMakeNoZero.digits cap by8 #[]).toList.take n.toNat).length + ((Extern.BytealgMakeNoZero.digits cap by8 #[]).toList.drop n.toNat).length = cap := by
        simp only [List.length_take, List.length_drop, Array.length_toList, hlen]; omega
      rw [hN, List.take_append_drop] at k1 k2
      have hrow : (w.drew.drew.alloc (Obj.cells (Extern.BytealgMakeNoZero.digits cap by8 #[]) el (0, 0))) = w.drew.drew.alloc (.cells (Extern.BytealgMakeNoZero.digits cap by8 #[]).toList.toArray el) := by simp
      refine ⟨β.put H.next ⟨w.drew.heap.size, 0, cap⟩, w.drew.drew.alloc (.cells (Extern.BytealgMakeNoZero.digits cap by8 #[]).toList.toArray el), .slice (some ⟨w.heap.size, 0, none⟩) n.toNat cap, ?_, ?_, ?_, ?_⟩
      · rw [show [Value.int .i64 n].toArray = #[.int .i64 n] from rfl, hdef]
        have e1 : ¬ n < 0 := by omega
        have e2 : ¬ (281474976710656 : Int) < n := by omega
        simp [run_underlying ht, e1, e2, Question.forced, newRow, hlen, cap, by8, grownCap, Result.andThen]
      · exact .slice 0 n.toNat (Pl.put_same β H.next _) ⟨by omega, by simp, by simp⟩ hge
      · rw [AHeap.get_new, AHeap.next_new]; exact k1
      · rw [AHeap.get_new, AHeap.next_new]; exact Tran.drew.trans k2
    · cases h
  · cases h

/-- a new row, of which nothing is known. -/
theorem lrow_front {β' : Pl} {w' : World} {e : TypeId} {cells : List AV} {ks : List CK} {t : Tm} {next : Nat} {g0 : Nat → Option AObj} {sish : Bool} (k3 : WR G β' (fun y => if y = next then some (AObj.row cells e (.buf 0 sish)) else g0 y) (next + 1) w')
    (hden : t.den = .list []) (hks : ks ≠ []) :
    WR G β' (fun y => if y = next then some (.lrow ks t e (.buf 0 sish)) else g0 y) (next + 1) w' ∧ SameWr (fun y => if y = next then some (AObj.row cells e (.buf 0 sish)) else g0 y) (fun y => if y = next then some (AObj.lrow ks t e (.buf 0 sish)) else g0 y) := by
  have hb : (fun y => if y = next then some (AObj.row cells e (.buf 0 sish)) else g0 y) next = some (.row cells e (.buf 0 sish)) := by simp
  obtain ⟨p, hp, hrow⟩ := k3.obj next _ hb
  have hf := RowR.front hrow 0
  have hnewo : ObjR β' w' p (.lrow ks t e (.buf 0 sish)) := ⟨[], hden, hks, by
    have : expandL ks t ([] : List D).length = [] := rfl
    rw [this]; simpa using hf⟩
  obtain ⟨q1, q2⟩ := k3.swap hb (o' := .lrow ks t e (.buf 0 sish)) rfl hp hnewo
  have hfun : (fun y => if y = next then some (AObj.lrow ks t e (.buf 0 sish)) else (fun y => if y = next then some (AObj.row cells e (.buf 0 sish)) else g0 y) y) = fun y => if y = next then some (.lrow ks t e (.buf 0 sish)) else g0 y := by
    funext y; by_cases e0 : y = next <;> simp [e0]
  rw [hfun] at q1 q2
  exact ⟨q1, q2⟩

theorem extA_run {nf : Tm → Tm} (hn : ∀ t, (nf t).den = t.den) {f : FuncId} {x : ExtK} {args : List AV} {vs : List Value} {r : AV} {H' : AHeap} (hx : ExtOk P f x) (hw : WR G β H.get H.next w) (h : extA P nf x args H = some (r, H')) (ha : VRs β args vs) :
    ∃ β' w' z, (callFunc f vs.toArray).run P w = .ok (.value z) w' ∧ VR β' r z ∧ WR G β' H'.get H'.next w' ∧ Tran β H.get H.next w β' H'.get H'.next w' := by
  unfold extA at h
  split at h
  · rename_i r1 hs
    cases h
    unfold extS at hs
    split at hs
    · rename_i s c
      split at hs
      · rename_i hcc
        simp only [Option.some.injEq, Prod.mk.injEq] at hs
        obtain ⟨rfl, rfl⟩ := hs
        cases ha with | cons hv hs =>
        cases hs with | cons hc hs =>
        cases hs
        cases hv with | sy hcell =>
        generalize hd : s.den = d at hcell
        cases hcell with | str sb =>
        cases hc
        have ha' : VRs β [.str (BS.of sb), .int .u8 c] [.string sb, .int .u8 c] := .cons (.str sb) (.cons (.int _ _) .nil)
        have h0 : extA0 P .indexByteString [.str (BS.of sb), .int .u8 c] H = some (.int .i64 ((BS.of sb).index c.toNat), H) := by
          unfold extA0 BS.index
          simp only [hcc, and_self, if_true]
          rfl
        obtain ⟨β', w', z, k1, k2, k3, k4⟩ := extA0_run hx hw h0 ha'
        refine ⟨β', w', z, k1, ?_, k3, k4⟩
        rw [ofTm_iff, mkT_den hn]
        simp only [Tm.dens, hd, Tm.den, TOp.den]
        cases k2
        exact .int _ _
      · cases hs
    · rename_i s c
      split at hs
      · rename_i hcc
        simp only [Option.some.injEq, Prod.mk.injEq] at hs
        obtain ⟨rfl, rfl⟩ := hs
        cases ha with | cons hv hs =>
        cases hs with | cons hc hs =>
        cases hs
        cases hv with | sy hcell =>
        generalize hd : s.den = d at hcell
        cases hcell with | str sb =>
        cases hc
        have ha' : VRs β [.str (BS.of sb), .int .u8 c] [.string sb, .int .u8 c] := .cons (.str sb) (.cons (.int _ _) .nil)
        have h0 : extA0 P .countString [.str (BS.of sb), .int .u8 c] H = some (.int .i64 ((BS.of sb).count c.toNat), H) := by
          unfold extA0
          simp only [hcc, and_self, if_true]
        obtain ⟨β', w', z, k1, k2, k3, k4⟩ := extA0_run hx hw h0 ha'
        refine ⟨β', w', z, k1, ?_, k3, k4⟩
        rw [ofTm_iff, mkT_den hn]
        simp only [Tm.dens, hd, Tm.den, TOp.den]
        cases k2
        exact .int _ _
      · cases hs
    · rename_i e n
      split at hs
      · rename_i hc
        obtain ⟨hc1, hc2⟩ := hc
        simp only [Option.some.injEq, Prod.mk.injEq] at hs
        obtain ⟨rfl, rfl⟩ := hs
        cases ha with | cons hv hs =>
        cases hs
        cases hv with | sy hcell =>
        generalize hd : n.den = d at hcell
        cases hcell with | int _ m =>
        have hsm := holdsT_den hn hc1
        simp only [Tm.dens, hd, TOp.den, D.bool.injEq, decide_eq_true_eq] at hsm
        have h0 : extA0 P (.makeNoZero e) [.int .i64 m] H = some (.slice H.next 0 m.toNat (.opn 1), H.new (.row (List.replicate m.toNat .junk) e (.buf 0 false))) := by
          unfold extA0
          dsimp only
          rw [if_pos ⟨hsm.1, by omega, hc2⟩]
        obtain ⟨β', w', z, k1, k2, k3, k4⟩ := extA0_run hx hw h0 (.cons (.int _ _) .nil)
        rw [AHeap.get_new, AHeap.next_new] at k3 k4
        obtain ⟨q1, q2⟩ := lrow_front (ks := [.int .u8]) (t := .op .mk []) k3 (by simp [Tm.den, Tm.dens, TOp.den]) (by simp)
        rw [AHeap.get_new, AHeap.next_new]
        refine ⟨β', w', z, k1, ?_, q1, k4.same (fun _ => rfl) q2⟩
        cases k2 with
        | @slice _ p _ _ _ c hp hcap hle =>
        have := VR.lsl (β := β') (b := H.next) (es := 1) (lo := .int 0) (len := n) (cm := .opn) (l := 0) (n := m.toNat) rfl (by rw [hd]; congr 1; omega) hp (by rw [Nat.zero_mul]; exact hcap) hle
        rwa [Nat.zero_mul] at this
      · cases hs
    · cases hs
  · exact extA0_run hx hw h ha

end
end Go.Tc
