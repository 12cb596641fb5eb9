/- copy, bytes of texts, texts over bytes, functions without a body. -/
import Derived.Test.YtjmjbjnbfodalaaGreatTcAppend
import Derived.Lib.Bytealg
import Derived.Lib.MakeNoZero
set_option linter.unusedSimpArgs false
set_option linter.unusedVariables false
set_option linter.unusedSectionVars false
namespace Go.Tc
variable [Val]
section
variable {P : Program} {G : Nat} {β : Pl} {H : AHeap} {w : World}
theorem copyA_run {t ty : TypeId} {ts : List TypeId} {d x r : AV} {v u : Value} {H' : AHeap} (hw : WR G β H.get H.next w) (h : copyA P H t d x = some (r, H')) (hd : VR β d v) (hx : VR β x u) :
    ∃ w' z, (Builtin.copy_ (t :: ts).toArray ty #[v, u]).run P w = .ok z w' ∧ VR β r z ∧ WR G β H'.get H'.next w' ∧ Tran β H.get H.next w β H'.get H'.next w' := by
  unfold copyA at h
  split at h
  · rename_i e hu
    split at h
    · split at h
      · rename_i size hs
        simp only [Option.some.injEq, Prod.mk.injEq] at h
        obtain ⟨rfl, rfl⟩ := h
        cases hx
        have hfc : (Builtin.firstCells size 0 (.slice none 0 0)).run P w = .ok #[] w := by simp [Builtin.firstCells]
        have hlen0 : (Builtin.lenOf (.slice none 0 0)).run P w = .ok 0 w := rfl
        have key : ∀ (base : Option Addr) (dl dc : Nat), (Builtin.copy_ (t :: ts).toArray ty #[.slice base dl dc, .slice none 0 0]).run P w = .ok (.int .i64 0) w := by
          intro base dl dc
          have hmin : Nat.min 0 dl = 0 := Nat.zero_min dl
          cases base with
          | none => simp [Builtin.copy_, run_underlying (undT_und hu), hlen0, sizeT_run hs, hmin, hfc, goInt]
          | some a => simp [Builtin.copy_, run_underlying (undT_und hu), hlen0, sizeT_run hs, hmin, hfc, goInt, storeCells]
        cases hd
        · exact ⟨w, _, key _ _ _, .int _ _, hw, Tran.refl _ _ _ _⟩
        · exact ⟨w, _, key _ _ _, .int _ _, hw, Tran.refl _ _ _ _⟩
        · exact ⟨w, _, key _ _ _, .int _ _, hw, Tran.refl _ _ _ _⟩
      · cases h
    split at h
    · rename_i size n m hs hn hm
      split at h
      · cases h
      · rename_i hs0
        simp only at h
        split at h
        · cases h
        · rename_i cells hsrc
          have hlen := srcLen_run (P := P) (w := w) hn hx
          obtain ⟨vs, hc, hv⟩ := firstCells_run (P := P) hw hsrc hx (fun k hk => by rw [hn] at hk; cases hk; exact Nat.min_le_left _ _)
          split at h
          · simp only [Option.some.injEq, Prod.mk.injEq] at h
            obtain ⟨rfl, rfl⟩ := h
            cases hd
            simp only [srcLen, Option.some.injEq] at hm
            subst hm
            refine ⟨w, goInt (Nat.min n 0 : Nat), ?_, .int _ _, hw, Tran.refl _ _ _ _⟩
            have hc' : (Builtin.firstCells size 0 u).run P w = .ok vs.toArray w := by simpa using hc
            simp [Builtin.copy_, run_underlying (undT_und hu), hlen, sizeT_run hs, hc']
          · rename_i b off len cap _
            cases hd with
            | @slice _ p _ _ _ c hp hcp hl =>
            rw [Option.map_eq_some_iff] at h
            obtain ⟨H1, hst, he⟩ := h
            simp only [Prod.mk.injEq] at he
            obtain ⟨rfl, rfl⟩ := he
            simp only [srcLen, Option.some.injEq] at hm
            subst hm
            obtain ⟨w', q1, q2, q3, q4⟩ := storeN_run (P := P) hw hst hv hp
            refine ⟨w', goInt (Nat.min n len : Nat), ?_, .int _ _, ?_, ?_⟩
            · have hc' : (Builtin.firstCells size (Nat.min n len) u).run P w = .ok vs.toArray w := hc
              simp [Builtin.copy_, run_underlying (undT_und hu), hlen, sizeT_run hs, hc', q1]
            · rw [q4]; exact q2
            · rw [q4]; exact q3
          · cases h
    · cases h
  · cases h
theorem strBytes_run {e src dst : TypeId} {sd : TypeDesc} {s : ByteArray} (hw : WR G β H.get H.next w) (hsrc : undT P src = some sd) (hdst : undT P dst = some (.slice e)) (he : undT P e = some (.int .u8)) (_hsz : sizeT P e = some 1) :
    ∃ β' w' z, (convert src dst (.string s)).run P w = .ok z w' ∧ VR β' (.slice H.next 0 s.size (.opn 1)) z ∧
      WR G β' (H.new (.row ((s.data.toList.map (·.toNat)).map fun (c : Nat) => AV.int .u8 (c : Int)) e (.buf 0 true))).get (H.new (.row ((s.data.toList.map (·.toNat)).map fun (c : Nat) => AV.int .u8 (c : Int)) e (.buf 0 true))).next w' ∧
      Tran β H.get H.next w β' (H.new (.row ((s.data.toList.map (·.toNat)).map fun (c : Nat) => AV.int .u8 (c : Int)) e (.buf 0 true))).get (H.new (.row ((s.data.toList.map (·.toNat)).map fun (c : Nat) => AV.int .u8 (c : Int)) e (.buf 0 true))).next w' := by
  have hge : s.size ≤ drawnCap w s.size 0 e := drawnCap_ge w s.size 0 e
  have hc : VRs β ((s.data.toList.map (·.toNat)).map fun (c : Nat) => AV.int .u8 (c : Int)) (s.data.toList.map fun b => Value.int .u8 b.toNat) := by
    rw [List.map_map]
    generalize s.data.toList = l
    induction l with
    | nil => exact .nil
    | cons b l ih => exact .cons (.int _ _) ih
  obtain ⟨k1, k2⟩ := grow_lay (e := e) (fz := 0) (sish := true) (rest := List.replicate (drawnCap w s.size 0 e - s.size) (Value.int .u8 0)) hw (fun _ _ h => h) hc
  have hN : (s.data.toList.map fun b => Value.int .u8 b.toNat).length + (List.replicate (drawnCap w s.size 0 e - s.size) (Value.int .u8 0)).length = drawnCap w s.size 0 e := by
    simp only [List.length_map, List.length_replicate, Array.length_toList]
    have : s.data.size = s.size := rfl
    omega
  rw [hN] at k1 k2
  -- the mark behind the end
  have hfz : ∀ {w0 : World} {cells : Array Value} {el : TypeId} {c : Nat}, w0.heap[c]? = some (.cells cells el (0, 0)) → (w0.freeze ⟨c, cells.size, none⟩ 1).heap[c]? = some (.cells cells el (cells.size, cells.size + 1)) := by
    intro w0 cells el c h0
    have hlt : c < w0.heap.size := (Array.getElem?_eq_some_iff.1 h0).1
    have hv : w0.heap[c] = .cells cells el (0, 0) := (Array.getElem?_eq_some_iff.1 h0).2
    unfold World.freeze
    rw [if_neg (by omega)]
    simp only
    rw [Array.getElem?_eq_getElem (by simpa using hlt), Array.getElem_modify]
    simp [hv]
  have hother : ∀ (w0 : World) (a : Addr) (c : Nat), c ≠ a.block → (w0.freeze a 1).heap[c]? = w0.heap[c]? := by
    intro w0 a c hne
    unfold World.freeze
    rw [if_neg (by omega)]
    simp [Array.getElem?_modify, Ne.symm hne]
  let cells : Array Value := ((s.data.toList.map fun b => Value.int .u8 b.toNat) ++ List.replicate (drawnCap w s.size 0 e - s.size) (Value.int .u8 0)).toArray
  have hcs : cells.size = drawnCap w s.size 0 e := by show (List.toArray _).size = _; simpa using hN
  let w1 := w.drew.alloc (.cells cells e)
  have hw1 : w1.heap[w.heap.size]? = some (.cells cells e (0, 0)) := World.alloc_heap_new w.drew _
  have hb : (fun x => if x = H.next then some (AObj.row ((s.data.toList.map (·.toNat)).map fun (c : Nat) => AV.int .u8 (c : Int)) e (.buf 0 true)) else H.get x) H.next = some (.row ((s.data.toList.map (·.toNat)).map fun (c : Nat) => AV.int .u8 (c : Int)) e (.buf 0 true)) := by simp
  obtain ⟨m1, m2⟩ := k1.turn hb rfl (Pl.put_same β H.next _) (w' := w1.freeze ⟨w.heap.size, cells.size, none⟩ 1) (o' := .row ((s.data.toList.map (·.toNat)).map fun (c : Nat) => AV.int .u8 (c : Int)) e (.buf 0 true))
    (by unfold World.freeze; rw [if_neg (by omega)]; simp [w1, cells]) (fun c hc => hother _ _ _ hc) (by unfold World.freeze; rw [if_neg (by omega)]) (by unfold World.freeze; rw [if_neg (by omega)]) (by unfold World.freeze; rw [if_neg (by omega)]) (by
      obtain ⟨q, hq, cc, lo, hi, r1, r2, r3, r4, r5⟩ := k1.obj _ _ hb
      rw [Pl.put_same] at hq; cases hq
      have : w1.heap[w.heap.size]? = some (.cells cc e (lo, hi)) := r1
      rw [hw1] at this
      obtain ⟨rfl, -, rfl, rfl⟩ : cells = cc ∧ True ∧ 0 = lo ∧ 0 = hi := by
        simp only [Option.some.injEq, Obj.cells.injEq, Prod.mk.injEq, true_and] at this
        exact ⟨this.1, trivial, this.2.1, this.2.2⟩
      refine ⟨cells, cells.size, cells.size + 1, hfz hw1, r2, r3, r4, ?_, fun h => by cases h⟩
      intro o o1 o2
      simp only at o2
      omega)
  have hext : (fun x => if x = H.next then some (AObj.row ((s.data.toList.map (·.toNat)).map fun (c : Nat) => AV.int .u8 (c : Int)) e (.buf 0 true)) else (fun x => if x = H.next then some (AObj.row ((s.data.toList.map (·.toNat)).map fun (c : Nat) => AV.int .u8 (c : Int)) e (.buf 0 true)) else H.get x) x) =
      (fun x => if x = H.next then some (AObj.row ((s.data.toList.map (·.toNat)).map fun (c : Nat) => AV.int .u8 (c : Int)) e (.buf 0 true)) else H.get x) := by
    funext x; by_cases hx : x = H.next <;> simp [hx]
  rw [hext] at m1 m2
  refine ⟨β.put H.next ⟨w.heap.size, 0, drawnCap w s.size 0 e⟩, w1.freeze ⟨w.heap.size, cells.size, none⟩ 1, .slice (some ⟨w.heap.size, 0, none⟩) s.size (drawnCap w s.size 0 e), ?_, ?_, ?_, ?_⟩
  rotate_left
  · exact .slice 0 s.size (Pl.put_same β H.next _) ⟨by omega, by simp, by simp⟩ hge
  · rw [AHeap.get_new, AHeap.next_new]; exact m1
  · rw [AHeap.get_new, AHeap.next_new]; exact k2.trans m2
  · have hforced : (Question.appendCap s.size 0 e).forced = false := rfl
    have hcells : (s.data.map fun b => Value.int .u8 b.toNat) ++ Array.replicate (drawnCap w s.size 0 e - s.size) (Value.int .u8 0) = cells := by
      apply Array.ext'; simp [cells]
    have hsh : w1.shape? w.heap.size = some (e, cells.size) := by simp [World.shape?, hw1]
    have hconv : (convert src dst (.string s)).run P w = (Conv.stringToBytes e s).run P w := by
      simp only [convert, Sem.run_bind, run_underlying (undT_und hsrc), run_underlying (undT_und hdst), Result.andThen_ok]
      cases sd <;> simp only [Sem.run_bind, run_underlying (undT_und he), Result.andThen_ok]
    rw [hconv]
    simp only [Conv.stringToBytes, Sem.run_bind, run_choose, hforced, Bool.false_eq_true, if_false, Result.andThen_ok, World.drew_eq]
    rw [show (Question.appendCap s.size 0 e).cut (w.tape w.drawn (Question.appendCap s.size 0 e)) = drawnCap w s.size 0 e from rfl, hcells]
    simp only [newRow, Sem.run_bind, run_newObj, World.alloc_eq, Result.andThen_ok, Sem.run_pure, markStringish, run_shape, World.size_drew]
    rw [show World.shape? (w.drew.alloc (Obj.cells cells e)) w.heap.size = some (e, cells.size) from hsh]
    rfl
omit [Val] in
theorem loadBytes_run {c o : Nat} : ∀ (ms : List Int) (acc : ByteArray), (∀ (j : Nat) (m : Int), ms[j]? = some m → w.cell? ⟨c, o + j, none⟩ = some (.int .u8 m)) →
    (loadBytes ⟨c, o, none⟩ acc ms.length).run P w = .ok ⟨acc.data ++ (ms.map fun m => UInt8.ofNat m.toNat).toArray⟩ w
  | [], acc, _ => by simp [loadBytes]
  | m :: ms, acc, h => by
    have h0 := h 0 m rfl
    simp only [Nat.add_zero] at h0
    have ih := loadBytes_run (o := o + 1) ms (acc.push (UInt8.ofNat m.toNat)) (fun j x hx => by
      have := h (j + 1) x (by simpa using hx)
      rwa [show o + (j + 1) = o + 1 + j from by omega] at this)
    simp only [List.length_cons, loadBytes, Sem.run_bind, run_load, h0, Result.andThen_ok]
    rw [addr_add]
    refine Eq.trans ih ?_
    congr 2
    apply Array.ext'
    simp [ByteArray.push]
omit [Val] in
theorem byte_lies {e u : TypeId} {count n o : Nat} (he : P.underlying e = some (.int .u8)) (hu : P.underlying u = some (.int .u8)) (hs : P.cellsOf e = 1) (hn : o + n ≤ count) : liesAt P P.depth e (count / P.cellsOf e) o u n = true := by
  have hd : P.depth = (2 * (P.types.size + Made.depth) + 1) + 1 := rfl
  have hl : sameLayout P P.depth e u = true := by
    rw [hd]
    simp only [sameLayout, he, hu]
    simp
  have hr : rowAt P (sameLayout P P.depth · u) P.depth e (count / P.cellsOf e) o n = true := by
    rw [hs, Nat.div_one]
    rw [show rowAt P (sameLayout P P.depth · u) P.depth = rowAt P (sameLayout P P.depth · u) ((2 * (P.types.size + Made.depth) + 1) + 1) from rfl]
    simp only [rowAt, hs, Nat.one_ne_zero, if_false, Nat.div_one, Nat.mod_one, hl]
    simp [hn]
  rw [show liesAt P P.depth = liesAt P ((2 * (P.types.size + Made.depth) + 1) + 1) from rfl]
  simp only [liesAt, hr, Bool.true_or]
omit [Val] in
theorem byteT_und {e : TypeId} (h : byteT P e = true) : undT P e = some (.int .u8) ∧ sizeT P e = some 1 := by
  unfold byteT at h
  split at h
  · rename_i h1 h2; exact ⟨h1, h2⟩
  · cases h
omit [Val] in
theorem unsafeString_def (ts : Array TypeId) (ty : TypeId) (p : Option Addr) (v : Value) : Builtin.unsafeString_ ts ty #[.pointer p, v] = (do
    let n ← asInt v
    let some pt := ts[0]? | stuck "unsafe.String: no argument types"
    if n < 0 then runtimePanic (.error "unsafe.String: len out of range")
    if n > IntKind.i64.max then unsupported (.unsafePointer "String: a length above the largest int")
    match p with
    | none =>
      if n = 0 then pure (.string .empty)
      else runtimePanic (.error "unsafe.String: ptr is nil and len is not zero")
    | some a =>
      if n = 0 then pure (.string .empty)
      else if ← variablesAt a (← elemOf pt) n.toNat then do
        let s ← loadBytes a .empty n.toNat
        freeze a n.toNat
        pure (.string s)
      else unsupported (.unsafePointer "String: not so many bytes at ptr")) := rfl
theorem bytesText_VRs {l : List AV} {vs : List Value} {r : AV} (h : bytesText l = some r) (hl : VRs β l vs) :
    ∃ ms : List Int, vs = ms.map (fun m => Value.int .u8 m) ∧ VR β r (.string ⟨(ms.map fun m => UInt8.ofNat m.toNat).toArray⟩) := by
  unfold bytesText at h
  split at h
  · rename_i ns hns
    cases h
    obtain ⟨ms, hms, rfl⟩ := bytesOfCells_VRs hns hl
    exact ⟨ms, hms, by rw [ofNats_of ms]; exact .str _⟩
  · split at h
    · rename_i m hm
      cases h
      obtain ⟨ms, hms, hd⟩ := byteTms_VRs hm hl
      exact ⟨ms, hms, ofTm_str (by rw [textOf_den, hd, ofNats_of ms])⟩
    · cases h
theorem unsafeStringA_run {pt e ty : TypeId} {ts : List TypeId} {x n r : AV} {v u : Value} {H' : AHeap} (hw : WR G β H.get H.next w) (hp : undT P pt = some (.pointer e)) (he : byteT P e = true) (h : unsafeStringA P H x n = some (r, H')) (hx : VR β x v) (hn : VR β n u) :
    ∃ w' z, (Builtin.unsafeString_ (pt :: ts).toArray ty #[v, u]).run P w = .ok z w' ∧ VR β r z ∧ WR G β H'.get H'.next w' ∧ Tran β H.get H.next w β H'.get H'.next w' := by
  have hemp : VR β (.str ⟨0, 0⟩) (.string .empty) := VR.str (β := β) .empty
  have hz : ¬ (0 > IntKind.i64.max) := by decide
  unfold unsafeStringA at h
  split at h
  · simp only [Option.some.injEq, Prod.mk.injEq] at h
    obtain ⟨rfl, rfl⟩ := h
    cases hx; cases hn
    exact ⟨w, .string .empty, by simp [unsafeString_def, asInt, asIntOf, hz], hemp, hw, Tran.refl _ _ _ _⟩
  · simp only [Option.some.injEq, Prod.mk.injEq] at h
    obtain ⟨rfl, rfl⟩ := h
    cases hx; cases hn
    exact ⟨w, .string .empty, by simp [unsafeString_def, asInt, asIntOf, hz], hemp, hw, Tran.refl _ _ _ _⟩
  · rename_i b off k m hm0
    cases hx with
    | @ptr _ p _ hb =>
    cases hn
    split at h
    · rename_i cells e' fz hr
      split at h
      · rename_i hc
        obtain ⟨c1, c2, rfl, c3⟩ := hc
        split at h
        · rename_i l hl
          simp only [Option.some.injEq, Prod.mk.injEq] at h
          obtain ⟨rfl, rfl⟩ := h
          rw [Option.bind_eq_some_iff] at hl
          obtain ⟨l0, hl0, hl1⟩ := hl
          obtain ⟨rfl, hle⟩ := takeN_take _ _ _ hl0
          obtain ⟨q, cc, lo, hi, hq, r1, r2, r3, r4, r5, r6⟩ := row_at hw hr
          rw [hb] at hq; cases hq
          have hv := r4.take m.toNat
          rw [List.take_take, Nat.min_eq_left hle] at hv
          obtain ⟨ms, hms, hres⟩ := bytesText_VRs hl1 hv
          have hcl : cc.toList.length = p.size := by simpa using r2
          have hml : ms.length = m.toNat := by
            have := congrArg List.length hms
            simp at this; omega
          obtain ⟨ue, se⟩ := byteT_und he
          obtain ⟨ue', se'⟩ := byteT_und c3
          have hce : P.cellsOf e' = 1 := by
            obtain ⟨i, h1, h2⟩ := sizeT_info se'
            simp [Program.cellsOf, h1, h2]
          have hm1 : m ≠ 0 := fun e => hm0 e
          have hcells : ∀ (j : Nat) (x : Int), ms[j]? = some x → w.cell? ⟨p.c, p.base + 0 + j, none⟩ = some (.int .u8 x) := by
            intro j x hj
            have hjl : j < m.toNat := by have := (List.getElem?_eq_some_iff.1 hj).1; omega
            have := congrArg (fun l : List Value => l[j]?) hms
            simp only [List.getElem?_take_of_lt hjl, List.getElem?_drop, List.getElem?_map, hj, Option.map_some, Array.getElem?_toList] at this
            simp only [World.cell?, r1, Nat.add_zero]
            simpa using this
          have hload := loadBytes_run (P := P) (w := w) (c := p.c) (o := p.base + 0) ms .empty hcells
          rw [hml] at hload
          have hsh : w.shape? p.c = some (e', cc.size) := by simp [World.shape?, r1]
          have hlies : liesAt P P.depth e' (cc.size / P.cellsOf e') (p.base + 0) e m.toNat = true := byte_lies (undT_und ue') (undT_und ue) hce (by omega)
          have hlt : p.c < w.heap.size := hw.bound b p hb
          have hval : w.heap[p.c] = .cells cc e' (lo, hi) := (Array.getElem?_eq_some_iff.1 r1).2
          have hpos : m.toNat ≠ 0 := by omega
          have hf1 : (w.freeze ⟨p.c, p.base + 0, none⟩ m.toNat).heap[p.c]? = some (.cells cc e' (if lo == hi then (p.base + 0, p.base + 0 + m.toNat) else (min lo (p.base + 0), max hi (p.base + 0 + m.toNat)))) := by
            unfold World.freeze
            rw [if_neg hpos]
            simp only
            rw [Array.getElem?_eq_getElem (by simpa using hlt), Array.getElem_modify]
            simp [hval]
          have hf2 : ∀ c, c ≠ p.c → (w.freeze ⟨p.c, p.base + 0, none⟩ m.toNat).heap[c]? = w.heap[c]? := by
            intro c hne
            unfold World.freeze
            rw [if_neg hpos]
            simp [Array.getElem?_modify, Ne.symm hne]
          have hturn := hw.turn (rowOf_get hr) rfl hb (w' := w.freeze ⟨p.c, p.base + 0, none⟩ m.toNat) (o' := .row cells e' (.buf (max fz m.toNat) false))
            (by unfold World.freeze; rw [if_neg hpos]; simp) hf2 (by unfold World.freeze; rw [if_neg hpos]) (by unfold World.freeze; rw [if_neg hpos]) (by unfold World.freeze; rw [if_neg hpos]) (by
              have h6 := r6 rfl
              by_cases hlh : lo = hi
              · refine ⟨cc, p.base + 0, p.base + 0 + m.toNat, ?_, r2, r3, r4, ?_, ?_⟩
                · rw [hf1]; simp [hlh]
                · intro o o1 o2; omega
                · intro _; right; omega
              · refine ⟨cc, min lo (p.base + 0), max hi (p.base + 0 + m.toNat), ?_, r2, r3, r4, ?_, ?_⟩
                · rw [hf1]; simp [hlh]
                · intro o o1 o2
                  rcases h6 with h6 | h6
                  · exact absurd h6 hlh
                  · omega
                · intro _
                  rcases h6 with h6 | h6
                  · exact absurd h6 hlh
                  · right; omega)
          refine ⟨w.freeze ⟨p.c, p.base + 0, none⟩ m.toNat, .string ⟨(ms.map fun m => UInt8.ofNat m.toNat).toArray⟩, ?_, ?_, ?_⟩
          · have h64 : ¬ (m > IntKind.i64.max) := by
              have : IntKind.i64.max = 9223372036854775807 := by decide
              omega
            have hneg : ¬ (m < 0) := by omega
            have hvar : (variablesAt ⟨p.c, p.base + 0, none⟩ e m.toNat).run P w = .ok true w := by
              simp only [variablesAt, Sem.run_bind, run_program, Result.andThen_ok, run_shape, hsh, Sem.run_pure, hlies]
            have hel : (elemOf pt).run P w = .ok e w := by simp [elemOf, run_underlying (undT_und hp)]
            simp only [unsafeString_def, List.getElem?_toArray, List.getElem?_cons_zero, Sem.run_bind, asInt, asIntOf, Sem.run_pure, Result.andThen_ok, if_neg hneg, if_neg h64, if_neg hm1, hel, hvar, if_true, hload, run_freeze]
            simp [ByteArray.empty, ByteArray.emptyWithCapacity]
            rfl
          · exact hres
          · rw [AHeap.get_set, AHeap.next_set]; exact hturn
        · cases h
      · cases h
    · cases h
  · cases h
theorem bytes_of_expand {c : Tm} {L : List D} (hL : c.den = .list L) : ∀ {vs : List Value}, VRs β (expandL [.int .u8] c L.length) vs → ∃ ms : List Int, vs = ms.map (Value.int .u8) ∧ natsOfD L = ms.map (·.toNat) := by
  intro vs h
  have hlen := h.length
  rw [expandL_len] at hlen
  simp only [List.length_cons, List.length_nil, Nat.zero_add, Nat.mul_one] at hlen
  have hg : ∀ i, i < L.length → ∃ m : Int, vs[i]? = some (.int .u8 m) ∧ L[i]? = some (.int m) := by
    intro i hi
    have he := expandL_get [.int .u8] c (n := L.length) (i := i) (j := 0) hi (by simp)
    obtain ⟨z, z1, z2⟩ := h.get he
    rw [ofTm_iff, eltTm_den (nf := id) (fun _ => rfl), nth_den _ hL] at z2
    simp only [List.length_cons, List.length_nil, Nat.zero_add, Nat.mul_one, Nat.add_zero] at z1
    have hz : eltFld [CK.int IntKind.u8] (L.getD i .bad) 0 = L.getD i .bad := rfl
    rw [hz] at z2
    have hLi : L[i]? = some (L.getD i .bad) := by rw [List.getD_eq_getElem?_getD, List.getElem?_eq_getElem hi]; rfl
    generalize L.getD i .bad = d at z2 hLi
    cases z2 with | int _ m => exact ⟨m, z1, hLi⟩
  refine ⟨L.map fun d => match d with | .int m => m | _ => 0, ?_, ?_⟩
  · apply List.ext_getElem?
    intro i
    by_cases hi : i < L.length
    · obtain ⟨m, h1, h2⟩ := hg i hi
      rw [h1, List.getElem?_map, List.getElem?_map, h2]; rfl
    · rw [List.getElem?_eq_none (by omega), List.getElem?_eq_none (by simp; omega)]
  · have : ∀ (M : List D), (∀ d ∈ M, ∃ m : Int, d = .int m) → natsOfD M = (M.map fun d => match d with | .int m => m | _ => 0).map (·.toNat) := by
      intro M
      induction M with
      | nil => intro _; rfl
      | cons d r ih =>
        intro h
        obtain ⟨m, rfl⟩ := h d (by simp)
        simp only [natsOfD, List.map_cons, D.nat]
        rw [ih fun d hd => h d (by simp [hd])]
    refine this L fun d hd => ?_
    obtain ⟨i, hi, rfl⟩ := List.getElem_of_mem hd
    obtain ⟨m, -, h2⟩ := hg i hi
    rw [List.getElem?_eq_getElem hi] at h2
    exact ⟨m, by simpa using h2⟩
theorem natsOfD_take : ∀ (n : Nat) (l : List D), natsOfD (l.take n) = (natsOfD l).take n
  | 0, l => by simp [natsOfD]
  | n + 1, [] => by simp [natsOfD]
  | n + 1, d :: r => by simp [natsOfD, natsOfD_take n r]
theorem unsafeStringS_run {nf : Tm → Tm} (hn : ∀ t, (nf t).den = t.den) {pt e ty : TypeId} {ts : List TypeId} {x n r : AV} {v u : Value} {H' : AHeap} (hw : WR G β H.get H.next w) (hp : undT P pt = some (.pointer e)) (he : byteT P e = true) (h : unsafeStringS P nf H x n = some (r, H')) (hx : VR β x v) (hnv : VR β n u) :
    ∃ w' z, (Builtin.unsafeString_ (pt :: ts).toArray ty #[v, u]).run P w = .ok z w' ∧ VR β r z ∧ WR G β H'.get H'.next w' ∧ Tran β H.get H.next w β H'.get H'.next w' := by
  unfold unsafeStringS at h
  split at h
  · rename_i b es tn
    split at h
    · rename_i c e' hr
      split at h
      · rename_i hc
        obtain ⟨rfl, c3, g1, g2, g3⟩ := hc
        simp only [Option.some.injEq, Prod.mk.injEq] at h
        obtain ⟨rfl, rfl⟩ := h
        have hbo : H.get b = some (.lrow [.int .u8] c e' (.buf 0 false)) := by
          unfold lrowOf at hr
          split at hr
          · rename_i ks t el k hg
            simp only [Option.some.injEq, Prod.mk.injEq] at hr
            obtain ⟨rfl, rfl, rfl, rfl⟩ := hr
            exact hg
          · cases hr
        cases hx with
        | @eptr _ _ _ i0 p _ hi hb =>
        have hi0 : i0 = 0 := by
          have : (D.int (0 : Int)) = D.int (i0 : Int) := hi
          injection this with this; omega
        subst hi0
        cases hnv with | sy hcell =>
        generalize hd : tn.den = d at hcell
        cases hcell with | int _ m =>
        have k1 := holdsT_den hn g1
        have k2 := holdsT_den hn g2
        have k3 := holdsT_den hn g3
        obtain ⟨q, hq, L, hL, hks, cc, lo, hi', r1, r2, r3, r4, r5, r6⟩ := hw.obj b _ hbo (by
          intro ha
          have ha : c.den = .list [] := ha
          simp only [Tm.dens, hd, Tm.den, TOp.den, intD, D.bool.injEq, decide_eq_true_eq, mkT_den hn, ha] at k1 k2
          simp at k2; omega)
        rw [hb] at hq; cases hq
        have hlen : (mkT nf .len [c]).den = .int (L.length : Int) := by rw [mkT_den hn]; simp only [Tm.dens, hL, TOp.den]
        simp only [Tm.dens, hd, Tm.den, TOp.den, intD, D.bool.injEq, decide_eq_true_eq, hlen] at k1 k2 k3
        have hmL : m.toNat ≤ L.length := by omega
        rw [expandL_len] at r3 r4
        simp only [List.length_cons, List.length_nil, Nat.zero_add, Nat.mul_one] at r3 r4
        obtain ⟨ms0, hms0, hnat⟩ := bytes_of_expand hL r4
        generalize hmsd : ms0.take m.toNat = ms
        have hms : (cc.toList.drop p.base).take m.toNat = ms.map (Value.int .u8) := by
          have := congrArg (List.take m.toNat) hms0
          rw [List.take_take, Nat.min_eq_left hmL] at this
          rw [this, ← hmsd, List.map_take]
        have hcl : cc.toList.length = p.size := by simpa using r2
        have hml : ms.length = m.toNat := by
          have := congrArg List.length hms
          simp at this; omega
        obtain ⟨ue, se⟩ := byteT_und he
        obtain ⟨ue', se'⟩ := byteT_und c3
        have hce : P.cellsOf e' = 1 := by
          obtain ⟨i, h1, h2⟩ := sizeT_info se'
          simp [Program.cellsOf, h1, h2]
        have hm1 : m ≠ 0 := by omega
        have hcells : ∀ (j : Nat) (x : Int), ms[j]? = some x → w.cell? ⟨p.c, p.base + 0 + j, none⟩ = some (.int .u8 x) := by
          intro j x hj
          have hjl : j < m.toNat := by have := (List.getElem?_eq_some_iff.1 hj).1; omega
          have := congrArg (fun l : List Value => l[j]?) hms
          simp only [List.getElem?_take_of_lt hjl, List.getElem?_drop, List.getElem?_map, hj, Option.map_some, Array.getElem?_toList] at this
          simp only [World.cell?, r1, Nat.add_zero]
          simpa using this
        have hload := loadBytes_run (P := P) (w := w) (c := p.c) (o := p.base + 0) ms .empty hcells
        rw [hml] at hload
        have hsh : w.shape? p.c = some (e', cc.size) := by simp [World.shape?, r1]
        have hlies : liesAt P P.depth e' (cc.size / P.cellsOf e') (p.base + 0) e m.toNat = true := byte_lies (undT_und ue') (undT_und ue) hce (by omega)
        have hlt : p.c < w.heap.size := hw.bound b p hb
        have hval : w.heap[p.c] = .cells cc e' (lo, hi') := (Array.getElem?_eq_some_iff.1 r1).2
        have hpos : m.toNat ≠ 0 := by omega
        have hf1 : (w.freeze ⟨p.c, p.base + 0, none⟩ m.toNat).heap[p.c]? = some (.cells cc e' (if lo == hi' then (p.base + 0, p.base + 0 + m.toNat) else (min lo (p.base + 0), max hi' (p.base + 0 + m.toNat)))) := by
          unfold World.freeze
          rw [if_neg hpos]
          simp only
          rw [Array.getElem?_eq_getElem (by simpa using hlt), Array.getElem_modify]
          simp [hval]
        have hf2 : ∀ c, c ≠ p.c → (w.freeze ⟨p.c, p.base + 0, none⟩ m.toNat).heap[c]? = w.heap[c]? := by
          intro c hne
          unfold World.freeze
          rw [if_neg hpos]
          simp [Array.getElem?_modify, Ne.symm hne]
        have r6' := r6 rfl
        obtain ⟨t1, t2⟩ := hw.turn hbo rfl hb (w' := w.freeze ⟨p.c, p.base + 0, none⟩ m.toNat) (o' := .lrow [.int .u8] c e' (.buf m.toNat false))
          (by unfold World.freeze; rw [if_neg hpos]; simp) hf2 (by unfold World.freeze; rw [if_neg hpos]) (by unfold World.freeze; rw [if_neg hpos]) (by unfold World.freeze; rw [if_neg hpos]) (by
            have hx3 : p.base + (expandL [CK.int IntKind.u8] c L.length).length ≤ p.size := by rw [expandL_len]; simpa using r3
            have hx4 : VRs β (expandL [CK.int IntKind.u8] c L.length) ((cc.toList.drop p.base).take (expandL [CK.int IntKind.u8] c L.length).length) := by rw [expandL_len]; simpa using r4
            refine ⟨L, hL, by simp, cc, if lo = hi' then p.base + 0 else min lo (p.base + 0), if lo = hi' then p.base + 0 + m.toNat else max hi' (p.base + 0 + m.toNat), ?_, r2, hx3, hx4, ?_, ?_⟩
            · rw [hf1]
              by_cases hlh : lo = hi' <;> simp [hlh]
            · intro o o1 o2
              by_cases hlh : lo = hi'
              · simp only [hlh, if_true]; omega
              · simp only [hlh, if_false]
                rcases r6' with h6 | h6
                · exact absurd h6 hlh
                · omega
            · intro _
              by_cases hlh : lo = hi'
              · simp only [hlh, if_true]; right; omega
              · simp only [hlh, if_false]
                rcases r6' with h6 | h6
                · exact absurd h6 hlh
                · right; omega)
        refine ⟨w.freeze ⟨p.c, p.base + 0, none⟩ m.toNat, .string ⟨(ms.map fun m => UInt8.ofNat m.toNat).toArray⟩, ?_, ?_, ?_, ?_⟩
        · have h64 : ¬ (m > IntKind.i64.max) := by
            have : IntKind.i64.max = 9223372036854775807 := by decide
            omega
          have hneg : ¬ (m < 0) := by omega
          have hvar : (variablesAt ⟨p.c, p.base + 0, none⟩ e m.toNat).run P w = .ok true w := by
            simp only [variablesAt, Sem.run_bind, run_program, Result.andThen_ok, run_shape, hsh, Sem.run_pure, hlies]
          have hel : (elemOf pt).run P w = .ok e w := by simp [elemOf, run_underlying (undT_und hp)]
          have hpt : (⟨p.c, p.base + (0 * 1 + 0), none⟩ : Addr) = ⟨p.c, p.base + 0, none⟩ := rfl
          simp only [hpt, unsafeString_def, List.getElem?_toArray, List.getElem?_cons_zero, Sem.run_bind, asInt, asIntOf, Sem.run_pure, Result.andThen_ok, if_neg hneg, if_neg h64, if_neg hm1, hel, hvar, if_true, hload, run_freeze]
          simp [ByteArray.empty, ByteArray.emptyWithCapacity]
          rfl
        · refine .sy ?_
          have hsub : (subL nf c (.int 0) tn).den = .list (L.take m.toNat) := by
            unfold subL
            simp only
            cases hbq : Tm.beq tn (mkT nf .len [c])
            · simp only [cond_false]
              rw [mkT_den hn]
              simp [Tm.dens, Tm.den, hL, hd, TOp.den]
            · simp only [cond_true]
              have := Tm.beq_eq _ _ hbq
              rw [this, hlen] at hd
              injection hd with hd
              rw [hL, List.take_of_length_le (by omega)]
          rw [mkT_den hn]
          simp only [Tm.dens, hsub, TOp.den, natsOfD_take, hnat]
          have : List.take m.toNat (ms0.map (·.toNat)) = ms.map (·.toNat) := by rw [← hmsd, List.map_take]
          rw [this, ofNats_of ms]
          exact .str _
        · refine t1.less fun b' o hbo' => ?_
          rw [AHeap.get_kill] at hbo'
          simp only at hbo' ⊢
          split at hbo'
          · cases hbo'
          · rename_i ne; simp only [if_neg ne]; exact hbo'
        · refine t2.less fun b' o hbo' => ?_
          rw [AHeap.get_kill] at hbo'
          simp only at hbo' ⊢
          split at hbo'
          · cases hbo'
          · rename_i ne; simp only [if_neg ne]; exact hbo'
      · cases h
    · cases h
  · cases h
end
end Go.Tc
namespace Go.Tc
variable [Val]
def ExtK.Is (P : Program) (e : Array Value → Sem Value) : ExtK → Prop
  | .noEscape => e = Extern.AbiNoEscape.same
  | .indexByteString => e = Extern.BytealgIndexByte.indexByte
  | .countString => e = Extern.BytealgCount.count
  | .makeNoZero el => ∃ ps t, e = Extern.BytealgMakeNoZero.makeNoZero ps #[t] ∧ P.underlying t = some (.slice el)
def ExtOk (P : Program) (f : FuncId) (x : ExtK) : Prop :=
  ∃ fn e, P.funcs[f]? = some fn ∧ (fn.name == "runtime.NumGoroutine") = false ∧ fn.body.isNone = true ∧ Extern.findNext fn = none ∧ Extern.find fn = some e ∧ x.Is P e
omit [Val] in
theorem findByte_index : ∀ (l : List UInt8) (c : UInt8) (i : Nat), Lib.indexByte l c = (match findByte (l.map (·.toNat)) c.toNat i with | some k => (k : Int) - i | none => -1) ∧ ∀ k, findByte (l.map (·.toNat)) c.toNat i = some k → i ≤ k
  | [], c, i => by simp [findByte, Lib.indexByte]
  | b :: l, c, i => by
    obtain ⟨h1, h2⟩ := findByte_index l c (i + 1)
    simp only [List.map_cons, findByte, Lib.indexByte]
    by_cases e : b = c
    · subst e
      simp only [beq_self_eq_true, if_true]
      exact ⟨by simp, fun k hk => by cases hk; exact Nat.le_refl _⟩
    · have en : ¬ (b.toNat = c.toNat) := fun h => e (UInt8.toNat_inj.1 h)
      have eb : (b == c) = false := by simpa using e
      simp only [eb, Bool.false_eq_true, if_false, if_neg en]
      refine ⟨?_, fun k hk => by have := h2 k hk; omega⟩
      rw [h1]
      cases hf : findByte (l.map (·.toNat)) c.toNat (i + 1) with
      | none => simp
      | some k =>
        have hk := h2 k hf
        simp only
        have : ¬ ((k : Int) - ((i + 1 : Nat) : Int) = -1) := by omega
        have hb : (((k : Int) - ((i + 1 : Nat) : Int)) == -1) = false := by simpa using this
        rw [hb]
        simp only [Bool.false_eq_true, if_false]
        omega
omit [Val] in
theorem countN_list (c : UInt8) : ∀ l : List UInt8, countN c.toNat (l.map (·.toNat)) = l.count c
  | [] => rfl
  | b :: l => by
    simp only [List.map_cons, countN, countN_list c l, List.count_cons, UInt8.toNat_inj]
    by_cases e : b = c <;> simp [e]
section
variable {P : Program} {G : Nat} {β : Pl} {H : AHeap} {w : World}
theorem digits_VRs : ∀ (n t : Nat) (acc : Array Value) (k : Nat), VRs β (List.replicate k .junk) acc.toList → VRs β (List.replicate (k + n) .junk) (Extern.BytealgMakeNoZero.digits n t acc).toList
  | 0, _, _, _, h => h
  | n + 1, t, acc, k, h => by
    have := digits_VRs n (t / 256) (acc.push (.int .u8 (Int.ofNat (t % 256)))) (k + 1) (by
      rw [Array.toList_push, List.replicate_succ']
      exact h.append (.cons (.junk _ (Nat.mod_lt _ (by omega))) .nil))
    rwa [show k + 1 + n = k + (n + 1) from by omega] at this
theorem extA0_run {f : FuncId} {x : ExtK} {args : List AV} {vs : List Value} {r : AV} {H' : AHeap} (hx : ExtOk P f x) (hw : WR G β H.get H.next w) (h : extA0 P x args H = some (r, H')) (ha : VRs β args vs) :
    ∃ β' w' z, (callFunc f vs.toArray).run P w = .ok (.value z) w' ∧ VR β' r z ∧ WR G β' H'.get H'.next w' ∧ Tran β H.get H.next w β' H'.get H'.next w' := by
  obtain ⟨fn, e, h1, h2, h3, h4, h5, h6⟩ := hx
  rw [run_callFunc_extern h1 h2 h3 h4 h5]
  unfold extA0 at h
  split at h
  · -- noEscape
    cases ha with | cons hv hs =>
    cases hs
    cases h
    subst h6
    exact ⟨β, w, _, rfl, hv, hw, Tran.refl _ _ _ _⟩
  · rename_i s c
    cases ha with | cons hv hs =>
    cases hs with | cons hc hs =>
    cases hs
    split at h
    · rename_i hcc
      simp only [Option.some.injEq, Prod.mk.injEq] at h
      obtain ⟨rfl, rfl⟩ := h
      generalize hbs : s.nats s.len = nats at *
      cases hv with | str sb =>
      rw [BS.of_nats] at hbs
      subst hbs
      cases hc
      subst h6
      have hi := (findByte_index sb.data.toList c.toNat.toUInt8 0).1
      have hcb : c.toNat.toUInt8.toNat = c.toNat := by
        simp [Nat.toUInt8]; omega
      rw [hcb] at hi
      refine ⟨β, w, .int .i64 (Lib.indexByte sb.data.toList c.toNat.toUInt8), ?_, ?_, hw, Tran.refl _ _ _ _⟩
      · rw [show [Value.string sb, Value.int .u8 c].toArray = #[.string sb, .int .u8 c] from rfl, Lib.run_indexByteString]; rfl
      · rw [hi]
        cases findByte (sb.data.toList.map (·.toNat)) c.toNat 0 with
        | none => exact .int _ _
        | some k => simp only [Int.ofNat_zero, Int.sub_zero]; exact .int _ _
    · cases h
  · rename_i s c
    cases ha with | cons hv hs =>
    cases hs with | cons hc hs =>
    cases hs
    split at h
    · rename_i hcc
      simp only [Option.some.injEq, Prod.mk.injEq] at h
      obtain ⟨rfl, rfl⟩ := h
      unfold BS.count
      generalize hbs : s.nats s.len = nats at *
      cases hv with | str sb =>
      rw [BS.of_nats] at hbs
      subst hbs
      cases hc
      subst h6
      have hcb : c.toNat.toUInt8.toNat = c.toNat := by
        simp [Nat.toUInt8]; omega
      refine ⟨β, w, .int .i64 (Lib.countByte sb.data.toList c.toNat.toUInt8), ?_, ?_, hw, Tran.refl _ _ _ _⟩
      · rw [show [Value.string sb, Value.int .u8 c].toArray = #[.string sb, .int .u8 c] from rfl, Lib.run_countString]; rfl
      · have hcn := countN_list c.toNat.toUInt8 sb.data.toList
        rw [hcb] at hcn
        rw [hcn]
        exact .int _ _
    · cases h
  · rename_i el n
    cases ha with | cons hv hs =>
    cases hs
    cases hv
    split at h
    · rename_i hn
      simp only [Option.some.injEq, Prod.mk.injEq] at h
      obtain ⟨rfl, rfl⟩ := h
      obtain ⟨ps, t, rfl, ht⟩ := h6
      obtain ⟨hn0, hn1, hsz⟩ := hn
      have hdef : Extern.BytealgMakeNoZero.makeNoZero ps #[t] #[.int .i64 n] =
          (do
            let .slice elem ← underlying t | stuck "bytealg.MakeNoZero: slice type expected"
            if n < 0 || n > 2 ^ 48 then runtimePanic (.error "makeslice: len out of range")
            let cap ← choose (.appendCap n.toNat 0 elem)
            askRoom cap
            let bytes ← choose (.extern "internal/bytealg.MakeNoZero.bytes" 0)
            let a ← newRow elem (Extern.BytealgMakeNoZero.digits cap bytes #[])
            pure (.slice (some a) n.toNat cap)) := rfl
      let cap := grownCap w n.toNat 0 el
      let by8 := (Question.extern "internal/bytealg.MakeNoZero.bytes" 0).cut (w.tape (w.drawn + 1) (.extern "internal/bytealg.MakeNoZero.bytes" 0))
      have hd : VRs β (List.replicate cap .junk) (Extern.BytealgMakeNoZero.digits cap by8 #[]).toList := by
        have := digits_VRs (β := β) cap by8 #[] 0 .nil
        simpa using this
      have hge : n.toNat ≤ cap := grownCap_ge w n.toNat 0 el
      have hlen : (Extern.BytealgMakeNoZero.digits cap by8 #[]).size = cap := by simpa using Lib.size_digits cap by8 #[]
      have htk : VRs β (List.replicate n.toNat .junk) ((Extern.BytealgMakeNoZero.digits cap by8 #[]).toList.take n.toNat) := by
        have := hd.take n.toNat
        rwa [List.take_replicate, Nat.min_eq_left hge] at this
      obtain ⟨k1, k2⟩ := grow_lay (e := el) (fz := 0) (sish := false) (rest := (Extern.BytealgMakeNoZero.digits cap by8 #[]).toList.drop n.toNat) hw.drew (fun _ _ h => h) htk
      have hN : ((Extern.BytealgMakeNoZero.digits cap by8 #[]).toList.take n.toNat).length + ((Extern.BytealgMakeNoZero.digits cap by8 #[]).toList.drop n.toNat).length = cap := by
        simp only [List.length_take, List.length_drop, Array.length_toList, hlen]; omega
      rw [hN, List.take_append_drop] at k1 k2
      have hrow : (w.drew.drew.alloc (Obj.cells (Extern.BytealgMakeNoZero.digits cap by8 #[]) el (0, 0))) = w.drew.drew.alloc (.cells (Extern.BytealgMakeNoZero.digits cap by8 #[]).toList.toArray el) := by simp
      refine ⟨β.put H.next ⟨w.drew.heap.size, 0, cap⟩, w.drew.drew.alloc (.cells (Extern.BytealgMakeNoZero.digits cap by8 #[]).toList.toArray el), .slice (some ⟨w.heap.size, 0, none⟩) n.toNat cap, ?_, ?_, ?_, ?_⟩
      · rw [show [Value.int .i64 n].toArray = #[.int .i64 n] from rfl, hdef]
        have e1 : ¬ n < 0 := by omega
        have e2 : ¬ (281474976710656 : Int) < n := by omega
        simp [run_underlying ht, e1, e2, Question.forced, newRow, hlen, cap, by8, grownCap, Result.andThen]
      · exact .slice 0 n.toNat (Pl.put_same β H.next _) ⟨by omega, by simp, by simp⟩ hge
      · rw [AHeap.get_new, AHeap.next_new]; exact k1
      · rw [AHeap.get_new, AHeap.next_new]; exact Tran.drew.trans k2
    · cases h
  · cases h
theorem lrow_front {β' : Pl} {w' : World} {e : TypeId} {cells : List AV} {ks : List CK} {t : Tm} {next : Nat} {g0 : Nat → Option AObj} {sish : Bool} (k3 : WR G β' (fun y => if y = next then some (AObj.row cells e (.buf 0 sish)) else g0 y) (next + 1) w')
    (hden : t.den = .list []) (hks : ks ≠ []) :
    WR G β' (fun y => if y = next then some (.lrow ks t e (.buf 0 sish)) else g0 y) (next + 1) w' ∧ SameWr (fun y => if y = next then some (AObj.row cells e (.buf 0 sish)) else g0 y) (fun y => if y = next then some (AObj.lrow ks t e (.buf 0 sish)) else g0 y) := by
  have hb : (fun y => if y = next then some (AObj.row cells e (.buf 0 sish)) else g0 y) next = some (.row cells e (.buf 0 sish)) := by simp
  obtain ⟨p, hp, hrow⟩ := k3.obj next _ hb
  have hf := RowR.front hrow 0
  have hnewo : ObjR β' w' p (.lrow ks t e (.buf 0 sish)) := ⟨[], hden, hks, by
    have : expandL ks t ([] : List D).length = [] := rfl
    rw [this]; simpa using hf⟩
  obtain ⟨q1, q2⟩ := k3.swap hb (o' := .lrow ks t e (.buf 0 sish)) rfl hp hnewo
  have hfun : (fun y => if y = next then some (AObj.lrow ks t e (.buf 0 sish)) else (fun y => if y = next then some (AObj.row cells e (.buf 0 sish)) else g0 y) y) = fun y => if y = next then some (.lrow ks t e (.buf 0 sish)) else g0 y := by
    funext y; by_cases e0 : y = next <;> simp [e0]
  rw [hfun] at q1 q2
  exact ⟨q1, q2⟩
theorem extA_run {nf : Tm → Tm} (hn : ∀ t, (nf t).den = t.den) {f : FuncId} {x : ExtK} {args : List AV} {vs : List Value} {r : AV} {H' : AHeap} (hx : ExtOk P f x) (hw : WR G β H.get H.next w) (h : extA P nf x args H = some (r, H')) (ha : VRs β args vs) :
    ∃ β' w' z, (callFunc f vs.toArray).run P w = .ok (.value z) w' ∧ VR β' r z ∧ WR G β' H'.get H'.next w' ∧ Tran β H.get H.next w β' H'.get H'.next w' := by
  unfold extA at h
  split at h
  · rename_i r1 hs
    cases h
    unfold extS at hs
    split at hs
    · rename_i s c
      split at hs
      · rename_i hcc
        simp only [Option.some.injEq, Prod.mk.injEq] at hs
        obtain ⟨rfl, rfl⟩ := hs
        cases ha with | cons hv hs =>
        cases hs with | cons hc hs =>
        cases hs
        cases hv with | sy hcell =>
        generalize hd : s.den = d at hcell
        cases hcell with | str sb =>
        cases hc
        have ha' : VRs β [.str (BS.of sb), .int .u8 c] [.string sb, .int .u8 c] := .cons (.str sb) (.cons (.int _ _) .nil)
        have h0 : extA0 P .indexByteString [.str (BS.of sb), .int .u8 c] H = some (.int .i64 ((BS.of sb).index c.toNat), H) := by
          unfold extA0 BS.index
          simp only [hcc, and_self, if_true]
          rfl
        obtain ⟨β', w', z, k1, k2, k3, k4⟩ := extA0_run hx hw h0 ha'
        refine ⟨β', w', z, k1, ?_, k3, k4⟩
        rw [ofTm_iff, mkT_den hn]
        simp only [Tm.dens, hd, Tm.den, TOp.den]
        cases k2
        exact .int _ _
      · cases hs
    · rename_i s c
      split at hs
      · rename_i hcc
        simp only [Option.some.injEq, Prod.mk.injEq] at hs
        obtain ⟨rfl, rfl⟩ := hs
        cases ha with | cons hv hs =>
        cases hs with | cons hc hs =>
        cases hs
        cases hv with | sy hcell =>
        generalize hd : s.den = d at hcell
        cases hcell with | str sb =>
        cases hc
        have ha' : VRs β [.str (BS.of sb), .int .u8 c] [.string sb, .int .u8 c] := .cons (.str sb) (.cons (.int _ _) .nil)
        have h0 : extA0 P .countString [.str (BS.of sb), .int .u8 c] H = some (.int .i64 ((BS.of sb).count c.toNat), H) := by
          unfold extA0
          simp only [hcc, and_self, if_true]
        obtain ⟨β', w', z, k1, k2, k3, k4⟩ := extA0_run hx hw h0 ha'
        refine ⟨β', w', z, k1, ?_, k3, k4⟩
        rw [ofTm_iff, mkT_den hn]
        simp only [Tm.dens, hd, Tm.den, TOp.den]
        cases k2
        exact .int _ _
      · cases hs
    · rename_i e n
      split at hs
      · rename_i hc
        obtain ⟨hc1, hc2⟩ := hc
        simp only [Option.some.injEq, Prod.mk.injEq] at hs
        obtain ⟨rfl, rfl⟩ := hs
        cases ha with | cons hv hs =>
        cases hs
        cases hv with | sy hcell =>
        generalize hd : n.den = d at hcell
        cases hcell with | int _ m =>
        have hsm := holdsT_den hn hc1
        simp only [Tm.dens, hd, TOp.den, D.bool.injEq, decide_eq_true_eq] at hsm
        have h0 : extA0 P (.makeNoZero e) [.int .i64 m] H = some (.slice H.next 0 m.toNat (.opn 1), H.new (.row (List.replicate m.toNat .junk) e (.buf 0 false))) := by
          unfold extA0
          dsimp only
          rw [if_pos ⟨hsm.1, by omega, hc2⟩]
        obtain ⟨β', w', z, k1, k2, k3, k4⟩ := extA0_run hx hw h0 (.cons (.int _ _) .nil)
        rw [AHeap.get_new, AHeap.next_new] at k3 k4
        obtain ⟨q1, q2⟩ := lrow_front (ks := [.int .u8]) (t := .op .mk []) k3 (by simp [Tm.den, Tm.dens, TOp.den]) (by simp)
        rw [AHeap.get_new, AHeap.next_new]
        refine ⟨β', w', z, k1, ?_, q1, k4.same (fun _ => rfl) q2⟩
        cases k2 with
        | @slice _ p _ _ _ c hp hcap hle =>
        have := VR.lsl (β := β') (b := H.next) (es := 1) (lo := .int 0) (len := n) (cm := .opn) (l := 0) (n := m.toNat) rfl (by rw [hd]; congr 1; omega) hp (by rw [Nat.zero_mul]; exact hcap) hle
        rwa [Nat.zero_mul] at this
      · cases hs
    · cases hs
  · exact extA0_run hx hw h ha
end
end Go.Tc
