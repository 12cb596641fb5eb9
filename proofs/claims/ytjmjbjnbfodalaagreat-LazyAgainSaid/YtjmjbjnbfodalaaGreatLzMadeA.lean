/- made of law 23, with 1 to 5 slots: a space with the file's pages, the member, its slots bound. Conditions: so many slots. -/
import Derived.Test.YtjmjbjnbfodalaaGreatLzB0
import Derived.Test.YtjmjbjnbfodalaaGreatLzB2
import Derived.Test.YtjmjbjnbfodalaaGreatLzB4
import Derived.Test.YtjmjbjnbfodalaaGreatLzSlot
import Derived.Test.YtjmjbjnbfodalaaGreatLzB6
import Derived.Test.YtjmjbjnbfodalaaGreatLzB8
import Derived.Test.YtjmjbjnbfodalaaGreatLzB10
import Derived.Test.YtjmjbjnbfodalaaGreatLzB12
set_option linter.unusedSimpArgs false
set_option linter.unusedVariables false
set_option linter.unusedSectionVars false
set_option maxRecDepth 1000000
namespace Go.Proofs.YtjmjbjnbfodalaaGreat
open Go.Tc
namespace lz
def segs1 : List AV := [(w32 1), (i64 4), (w64 400), (w64 0), (w64 159), (w64 159), (w32 1), (i64 5), (w64 559), (w64 256), (w64 28), (w64 28), (w32 1), (i64 6), (w64 587), (w64 512), (w64 144), (w64 144), (w32 2), (i64 6), (w64 587), (w64 512), (w64 144), (w64 144), (w32 0x6474e552), (i64 4), (w64 587), (w64 512), (w64 0), (w64 256), (w32 1), (i64 6), (w64 731), (w64 768), (w64 8), (w64 8)]
def txt1 : Tm := (.op (.hole [540]) [(.str T1), (yb 14)])
def rel1 : Tm := (.op .mk [(.op .mk [(.int 768), (.int 5), (.v 14), (.int 0)])])
theorem kA1 (g : Tm) (LT : List (Tm × Tm)) (h : LT = [(.op .len [.v 0], .int 1)]) : evFl P ((E0.know [b11, b14]).tab (LT ++ tab1)) 100000 md.cx none 1 (md.L.take 9) (startSt (xM 4)) [.lift 3031 kR] (subs [.v 1, rel1, txt1, .int 260, .v 0, g]) [(11, 1), (1, 2253), (10, 3299), (4, 2249), (2, 2828), (3, 2888), (8, 3031), (5, 3263), (6, 2504), (7, 2377)] .normal (midM segs1) = true := by subst h; kernel_rfl
theorem kZ1 : evFl P ((E0.know [yB]).tab [(.op .len [.v 5], .op .len [.v 1])]) 100000 md.cx none 1 (md.L.drop 9) (midM segs1) [] (subs [.v 4, .v 0, .v 5, .v 2, .v 3]) [(1, 1), (2, 2), (3, 3), (4, 4), (5, 5), (6, 6), (7, 7), (8, 8), (9, 28), (10, 30), (11, 29), (12, 150), (13, 11), (14, 161), (15, 170), (16, 179), (17, 188)] .ret (endM 4) = true := by kernel_rfl
theorem tab1_ok (sl : List Int) (id : Int) (h : 1 ≤ sl.length) : @AllEq (vals (md.W sl id)) tab1 := by
  unfold tab1
  refine @AllEq.app (vals (md.W sl id)) _ _ (?_) trivial
  · exact @slotRows_ok (vals (md.W sl id)) 0 _ _ _ (md.nth_W sl id 0 (by omega)) rfl rfl
theorem made1 (sl : List Int) (id : Int) (h : sl.length = 1) : ∃ tx, @Fact.Ok (vals [md.ints sl, .int id, bnds id 260 (Mof 768 1 (symOf sl)), tx, .int 260]) P G (xM 4) :=
  have ht := tab1_ok sl id (by omega)
  md.gen (by omega) (by omega) sl id (fun g => kA1 g _ rfl) kZ1 (by kernel_rfl) (by show 1 ≤ 12; omega) ht (md.len_of h) (@b11_ok (vals (md.W sl id)) ht) (@b14_ok (vals (md.W sl id)) ht) (by simp [rel1, mvs, Mof, mv, md.W, valsC, List.range_succ])
def segs2 : List AV := [(w32 1), (i64 4), (w64 400), (w64 0), (w64 183), (w64 183), (w32 1), (i64 5), (w64 583), (w64 256), (w64 40), (w64 40), (w32 1), (i64 6), (w64 623), (w64 512), (w64 144), (w64 144), (w32 2), (i64 6), (w64 623), (w64 512), (w64 144), (w64 144), (w32 0x6474e552), (i64 4), (w64 623), (w64 512), (w64 0), (w64 256), (w32 1), (i64 6), (w64 767), (w64 768), (w64 16), (w64 16)]
def txt2 : Tm := (.op (.hole [540, 564]) [(.str T2), (yb 14), (yb 15)])
def rel2 : Tm := (.op .mk [(.op .mk [(.int 768), (.int 5), (.v 14), (.int 0)]), (.op .mk [(.int 776), (.int 5), (.v 15), (.int 0)])])
theorem kA2 (g : Tm) (LT : List (Tm × Tm)) (h : LT = [(.op .len [.v 0], .int 2)]) : evFl P ((E0.know [b20, b24]).tab (LT ++ tab2)) 100000 md.cx none 1 (md.L.take 9) (startSt (xM 4)) [.lift 3850 kR] (subs [.v 1, rel2, txt2, .int 260, .v 0, g]) [(11, 1), (1, 3052), (10, 4151), (4, 3048), (2, 3627), (3, 3687), (8, 3850), (5, 4115), (6, 3303), (7, 3176)] .normal (midM segs2) = true := by subst h; kernel_rfl
theorem kZ2 : evFl P ((E0.know [yB]).tab [(.op .len [.v 5], .op .len [.v 1])]) 100000 md.cx none 1 (md.L.drop 9) (midM segs2) [] (subs [.v 4, .v 0, .v 5, .v 2, .v 3]) [(1, 1), (2, 2), (3, 3), (4, 4), (5, 5), (6, 6), (7, 7), (8, 8), (9, 28), (10, 30), (11, 29), (12, 150), (13, 11), (14, 161), (15, 170), (16, 179), (17, 188)] .ret (endM 4) = true := by kernel_rfl
theorem tab2_ok (sl : List Int) (id : Int) (h : 2 ≤ sl.length) : @AllEq (vals (md.W sl id)) tab2 := by
  unfold tab2
  refine @AllEq.app (vals (md.W sl id)) _ _ (@AllEq.app (vals (md.W sl id)) _ _ (?_) ?_) trivial
  · exact @slotRows_ok (vals (md.W sl id)) 0 _ _ _ (md.nth_W sl id 0 (by omega)) rfl rfl
  · exact @slotRows_ok (vals (md.W sl id)) 1 _ _ _ (md.nth_W sl id 1 (by omega)) rfl rfl
theorem made2 (sl : List Int) (id : Int) (h : sl.length = 2) : ∃ tx, @Fact.Ok (vals [md.ints sl, .int id, bnds id 260 (Mof 768 2 (symOf sl)), tx, .int 260]) P G (xM 4) :=
  have ht := tab2_ok sl id (by omega)
  md.gen (by omega) (by omega) sl id (fun g => kA2 g _ rfl) kZ2 (by kernel_rfl) (by show 1 ≤ 12; omega) ht (md.len_of h) (@b20_ok (vals (md.W sl id)) ht) (@b24_ok (vals (md.W sl id)) ht) (by simp [rel2, mvs, Mof, mv, md.W, valsC, List.range_succ])
def segs3 : List AV := [(w32 1), (i64 4), (w64 400), (w64 0), (w64 207), (w64 207), (w32 1), (i64 5), (w64 607), (w64 256), (w64 52), (w64 52), (w32 1), (i64 6), (w64 659), (w64 512), (w64 144), (w64 144), (w32 2), (i64 6), (w64 659), (w64 512), (w64 144), (w64 144), (w32 0x6474e552), (i64 4), (w64 659), (w64 512), (w64 0), (w64 256), (w32 1), (i64 6), (w64 803), (w64 768), (w64 24), (w64 24)]
def txt3 : Tm := (.op (.hole [540, 564, 588]) [(.str T3), (yb 14), (yb 15), (yb 16)])
def rel3 : Tm := (.op .mk [(.op .mk [(.int 768), (.int 5), (.v 14), (.int 0)]), (.op .mk [(.int 776), (.int 5), (.v 15), (.int 0)]), (.op .mk [(.int 784), (.int 5), (.v 16), (.int 0)])])
theorem kA3 (g : Tm) (LT : List (Tm × Tm)) (h : LT = [(.op .len [.v 0], .int 3)]) : evFl P ((E0.know [b29, b35]).tab (LT ++ tab3)) 100000 md.cx none 1 (md.L.take 9) (startSt (xM 4)) [.lift 4669 kR] (subs [.v 1, rel3, txt3, .int 260, .v 0, g]) [(11, 1), (1, 3851), (10, 5003), (4, 3847), (2, 4426), (3, 4486), (8, 4669), (5, 4967), (6, 4102), (7, 3975)] .normal (midM segs3) = true := by subst h; kernel_rfl
theorem kZ3 : evFl P ((E0.know [yB]).tab [(.op .len [.v 5], .op .len [.v 1])]) 100000 md.cx none 1 (md.L.drop 9) (midM segs3) [] (subs [.v 4, .v 0, .v 5, .v 2, .v 3]) [(1, 1), (2, 2), (3, 3), (4, 4), (5, 5), (6, 6), (7, 7), (8, 8), (9, 28), (10, 30), (11, 29), (12, 150), (13, 11), (14, 161), (15, 170), (16, 179), (17, 188)] .ret (endM 4) = true := by kernel_rfl
theorem tab3_ok (sl : List Int) (id : Int) (h : 3 ≤ sl.length) : @AllEq (vals (md.W sl id)) tab3 := by
  unfold tab3
  refine @AllEq.app (vals (md.W sl id)) _ _ (@AllEq.app (vals (md.W sl id)) _ _ (@AllEq.app (vals (md.W sl id)) _ _ (?_) ?_) ?_) trivial
  · exact @slotRows_ok (vals (md.W sl id)) 0 _ _ _ (md.nth_W sl id 0 (by omega)) rfl rfl
  · exact @slotRows_ok (vals (md.W sl id)) 1 _ _ _ (md.nth_W sl id 1 (by omega)) rfl rfl
  · exact @slotRows_ok (vals (md.W sl id)) 2 _ _ _ (md.nth_W sl id 2 (by omega)) rfl rfl
theorem made3 (sl : List Int) (id : Int) (h : sl.length = 3) : ∃ tx, @Fact.Ok (vals [md.ints sl, .int id, bnds id 260 (Mof 768 3 (symOf sl)), tx, .int 260]) P G (xM 4) :=
  have ht := tab3_ok sl id (by omega)
  md.gen (by omega) (by omega) sl id (fun g => kA3 g _ rfl) kZ3 (by kernel_rfl) (by show 1 ≤ 12; omega) ht (md.len_of h) (@b29_ok (vals (md.W sl id)) ht) (@b35_ok (vals (md.W sl id)) ht) (by simp [rel3, mvs, Mof, mv, md.W, valsC, List.range_succ])
def segs4 : List AV := [(w32 1), (i64 4), (w64 400), (w64 0), (w64 231), (w64 231), (w32 1), (i64 5), (w64 631), (w64 256), (w64 64), (w64 64), (w32 1), (i64 6), (w64 695), (w64 512), (w64 144), (w64 144), (w32 2), (i64 6), (w64 695), (w64 512), (w64 144), (w64 144), (w32 0x6474e552), (i64 4), (w64 695), (w64 512), (w64 0), (w64 256), (w32 1), (i64 6), (w64 839), (w64 768), (w64 32), (w64 32)]
def txt4 : Tm := (.op (.hole [540, 564, 588, 612]) [(.str T4), (yb 14), (yb 15), (yb 16), (yb 17)])
def rel4 : Tm := (.op .mk [(.op .mk [(.int 768), (.int 5), (.v 14), (.int 0)]), (.op .mk [(.int 776), (.int 5), (.v 15), (.int 0)]), (.op .mk [(.int 784), (.int 5), (.v 16), (.int 0)]), (.op .mk [(.int 792), (.int 5), (.v 17), (.int 0)])])
theorem kA4 (g : Tm) (LT : List (Tm × Tm)) (h : LT = [(.op .len [.v 0], .int 4)]) : evFl P ((E0.know [b40, b42]).tab (LT ++ tab4)) 100000 md.cx none 1 (md.L.take 9) (startSt (xM 4)) [.lift 5488 kR] (subs [.v 1, rel4, txt4, .int 260, .v 0, g]) [(11, 1), (1, 4650), (10, 5855), (4, 4646), (2, 5225), (3, 5285), (8, 5488), (5, 5819), (6, 4901), (7, 4774)] .normal (midM segs4) = true := by subst h; kernel_rfl
theorem kZ4 : evFl P ((E0.know [yB]).tab [(.op .len [.v 5], .op .len [.v 1])]) 100000 md.cx none 1 (md.L.drop 9) (midM segs4) [] (subs [.v 4, .v 0, .v 5, .v 2, .v 3]) [(1, 1), (2, 2), (3, 3), (4, 4), (5, 5), (6, 6), (7, 7), (8, 8), (9, 28), (10, 30), (11, 29), (12, 150), (13, 11), (14, 161), (15, 170), (16, 179), (17, 188)] .ret (endM 4) = true := by kernel_rfl
theorem tab4_ok (sl : List Int) (id : Int) (h : 4 ≤ sl.length) : @AllEq (vals (md.W sl id)) tab4 := by
  unfold tab4
  refine @AllEq.app (vals (md.W sl id)) _ _ (@AllEq.app (vals (md.W sl id)) _ _ (@AllEq.app (vals (md.W sl id)) _ _ (@AllEq.app (vals (md.W sl id)) _ _ (?_) ?_) ?_) ?_) trivial
  · exact @slotRows_ok (vals (md.W sl id)) 0 _ _ _ (md.nth_W sl id 0 (by omega)) rfl rfl
  · exact @slotRows_ok (vals (md.W sl id)) 1 _ _ _ (md.nth_W sl id 1 (by omega)) rfl rfl
  · exact @slotRows_ok (vals (md.W sl id)) 2 _ _ _ (md.nth_W sl id 2 (by omega)) rfl rfl
  · exact @slotRows_ok (vals (md.W sl id)) 3 _ _ _ (md.nth_W sl id 3 (by omega)) rfl rfl
theorem made4 (sl : List Int) (id : Int) (h : sl.length = 4) : ∃ tx, @Fact.Ok (vals [md.ints sl, .int id, bnds id 260 (Mof 768 4 (symOf sl)), tx, .int 260]) P G (xM 4) :=
  have ht := tab4_ok sl id (by omega)
  md.gen (by omega) (by omega) sl id (fun g => kA4 g _ rfl) kZ4 (by kernel_rfl) (by show 1 ≤ 12; omega) ht (md.len_of h) (@b40_ok (vals (md.W sl id)) ht) (@b42_ok (vals (md.W sl id)) ht) (by simp [rel4, mvs, Mof, mv, md.W, valsC, List.range_succ])
def segs5 : List AV := [(w32 1), (i64 4), (w64 400), (w64 0), (w64 255), (w64 255), (w32 1), (i64 5), (w64 655), (w64 256), (w64 76), (w64 76), (w32 1), (i64 6), (w64 731), (w64 512), (w64 144), (w64 144), (w32 2), (i64 6), (w64 731), (w64 512), (w64 144), (w64 144), (w32 0x6474e552), (i64 4), (w64 731), (w64 512), (w64 0), (w64 256), (w32 1), (i64 6), (w64 875), (w64 768), (w64 40), (w64 40)]
def txt5 : Tm := (.op (.hole [540, 564, 588, 612, 636]) [(.str T6), (yb 14), (yb 15), (yb 16), (yb 17), (yb 18)])
def rel5 : Tm := (.op .mk [(.op .mk [(.int 768), (.int 5), (.v 14), (.int 0)]), (.op .mk [(.int 776), (.int 5), (.v 15), (.int 0)]), (.op .mk [(.int 784), (.int 5), (.v 16), (.int 0)]), (.op .mk [(.int 792), (.int 5), (.v 17), (.int 0)]), (.op .mk [(.int 800), (.int 5), (.v 18), (.int 0)])])
theorem kA5 (g : Tm) (LT : List (Tm × Tm)) (h : LT = [(.op .len [.v 0], .int 5)]) : evFl P ((E0.know [b47, b50]).tab (LT ++ tab5)) 100000 md.cx none 1 (md.L.take 9) (startSt (xM 4)) [.lift 6307 kR] (subs [.v 1, rel5, txt5, .int 260, .v 0, g]) [(11, 1), (1, 5449), (10, 6707), (4, 5445), (2, 6024), (3, 6084), (8, 6307), (5, 6671), (6, 5700), (7, 5573)] .normal (midM segs5) = true := by subst h; kernel_rfl
theorem kZ5 : evFl P ((E0.know [yB]).tab [(.op .len [.v 5], .op .len [.v 1])]) 100000 md.cx none 1 (md.L.drop 9) (midM segs5) [] (subs [.v 4, .v 0, .v 5, .v 2, .v 3]) [(1, 1), (2, 2), (3, 3), (4, 4), (5, 5), (6, 6), (7, 7), (8, 8), (9, 28), (10, 30), (11, 29), (12, 150), (13, 11), (14, 161), (15, 170), (16, 179), (17, 188)] .ret (endM 4) = true := by kernel_rfl
theorem tab5_ok (sl : List Int) (id : Int) (h : 5 ≤ sl.length) : @AllEq (vals (md.W sl id)) tab5 := by
  unfold tab5
  refine @AllEq.app (vals (md.W sl id)) _ _ (@AllEq.app (vals (md.W sl id)) _ _ (@AllEq.app (vals (md.W sl id)) _ _ (@AllEq.app (vals (md.W sl id)) _ _ (@AllEq.app (vals (md.W sl id)) _ _ (?_) ?_) ?_) ?_) ?_) trivial
  · exact @slotRows_ok (vals (md.W sl id)) 0 _ _ _ (md.nth_W sl id 0 (by omega)) rfl rfl
  · exact @slotRows_ok (vals (md.W sl id)) 1 _ _ _ (md.nth_W sl id 1 (by omega)) rfl rfl
  · exact @slotRows_ok (vals (md.W sl id)) 2 _ _ _ (md.nth_W sl id 2 (by omega)) rfl rfl
  · exact @slotRows_ok (vals (md.W sl id)) 3 _ _ _ (md.nth_W sl id 3 (by omega)) rfl rfl
  · exact @slotRows_ok (vals (md.W sl id)) 4 _ _ _ (md.nth_W sl id 4 (by omega)) rfl rfl
theorem made5 (sl : List Int) (id : Int) (h : sl.length = 5) : ∃ tx, @Fact.Ok (vals [md.ints sl, .int id, bnds id 260 (Mof 768 5 (symOf sl)), tx, .int 260]) P G (xM 4) :=
  have ht := tab5_ok sl id (by omega)
  md.gen (by omega) (by omega) sl id (fun g => kA5 g _ rfl) kZ5 (by kernel_rfl) (by show 1 ≤ 12; omega) ht (md.len_of h) (@b47_ok (vals (md.W sl id)) ht) (@b50_ok (vals (md.W sl id)) ht) (by simp [rel5, mvs, Mof, mv, md.W, valsC, List.range_succ])
end lz
end Go.Proofs.YtjmjbjnbfodalaaGreat
set_option maxRecDepth 1000000
namespace Go.Proofs.YtjmjbjnbfodalaaGreat
open Go.Tc
namespace lz
def segs6 : List AV := [(w32 1), (i64 4), (w64 400), (w64 0), (w64 279), (w64 279), (w32 1), (i64 5), (w64 679), (w64 512), (w64 88), (w64 88), (w32 1), (i64 6), (w64 767), (w64 768), (w64 144), (w64 144), (w32 2), (i64 6), (w64 767), (w64 768), (w64 144), (w64 144), (w32 0x6474e552), (i64 4), (w64 767), (w64 768), (w64 0), (w64 256), (w32 1), (i64 6), (w64 911), (w64 1024), (w64 48), (w64 48)]
def txt6 : Tm := (.op (.hole [540, 564, 588, 612, 636, 660]) [(.str T8), (yb 14), (yb 15), (yb 16), (yb 17), (yb 18), (yb 19)])
def rel6 : Tm := (.op .mk [(.op .mk [(.int 1024), (.int 5), (.v 14), (.int 0)]), (.op .mk [(.int 1032), (.int 5), (.v 15), (.int 0)]), (.op .mk [(.int 1040), (.int 5), (.v 16), (.int 0)]), (.op .mk [(.int 1048), (.int 5), (.v 17), (.int 0)]), (.op .mk [(.int 1056), (.int 5), (.v 18), (.int 0)]), (.op .mk [(.int 1064), (.int 5), (.v 19), (.int 0)])])
theorem kA6 (g : Tm) (LT : List (Tm × Tm)) (h : LT = [(.op .len [.v 0], .int 6)]) : evFl P ((E0.know [b55, b58]).tab (LT ++ tab6)) 100000 md.cx none 1 (md.L.take 9) (startSt (xM 5)) [.lift 7126 kR] (subs [.v 1, rel6, txt6, .int 516, .v 0, g]) [(11, 1), (1, 6248), (10, 7559), (4, 6244), (2, 6823), (3, 6883), (8, 7126), (5, 7523), (6, 6499), (7, 6372)] .normal (midM segs6) = true := by subst h; kernel_rfl
theorem kZ6 : evFl P ((E0.know [yB]).tab [(.op .len [.v 5], .op .len [.v 1])]) 100000 md.cx none 1 (md.L.drop 9) (midM segs6) [] (subs [.v 4, .v 0, .v 5, .v 2, .v 3]) [(1, 1), (2, 2), (3, 3), (4, 4), (5, 5), (6, 6), (7, 7), (8, 8), (9, 28), (10, 30), (11, 29), (12, 150), (13, 11), (14, 161), (15, 170), (16, 179), (17, 188), (18, 197)] .ret (endM 5) = true := by kernel_rfl
theorem tab6_ok (sl : List Int) (id : Int) (h : 6 ≤ sl.length) : @AllEq (vals (md.W sl id)) tab6 := by
  unfold tab6
  refine @AllEq.app (vals (md.W sl id)) _ _ (@AllEq.app (vals (md.W sl id)) _ _ (@AllEq.app (vals (md.W sl id)) _ _ (@AllEq.app (vals (md.W sl id)) _ _ (@AllEq.app (vals (md.W sl id)) _ _ (@AllEq.app (vals (md.W sl id)) _ _ (?_) ?_) ?_) ?_) ?_) ?_) trivial
  · exact @slotRows_ok (vals (md.W sl id)) 0 _ _ _ (md.nth_W sl id 0 (by omega)) rfl rfl
  · exact @slotRows_ok (vals (md.W sl id)) 1 _ _ _ (md.nth_W sl id 1 (by omega)) rfl rfl
  · exact @slotRows_ok (vals (md.W sl id)) 2 _ _ _ (md.nth_W sl id 2 (by omega)) rfl rfl
  · exact @slotRows_ok (vals (md.W sl id)) 3 _ _ _ (md.nth_W sl id 3 (by omega)) rfl rfl
  · exact @slotRows_ok (vals (md.W sl id)) 4 _ _ _ (md.nth_W sl id 4 (by omega)) rfl rfl
  · exact @slotRows_ok (vals (md.W sl id)) 5 _ _ _ (md.nth_W sl id 5 (by omega)) rfl rfl
theorem made6 (sl : List Int) (id : Int) (h : sl.length = 6) : ∃ tx, @Fact.Ok (vals [md.ints sl, .int id, bnds id 516 (Mof 1024 6 (symOf sl)), tx, .int 516]) P G (xM 5) :=
  have ht := tab6_ok sl id (by omega)
  md.gen (by omega) (by omega) sl id (fun g => kA6 g _ rfl) kZ6 (by kernel_rfl) (by show 1 ≤ 12; omega) ht (md.len_of h) (@b55_ok (vals (md.W sl id)) ht) (@b58_ok (vals (md.W sl id)) ht) (by simp [rel6, mvs, Mof, mv, md.W, valsC, List.range_succ])
def segs7 : List AV := [(w32 1), (i64 4), (w64 400), (w64 0), (w64 303), (w64 303), (w32 1), (i64 5), (w64 703), (w64 512), (w64 100), (w64 100), (w32 1), (i64 6), (w64 803), (w64 768), (w64 144), (w64 144), (w32 2), (i64 6), (w64 803), (w64 768), (w64 144), (w64 144), (w32 0x6474e552), (i64 4), (w64 803), (w64 768), (w64 0), (w64 256), (w32 1), (i64 6), (w64 947), (w64 1024), (w64 56), (w64 56)]
def txt7 : Tm := (.op (.hole [540, 564, 588, 612, 636, 660, 684]) [(.str T10), (yb 14), (yb 15), (yb 16), (yb 17), (yb 18), (yb 19), (yb 20)])
def rel7 : Tm := (.op .mk [(.op .mk [(.int 1024), (.int 5), (.v 14), (.int 0)]), (.op .mk [(.int 1032), (.int 5), (.v 15), (.int 0)]), (.op .mk [(.int 1040), (.int 5), (.v 16), (.int 0)]), (.op .mk [(.int 1048), (.int 5), (.v 17), (.int 0)]), (.op .mk [(.int 1056), (.int 5), (.v 18), (.int 0)]), (.op .mk [(.int 1064), (.int 5), (.v 19), (.int 0)]), (.op .mk [(.int 1072), (.int 5), (.v 20), (.int 0)])])
theorem kA7 (g : Tm) (LT : List (Tm × Tm)) (h : LT = [(.op .len [.v 0], .int 7)]) : evFl P ((E0.know [b63, b66]).tab (LT ++ tab7)) 100000 md.cx none 1 (md.L.take 9) (startSt (xM 5)) [.lift 7945 kR] (subs [.v 1, rel7, txt7, .int 516, .v 0, g]) [(11, 1), (1, 7047), (10, 8411), (4, 7043), (2, 7622), (3, 7682), (8, 7945), (5, 8375), (6, 7298), (7, 7171)] .normal (midM segs7) = true := by subst h; kernel_rfl
theorem kZ7 : evFl P ((E0.know [yB]).tab [(.op .len [.v 5], .op .len [.v 1])]) 100000 md.cx none 1 (md.L.drop 9) (midM segs7) [] (subs [.v 4, .v 0, .v 5, .v 2, .v 3]) [(1, 1), (2, 2), (3, 3), (4, 4), (5, 5), (6, 6), (7, 7), (8, 8), (9, 28), (10, 30), (11, 29), (12, 150), (13, 11), (14, 161), (15, 170), (16, 179), (17, 188), (18, 197)] .ret (endM 5) = true := by kernel_rfl
theorem tab7_ok (sl : List Int) (id : Int) (h : 7 ≤ sl.length) : @AllEq (vals (md.W sl id)) tab7 := by
  unfold tab7
  refine @AllEq.app (vals (md.W sl id)) _ _ (@AllEq.app (vals (md.W sl id)) _ _ (@AllEq.app (vals (md.W sl id)) _ _ (@AllEq.app (vals (md.W sl id)) _ _ (@AllEq.app (vals (md.W sl id)) _ _ (@AllEq.app (vals (md.W sl id)) _ _ (@AllEq.app (vals (md.W sl id)) _ _ (?_) ?_) ?_) ?_) ?_) ?_) ?_) trivial
  · exact @slotRows_ok (vals (md.W sl id)) 0 _ _ _ (md.nth_W sl id 0 (by omega)) rfl rfl
  · exact @slotRows_ok (vals (md.W sl id)) 1 _ _ _ (md.nth_W sl id 1 (by omega)) rfl rfl
  · exact @slotRows_ok (vals (md.W sl id)) 2 _ _ _ (md.nth_W sl id 2 (by omega)) rfl rfl
  · exact @slotRows_ok (vals (md.W sl id)) 3 _ _ _ (md.nth_W sl id 3 (by omega)) rfl rfl
  · exact @slotRows_ok (vals (md.W sl id)) 4 _ _ _ (md.nth_W sl id 4 (by omega)) rfl rfl
  · exact @slotRows_ok (vals (md.W sl id)) 5 _ _ _ (md.nth_W sl id 5 (by omega)) rfl rfl
  · exact @slotRows_ok (vals (md.W sl id)) 6 _ _ _ (md.nth_W sl id 6 (by omega)) rfl rfl
theorem made7 (sl : List Int) (id : Int) (h : sl.length = 7) : ∃ tx, @Fact.Ok (vals [md.ints sl, .int id, bnds id 516 (Mof 1024 7 (symOf sl)), tx, .int 516]) P G (xM 5) :=
  have ht := tab7_ok sl id (by omega)
  md.gen (by omega) (by omega) sl id (fun g => kA7 g _ rfl) kZ7 (by kernel_rfl) (by show 1 ≤ 12; omega) ht (md.len_of h) (@b63_ok (vals (md.W sl id)) ht) (@b66_ok (vals (md.W sl id)) ht) (by simp [rel7, mvs, Mof, mv, md.W, valsC, List.range_succ])
def segs8 : List AV := [(w32 1), (i64 4), (w64 400), (w64 0), (w64 327), (w64 327), (w32 1), (i64 5), (w64 727), (w64 512), (w64 112), (w64 112), (w32 1), (i64 6), (w64 839), (w64 768), (w64 144), (w64 144), (w32 2), (i64 6), (w64 839), (w64 768), (w64 144), (w64 144), (w32 0x6474e552), (i64 4), (w64 839), (w64 768), (w64 0), (w64 256), (w32 1), (i64 6), (w64 983), (w64 1024), (w64 64), (w64 64)]
def txt8 : Tm := (.op (.hole [540, 564, 588, 612, 636, 660, 684, 708]) [(.str T12), (yb 14), (yb 15), (yb 16), (yb 17), (yb 18), (yb 19), (yb 20), (yb 21)])
def rel8 : Tm := (.op .mk [(.op .mk [(.int 1024), (.int 5), (.v 14), (.int 0)]), (.op .mk [(.int 1032), (.int 5), (.v 15), (.int 0)]), (.op .mk [(.int 1040), (.int 5), (.v 16), (.int 0)]), (.op .mk [(.int 1048), (.int 5), (.v 17), (.int 0)]), (.op .mk [(.int 1056), (.int 5), (.v 18), (.int 0)]), (.op .mk [(.int 1064), (.int 5), (.v 19), (.int 0)]), (.op .mk [(.int 1072), (.int 5), (.v 20), (.int 0)]), (.op .mk [(.int 1080), (.int 5), (.v 21), (.int 0)])])
theorem kA8 (g : Tm) (LT : List (Tm × Tm)) (h : LT = [(.op .len [.v 0], .int 8)]) : evFl P ((E0.know [b72, b75]).tab (LT ++ tab8)) 100000 md.cx none 1 (md.L.take 9) (startSt (xM 5)) [.lift 8764 kR] (subs [.v 1, rel8, txt8, .int 516, .v 0, g]) [(11, 1), (1, 7846), (10, 9263), (4, 7842), (2, 8421), (3, 8481), (8, 8764), (5, 9227), (6, 8097), (7, 7970)] .normal (midM segs8) = true := by subst h; kernel_rfl
theorem kZ8 : evFl P ((E0.know [yB]).tab [(.op .len [.v 5], .op .len [.v 1])]) 100000 md.cx none 1 (md.L.drop 9) (midM segs8) [] (subs [.v 4, .v 0, .v 5, .v 2, .v 3]) [(1, 1), (2, 2), (3, 3), (4, 4), (5, 5), (6, 6), (7, 7), (8, 8), (9, 28), (10, 30), (11, 29), (12, 150), (13, 11), (14, 161), (15, 170), (16, 179), (17, 188), (18, 197)] .ret (endM 5) = true := by kernel_rfl
theorem tab8_ok (sl : List Int) (id : Int) (h : 8 ≤ sl.length) : @AllEq (vals (md.W sl id)) tab8 := by
  unfold tab8
  refine @AllEq.app (vals (md.W sl id)) _ _ (@AllEq.app (vals (md.W sl id)) _ _ (@AllEq.app (vals (md.W sl id)) _ _ (@AllEq.app (vals (md.W sl id)) _ _ (@AllEq.app (vals (md.W sl id)) _ _ (@AllEq.app (vals (md.W sl id)) _ _ (@AllEq.app (vals (md.W sl id)) _ _ (@AllEq.app (vals (md.W sl id)) _ _ (?_) ?_) ?_) ?_) ?_) ?_) ?_) ?_) trivial
  · exact @slotRows_ok (vals (md.W sl id)) 0 _ _ _ (md.nth_W sl id 0 (by omega)) rfl rfl
  · exact @slotRows_ok (vals (md.W sl id)) 1 _ _ _ (md.nth_W sl id 1 (by omega)) rfl rfl
  · exact @slotRows_ok (vals (md.W sl id)) 2 _ _ _ (md.nth_W sl id 2 (by omega)) rfl rfl
  · exact @slotRows_ok (vals (md.W sl id)) 3 _ _ _ (md.nth_W sl id 3 (by omega)) rfl rfl
  · exact @slotRows_ok (vals (md.W sl id)) 4 _ _ _ (md.nth_W sl id 4 (by omega)) rfl rfl
  · exact @slotRows_ok (vals (md.W sl id)) 5 _ _ _ (md.nth_W sl id 5 (by omega)) rfl rfl
  · exact @slotRows_ok (vals (md.W sl id)) 6 _ _ _ (md.nth_W sl id 6 (by omega)) rfl rfl
  · exact @slotRows_ok (vals (md.W sl id)) 7 _ _ _ (md.nth_W sl id 7 (by omega)) rfl rfl
theorem made8 (sl : List Int) (id : Int) (h : sl.length = 8) : ∃ tx, @Fact.Ok (vals [md.ints sl, .int id, bnds id 516 (Mof 1024 8 (symOf sl)), tx, .int 516]) P G (xM 5) :=
  have ht := tab8_ok sl id (by omega)
  md.gen (by omega) (by omega) sl id (fun g => kA8 g _ rfl) kZ8 (by kernel_rfl) (by show 1 ≤ 12; omega) ht (md.len_of h) (@b72_ok (vals (md.W sl id)) ht) (@b75_ok (vals (md.W sl id)) ht) (by simp [rel8, mvs, Mof, mv, md.W, valsC, List.range_succ])
def segs9 : List AV := [(w32 1), (i64 4), (w64 400), (w64 0), (w64 351), (w64 351), (w32 1), (i64 5), (w64 751), (w64 512), (w64 124), (w64 124), (w32 1), (i64 6), (w64 875), (w64 768), (w64 144), (w64 144), (w32 2), (i64 6), (w64 875), (w64 768), (w64 144), (w64 144), (w32 0x6474e552), (i64 4), (w64 875), (w64 768), (w64 0), (w64 256), (w32 1), (i64 6), (w64 1019), (w64 1024), (w64 72), (w64 72)]
def txt9 : Tm := (.op (.hole [540, 564, 588, 612, 636, 660, 684, 708, 732]) [(.str T14), (yb 14), (yb 15), (yb 16), (yb 17), (yb 18), (yb 19), (yb 20), (yb 21), (yb 22)])
def rel9 : Tm := (.op .mk [(.op .mk [(.int 1024), (.int 5), (.v 14), (.int 0)]), (.op .mk [(.int 1032), (.int 5), (.v 15), (.int 0)]), (.op .mk [(.int 1040), (.int 5), (.v 16), (.int 0)]), (.op .mk [(.int 1048), (.int 5), (.v 17), (.int 0)]), (.op .mk [(.int 1056), (.int 5), (.v 18), (.int 0)]), (.op .mk [(.int 1064), (.int 5), (.v 19), (.int 0)]), (.op .mk [(.int 1072), (.int 5), (.v 20), (.int 0)]), (.op .mk [(.int 1080), (.int 5), (.v 21), (.int 0)]), (.op .mk [(.int 1088), (.int 5), (.v 22), (.int 0)])])
theorem kA9 (g : Tm) (LT : List (Tm × Tm)) (h : LT = [(.op .len [.v 0], .int 9)]) : evFl P ((E0.know [b82, b86]).tab (LT ++ tab9)) 100000 md.cx none 1 (md.L.take 9) (startSt (xM 5)) [.lift 9583 kR] (subs [.v 1, rel9, txt9, .int 516, .v 0, g]) [(11, 1), (1, 8645), (10, 10115), (4, 8641), (2, 9220), (3, 9280), (8, 9583), (5, 10079), (6, 8896), (7, 8769)] .normal (midM segs9) = true := by subst h; kernel_rfl
theorem kZ9 : evFl P ((E0.know [yB]).tab [(.op .len [.v 5], .op .len [.v 1])]) 100000 md.cx none 1 (md.L.drop 9) (midM segs9) [] (subs [.v 4, .v 0, .v 5, .v 2, .v 3]) [(1, 1), (2, 2), (3, 3), (4, 4), (5, 5), (6, 6), (7, 7), (8, 8), (9, 28), (10, 30), (11, 29), (12, 150), (13, 11), (14, 161), (15, 170), (16, 179), (17, 188), (18, 197)] .ret (endM 5) = true := by kernel_rfl
theorem tab9_ok (sl : List Int) (id : Int) (h : 9 ≤ sl.length) : @AllEq (vals (md.W sl id)) tab9 := by
  unfold tab9
  refine @AllEq.app (vals (md.W sl id)) _ _ (@AllEq.app (vals (md.W sl id)) _ _ (@AllEq.app (vals (md.W sl id)) _ _ (@AllEq.app (vals (md.W sl id)) _ _ (@AllEq.app (vals (md.W sl id)) _ _ (@AllEq.app (vals (md.W sl id)) _ _ (@AllEq.app (vals (md.W sl id)) _ _ (@AllEq.app (vals (md.W sl id)) _ _ (@AllEq.app (vals (md.W sl id)) _ _ (?_) ?_) ?_) ?_) ?_) ?_) ?_) ?_) ?_) trivial
  · exact @slotRows_ok (vals (md.W sl id)) 0 _ _ _ (md.nth_W sl id 0 (by omega)) rfl rfl
  · exact @slotRows_ok (vals (md.W sl id)) 1 _ _ _ (md.nth_W sl id 1 (by omega)) rfl rfl
  · exact @slotRows_ok (vals (md.W sl id)) 2 _ _ _ (md.nth_W sl id 2 (by omega)) rfl rfl
  · exact @slotRows_ok (vals (md.W sl id)) 3 _ _ _ (md.nth_W sl id 3 (by omega)) rfl rfl
  · exact @slotRows_ok (vals (md.W sl id)) 4 _ _ _ (md.nth_W sl id 4 (by omega)) rfl rfl
  · exact @slotRows_ok (vals (md.W sl id)) 5 _ _ _ (md.nth_W sl id 5 (by omega)) rfl rfl
  · exact @slotRows_ok (vals (md.W sl id)) 6 _ _ _ (md.nth_W sl id 6 (by omega)) rfl rfl
  · exact @slotRows_ok (vals (md.W sl id)) 7 _ _ _ (md.nth_W sl id 7 (by omega)) rfl rfl
  · exact @slotRows_ok (vals (md.W sl id)) 8 _ _ _ (md.nth_W sl id 8 (by omega)) rfl rfl
theorem made9 (sl : List Int) (id : Int) (h : sl.length = 9) : ∃ tx, @Fact.Ok (vals [md.ints sl, .int id, bnds id 516 (Mof 1024 9 (symOf sl)), tx, .int 516]) P G (xM 5) :=
  have ht := tab9_ok sl id (by omega)
  md.gen (by omega) (by omega) sl id (fun g => kA9 g _ rfl) kZ9 (by kernel_rfl) (by show 1 ≤ 12; omega) ht (md.len_of h) (@b82_ok (vals (md.W sl id)) ht) (@b86_ok (vals (md.W sl id)) ht) (by simp [rel9, mvs, Mof, mv, md.W, valsC, List.range_succ])
end lz
end Go.Proofs.YtjmjbjnbfodalaaGreat
set_option maxRecDepth 1000000
namespace Go.Proofs.YtjmjbjnbfodalaaGreat
open Go.Tc
namespace lz
def segs10 : List AV := [(w32 1), (i64 4), (w64 400), (w64 0), (w64 375), (w64 375), (w32 1), (i64 5), (w64 775), (w64 512), (w64 136), (w64 136), (w32 1), (i64 6), (w64 911), (w64 768), (w64 144), (w64 144), (w32 2), (i64 6), (w64 911), (w64 768), (w64 144), (w64 144), (w32 0x6474e552), (i64 4), (w64 911), (w64 768), (w64 0), (w64 256), (w32 1), (i64 6), (w64 1055), (w64 1024), (w64 80), (w64 80)]
def txt10 : Tm := (.op (.hole [540, 564, 588, 612, 636, 660, 684, 708, 732, 756]) [(.str T16), (yb 14), (yb 15), (yb 16), (yb 17), (yb 18), (yb 19), (yb 20), (yb 21), (yb 22), (yb 23)])
def rel10 : Tm := (.op .mk [(.op .mk [(.int 1024), (.int 5), (.v 14), (.int 0)]), (.op .mk [(.int 1032), (.int 5), (.v 15), (.int 0)]), (.op .mk [(.int 1040), (.int 5), (.v 16), (.int 0)]), (.op .mk [(.int 1048), (.int 5), (.v 17), (.int 0)]), (.op .mk [(.int 1056), (.int 5), (.v 18), (.int 0)]), (.op .mk [(.int 1064), (.int 5), (.v 19), (.int 0)]), (.op .mk [(.int 1072), (.int 5), (.v 20), (.int 0)]), (.op .mk [(.int 1080), (.int 5), (.v 21), (.int 0)]), (.op .mk [(.int 1088), (.int 5), (.v 22), (.int 0)]), (.op .mk [(.int 1096), (.int 5), (.v 23), (.int 0)])])
theorem kA10 (g : Tm) (LT : List (Tm × Tm)) (h : LT = [(.op .len [.v 0], .int 10)]) : evFl P ((E0.know [b91, b94]).tab (LT ++ tab10)) 100000 md.cx none 1 (md.L.take 9) (startSt (xM 5)) [.lift 10402 kR] (subs [.v 1, rel10, txt10, .int 516, .v 0, g]) [(11, 1), (1, 9444), (10, 10967), (4, 9440), (2, 10019), (3, 10079), (8, 10402), (5, 10931), (6, 9695), (7, 9568)] .normal (midM segs10) = true := by subst h; kernel_rfl
theorem kZ10 : evFl P ((E0.know [yB]).tab [(.op .len [.v 5], .op .len [.v 1])]) 100000 md.cx none 1 (md.L.drop 9) (midM segs10) [] (subs [.v 4, .v 0, .v 5, .v 2, .v 3]) [(1, 1), (2, 2), (3, 3), (4, 4), (5, 5), (6, 6), (7, 7), (8, 8), (9, 28), (10, 30), (11, 29), (12, 150), (13, 11), (14, 161), (15, 170), (16, 179), (17, 188), (18, 197)] .ret (endM 5) = true := by kernel_rfl
theorem tab10_ok (sl : List Int) (id : Int) (h : 10 ≤ sl.length) : @AllEq (vals (md.W sl id)) tab10 := by
  unfold tab10
  refine @AllEq.app (vals (md.W sl id)) _ _ (@AllEq.app (vals (md.W sl id)) _ _ (@AllEq.app (vals (md.W sl id)) _ _ (@AllEq.app (vals (md.W sl id)) _ _ (@AllEq.app (vals (md.W sl id)) _ _ (@AllEq.app (vals (md.W sl id)) _ _ (@AllEq.app (vals (md.W sl id)) _ _ (@AllEq.app (vals (md.W sl id)) _ _ (@AllEq.app (vals (md.W sl id)) _ _ (@AllEq.app (vals (md.W sl id)) _ _ (?_) ?_) ?_) ?_) ?_) ?_) ?_) ?_) ?_) ?_) trivial
  · exact @slotRows_ok (vals (md.W sl id)) 0 _ _ _ (md.nth_W sl id 0 (by omega)) rfl rfl
  · exact @slotRows_ok (vals (md.W sl id)) 1 _ _ _ (md.nth_W sl id 1 (by omega)) rfl rfl
  · exact @slotRows_ok (vals (md.W sl id)) 2 _ _ _ (md.nth_W sl id 2 (by omega)) rfl rfl
  · exact @slotRows_ok (vals (md.W sl id)) 3 _ _ _ (md.nth_W sl id 3 (by omega)) rfl rfl
  · exact @slotRows_ok (vals (md.W sl id)) 4 _ _ _ (md.nth_W sl id 4 (by omega)) rfl rfl
  · exact @slotRows_ok (vals (md.W sl id)) 5 _ _ _ (md.nth_W sl id 5 (by omega)) rfl rfl
  · exact @slotRows_ok (vals (md.W sl id)) 6 _ _ _ (md.nth_W sl id 6 (by omega)) rfl rfl
  · exact @slotRows_ok (vals (md.W sl id)) 7 _ _ _ (md.nth_W sl id 7 (by omega)) rfl rfl
  · exact @slotRows_ok (vals (md.W sl id)) 8 _ _ _ (md.nth_W sl id 8 (by omega)) rfl rfl
  · exact @slotRows_ok (vals (md.W sl id)) 9 _ _ _ (md.nth_W sl id 9 (by omega)) rfl rfl
theorem made10 (sl : List Int) (id : Int) (h : sl.length = 10) : ∃ tx, @Fact.Ok (vals [md.ints sl, .int id, bnds id 516 (Mof 1024 10 (symOf sl)), tx, .int 516]) P G (xM 5) :=
  have ht := tab10_ok sl id (by omega)
  md.gen (by omega) (by omega) sl id (fun g => kA10 g _ rfl) kZ10 (by kernel_rfl) (by show 1 ≤ 12; omega) ht (md.len_of h) (@b91_ok (vals (md.W sl id)) ht) (@b94_ok (vals (md.W sl id)) ht) (by simp [rel10, mvs, Mof, mv, md.W, valsC, List.range_succ])
def segs11 : List AV := [(w32 1), (i64 4), (w64 400), (w64 0), (w64 399), (w64 399), (w32 1), (i64 5), (w64 799), (w64 512), (w64 148), (w64 148), (w32 1), (i64 6), (w64 947), (w64 768), (w64 144), (w64 144), (w32 2), (i64 6), (w64 947), (w64 768), (w64 144), (w64 144), (w32 0x6474e552), (i64 4), (w64 947), (w64 768), (w64 0), (w64 256), (w32 1), (i64 6), (w64 1091), (w64 1024), (w64 88), (w64 88)]
def txt11 : Tm := (.op (.hole [540, 564, 588, 612, 636, 660, 684, 708, 732, 756, 780]) [(.str T18), (yb 14), (yb 15), (yb 16), (yb 17), (yb 18), (yb 19), (yb 20), (yb 21), (yb 22), (yb 23), (yb 24)])
def rel11 : Tm := (.op .mk [(.op .mk [(.int 1024), (.int 5), (.v 14), (.int 0)]), (.op .mk [(.int 1032), (.int 5), (.v 15), (.int 0)]), (.op .mk [(.int 1040), (.int 5), (.v 16), (.int 0)]), (.op .mk [(.int 1048), (.int 5), (.v 17), (.int 0)]), (.op .mk [(.int 1056), (.int 5), (.v 18), (.int 0)]), (.op .mk [(.int 1064), (.int 5), (.v 19), (.int 0)]), (.op .mk [(.int 1072), (.int 5), (.v 20), (.int 0)]), (.op .mk [(.int 1080), (.int 5), (.v 21), (.int 0)]), (.op .mk [(.int 1088), (.int 5), (.v 22), (.int 0)]), (.op .mk [(.int 1096), (.int 5), (.v 23), (.int 0)]), (.op .mk [(.int 1104), (.int 5), (.v 24), (.int 0)])])
theorem kA11 (g : Tm) (LT : List (Tm × Tm)) (h : LT = [(.op .len [.v 0], .int 11)]) : evFl P ((E0.know [b99, b102]).tab (LT ++ tab11)) 100000 md.cx none 1 (md.L.take 9) (startSt (xM 5)) [.lift 11221 kR] (subs [.v 1, rel11, txt11, .int 516, .v 0, g]) [(11, 1), (1, 10243), (10, 11819), (4, 10239), (2, 10818), (3, 10878), (8, 11221), (5, 11783), (6, 10494), (7, 10367)] .normal (midM segs11) = true := by subst h; kernel_rfl
theorem kZ11 : evFl P ((E0.know [yB]).tab [(.op .len [.v 5], .op .len [.v 1])]) 100000 md.cx none 1 (md.L.drop 9) (midM segs11) [] (subs [.v 4, .v 0, .v 5, .v 2, .v 3]) [(1, 1), (2, 2), (3, 3), (4, 4), (5, 5), (6, 6), (7, 7), (8, 8), (9, 28), (10, 30), (11, 29), (12, 150), (13, 11), (14, 161), (15, 170), (16, 179), (17, 188), (18, 197)] .ret (endM 5) = true := by kernel_rfl
theorem tab11_ok (sl : List Int) (id : Int) (h : 11 ≤ sl.length) : @AllEq (vals (md.W sl id)) tab11 := by
  unfold tab11
  refine @AllEq.app (vals (md.W sl id)) _ _ (@AllEq.app (vals (md.W sl id)) _ _ (@AllEq.app (vals (md.W sl id)) _ _ (@AllEq.app (vals (md.W sl id)) _ _ (@AllEq.app (vals (md.W sl id)) _ _ (@AllEq.app (vals (md.W sl id)) _ _ (@AllEq.app (vals (md.W sl id)) _ _ (@AllEq.app (vals (md.W sl id)) _ _ (@AllEq.app (vals (md.W sl id)) _ _ (@AllEq.app (vals (md.W sl id)) _ _ (@AllEq.app (vals (md.W sl id)) _ _ (?_) ?_) ?_) ?_) ?_) ?_) ?_) ?_) ?_) ?_) ?_) trivial
  · exact @slotRows_ok (vals (md.W sl id)) 0 _ _ _ (md.nth_W sl id 0 (by omega)) rfl rfl
  · exact @slotRows_ok (vals (md.W sl id)) 1 _ _ _ (md.nth_W sl id 1 (by omega)) rfl rfl
  · exact @slotRows_ok (vals (md.W sl id)) 2 _ _ _ (md.nth_W sl id 2 (by omega)) rfl rfl
  · exact @slotRows_ok (vals (md.W sl id)) 3 _ _ _ (md.nth_W sl id 3 (by omega)) rfl rfl
  · exact @slotRows_ok (vals (md.W sl id)) 4 _ _ _ (md.nth_W sl id 4 (by omega)) rfl rfl
  · exact @slotRows_ok (vals (md.W sl id)) 5 _ _ _ (md.nth_W sl id 5 (by omega)) rfl rfl
  · exact @slotRows_ok (vals (md.W sl id)) 6 _ _ _ (md.nth_W sl id 6 (by omega)) rfl rfl
  · exact @slotRows_ok (vals (md.W sl id)) 7 _ _ _ (md.nth_W sl id 7 (by omega)) rfl rfl
  · exact @slotRows_ok (vals (md.W sl id)) 8 _ _ _ (md.nth_W sl id 8 (by omega)) rfl rfl
  · exact @slotRows_ok (vals (md.W sl id)) 9 _ _ _ (md.nth_W sl id 9 (by omega)) rfl rfl
  · exact @slotRows_ok (vals (md.W sl id)) 10 _ _ _ (md.nth_W sl id 10 (by omega)) rfl rfl
theorem made11 (sl : List Int) (id : Int) (h : sl.length = 11) : ∃ tx, @Fact.Ok (vals [md.ints sl, .int id, bnds id 516 (Mof 1024 11 (symOf sl)), tx, .int 516]) P G (xM 5) :=
  have ht := tab11_ok sl id (by omega)
  md.gen (by omega) (by omega) sl id (fun g => kA11 g _ rfl) kZ11 (by kernel_rfl) (by show 1 ≤ 12; omega) ht (md.len_of h) (@b99_ok (vals (md.W sl id)) ht) (@b102_ok (vals (md.W sl id)) ht) (by simp [rel11, mvs, Mof, mv, md.W, valsC, List.range_succ])
def segs12 : List AV := [(w32 1), (i64 4), (w64 400), (w64 0), (w64 423), (w64 423), (w32 1), (i64 5), (w64 823), (w64 512), (w64 160), (w64 160), (w32 1), (i64 6), (w64 983), (w64 768), (w64 144), (w64 144), (w32 2), (i64 6), (w64 983), (w64 768), (w64 144), (w64 144), (w32 0x6474e552), (i64 4), (w64 983), (w64 768), (w64 0), (w64 256), (w32 1), (i64 6), (w64 1127), (w64 1024), (w64 96), (w64 96)]
def txt12 : Tm := (.op (.hole [540, 564, 588, 612, 636, 660, 684, 708, 732, 756, 780, 804]) [(.str T20), (yb 14), (yb 15), (yb 16), (yb 17), (yb 18), (yb 19), (yb 20), (yb 21), (yb 22), (yb 23), (yb 24), (yb 25)])
def rel12 : Tm := (.op .mk [(.op .mk [(.int 1024), (.int 5), (.v 14), (.int 0)]), (.op .mk [(.int 1032), (.int 5), (.v 15), (.int 0)]), (.op .mk [(.int 1040), (.int 5), (.v 16), (.int 0)]), (.op .mk [(.int 1048), (.int 5), (.v 17), (.int 0)]), (.op .mk [(.int 1056), (.int 5), (.v 18), (.int 0)]), (.op .mk [(.int 1064), (.int 5), (.v 19), (.int 0)]), (.op .mk [(.int 1072), (.int 5), (.v 20), (.int 0)]), (.op .mk [(.int 1080), (.int 5), (.v 21), (.int 0)]), (.op .mk [(.int 1088), (.int 5), (.v 22), (.int 0)]), (.op .mk [(.int 1096), (.int 5), (.v 23), (.int 0)]), (.op .mk [(.int 1104), (.int 5), (.v 24), (.int 0)]), (.op .mk [(.int 1112), (.int 5), (.v 25), (.int 0)])])
theorem kA12 (g : Tm) (LT : List (Tm × Tm)) (h : LT = [(.op .len [.v 0], .int 12)]) : evFl P ((E0.know [b107, b110]).tab (LT ++ tab12)) 100000 md.cx none 1 (md.L.take 9) (startSt (xM 5)) [.lift 12040 kR] (subs [.v 1, rel12, txt12, .int 516, .v 0, g]) [(11, 1), (1, 11042), (10, 12671), (4, 11038), (2, 11617), (3, 11677), (8, 12040), (5, 12635), (6, 11293), (7, 11166)] .normal (midM segs12) = true := by subst h; kernel_rfl
theorem kZ12 : evFl P ((E0.know [yB]).tab [(.op .len [.v 5], .op .len [.v 1])]) 100000 md.cx none 1 (md.L.drop 9) (midM segs12) [] (subs [.v 4, .v 0, .v 5, .v 2, .v 3]) [(1, 1), (2, 2), (3, 3), (4, 4), (5, 5), (6, 6), (7, 7), (8, 8), (9, 28), (10, 30), (11, 29), (12, 150), (13, 11), (14, 161), (15, 170), (16, 179), (17, 188), (18, 197)] .ret (endM 5) = true := by kernel_rfl
theorem tab12_ok (sl : List Int) (id : Int) (h : 12 ≤ sl.length) : @AllEq (vals (md.W sl id)) tab12 := by
  unfold tab12
  refine @AllEq.app (vals (md.W sl id)) _ _ (@AllEq.app (vals (md.W sl id)) _ _ (@AllEq.app (vals (md.W sl id)) _ _ (@AllEq.app (vals (md.W sl id)) _ _ (@AllEq.app (vals (md.W sl id)) _ _ (@AllEq.app (vals (md.W sl id)) _ _ (@AllEq.app (vals (md.W sl id)) _ _ (@AllEq.app (vals (md.W sl id)) _ _ (@AllEq.app (vals (md.W sl id)) _ _ (@AllEq.app (vals (md.W sl id)) _ _ (@AllEq.app (vals (md.W sl id)) _ _ (@AllEq.app (vals (md.W sl id)) _ _ (?_) ?_) ?_) ?_) ?_) ?_) ?_) ?_) ?_) ?_) ?_) ?_) trivial
  · exact @slotRows_ok (vals (md.W sl id)) 0 _ _ _ (md.nth_W sl id 0 (by omega)) rfl rfl
  · exact @slotRows_ok (vals (md.W sl id)) 1 _ _ _ (md.nth_W sl id 1 (by omega)) rfl rfl
  · exact @slotRows_ok (vals (md.W sl id)) 2 _ _ _ (md.nth_W sl id 2 (by omega)) rfl rfl
  · exact @slotRows_ok (vals (md.W sl id)) 3 _ _ _ (md.nth_W sl id 3 (by omega)) rfl rfl
  · exact @slotRows_ok (vals (md.W sl id)) 4 _ _ _ (md.nth_W sl id 4 (by omega)) rfl rfl
  · exact @slotRows_ok (vals (md.W sl id)) 5 _ _ _ (md.nth_W sl id 5 (by omega)) rfl rfl
  · exact @slotRows_ok (vals (md.W sl id)) 6 _ _ _ (md.nth_W sl id 6 (by omega)) rfl rfl
  · exact @slotRows_ok (vals (md.W sl id)) 7 _ _ _ (md.nth_W sl id 7 (by omega)) rfl rfl
  · exact @slotRows_ok (vals (md.W sl id)) 8 _ _ _ (md.nth_W sl id 8 (by omega)) rfl rfl
  · exact @slotRows_ok (vals (md.W sl id)) 9 _ _ _ (md.nth_W sl id 9 (by omega)) rfl rfl
  · exact @slotRows_ok (vals (md.W sl id)) 10 _ _ _ (md.nth_W sl id 10 (by omega)) rfl rfl
  · exact @slotRows_ok (vals (md.W sl id)) 11 _ _ _ (md.nth_W sl id 11 (by omega)) rfl rfl
theorem made12 (sl : List Int) (id : Int) (h : sl.length = 12) : ∃ tx, @Fact.Ok (vals [md.ints sl, .int id, bnds id 516 (Mof 1024 12 (symOf sl)), tx, .int 516]) P G (xM 5) :=
  have ht := tab12_ok sl id (by omega)
  md.gen (by omega) (by omega) sl id (fun g => kA12 g _ rfl) kZ12 (by kernel_rfl) (by show 1 ≤ 12; omega) ht (md.len_of h) (@b107_ok (vals (md.W sl id)) ht) (@b110_ok (vals (md.W sl id)) ht) (by simp [rel12, mvs, Mof, mv, md.W, valsC, List.range_succ])
theorem kA12m (g : Tm) (LT : List (Tm × Tm)) (h : LT = md.LSS) : evFl P ((E0.know [b107, b110]).tab (LT ++ tab12)) 100000 md.cx none 1 (md.L.take 9) (startSt (xM 5)) [.lift 12040 kR] (subs [.v 1, rel12, txt12, .int 516, .v 0, g]) [(11, 1), (1, 11042), (10, 12671), (4, 11038), (2, 11617), (3, 11677), (8, 12040), (5, 12635), (6, 11293), (7, 11166)] .normal (midM segs12) = true := by subst h; kernel_rfl
theorem made12m (sl : List Int) (id : Int) (h : 12 < sl.length) : ∃ tx, @Fact.Ok (vals [md.ints sl, .int id, bnds id 516 (Mof 1024 12 (symOf sl)), tx, .int 516]) P G (xM 5) :=
  have ht := tab12_ok sl id (by omega)
  md.gen (by omega) (by omega) sl id (fun g => kA12m g _ rfl) kZ12 (by kernel_rfl) (by show 1 ≤ 12; omega) ht (md.lss_of h) (@b107_ok (vals (md.W sl id)) ht) (@b110_ok (vals (md.W sl id)) ht) (by simp [rel12, mvs, Mof, mv, md.W, valsC, List.range_succ])
end lz
end Go.Proofs.YtjmjbjnbfodalaaGreat
