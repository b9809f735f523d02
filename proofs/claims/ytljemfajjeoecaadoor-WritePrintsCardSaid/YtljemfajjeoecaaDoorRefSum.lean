/- The references' plus: the sum of two rows of digits with their signs and exponents. Conditions: digits and exponents are no more than a thousand.
The references' Add and Sub. Conditions: the numbers are of int64 and int. -/
import Derived.Test.YtljemfajjeoecaaDoorRefPair
import Derived.Test.YtljemfajjeoecaaDoorMul
namespace Go.Proofs.YtljemfajjeoecaaDoor
open Go Go.RowKit Go.Proofs Th

theorem total_add' (A A2 : Option Addr) (c c2 n m : Nat) (a b : List Nat) (hn : n = a.length) (hm : m = b.length) (ha : Digs a) (hb : Digs b) (hl : a.length = b.length) (hlt : val a + val b < 10 ^ a.length) (hM : a.length ≤ 1000000)
    (w : World) (hI : IntsAt w w.heap.size A c a) (hJ : IntsAt w w.heap.size A2 c2 b) :
    Calls Tryd.prog 114 #[.slice A n c, .slice A2 m c2, .bool false] w fun r w' => ∃ os, r = .returned (.slice (some ⟨w.heap.size, 0, none⟩) n n) ∧ Box w' w.heap.size (os.map iv) ∧ os.length = n ∧ Digs os ∧ val os = val a + val b ∧ Below w.heap.size w w' := by
  subst hn hm
  refine (ref_total_add A A2 c c2 a b ha hb hl hM (by omega) (by omega) w hI hJ).mono ?_
  rintro r w1 ⟨os, rfl, h1, h2, h3, h4, h5⟩
  exact ⟨os, rfl, h1, h2, h3, by omega, h5⟩
theorem total_sub' (A A2 : Option Addr) (c c2 n m : Nat) (a b : List Nat) (hn : n = a.length) (hm : m = b.length) (ha : Digs a) (hb : Digs b) (hl : a.length = b.length) (hge : val b ≤ val a) (hM : a.length ≤ 1000000)
    (w : World) (hI : IntsAt w w.heap.size A c a) (hJ : IntsAt w w.heap.size A2 c2 b) :
    Calls Tryd.prog 114 #[.slice A n c, .slice A2 m c2, .bool true] w fun r w' => ∃ os, r = .returned (.slice (some ⟨w.heap.size, 0, none⟩) n n) ∧ Box w' w.heap.size (os.map iv) ∧ os.length = n ∧ Digs os ∧ val os + val b = val a ∧ Below w.heap.size w w' := by
  subst hn hm
  have := val_lt a ha
  refine (ref_total_sub A A2 c c2 a b ha hb hl hM (by omega) (by omega) w hI hJ).mono ?_
  rintro r w1 ⟨os, rfl, h1, h2, h3, h4, h5⟩
  exact ⟨os, rfl, h1, h2, h3, by omega, h5⟩

theorem keep3 {W : World} {n m : Nat} {p q r v : Value} (hne : m ≠ n) (h : W.cell? ⟨n, 0, none⟩ = some v) : (((W.setCell ⟨m, 0, none⟩ p).setCell ⟨m, 1, none⟩ q).setCell ⟨m, 2, none⟩ r).cell? ⟨n, 0, none⟩ = some v := by
  rw [World.cell?_setCell_other _ _ _ _ (by intro e; injection e; omega), World.cell?_setCell_other _ _ _ _ (by intro e; injection e; omega), World.cell?_setCell_other _ _ _ _ (by intro e; injection e; omega)]
  exact h
theorem box3 {W : World} {g m : Nat} {cs : List Value} {p q r : Value} (h : Box W g cs) (hne : m ≠ g) : Box (((W.setCell ⟨m, 0, none⟩ p).setCell ⟨m, 1, none⟩ q).setCell ⟨m, 2, none⟩ r) g cs := ((h.other hne p).other hne q).other hne r
theorem Box.ints' {w : World} {g n : Nat} {ds : List Nat} (h : Box w g (ds.map iv)) (hn : n = ds.length) (hl : ds.length ≤ 1000000) : IntsAt w w.heap.size (some ⟨g, 0, none⟩) n ds := by
  subst hn; exact h.ints hl
/-- what plus hands back -/
def PlusOut (na nb : Bool) (a b : List Nat) (ea eb : Int) (neg : Bool) (os : List Nat) : Prop :=
  Digs os ∧ os.length ≤ 100000 ∧ sg neg (val os) = sg na ((val a * 10 ^ (ea - pairE a b ea eb).toNat : Nat) : Int) + sg nb ((val b * 10 ^ (eb - pairE a b ea eb).toNat : Nat) : Int)
theorem plus_out {na nb : Bool} {a b x y os : List Nat} {ea eb : Int} {neg : Bool} (hp : PairOut a b ea eb x y) (hd : Digs os) (hl : os.length = x.length) (h : sg neg (val os) = sg na (val x) + sg nb (val y)) : PlusOut na nb a b ea eb neg os :=
  ⟨hd, by rw [hl]; exact hp.few, by rw [h, hp.vx, hp.vy]⟩

set_option maxRecDepth 100000 in
set_option maxHeartbeats 2000000 in
theorem plus_ff (A B : Option Addr) (c d : Nat) (a b : List Nat) (n m : Nat) (ea eb : Int) (hn : n = a.length) (hm : m = b.length) (ha : Digs a) (hb : Digs b) (hla : n ≤ 1000) (hlb : m ≤ 1000) (h0 : -1000 ≤ ea) (h1 : ea ≤ 1000) (h2 : -1000 ≤ eb) (h3 : eb ≤ 1000)
    (w : World) (hI : IntsAt w w.heap.size A c a) (hJ : IntsAt w w.heap.size B d b) :
    Calls Tryd.prog 77 #[.agg #[.bool false, .slice A n c, .int .i64 ea], .agg #[.bool false, .slice B m d, .int .i64 eb]] w fun r w' =>
      ∃ neg A' c' os, r = .returned (longV neg A' c' os (pairE a b ea eb)) ∧ PlusOut false false a b ea eb neg os ∧ IntsAt w' w'.heap.size A' c' os ∧ (∀ a, A' = some a → w.heap.size ≤ a.block) ∧ Below w.heap.size w w' := by
  have HA := Keep.mk ha
  have HB := Keep.mk hb
  have HN := Keep.mk hn
  have HM := Keep.mk hm
  have HI := Keep.mk (hI.below (al3 w (.cells #[.bool false, .slice A n c, .int .i64 ea] 86) (.cells #[.bool false, .slice B m d, .int .i64 eb] 86) (.cells #[.bool false, .slice none 0 0, .int .i64 0] 86)) (Nat.le_refl _))
  have HJ := Keep.mk (hJ.below (al3 w (.cells #[.bool false, .slice A n c, .int .i64 ea] 86) (.cells #[.bool false, .slice B m d, .int .i64 eb] 86) (.cells #[.bool false, .slice none 0 0, .int .i64 0] 86)) (Nat.le_refl _))
  clear hI hJ ha hb hn hm
  go_enter Tryd.func77, Tryd.ntmps77
  go_wp2_with fail
  refine (ref_pair false false A B c d a b n m ea eb HN.out HM.out HA.out HB.out hla hlb h0 h1 h2 h3 _ (HI.out.more (by simp only [World.size_alloc]; omega)) (HJ.out.more (by simp only [World.size_alloc]; omega))).mono ?_
  rintro r W ⟨A', B', c', d', x, y, rfl, hp, hI1, hI2, hb1⟩
  have HX := (((Box.new (w := w) [.bool false, .slice A n c, .int .i64 ea] 86 rfl).alloc (.cells #[.bool false, .slice B m d, .int .i64 eb] 86)).alloc (.cells #[.bool false, .slice none 0 0, .int .i64 0] 86)).below hb1 (by simp only [World.size_alloc]; omega)
  have HY := ((Box.new (w := w.alloc (.cells #[.bool false, .slice A n c, .int .i64 ea] 86)) (n := w.heap.size + 1) [.bool false, .slice B m d, .int .i64 eb] 86 (by simp)).alloc (.cells #[.bool false, .slice none 0 0, .int .i64 0] 86)).below hb1 (by simp only [World.size_alloc]; omega)
  have HR := Keep.mk ((Box.new (w := (w.alloc (.cells #[.bool false, .slice A n c, .int .i64 ea] 86)).alloc (.cells #[.bool false, .slice B m d, .int .i64 eb] 86)) (n := w.heap.size + 2) [.bool false, .slice none 0 0, .int .i64 0] 86 (by simp)).below hb1 (by simp only [World.size_alloc]; omega))
  have hbw := up (al3 w _ _ _) hb1
  have HP := Keep.mk hp
  have ltr := HR.out.lt
  have x0 := HX.cell 0 _ rfl
  have y0 := HY.cell 0 _ rfl
  generalize hE : pairE a b ea eb = E at *
  have HE := Keep.mk hE
  clear hb1 HX HY hp hE
  have HIX := Keep.mk (hI1.below (below_drew W) (Nat.le_refl _))
  have HIY := Keep.mk (hI2.below (below_drew W) (Nat.le_refl _))
  go_wp2_with fail
  go_region_held3 (fun w' => w'.cell? ⟨w.heap.size, 0, none⟩ = some (.bool false)) ((first | exact x0 | exact HK.out | exact keep3 (by omega) HK.out))
    ((go_at_call 114; refine (total_add' A' B' c' d' _ _ x y rfl rfl HP.out.dx HP.out.dy HP.out.len HP.out.small (by have := HP.out.few; omega) _ HIX.out HIY.out).mono ?_; rintro r w2 ⟨os, rfl, hX2, ho1, ho2, ho3, hb2⟩; have HK := Keep.mk ((hb2.cell (p := ⟨w.heap.size, 0, none⟩) (lt_of_cell x0)).trans x0); have HR2 := Keep.mk ((HR.out.below (below_drew W) HR.out.lt).below hb2 HR.out.lt); have r0 := HR2.out.cell 0 _ rfl; have r1 := HR2.out.cell 1 _ rfl; have r2 := HR2.out.cell 2 _ rfl; have f0 := HR2.out.froz 0; have f1 := HR2.out.froz 1; have f2 := HR2.out.froz 2))
  go_wp2
  refine bodyPost_ret (v := longV false (some ⟨W.heap.size, 0, none⟩) x.length os E) ?_ rfl ⟨false, some ⟨W.heap.size, 0, none⟩, x.length, os, by rw [HE.out], ?_, ?_, (fun a h => by injection h with h; subst h; exact hbw.size), st1 (st1 (st1 (up (up hbw (below_drew W)) hb2) _ _ _ (by omega)) _ _ _ (by omega)) _ _ _ (by omega)⟩
  · simp [longV, results, Tryd.results77, go_sem, r0, r1, r2, ho1]
  · exact plus_out HP.out ho2 ho1 (by unfold sg; simp only [Bool.false_eq_true, if_false]; omega)
  · have hne : w.heap.size + 1 + 1 ≠ W.heap.size := by omega
    exact (box3 hX2 hne).ints' ho1.symm (by rw [ho1]; have := HP.out.few; omega)
set_option maxRecDepth 100000 in
set_option maxHeartbeats 2000000 in
theorem plus_ft (A B : Option Addr) (c d : Nat) (a b : List Nat) (n m : Nat) (ea eb : Int) (hn : n = a.length) (hm : m = b.length) (ha : Digs a) (hb : Digs b) (hla : n ≤ 1000) (hlb : m ≤ 1000) (h0 : -1000 ≤ ea) (h1 : ea ≤ 1000) (h2 : -1000 ≤ eb) (h3 : eb ≤ 1000)
    (w : World) (hI : IntsAt w w.heap.size A c a) (hJ : IntsAt w w.heap.size B d b) :
    Calls Tryd.prog 77 #[.agg #[.bool false, .slice A n c, .int .i64 ea], .agg #[.bool true, .slice B m d, .int .i64 eb]] w fun r w' =>
      ∃ neg A' c' os, r = .returned (longV neg A' c' os (pairE a b ea eb)) ∧ PlusOut false true a b ea eb neg os ∧ IntsAt w' w'.heap.size A' c' os ∧ (∀ a, A' = some a → w.heap.size ≤ a.block) ∧ Below w.heap.size w w' := by
  have HA := Keep.mk ha
  have HB := Keep.mk hb
  have HN := Keep.mk hn
  have HM := Keep.mk hm
  have HI := Keep.mk (hI.below (al3 w (.cells #[.bool false, .slice A n c, .int .i64 ea] 86) (.cells #[.bool true, .slice B m d, .int .i64 eb] 86) (.cells #[.bool false, .slice none 0 0, .int .i64 0] 86)) (Nat.le_refl _))
  have HJ := Keep.mk (hJ.below (al3 w (.cells #[.bool false, .slice A n c, .int .i64 ea] 86) (.cells #[.bool true, .slice B m d, .int .i64 eb] 86) (.cells #[.bool false, .slice none 0 0, .int .i64 0] 86)) (Nat.le_refl _))
  clear hI hJ ha hb hn hm
  go_enter Tryd.func77, Tryd.ntmps77
  go_wp2_with fail
  refine (ref_pair false true A B c d a b n m ea eb HN.out HM.out HA.out HB.out hla hlb h0 h1 h2 h3 _ (HI.out.more (by simp only [World.size_alloc]; omega)) (HJ.out.more (by simp only [World.size_alloc]; omega))).mono ?_
  rintro r W ⟨A', B', c', d', x, y, rfl, hp, hI1, hI2, hb1⟩
  have HX := (((Box.new (w := w) [.bool false, .slice A n c, .int .i64 ea] 86 rfl).alloc (.cells #[.bool true, .slice B m d, .int .i64 eb] 86)).alloc (.cells #[.bool false, .slice none 0 0, .int .i64 0] 86)).below hb1 (by simp only [World.size_alloc]; omega)
  have HY := ((Box.new (w := w.alloc (.cells #[.bool false, .slice A n c, .int .i64 ea] 86)) (n := w.heap.size + 1) [.bool true, .slice B m d, .int .i64 eb] 86 (by simp)).alloc (.cells #[.bool false, .slice none 0 0, .int .i64 0] 86)).below hb1 (by simp only [World.size_alloc]; omega)
  have HR := Keep.mk ((Box.new (w := (w.alloc (.cells #[.bool false, .slice A n c, .int .i64 ea] 86)).alloc (.cells #[.bool true, .slice B m d, .int .i64 eb] 86)) (n := w.heap.size + 2) [.bool false, .slice none 0 0, .int .i64 0] 86 (by simp)).below hb1 (by simp only [World.size_alloc]; omega))
  have hbw := up (al3 w _ _ _) hb1
  have HP := Keep.mk hp
  have ltr := HR.out.lt
  have x0 := HX.cell 0 _ rfl
  have y0 := HY.cell 0 _ rfl
  generalize hE : pairE a b ea eb = E at *
  have HE := Keep.mk hE
  clear hb1 HX HY hp hE
  go_wp2_with fail
  refine (ref_above B' A' d' c' y x HP.out.len.symm (by have := HP.out.few; have := HP.out.len; omega) W hI2 hI1).mono ?_
  rintro r V ⟨rfl, hbV⟩
  replace x0 := (hbV.cell (p := ⟨w.heap.size, 0, none⟩) (lt_of_cell x0)).trans x0
  replace y0 := (hbV.cell (p := ⟨w.heap.size + 1, 0, none⟩) (lt_of_cell y0)).trans y0
  replace HR := Keep.mk (HR.out.below hbV HR.out.lt)
  replace hbw := up hbw hbV
  have HIX := Keep.mk ((hI1.below hbV (Nat.le_refl _)).more hbV.size)
  have HIY := Keep.mk ((hI2.below hbV (Nat.le_refl _)).more hbV.size)
  replace HIX := Keep.mk (HIX.out.below (below_drew V) (Nat.le_refl _))
  replace HIY := Keep.mk (HIY.out.below (below_drew V) (Nat.le_refl _))
  replace ltr := HR.out.lt
  clear hbV hI1 hI2
  have hgt := gtL_iff y x HP.out.dy HP.out.dx HP.out.len.symm
  cases hg : gtL y x
  · have HGE := Keep.mk (show val y ≤ val x by rw [hg] at hgt; simp at hgt; exact hgt)
    clear hgt hg
    go_wp2_with fail
    go_region_held3 (fun w' => w'.cell? ⟨w.heap.size, 0, none⟩ = some (.bool false)) ((first | exact x0 | exact HK.out | exact keep3 (by omega) HK.out))
      ((go_at_call 114; refine (total_sub' A' B' c' d' _ _ x y rfl rfl HP.out.dx HP.out.dy HP.out.len HGE.out (by have := HP.out.few; omega) _ HIX.out HIY.out).mono ?_; rintro r w2 ⟨os, rfl, hX2, ho1, ho2, ho3, hb2⟩; have HK := Keep.mk ((hb2.cell (p := ⟨w.heap.size, 0, none⟩) (lt_of_cell x0)).trans x0); have HR2 := Keep.mk ((HR.out.below (below_drew V) HR.out.lt).below hb2 HR.out.lt); have r0 := HR2.out.cell 0 _ rfl; have r1 := HR2.out.cell 1 _ rfl; have r2 := HR2.out.cell 2 _ rfl; have f0 := HR2.out.froz 0; have f1 := HR2.out.froz 1; have f2 := HR2.out.froz 2))
    go_wp2
    refine bodyPost_ret (v := longV false (some ⟨V.heap.size, 0, none⟩) x.length os E) ?_ rfl ⟨false, some ⟨V.heap.size, 0, none⟩, x.length, os, by rw [HE.out], ?_, ?_, (fun a h => by injection h with h; subst h; exact hbw.size), st1 (st1 (st1 (up (up hbw (below_drew V)) hb2) _ _ _ (by omega)) _ _ _ (by omega)) _ _ _ (by omega)⟩
    · simp [longV, results, Tryd.results77, go_sem, r0, r1, r2, ho1]
    · exact plus_out HP.out ho2 ho1 (by unfold sg; simp only [if_true, Bool.false_eq_true, if_false]; omega)
    · have hne : w.heap.size + 1 + 1 ≠ V.heap.size := by omega
      exact (box3 hX2 hne).ints' ho1.symm (by rw [ho1]; have := HP.out.few; omega)
  · have HGE := Keep.mk (show val x ≤ val y by have := hgt.1 hg; omega)
    clear hgt hg
    go_wp2_with fail
    go_region_held3 (fun w' => w'.cell? ⟨w.heap.size + 1, 0, none⟩ = some (.bool true)) ((first | exact y0 | exact HK.out | exact keep3 (by omega) HK.out))
      ((go_at_call 114; refine (total_sub' B' A' d' c' _ _ y x rfl rfl HP.out.dy HP.out.dx HP.out.len.symm HGE.out (by have := HP.out.few; have := HP.out.len; omega) _ HIY.out HIX.out).mono ?_; rintro r w2 ⟨os, rfl, hX2, ho1, ho2, ho3, hb2⟩; have HK := Keep.mk ((hb2.cell (p := ⟨w.heap.size + 1, 0, none⟩) (lt_of_cell y0)).trans y0); have HR2 := Keep.mk ((HR.out.below (below_drew V) HR.out.lt).below hb2 HR.out.lt); have r0 := HR2.out.cell 0 _ rfl; have r1 := HR2.out.cell 1 _ rfl; have r2 := HR2.out.cell 2 _ rfl; have f0 := HR2.out.froz 0; have f1 := HR2.out.froz 1; have f2 := HR2.out.froz 2))
    go_wp2
    refine bodyPost_ret (v := longV true (some ⟨V.heap.size, 0, none⟩) y.length os E) ?_ rfl ⟨true, some ⟨V.heap.size, 0, none⟩, y.length, os, by rw [HE.out], ?_, ?_, (fun a h => by injection h with h; subst h; exact hbw.size), st1 (st1 (st1 (up (up hbw (below_drew V)) hb2) _ _ _ (by omega)) _ _ _ (by omega)) _ _ _ (by omega)⟩
    · simp [longV, results, Tryd.results77, go_sem, r0, r1, r2, ho1]
    · exact plus_out HP.out ho2 (by rw [ho1, HP.out.len]) (by unfold sg; simp only [if_true, Bool.false_eq_true, if_false]; omega)
    · have hne : w.heap.size + 1 + 1 ≠ V.heap.size := by omega
      exact (box3 hX2 hne).ints' ho1.symm (by rw [ho1]; have := HP.out.few; have := HP.out.len; omega)
set_option maxRecDepth 100000 in
set_option maxHeartbeats 2000000 in
theorem plus_tf (A B : Option Addr) (c d : Nat) (a b : List Nat) (n m : Nat) (ea eb : Int) (hn : n = a.length) (hm : m = b.length) (ha : Digs a) (hb : Digs b) (hla : n ≤ 1000) (hlb : m ≤ 1000) (h0 : -1000 ≤ ea) (h1 : ea ≤ 1000) (h2 : -1000 ≤ eb) (h3 : eb ≤ 1000)
    (w : World) (hI : IntsAt w w.heap.size A c a) (hJ : IntsAt w w.heap.size B d b) :
    Calls Tryd.prog 77 #[.agg #[.bool true, .slice A n c, .int .i64 ea], .agg #[.bool false, .slice B m d, .int .i64 eb]] w fun r w' =>
      ∃ neg A' c' os, r = .returned (longV neg A' c' os (pairE a b ea eb)) ∧ PlusOut true false a b ea eb neg os ∧ IntsAt w' w'.heap.size A' c' os ∧ (∀ a, A' = some a → w.heap.size ≤ a.block) ∧ Below w.heap.size w w' := by
  have HA := Keep.mk ha
  have HB := Keep.mk hb
  have HN := Keep.mk hn
  have HM := Keep.mk hm
  have HI := Keep.mk (hI.below (al3 w (.cells #[.bool true, .slice A n c, .int .i64 ea] 86) (.cells #[.bool false, .slice B m d, .int .i64 eb] 86) (.cells #[.bool false, .slice none 0 0, .int .i64 0] 86)) (Nat.le_refl _))
  have HJ := Keep.mk (hJ.below (al3 w (.cells #[.bool true, .slice A n c, .int .i64 ea] 86) (.cells #[.bool false, .slice B m d, .int .i64 eb] 86) (.cells #[.bool false, .slice none 0 0, .int .i64 0] 86)) (Nat.le_refl _))
  clear hI hJ ha hb hn hm
  go_enter Tryd.func77, Tryd.ntmps77
  go_wp2_with fail
  refine (ref_pair true false A B c d a b n m ea eb HN.out HM.out HA.out HB.out hla hlb h0 h1 h2 h3 _ (HI.out.more (by simp only [World.size_alloc]; omega)) (HJ.out.more (by simp only [World.size_alloc]; omega))).mono ?_
  rintro r W ⟨A', B', c', d', x, y, rfl, hp, hI1, hI2, hb1⟩
  have HX := (((Box.new (w := w) [.bool true, .slice A n c, .int .i64 ea] 86 rfl).alloc (.cells #[.bool false, .slice B m d, .int .i64 eb] 86)).alloc (.cells #[.bool false, .slice none 0 0, .int .i64 0] 86)).below hb1 (by simp only [World.size_alloc]; omega)
  have HY := ((Box.new (w := w.alloc (.cells #[.bool true, .slice A n c, .int .i64 ea] 86)) (n := w.heap.size + 1) [.bool false, .slice B m d, .int .i64 eb] 86 (by simp)).alloc (.cells #[.bool false, .slice none 0 0, .int .i64 0] 86)).below hb1 (by simp only [World.size_alloc]; omega)
  have HR := Keep.mk ((Box.new (w := (w.alloc (.cells #[.bool true, .slice A n c, .int .i64 ea] 86)).alloc (.cells #[.bool false, .slice B m d, .int .i64 eb] 86)) (n := w.heap.size + 2) [.bool false, .slice none 0 0, .int .i64 0] 86 (by simp)).below hb1 (by simp only [World.size_alloc]; omega))
  have hbw := up (al3 w _ _ _) hb1
  have HP := Keep.mk hp
  have ltr := HR.out.lt
  have x0 := HX.cell 0 _ rfl
  have y0 := HY.cell 0 _ rfl
  generalize hE : pairE a b ea eb = E at *
  have HE := Keep.mk hE
  clear hb1 HX HY hp hE
  go_wp2_with fail
  refine (ref_above B' A' d' c' y x HP.out.len.symm (by have := HP.out.few; have := HP.out.len; omega) W hI2 hI1).mono ?_
  rintro r V ⟨rfl, hbV⟩
  replace x0 := (hbV.cell (p := ⟨w.heap.size, 0, none⟩) (lt_of_cell x0)).trans x0
  replace y0 := (hbV.cell (p := ⟨w.heap.size + 1, 0, none⟩) (lt_of_cell y0)).trans y0
  replace HR := Keep.mk (HR.out.below hbV HR.out.lt)
  replace hbw := up hbw hbV
  have HIX := Keep.mk ((hI1.below hbV (Nat.le_refl _)).more hbV.size)
  have HIY := Keep.mk ((hI2.below hbV (Nat.le_refl _)).more hbV.size)
  replace HIX := Keep.mk (HIX.out.below (below_drew V) (Nat.le_refl _))
  replace HIY := Keep.mk (HIY.out.below (below_drew V) (Nat.le_refl _))
  replace ltr := HR.out.lt
  clear hbV hI1 hI2
  have hgt := gtL_iff y x HP.out.dy HP.out.dx HP.out.len.symm
  cases hg : gtL y x
  · have HGE := Keep.mk (show val y ≤ val x by rw [hg] at hgt; simp at hgt; exact hgt)
    clear hgt hg
    go_wp2_with fail
    go_region_held3 (fun w' => w'.cell? ⟨w.heap.size, 0, none⟩ = some (.bool true)) ((first | exact x0 | exact HK.out | exact keep3 (by omega) HK.out))
      ((go_at_call 114; refine (total_sub' A' B' c' d' _ _ x y rfl rfl HP.out.dx HP.out.dy HP.out.len HGE.out (by have := HP.out.few; omega) _ HIX.out HIY.out).mono ?_; rintro r w2 ⟨os, rfl, hX2, ho1, ho2, ho3, hb2⟩; have HK := Keep.mk ((hb2.cell (p := ⟨w.heap.size, 0, none⟩) (lt_of_cell x0)).trans x0); have HR2 := Keep.mk ((HR.out.below (below_drew V) HR.out.lt).below hb2 HR.out.lt); have r0 := HR2.out.cell 0 _ rfl; have r1 := HR2.out.cell 1 _ rfl; have r2 := HR2.out.cell 2 _ rfl; have f0 := HR2.out.froz 0; have f1 := HR2.out.froz 1; have f2 := HR2.out.froz 2))
    go_wp2
    refine bodyPost_ret (v := longV true (some ⟨V.heap.size, 0, none⟩) x.length os E) ?_ rfl ⟨true, some ⟨V.heap.size, 0, none⟩, x.length, os, by rw [HE.out], ?_, ?_, (fun a h => by injection h with h; subst h; exact hbw.size), st1 (st1 (st1 (up (up hbw (below_drew V)) hb2) _ _ _ (by omega)) _ _ _ (by omega)) _ _ _ (by omega)⟩
    · simp [longV, results, Tryd.results77, go_sem, r0, r1, r2, ho1]
    · exact plus_out HP.out ho2 ho1 (by unfold sg; simp only [if_true, Bool.false_eq_true, if_false]; omega)
    · have hne : w.heap.size + 1 + 1 ≠ V.heap.size := by omega
      exact (box3 hX2 hne).ints' ho1.symm (by rw [ho1]; have := HP.out.few; omega)
  · have HGE := Keep.mk (show val x ≤ val y by have := hgt.1 hg; omega)
    clear hgt hg
    go_wp2_with fail
    go_region_held3 (fun w' => w'.cell? ⟨w.heap.size + 1, 0, none⟩ = some (.bool false)) ((first | exact y0 | exact HK.out | exact keep3 (by omega) HK.out))
      ((go_at_call 114; refine (total_sub' B' A' d' c' _ _ y x rfl rfl HP.out.dy HP.out.dx HP.out.len.symm HGE.out (by have := HP.out.few; have := HP.out.len; omega) _ HIY.out HIX.out).mono ?_; rintro r w2 ⟨os, rfl, hX2, ho1, ho2, ho3, hb2⟩; have HK := Keep.mk ((hb2.cell (p := ⟨w.heap.size + 1, 0, none⟩) (lt_of_cell y0)).trans y0); have HR2 := Keep.mk ((HR.out.below (below_drew V) HR.out.lt).below hb2 HR.out.lt); have r0 := HR2.out.cell 0 _ rfl; have r1 := HR2.out.cell 1 _ rfl; have r2 := HR2.out.cell 2 _ rfl; have f0 := HR2.out.froz 0; have f1 := HR2.out.froz 1; have f2 := HR2.out.froz 2))
    go_wp2
    refine bodyPost_ret (v := longV false (some ⟨V.heap.size, 0, none⟩) y.length os E) ?_ rfl ⟨false, some ⟨V.heap.size, 0, none⟩, y.length, os, by rw [HE.out], ?_, ?_, (fun a h => by injection h with h; subst h; exact hbw.size), st1 (st1 (st1 (up (up hbw (below_drew V)) hb2) _ _ _ (by omega)) _ _ _ (by omega)) _ _ _ (by omega)⟩
    · simp [longV, results, Tryd.results77, go_sem, r0, r1, r2, ho1]
    · exact plus_out HP.out ho2 (by rw [ho1, HP.out.len]) (by unfold sg; simp only [if_true, Bool.false_eq_true, if_false]; omega)
    · have hne : w.heap.size + 1 + 1 ≠ V.heap.size := by omega
      exact (box3 hX2 hne).ints' ho1.symm (by rw [ho1]; have := HP.out.few; have := HP.out.len; omega)
set_option maxRecDepth 100000 in
set_option maxHeartbeats 2000000 in
theorem plus_tt (A B : Option Addr) (c d : Nat) (a b : List Nat) (n m : Nat) (ea eb : Int) (hn : n = a.length) (hm : m = b.length) (ha : Digs a) (hb : Digs b) (hla : n ≤ 1000) (hlb : m ≤ 1000) (h0 : -1000 ≤ ea) (h1 : ea ≤ 1000) (h2 : -1000 ≤ eb) (h3 : eb ≤ 1000)
    (w : World) (hI : IntsAt w w.heap.size A c a) (hJ : IntsAt w w.heap.size B d b) :
    Calls Tryd.prog 77 #[.agg #[.bool true, .slice A n c, .int .i64 ea], .agg #[.bool true, .slice B m d, .int .i64 eb]] w fun r w' =>
      ∃ neg A' c' os, r = .returned (longV neg A' c' os (pairE a b ea eb)) ∧ PlusOut true true a b ea eb neg os ∧ IntsAt w' w'.heap.size A' c' os ∧ (∀ a, A' = some a → w.heap.size ≤ a.block) ∧ Below w.heap.size w w' := by
  have HA := Keep.mk ha
  have HB := Keep.mk hb
  have HN := Keep.mk hn
  have HM := Keep.mk hm
  have HI := Keep.mk (hI.below (al3 w (.cells #[.bool true, .slice A n c, .int .i64 ea] 86) (.cells #[.bool true, .slice B m d, .int .i64 eb] 86) (.cells #[.bool false, .slice none 0 0, .int .i64 0] 86)) (Nat.le_refl _))
  have HJ := Keep.mk (hJ.below (al3 w (.cells #[.bool true, .slice A n c, .int .i64 ea] 86) (.cells #[.bool true, .slice B m d, .int .i64 eb] 86) (.cells #[.bool false, .slice none 0 0, .int .i64 0] 86)) (Nat.le_refl _))
  clear hI hJ ha hb hn hm
  go_enter Tryd.func77, Tryd.ntmps77
  go_wp2_with fail
  refine (ref_pair true true A B c d a b n m ea eb HN.out HM.out HA.out HB.out hla hlb h0 h1 h2 h3 _ (HI.out.more (by simp only [World.size_alloc]; omega)) (HJ.out.more (by simp only [World.size_alloc]; omega))).mono ?_
  rintro r W ⟨A', B', c', d', x, y, rfl, hp, hI1, hI2, hb1⟩
  have HX := (((Box.new (w := w) [.bool true, .slice A n c, .int .i64 ea] 86 rfl).alloc (.cells #[.bool true, .slice B m d, .int .i64 eb] 86)).alloc (.cells #[.bool false, .slice none 0 0, .int .i64 0] 86)).below hb1 (by simp only [World.size_alloc]; omega)
  have HY := ((Box.new (w := w.alloc (.cells #[.bool true, .slice A n c, .int .i64 ea] 86)) (n := w.heap.size + 1) [.bool true, .slice B m d, .int .i64 eb] 86 (by simp)).alloc (.cells #[.bool false, .slice none 0 0, .int .i64 0] 86)).below hb1 (by simp only [World.size_alloc]; omega)
  have HR := Keep.mk ((Box.new (w := (w.alloc (.cells #[.bool true, .slice A n c, .int .i64 ea] 86)).alloc (.cells #[.bool true, .slice B m d, .int .i64 eb] 86)) (n := w.heap.size + 2) [.bool false, .slice none 0 0, .int .i64 0] 86 (by simp)).below hb1 (by simp only [World.size_alloc]; omega))
  have hbw := up (al3 w _ _ _) hb1
  have HP := Keep.mk hp
  have ltr := HR.out.lt
  have x0 := HX.cell 0 _ rfl
  have y0 := HY.cell 0 _ rfl
  generalize hE : pairE a b ea eb = E at *
  have HE := Keep.mk hE
  clear hb1 HX HY hp hE
  have HIX := Keep.mk (hI1.below (below_drew W) (Nat.le_refl _))
  have HIY := Keep.mk (hI2.below (below_drew W) (Nat.le_refl _))
  go_wp2_with fail
  go_region_held3 (fun w' => w'.cell? ⟨w.heap.size, 0, none⟩ = some (.bool true)) ((first | exact x0 | exact HK.out | exact keep3 (by omega) HK.out))
    ((go_at_call 114; refine (total_add' A' B' c' d' _ _ x y rfl rfl HP.out.dx HP.out.dy HP.out.len HP.out.small (by have := HP.out.few; omega) _ HIX.out HIY.out).mono ?_; rintro r w2 ⟨os, rfl, hX2, ho1, ho2, ho3, hb2⟩; have HK := Keep.mk ((hb2.cell (p := ⟨w.heap.size, 0, none⟩) (lt_of_cell x0)).trans x0); have HR2 := Keep.mk ((HR.out.below (below_drew W) HR.out.lt).below hb2 HR.out.lt); have r0 := HR2.out.cell 0 _ rfl; have r1 := HR2.out.cell 1 _ rfl; have r2 := HR2.out.cell 2 _ rfl; have f0 := HR2.out.froz 0; have f1 := HR2.out.froz 1; have f2 := HR2.out.froz 2))
  go_wp2
  refine bodyPost_ret (v := longV true (some ⟨W.heap.size, 0, none⟩) x.length os E) ?_ rfl ⟨true, some ⟨W.heap.size, 0, none⟩, x.length, os, by rw [HE.out], ?_, ?_, (fun a h => by injection h with h; subst h; exact hbw.size), st1 (st1 (st1 (up (up hbw (below_drew W)) hb2) _ _ _ (by omega)) _ _ _ (by omega)) _ _ _ (by omega)⟩
  · simp [longV, results, Tryd.results77, go_sem, r0, r1, r2, ho1]
  · exact plus_out HP.out ho2 ho1 (by unfold sg; simp only [if_true]; omega)
  · have hne : w.heap.size + 1 + 1 ≠ W.heap.size := by omega
    exact (box3 hX2 hne).ints' ho1.symm (by rw [ho1]; have := HP.out.few; omega)
theorem ref_plus (na nb : Bool) (A B : Option Addr) (c d : Nat) (a b : List Nat) (n m : Nat) (ea eb : Int) (hn : n = a.length) (hm : m = b.length) (ha : Digs a) (hb : Digs b) (hla : n ≤ 1000) (hlb : m ≤ 1000) (h0 : -1000 ≤ ea) (h1 : ea ≤ 1000) (h2 : -1000 ≤ eb) (h3 : eb ≤ 1000)
    (w : World) (hI : IntsAt w w.heap.size A c a) (hJ : IntsAt w w.heap.size B d b) :
    Calls Tryd.prog 77 #[.agg #[.bool na, .slice A n c, .int .i64 ea], .agg #[.bool nb, .slice B m d, .int .i64 eb]] w fun r w' =>
      ∃ neg A' c' os, r = .returned (longV neg A' c' os (pairE a b ea eb)) ∧ PlusOut na nb a b ea eb neg os ∧ IntsAt w' w'.heap.size A' c' os ∧ (∀ a, A' = some a → w.heap.size ≤ a.block) ∧ Below w.heap.size w w' := by
  cases na <;> cases nb
  · exact plus_ff A B c d a b n m ea eb hn hm ha hb hla hlb h0 h1 h2 h3 w hI hJ
  · exact plus_ft A B c d a b n m ea eb hn hm ha hb hla hlb h0 h1 h2 h3 w hI hJ
  · exact plus_tf A B c d a b n m ea eb hn hm ha hb hla hlb h0 h1 h2 h3 w hI hJ
  · exact plus_tt A B c d a b n m ea eb hn hm ha hb hla hlb h0 h1 h2 h3 w hI hJ
end Go.Proofs.YtljemfajjeoecaaDoor
namespace Go.Proofs.YtljemfajjeoecaaDoor
open Go Go.RowKit Go.Proofs Th
attribute [local go_sem] Above.cell Above.frozen

theorem long_at (m e : Int) (hm : I64 m) (w : World) :
    Calls Tryd.prog 68 #[.agg #[.int .i64 m, .int .i64 e]] w fun r w' => ∃ A c, r = .returned (.agg #[.bool (decide (m < 0)), .slice A (digs m.natAbs).length c, .int .i64 e]) ∧ IntsAt w' w'.heap.size A c (digs m.natAbs) ∧ Below w.heap.size w w' := ref_long m e hm w
theorem plus_at (na nb : Bool) (A B : Option Addr) (c d : Nat) (a b : List Nat) (ea eb : Int) (ha : Digs a) (hb : Digs b) (hla : a.length ≤ 1000) (hlb : b.length ≤ 1000) (he : -1000 ≤ ea ∧ ea ≤ 1000) (hf : -1000 ≤ eb ∧ eb ≤ 1000)
    (w : World) (hI : IntsAt w w.heap.size A c a) (hJ : IntsAt w w.heap.size B d b) :
    Calls Tryd.prog 77 #[.agg #[.bool na, .slice A a.length c, .int .i64 ea], .agg #[.bool nb, .slice B b.length d, .int .i64 eb]] w fun r w' =>
      ∃ neg A' c' os, r = .returned (.agg #[.bool neg, .slice A' os.length c', .int .i64 (pairE a b ea eb)]) ∧ PlusOut na nb a b ea eb neg os ∧ IntsAt w' w'.heap.size A' c' os ∧ (∀ a, A' = some a → w.heap.size ≤ a.block) ∧ Below w.heap.size w w' :=
  ref_plus na nb A B c d a b a.length b.length ea eb rfl rfl ha hb hla hlb he.1 he.2 hf.1 hf.2 w hI hJ
theorem short_as (neg : Bool) (A : Option Addr) (c : Nat) (ds : List Nat) (e : Int) (hd : Digs ds) (hl : ds.length ≤ 1000000) (he : -1000000000 ≤ e ∧ e ≤ 1000000000) (p q k : Int) (h : norm neg (val ds) e = ((p, q), k)) (w : World) (hI : IntsAt w w.heap.size A c ds) :
    Calls Tryd.prog 63 #[.agg #[.bool neg, .slice A ds.length c, .int .i64 e]] w fun r w' => r = .returned (.tuple #[.agg #[.int .i64 p, .int .i64 q], .int .i64 k]) ∧ Below w.heap.size w w' := by
  have := ref_short neg A c ds e hd hl he.1 he.2 w hI
  rw [h] at this
  exact this
theorem pairE_bd (a b : List Nat) (ea eb : Int) (h1 : -64 ≤ ea ∧ ea ≤ 64) (h2 : -64 ≤ eb ∧ eb ≤ 64) : -64 ≤ pairE a b ea eb ∧ pairE a b ea eb ≤ 64 := by
  unfold pairE low; split <;> (try split) <;> (try split) <;> omega
theorem digs_nil {n : Nat} (h : digs n = []) : n = 0 := by
  have := val_digs n; rw [h] at this; simpa using this.symm
theorem sg_mul (neg : Bool) (n k : Nat) : sg neg ((n * k : Nat) : Int) = sg neg n * k := by
  unfold sg
  split
  · push_cast; rw [Int.neg_mul]
  · push_cast; rfl
theorem sg_nz {neg : Bool} {n : Nat} {S : Int} (h : sg neg n = S) : n = S.natAbs ∧ (n ≠ 0 → neg = decide (S < 0)) := by
  unfold sg at h
  cases neg
  · simp only [Bool.false_eq_true, ↓reduceIte] at h
    exact ⟨by omega, fun h0 => by symm; rw [decide_eq_false_iff_not]; omega⟩
  · simp only [↓reduceIte] at h
    exact ⟨by omega, fun h0 => by symm; rw [decide_eq_true_eq]; omega⟩
/-- what short makes of a sum is the sum -/
theorem add_norm {m1 e1 m2 e2 : Int} {na nb neg : Bool} {os : List Nat} (h1 : right m1 e1 = true) (h2 : right m2 e2 = true) (hsa : sg na (m1.natAbs : Int) = m1) (hsb : sg nb (m2.natAbs : Int) = m2)
    (hP : PlusOut na nb (digs m1.natAbs) (digs m2.natAbs) e1 e2 neg os) : norm neg (val os) (pairE (digs m1.natAbs) (digs m2.natAbs) e1 e2) = addN m1 e1 m2 e2 := by
  obtain ⟨_, _, hs⟩ := hP
  rw [val_digs, val_digs, sg_mul, sg_mul, hsa, hsb] at hs
  obtain ⟨hz1, hz2⟩ := sg_nz hs
  rw [norm_eq neg _ _ _ hz1 hz2]
  unfold pairE
  by_cases hb : digs m2.natAbs = []
  · have h0 : m2 = 0 := by have := digs_nil hb; omega
    subst h0
    rw [if_pos hb, addN_zero_right h1 h2]
    simp only [Int.sub_self, Int.toNat_zero, Nat.pow_zero, Int.zero_mul, Int.add_zero]
    rw [show m1 * ((1 : Nat) : Int) = m1 by simp]
    exact normZ_right h1
  · rw [if_neg hb]
    by_cases ha : digs m1.natAbs = []
    · have h0 : m1 = 0 := by have := digs_nil ha; omega
      subst h0
      rw [if_pos ha, addN_zero_left h1 h2]
      simp only [Int.sub_self, Int.toNat_zero, Nat.pow_zero, Int.zero_mul, Int.zero_add]
      rw [show m2 * ((1 : Nat) : Int) = m2 by simp]
      exact normZ_right h2
    · rw [if_neg ha]
      unfold addN
      rw [h1, h2]
      rfl
theorem sg_abs (m : Int) : sg (decide (m < 0)) (m.natAbs : Int) = m := by
  unfold sg; split <;> simp_all <;> omega
theorem sg_not (m : Int) : sg (!decide (m < 0)) ((-m).natAbs : Int) = -m := by
  unfold sg; split <;> simp_all <;> omega
theorem cells_keep {w1 w2 : World} {n m : Nat} {v0 v1 u0 u1 : Value}
    (hS : w1.cell? ⟨n, 0, none⟩ = some v0 ∧ w1.cell? ⟨n, 1, none⟩ = some v1 ∧ w1.cell? ⟨m, 0, none⟩ = some u0 ∧ w1.cell? ⟨m, 1, none⟩ = some u1) (hb : Below w1.heap.size w1 w2) :
    w2.cell? ⟨n, 0, none⟩ = some v0 ∧ w2.cell? ⟨n, 1, none⟩ = some v1 ∧ w2.cell? ⟨m, 0, none⟩ = some u0 ∧ w2.cell? ⟨m, 1, none⟩ = some u1 :=
  ⟨(hb.cell (lt_of_cell hS.1)).trans hS.1, (hb.cell (lt_of_cell hS.2.1)).trans hS.2.1, (hb.cell (lt_of_cell hS.2.2.1)).trans hS.2.2.1, (hb.cell (lt_of_cell hS.2.2.2)).trans hS.2.2.2⟩
theorem cell_other {w1 : World} {n o g i : Nat} {v x : Value} (h : g ≠ n) (hc : w1.cell? ⟨n, o, none⟩ = some v) : (w1.setCell ⟨g, i, none⟩ x).cell? ⟨n, o, none⟩ = some v := by
  rw [World.cell?_setCell_other _ _ _ _ (by intro e; injection e; omega)]; exact hc
theorem cells_set {w1 : World} {n m g : Nat} {v0 v1 u0 u1 x y : Value} (h1 : g ≠ n) (h2 : g ≠ m)
    (hS : w1.cell? ⟨n, 0, none⟩ = some v0 ∧ w1.cell? ⟨n, 1, none⟩ = some v1 ∧ w1.cell? ⟨m, 0, none⟩ = some u0 ∧ w1.cell? ⟨m, 1, none⟩ = some u1) :
    ((w1.setCell ⟨g, 0, none⟩ x).setCell ⟨g, 1, none⟩ y).cell? ⟨n, 0, none⟩ = some v0 ∧ ((w1.setCell ⟨g, 0, none⟩ x).setCell ⟨g, 1, none⟩ y).cell? ⟨n, 1, none⟩ = some v1 ∧ ((w1.setCell ⟨g, 0, none⟩ x).setCell ⟨g, 1, none⟩ y).cell? ⟨m, 0, none⟩ = some u0 ∧ ((w1.setCell ⟨g, 0, none⟩ x).setCell ⟨g, 1, none⟩ y).cell? ⟨m, 1, none⟩ = some u1 :=
  ⟨cell_other h1 (cell_other h1 hS.1), cell_other h1 (cell_other h1 hS.2.1), cell_other h2 (cell_other h2 hS.2.2.1), cell_other h2 (cell_other h2 hS.2.2.2)⟩

set_option maxRecDepth 100000 in
set_option maxHeartbeats 2000000 in
theorem radd_bad1 (m1 e1 m2 e2 : Int) (hm1 : I64 m1) (_hm2 : I64 m2) (h1 : right m1 e1 = false) (w : World) : Calls Tryd.prog 42 #[.agg #[.int .i64 m1, .int .i64 e1], .agg #[.int .i64 m2, .int .i64 e2]] w fun r w' => r = .returned (numRes ((0, 0), 10)) ∧ Below w.heap.size w w' := by
  go_enter Tryd.func42, Tryd.ntmps42
  go_wp2_with fail
  refine (ref_Right m1 e1 hm1 _).mono ?_
  rw [h1]
  rintro r W1 ⟨rfl, hb⟩
  have Hx := Keep.mk ((((Box.new (w := w) (n := w.heap.size) [.int .i64 m1, .int .i64 e1] 23 (by first | rfl | simp)).alloc (.cells #[.int .i64 m2, .int .i64 e2] 23)).alloc (.cells #[.int .i64 0, .int .i64 0] 23)).below hb (by simp only [World.size_alloc]; omega))
  have Hy := Keep.mk (((Box.new (w := (w.alloc (.cells #[.int .i64 m1, .int .i64 e1] 23))) (n := w.heap.size + 1) [.int .i64 m2, .int .i64 e2] 23 (by first | rfl | simp)).alloc (.cells #[.int .i64 0, .int .i64 0] 23)).below hb (by simp only [World.size_alloc]; omega))
  have Hr := Keep.mk ((Box.new (w := ((w.alloc (.cells #[.int .i64 m1, .int .i64 e1] 23)).alloc (.cells #[.int .i64 m2, .int .i64 e2] 23))) (n := w.heap.size + 2) [.int .i64 0, .int .i64 0] 23 (by first | rfl | simp)).below hb (by simp only [World.size_alloc]; omega))
  have HB := Keep.mk (up (al3 w _ _ _) hb)
  have xc0 := Hx.out.cell 0 _ rfl
  have xf0 := Hx.out.froz 0
  have xc1 := Hx.out.cell 1 _ rfl
  have xf1 := Hx.out.froz 1
  have xl := Hx.out.lt
  have yc0 := Hy.out.cell 0 _ rfl
  have yf0 := Hy.out.froz 0
  have yc1 := Hy.out.cell 1 _ rfl
  have yf1 := Hy.out.froz 1
  have yl := Hy.out.lt
  have rc0 := Hr.out.cell 0 _ rfl
  have rf0 := Hr.out.froz 0
  have rc1 := Hr.out.cell 1 _ rfl
  have rf1 := Hr.out.froz 1
  have rl := Hr.out.lt
  go_wp2
  refine bodyPost_ret (v := numRes ((0, 0), 10)) ?_ rfl ⟨rfl, st1 (st1 HB.out _ _ _ (by omega)) _ _ _ (by omega)⟩
  simp [numRes, results, Tryd.results42, go_sem, rc0, rc1]
set_option maxRecDepth 100000 in
set_option maxHeartbeats 2000000 in
theorem radd_bad2 (m1 e1 m2 e2 : Int) (hm1 : I64 m1) (hm2 : I64 m2) (h1 : right m1 e1 = true) (h2 : right m2 e2 = false) (w : World) : Calls Tryd.prog 42 #[.agg #[.int .i64 m1, .int .i64 e1], .agg #[.int .i64 m2, .int .i64 e2]] w fun r w' => r = .returned (numRes ((0, 0), 10)) ∧ Below w.heap.size w w' := by
  go_enter Tryd.func42, Tryd.ntmps42
  go_wp2_with fail
  refine (ref_Right m1 e1 hm1 _).mono ?_
  rw [h1]
  rintro r W1 ⟨rfl, hb⟩
  have Hx := Keep.mk ((((Box.new (w := w) (n := w.heap.size) [.int .i64 m1, .int .i64 e1] 23 (by first | rfl | simp)).alloc (.cells #[.int .i64 m2, .int .i64 e2] 23)).alloc (.cells #[.int .i64 0, .int .i64 0] 23)).below hb (by simp only [World.size_alloc]; omega))
  have Hy := Keep.mk (((Box.new (w := (w.alloc (.cells #[.int .i64 m1, .int .i64 e1] 23))) (n := w.heap.size + 1) [.int .i64 m2, .int .i64 e2] 23 (by first | rfl | simp)).alloc (.cells #[.int .i64 0, .int .i64 0] 23)).below hb (by simp only [World.size_alloc]; omega))
  have Hr := Keep.mk ((Box.new (w := ((w.alloc (.cells #[.int .i64 m1, .int .i64 e1] 23)).alloc (.cells #[.int .i64 m2, .int .i64 e2] 23))) (n := w.heap.size + 2) [.int .i64 0, .int .i64 0] 23 (by first | rfl | simp)).below hb (by simp only [World.size_alloc]; omega))
  have HB := Keep.mk (up (al3 w _ _ _) hb)
  have xc0 := Hx.out.cell 0 _ rfl
  have xf0 := Hx.out.froz 0
  have xc1 := Hx.out.cell 1 _ rfl
  have xf1 := Hx.out.froz 1
  have xl := Hx.out.lt
  have yc0 := Hy.out.cell 0 _ rfl
  have yf0 := Hy.out.froz 0
  have yc1 := Hy.out.cell 1 _ rfl
  have yf1 := Hy.out.froz 1
  have yl := Hy.out.lt
  have rc0 := Hr.out.cell 0 _ rfl
  have rf0 := Hr.out.froz 0
  have rc1 := Hr.out.cell 1 _ rfl
  have rf1 := Hr.out.froz 1
  have rl := Hr.out.lt
  go_wp2_with fail
  refine (ref_Right m2 e2 hm2 _).mono ?_
  rw [h2]
  rintro r W2 ⟨rfl, hb⟩
  clear xc0 xc1 xf0 xf1 xl yc0 yc1 yf0 yf1 yl rc0 rc1 rf0 rf1 rl
  replace Hx := Keep.mk (Hx.out.below hb Hx.out.lt)
  replace Hy := Keep.mk (Hy.out.below hb Hy.out.lt)
  replace Hr := Keep.mk (Hr.out.below hb Hr.out.lt)
  replace HB := Keep.mk (up HB.out hb)
  have xc0 := Hx.out.cell 0 _ rfl
  have xf0 := Hx.out.froz 0
  have xc1 := Hx.out.cell 1 _ rfl
  have xf1 := Hx.out.froz 1
  have xl := Hx.out.lt
  have yc0 := Hy.out.cell 0 _ rfl
  have yf0 := Hy.out.froz 0
  have yc1 := Hy.out.cell 1 _ rfl
  have yf1 := Hy.out.froz 1
  have yl := Hy.out.lt
  have rc0 := Hr.out.cell 0 _ rfl
  have rf0 := Hr.out.froz 0
  have rc1 := Hr.out.cell 1 _ rfl
  have rf1 := Hr.out.froz 1
  have rl := Hr.out.lt
  go_wp2
  refine bodyPost_ret (v := numRes ((0, 0), 10)) ?_ rfl ⟨rfl, st1 (st1 HB.out _ _ _ (by omega)) _ _ _ (by omega)⟩
  simp [numRes, results, Tryd.results42, go_sem, rc0, rc1]
set_option maxRecDepth 100000 in
set_option maxHeartbeats 2000000 in
theorem radd_ok (m1 e1 m2 e2 : Int) (hm1 : I64 m1) (hm2 : I64 m2) (h1 : right m1 e1 = true) (h2 : right m2 e2 = true) (p q k : Int) (hr : addN m1 e1 m2 e2 = ((p, q), k)) (w : World) : Calls Tryd.prog 42 #[.agg #[.int .i64 m1, .int .i64 e1], .agg #[.int .i64 m2, .int .i64 e2]] w fun r w' => r = .returned (numRes ((p, q), k)) ∧ Below w.heap.size w w' := by
  have HN1 := Keep.mk (digs_len m1.natAbs (by have := hm1.lo; have := hm1.hi; omega))
  have HN2 := Keep.mk (digs_len m2.natAbs (by have := hm2.lo; have := hm2.hi; omega))
  have HR1 := Keep.mk (right_exp h1)
  have HR2 := Keep.mk (right_exp h2)
  have HH := Keep.mk hr
  clear hr
  go_enter Tryd.func42, Tryd.ntmps42
  go_wp2_with fail
  refine (ref_Right m1 e1 hm1 _).mono ?_
  rw [h1]
  rintro r W1 ⟨rfl, hb⟩
  have Hx := Keep.mk ((((Box.new (w := w) (n := w.heap.size) [.int .i64 m1, .int .i64 e1] 23 (by first | rfl | simp)).alloc (.cells #[.int .i64 m2, .int .i64 e2] 23)).alloc (.cells #[.int .i64 0, .int .i64 0] 23)).below hb (by simp only [World.size_alloc]; omega))
  have Hy := Keep.mk (((Box.new (w := (w.alloc (.cells #[.int .i64 m1, .int .i64 e1] 23))) (n := w.heap.size + 1) [.int .i64 m2, .int .i64 e2] 23 (by first | rfl | simp)).alloc (.cells #[.int .i64 0, .int .i64 0] 23)).below hb (by simp only [World.size_alloc]; omega))
  have Hr := Keep.mk ((Box.new (w := ((w.alloc (.cells #[.int .i64 m1, .int .i64 e1] 23)).alloc (.cells #[.int .i64 m2, .int .i64 e2] 23))) (n := w.heap.size + 2) [.int .i64 0, .int .i64 0] 23 (by first | rfl | simp)).below hb (by simp only [World.size_alloc]; omega))
  have HB := Keep.mk (up (al3 w _ _ _) hb)
  have xc0 := Hx.out.cell 0 _ rfl
  have xf0 := Hx.out.froz 0
  have xc1 := Hx.out.cell 1 _ rfl
  have xf1 := Hx.out.froz 1
  have xl := Hx.out.lt
  have yc0 := Hy.out.cell 0 _ rfl
  have yf0 := Hy.out.froz 0
  have yc1 := Hy.out.cell 1 _ rfl
  have yf1 := Hy.out.froz 1
  have yl := Hy.out.lt
  have rc0 := Hr.out.cell 0 _ rfl
  have rf0 := Hr.out.froz 0
  have rc1 := Hr.out.cell 1 _ rfl
  have rf1 := Hr.out.froz 1
  have rl := Hr.out.lt
  go_wp2_with fail
  refine (ref_Right m2 e2 hm2 _).mono ?_
  rw [h2]
  rintro r W2 ⟨rfl, hb⟩
  clear xc0 xc1 xf0 xf1 xl yc0 yc1 yf0 yf1 yl rc0 rc1 rf0 rf1 rl
  replace Hx := Keep.mk (Hx.out.below hb Hx.out.lt)
  replace Hy := Keep.mk (Hy.out.below hb Hy.out.lt)
  replace Hr := Keep.mk (Hr.out.below hb Hr.out.lt)
  replace HB := Keep.mk (up HB.out hb)
  have xc0 := Hx.out.cell 0 _ rfl
  have xf0 := Hx.out.froz 0
  have xc1 := Hx.out.cell 1 _ rfl
  have xf1 := Hx.out.froz 1
  have xl := Hx.out.lt
  have yc0 := Hy.out.cell 0 _ rfl
  have yf0 := Hy.out.froz 0
  have yc1 := Hy.out.cell 1 _ rfl
  have yf1 := Hy.out.froz 1
  have yl := Hy.out.lt
  have rc0 := Hr.out.cell 0 _ rfl
  have rf0 := Hr.out.froz 0
  have rc1 := Hr.out.cell 1 _ rfl
  have rf1 := Hr.out.froz 1
  have rl := Hr.out.lt
  go_wp2_with fail
  go_region_held3 (fun w' => w'.cell? ⟨w.heap.size, 0, none⟩ = some (.int .i64 m1) ∧ w'.cell? ⟨w.heap.size, 1, none⟩ = some (.int .i64 e1) ∧ w'.cell? ⟨w.heap.size + 1, 0, none⟩ = some (.int .i64 m2) ∧ w'.cell? ⟨w.heap.size + 1, 1, none⟩ = some (.int .i64 e2))
    ((first | exact ⟨xc0, xc1, yc0, yc1⟩ | exact cells_keep (by assumption) (by assumption) | exact cells_set (by omega) (by omega) (by assumption)))
    ((first
      | (go_at_call_of 68 (Value.agg #[.int .i64 m1, .int .i64 e1]); refine (long_at m1 e1 hm1 _).mono ?_; rintro r V1 ⟨A1, c1, rfl, hI1, hb1⟩)
      | (go_at_call_of 68 (Value.agg #[.int .i64 m2, .int .i64 e2]); refine (long_at m2 e2 hm2 _).mono ?_; rintro r V2 ⟨A2, c2, rfl, hI2, hb2⟩)
      | (go_at_call 77; refine (plus_at _ _ A1 A2 c1 c2 _ _ _ _ (digs_digs _) (digs_digs _) (by have := HN1.out; omega) (by have := HN2.out; omega) (by have := HR1.out; omega) (by have := HR2.out; omega) _ ((hI1.below hb2 (Nat.le_refl _)).more hb2.size) hI2).mono ?_; rintro r V3 ⟨neg, A3, c3, os, rfl, hP, hI3, hF3, hb3⟩)
      | (go_at_call 63; refine (short_as neg A3 c3 os _ hP.1 (by have := hP.2.1; omega) (by have := pairE_bd (digs m1.natAbs) (digs m2.natAbs) e1 e2 HR1.out HR2.out; omega) p q k ((add_norm h1 h2 (sg_abs m1) (sg_abs m2) hP).trans HH.out) _ hI3).mono ?_; rintro r V4 ⟨rfl, hb4⟩; have HQ := Keep.mk ((((Hr.out.below (below_drew W2) rl).below hb1 rl).below hb2 (Nat.lt_of_lt_of_le rl hb1.size)).below hb3 (Nat.lt_of_lt_of_le rl (Nat.le_trans hb1.size hb2.size))); have HQ2 := Keep.mk (HQ.out.below hb4 HQ.out.lt); have q0 := HQ2.out.cell 0 _ rfl; have q1 := HQ2.out.cell 1 _ rfl; have g0 := HQ2.out.froz 0; have g1 := HQ2.out.froz 1)))
  go_wp2
  refine bodyPost_ret (v := numRes ((p, q), k)) ?_ rfl ⟨rfl, st1 (st1 (up (up (up (up (up HB.out (below_drew W2)) hb1) hb2) hb3) hb4) _ _ _ (by omega)) _ _ _ (by omega)⟩
  simp [numRes, results, Tryd.results42, go_sem, q0, q1]
theorem ref_Add (m1 e1 m2 e2 : Int) (hm1 : I64 m1) (hm2 : I64 m2) (w : World) : Calls Tryd.prog 42 #[.agg #[.int .i64 m1, .int .i64 e1], .agg #[.int .i64 m2, .int .i64 e2]] w fun r w' => r = .returned (numRes (addN m1 e1 m2 e2)) ∧ Below w.heap.size w w' := by
  cases h1 : right m1 e1
  · rw [addN_wrong (Or.inl h1)]; exact radd_bad1 m1 e1 m2 e2 hm1 hm2 h1 w
  · cases h2 : right m2 e2
    · rw [addN_wrong (Or.inr h2)]; exact radd_bad2 m1 e1 m2 e2 hm1 hm2 h1 h2 w
    · obtain ⟨⟨⟨p, q⟩, k⟩, hr⟩ : ∃ x, addN m1 e1 m2 e2 = x := ⟨_, rfl⟩
      rw [hr]; exact radd_ok m1 e1 m2 e2 hm1 hm2 h1 h2 p q k hr w
end Go.Proofs.YtljemfajjeoecaaDoor
