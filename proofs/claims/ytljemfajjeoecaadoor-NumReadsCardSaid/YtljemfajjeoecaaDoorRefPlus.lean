/- The references' plus: the sum of two rows of digits with their signs and exponents. Conditions: digits and exponents are no more than a thousand. -/
import Derived.Test.YtljemfajjeoecaaDoorRefPair
import Derived.Test.YtljemfajjeoecaaDoorRefTotal
namespace Go.Proofs.YtljemfajjeoecaaDoor
open Go Go.RowKit Go.Proofs Th

theorem total_add' (A A2 : Option Addr) (c c2 n m : Nat) (a b : List Nat) (hn : n = a.length) (hm : m = b.length) (ha : Digs a) (hb : Digs b) (hl : a.length = b.length) (hlt : val a + val b < 10 ^ a.length) (hM : a.length ≤ 1000000)
    (w : World) (hI : IntsAt w w.heap.size A c a) (hJ : IntsAt w w.heap.size A2 c2 b) :
    Calls Tryd.prog 114 #[.slice A n c, .slice A2 m c2, .bool false] w fun r w' => ∃ os, r = .returned (.slice (some ⟨w.heap.size, 0, none⟩) n n) ∧ Box w' w.heap.size (os.map iv) ∧ os.length = n ∧ Digs os ∧ val os = val a + val b ∧ Below w.heap.size w w' := by
  subst hn hm
  refine (ref_total_add A A2 c c2 a b ha hb hl hM (by omega) (by omega) w hI hJ).mono ?_
  rintro r w1 ⟨os, rfl, h1, h2, h3, h4, h5⟩
  exact ⟨os, rfl, h1, h2, h3, by omega, h5⟩
theorem total_sub' (A A2 : Option Addr) (c c2 n m : Nat) (a b : List Nat) (hn : n = a.length) (hm : m = b.length) (ha : Digs a) (hb : Digs b) (hl : a.length = b.length) (hge : val b ≤ val a) (hM : a.length ≤ 1000000)
    (w : World) (hI : IntsAt w w.heap.size A c a) (hJ : IntsAt w w.heap.size A2 c2 b) :
    Calls Tryd.prog 114 #[.slice A n c, .slice A2 m c2, .bool true] w fun r w' => ∃ os, r = .returned (.slice (some ⟨w.heap.size, 0, none⟩) n n) ∧ Box w' w.heap.size (os.map iv) ∧ os.length = n ∧ Digs os ∧ val os + val b = val a ∧ Below w.heap.size w w' := by
  subst hn hm
  have := val_lt a ha
  refine (ref_total_sub A A2 c c2 a b ha hb hl hM (by omega) (by omega) w hI hJ).mono ?_
  rintro r w1 ⟨os, rfl, h1, h2, h3, h4, h5⟩
  exact ⟨os, rfl, h1, h2, h3, by omega, h5⟩

theorem keep3 {W : World} {n m : Nat} {p q r v : Value} (hne : m ≠ n) (h : W.cell? ⟨n, 0, none⟩ = some v) : (((W.setCell ⟨m, 0, none⟩ p).setCell ⟨m, 1, none⟩ q).setCell ⟨m, 2, none⟩ r).cell? ⟨n, 0, none⟩ = some v := by
  rw [World.cell?_setCell_other _ _ _ _ (by intro e; injection e; omega), World.cell?_setCell_other _ _ _ _ (by intro e; injection e; omega), World.cell?_setCell_other _ _ _ _ (by intro e; injection e; omega)]
  exact h
theorem box3 {W : World} {g m : Nat} {cs : List Value} {p q r : Value} (h : Box W g cs) (hne : m ≠ g) : Box (((W.setCell ⟨m, 0, none⟩ p).setCell ⟨m, 1, none⟩ q).setCell ⟨m, 2, none⟩ r) g cs := ((h.other hne p).other hne q).other hne r
theorem Box.ints' {w : World} {g n : Nat} {ds : List Nat} (h : Box w g (ds.map iv)) (hn : n = ds.length) (hl : ds.length ≤ 1000000) : IntsAt w w.heap.size (some ⟨g, 0, none⟩) n ds := by
  subst hn; exact h.ints hl
/-- what plus hands back -/
def PlusOut (na nb : Bool) (a b : List Nat) (ea eb : Int) (neg : Bool) (os : List Nat) : Prop :=
  Digs os ∧ os.length ≤ 100000 ∧ sg neg (val os) = sg na ((val a * 10 ^ (ea - pairE a b ea eb).toNat : Nat) : Int) + sg nb ((val b * 10 ^ (eb - pairE a b ea eb).toNat : Nat) : Int)
theorem plus_out {na nb : Bool} {a b x y os : List Nat} {ea eb : Int} {neg : Bool} (hp : PairOut a b ea eb x y) (hd : Digs os) (hl : os.length = x.length) (h : sg neg (val os) = sg na (val x) + sg nb (val y)) : PlusOut na nb a b ea eb neg os :=
  ⟨hd, by rw [hl]; exact hp.few, by rw [h, hp.vx, hp.vy]⟩

set_option maxRecDepth 100000 in
set_option maxHeartbeats 2000000 in
theorem plus_ff (A B : Option Addr) (c d : Nat) (a b : List Nat) (n m : Nat) (ea eb : Int) (hn : n = a.length) (hm : m = b.length) (ha : Digs a) (hb : Digs b) (hla : n ≤ 1000) (hlb : m ≤ 1000) (h0 : -1000 ≤ ea) (h1 : ea ≤ 1000) (h2 : -1000 ≤ eb) (h3 : eb ≤ 1000)
    (w : World) (hI : IntsAt w w.heap.size A c a) (hJ : IntsAt w w.heap.size B d b) :
    Calls Tryd.prog 77 #[.agg #[.bool false, .slice A n c, .int .i64 ea], .agg #[.bool false, .slice B m d, .int .i64 eb]] w fun r w' =>
      ∃ neg A' c' os, r = .returned (longV neg A' c' os (pairE a b ea eb)) ∧ PlusOut false false a b ea eb neg os ∧ IntsAt w' w'.heap.size A' c' os ∧ (∀ a, A' = some a → w.heap.size ≤ a.block) ∧ Below w.heap.size w w' := by
  have HA := Keep.mk ha
  have HB := Keep.mk hb
  have HN := Keep.mk hn
  have HM := Keep.mk hm
  have HI := Keep.mk (hI.below (al3 w (.cells #[.bool false, .slice A n c, .int .i64 ea] 86) (.cells #[.bool false, .slice B m d, .int .i64 eb] 86) (.cells #[.bool false, .slice none 0 0, .int .i64 0] 86)) (Nat.le_refl _))
  have HJ := Keep.mk (hJ.below (al3 w (.cells #[.bool false, .slice A n c, .int .i64 ea] 86) (.cells #[.bool false, .slice B m d, .int .i64 eb] 86) (.cells #[.bool false, .slice none 0 0, .int .i64 0] 86)) (Nat.le_refl _))
  clear hI hJ ha hb hn hm
  go_enter Tryd.func77, Tryd.ntmps77
  go_wp2_with fail
  refine (ref_pair false false A B c d a b n m ea eb HN.out HM.out HA.out HB.out hla hlb h0 h1 h2 h3 _ (HI.out.more (by simp only [World.size_alloc]; omega)) (HJ.out.more (by simp only [World.size_alloc]; omega))).mono ?_
  rintro r W ⟨A', B', c', d', x, y, rfl, hp, hI1, hI2, hb1⟩
  have HX := (((Box.new (w := w) [.bool false, .slice A n c, .int .i64 ea] 86 rfl).alloc (.cells #[.bool false, .slice B m d, .int .i64 eb] 86)).alloc (.cells #[.bool false, .slice none 0 0, .int .i64 0] 86)).below hb1 (by simp only [World.size_alloc]; omega)
  have HY := ((Box.new (w := w.alloc (.cells #[.bool false, .slice A n c, .int .i64 ea] 86)) (n := w.heap.size + 1) [.bool false, .slice B m d, .int .i64 eb] 86 (by simp)).alloc (.cells #[.bool false, .slice none 0 0, .int .i64 0] 86)).below hb1 (by simp only [World.size_alloc]; omega)
  have HR := Keep.mk ((Box.new (w := (w.alloc (.cells #[.bool false, .slice A n c, .int .i64 ea] 86)).alloc (.cells #[.bool false, .slice B m d, .int .i64 eb] 86)) (n := w.heap.size + 2) [.bool false, .slice none 0 0, .int .i64 0] 86 (by simp)).below hb1 (by simp only [World.size_alloc]; omega))
  have hbw := up (al3 w _ _ _) hb1
  have HP := Keep.mk hp
  have ltr := HR.out.lt
  have x0 := HX.cell 0 _ rfl
  have y0 := HY.cell 0 _ rfl
  generalize hE : pairE a b ea eb = E at *
  have HE := Keep.mk hE
  clear hb1 HX HY hp hE
  have HIX := Keep.mk (hI1.below (below_drew W) (Nat.le_refl _))
  have HIY := Keep.mk (hI2.below (below_drew W) (Nat.le_refl _))
  go_wp2_with fail
  go_region_held3 (fun w' => w'.cell? ⟨w.heap.size, 0, none⟩ = some (.bool false)) ((first | exact x0 | exact HK.out | exact keep3 (by omega) HK.out))
    ((go_at_call 114; refine (total_add' A' B' c' d' _ _ x y rfl rfl HP.out.dx HP.out.dy HP.out.len HP.out.small (by have := HP.out.few; omega) _ HIX.out HIY.out).mono ?_; rintro r w2 ⟨os, rfl, hX2, ho1, ho2, ho3, hb2⟩; have HK := Keep.mk ((hb2.cell (p := ⟨w.heap.size, 0, none⟩) (lt_of_cell x0)).trans x0); have HR2 := Keep.mk ((HR.out.below (below_drew W) HR.out.lt).below hb2 HR.out.lt); have r0 := HR2.out.cell 0 _ rfl; have r1 := HR2.out.cell 1 _ rfl; have r2 := HR2.out.cell 2 _ rfl; have f0 := HR2.out.froz 0; have f1 := HR2.out.froz 1; have f2 := HR2.out.froz 2))
  go_wp2
  refine bodyPost_ret (v := longV false (some ⟨W.heap.size, 0, none⟩) x.length os E) ?_ rfl ⟨false, some ⟨W.heap.size, 0, none⟩, x.length, os, by rw [HE.out], ?_, ?_, (fun a h => by injection h with h; subst h; exact hbw.size), st1 (st1 (st1 (up (up hbw (below_drew W)) hb2) _ _ _ (by omega)) _ _ _ (by omega)) _ _ _ (by omega)⟩
  · simp [longV, results, Tryd.results77, go_sem, r0, r1, r2, ho1]
  · exact plus_out HP.out ho2 ho1 (by unfold sg; simp only [Bool.false_eq_true, if_false]; omega)
  · have hne : w.heap.size + 1 + 1 ≠ W.heap.size := by omega
    exact (box3 hX2 hne).ints' ho1.symm (by rw [ho1]; have := HP.out.few; omega)
set_option maxRecDepth 100000 in
set_option maxHeartbeats 2000000 in
theorem plus_ft (A B : Option Addr) (c d : Nat) (a b : List Nat) (n m : Nat) (ea eb : Int) (hn : n = a.length) (hm : m = b.length) (ha : Digs a) (hb : Digs b) (hla : n ≤ 1000) (hlb : m ≤ 1000) (h0 : -1000 ≤ ea) (h1 : ea ≤ 1000) (h2 : -1000 ≤ eb) (h3 : eb ≤ 1000)
    (w : World) (hI : IntsAt w w.heap.size A c a) (hJ : IntsAt w w.heap.size B d b) :
    Calls Tryd.prog 77 #[.agg #[.bool false, .slice A n c, .int .i64 ea], .agg #[.bool true, .slice B m d, .int .i64 eb]] w fun r w' =>
      ∃ neg A' c' os, r = .returned (longV neg A' c' os (pairE a b ea eb)) ∧ PlusOut false true a b ea eb neg os ∧ IntsAt w' w'.heap.size A' c' os ∧ (∀ a, A' = some a → w.heap.size ≤ a.block) ∧ Below w.heap.size w w' := by
  have HA := Keep.mk ha
  have HB := Keep.mk hb
  have HN := Keep.mk hn
  have HM := Keep.mk hm
  have HI := Keep.mk (hI.below (al3 w (.cells #[.bool false, .slice A n c, .int .i64 ea] 86) (.cells #[.bool true, .slice B m d, .int .i64 eb] 86) (.cells #[.bool false, .slice none 0 0, .int .i64 0] 86)) (Nat.le_refl _))
  have HJ := Keep.mk (hJ.below (al3 w (.cells #[.bool false, .slice A n c, .int .i64 ea] 86) (.cells #[.bool true, .slice B m d, .int .i64 eb] 86) (.cells #[.bool false, .slice none 0 0, .int .i64 0] 86)) (Nat.le_refl _))
  clear hI hJ ha hb hn hm
  go_enter Tryd.func77, Tryd.ntmps77
  go_wp2_with fail
  refine (ref_pair false true A B c d a b n m ea eb HN.out HM.out HA.out HB.out hla hlb h0 h1 h2 h3 _ (HI.out.more (by simp only [World.size_alloc]; omega)) (HJ.out.more (by simp only [World.size_alloc]; omega))).mono ?_
  rintro r W ⟨A', B', c', d', x, y, rfl, hp, hI1, hI2, hb1⟩
  have HX := (((Box.new (w := w) [.bool false, .slice A n c, .int .i64 ea] 86 rfl).alloc (.cells #[.bool true, .slice B m d, .int .i64 eb] 86)).alloc (.cells #[.bool false, .slice none 0 0, .int .i64 0] 86)).below hb1 (by simp only [World.size_alloc]; omega)
  have HY := ((Box.new (w := w.alloc (.cells #[.bool false, .slice A n c, .int .i64 ea] 86)) (n := w.heap.size + 1) [.bool true, .slice B m d, .int .i64 eb] 86 (by simp)).alloc (.cells #[.bool false, .slice none 0 0, .int .i64 0] 86)).below hb1 (by simp only [World.size_alloc]; omega)
  have HR := Keep.mk ((Box.new (w := (w.alloc (.cells #[.bool false, .slice A n c, .int .i64 ea] 86)).alloc (.cells #[.bool true, .slice B m d, .int .i64 eb] 86)) (n := w.heap.size + 2) [.bool false, .slice none 0 0, .int .i64 0] 86 (by simp)).below hb1 (by simp only [World.size_alloc]; omega))
  have hbw := up (al3 w _ _ _) hb1
  have HP := Keep.mk hp
  have ltr := HR.out.lt
  have x0 := HX.cell 0 _ rfl
  have y0 := HY.cell 0 _ rfl
  generalize hE : pairE a b ea eb = E at *
  have HE := Keep.mk hE
  clear hb1 HX HY hp hE
  go_wp2_with fail
  refine (ref_above B' A' d' c' y x HP.out.len.symm (by have := HP.out.few; have := HP.out.len; omega) W hI2 hI1).mono ?_
  rintro r V ⟨rfl, hbV⟩
  replace x0 := (hbV.cell (p := ⟨w.heap.size, 0, none⟩) (lt_of_cell x0)).trans x0
  replace y0 := (hbV.cell (p := ⟨w.heap.size + 1, 0, none⟩) (lt_of_cell y0)).trans y0
  replace HR := Keep.mk (HR.out.below hbV HR.out.lt)
  replace hbw := up hbw hbV
  have HIX := Keep.mk ((hI1.below hbV (Nat.le_refl _)).more hbV.size)
  have HIY := Keep.mk ((hI2.below hbV (Nat.le_refl _)).more hbV.size)
  replace HIX := Keep.mk (HIX.out.below (below_drew V) (Nat.le_refl _))
  replace HIY := Keep.mk (HIY.out.below (below_drew V) (Nat.le_refl _))
  replace ltr := HR.out.lt
  clear hbV hI1 hI2
  have hgt := gtL_iff y x HP.out.dy HP.out.dx HP.out.len.symm
  cases hg : gtL y x
  · have HGE := Keep.mk (show val y ≤ val x by rw [hg] at hgt; simp at hgt; exact hgt)
    clear hgt hg
    go_wp2_with fail
    go_region_held3 (fun w' => w'.cell? ⟨w.heap.size, 0, none⟩ = some (.bool false)) ((first | exact x0 | exact HK.out | exact keep3 (by omega) HK.out))
      ((go_at_call 114; refine (total_sub' A' B' c' d' _ _ x y rfl rfl HP.out.dx HP.out.dy HP.out.len HGE.out (by have := HP.out.few; omega) _ HIX.out HIY.out).mono ?_; rintro r w2 ⟨os, rfl, hX2, ho1, ho2, ho3, hb2⟩; have HK := Keep.mk ((hb2.cell (p := ⟨w.heap.size, 0, none⟩) (lt_of_cell x0)).trans x0); have HR2 := Keep.mk ((HR.out.below (below_drew V) HR.out.lt).below hb2 HR.out.lt); have r0 := HR2.out.cell 0 _ rfl; have r1 := HR2.out.cell 1 _ rfl; have r2 := HR2.out.cell 2 _ rfl; have f0 := HR2.out.froz 0; have f1 := HR2.out.froz 1; have f2 := HR2.out.froz 2))
    go_wp2
    refine bodyPost_ret (v := longV false (some ⟨V.heap.size, 0, none⟩) x.length os E) ?_ rfl ⟨false, some ⟨V.heap.size, 0, none⟩, x.length, os, by rw [HE.out], ?_, ?_, (fun a h => by injection h with h; subst h; exact hbw.size), st1 (st1 (st1 (up (up hbw (below_drew V)) hb2) _ _ _ (by omega)) _ _ _ (by omega)) _ _ _ (by omega)⟩
    · simp [longV, results, Tryd.results77, go_sem, r0, r1, r2, ho1]
    · exact plus_out HP.out ho2 ho1 (by unfold sg; simp only [if_true, Bool.false_eq_true, if_false]; omega)
    · have hne : w.heap.size + 1 + 1 ≠ V.heap.size := by omega
      exact (box3 hX2 hne).ints' ho1.symm (by rw [ho1]; have := HP.out.few; omega)
  · have HGE := Keep.mk (show val x ≤ val y by have := hgt.1 hg; omega)
    clear hgt hg
    go_wp2_with fail
    go_region_held3 (fun w' => w'.cell? ⟨w.heap.size + 1, 0, none⟩ = some (.bool true)) ((first | exact y0 | exact HK.out | exact keep3 (by omega) HK.out))
      ((go_at_call 114; refine (total_sub' B' A' d' c' _ _ y x rfl rfl HP.out.dy HP.out.dx HP.out.len.symm HGE.out (by have := HP.out.few; have := HP.out.len; omega) _ HIY.out HIX.out).mono ?_; rintro r w2 ⟨os, rfl, hX2, ho1, ho2, ho3, hb2⟩; have HK := Keep.mk ((hb2.cell (p := ⟨w.heap.size + 1, 0, none⟩) (lt_of_cell y0)).trans y0); have HR2 := Keep.mk ((HR.out.below (below_drew V) HR.out.lt).below hb2 HR.out.lt); have r0 := HR2.out.cell 0 _ rfl; have r1 := HR2.out.cell 1 _ rfl; have r2 := HR2.out.cell 2 _ rfl; have f0 := HR2.out.froz 0; have f1 := HR2.out.froz 1; have f2 := HR2.out.froz 2))
    go_wp2
    refine bodyPost_ret (v := longV true (some ⟨V.heap.size, 0, none⟩) y.length os E) ?_ rfl ⟨true, some ⟨V.heap.size, 0, none⟩, y.length, os, by rw [HE.out], ?_, ?_, (fun a h => by injection h with h; subst h; exact hbw.size), st1 (st1 (st1 (up (up hbw (below_drew V)) hb2) _ _ _ (by omega)) _ _ _ (by omega)) _ _ _ (by omega)⟩
    · simp [longV, results, Tryd.results77, go_sem, r0, r1, r2, ho1]
    · exact plus_out HP.out ho2 (by rw [ho1, HP.out.len]) (by unfold sg; simp only [if_true, Bool.false_eq_true, if_false]; omega)
    · have hne : w.heap.size + 1 + 1 ≠ V.heap.size := by omega
      exact (box3 hX2 hne).ints' ho1.symm (by rw [ho1]; have := HP.out.few; have := HP.out.len; omega)
set_option maxRecDepth 100000 in
set_option maxHeartbeats 2000000 in
theorem plus_tf (A B : Option Addr) (c d : Nat) (a b : List Nat) (n m : Nat) (ea eb : Int) (hn : n = a.length) (hm : m = b.length) (ha : Digs a) (hb : Digs b) (hla : n ≤ 1000) (hlb : m ≤ 1000) (h0 : -1000 ≤ ea) (h1 : ea ≤ 1000) (h2 : -1000 ≤ eb) (h3 : eb ≤ 1000)
    (w : World) (hI : IntsAt w w.heap.size A c a) (hJ : IntsAt w w.heap.size B d b) :
    Calls Tryd.prog 77 #[.agg #[.bool true, .slice A n c, .int .i64 ea], .agg #[.bool false, .slice B m d, .int .i64 eb]] w fun r w' =>
      ∃ neg A' c' os, r = .returned (longV neg A' c' os (pairE a b ea eb)) ∧ PlusOut true false a b ea eb neg os ∧ IntsAt w' w'.heap.size A' c' os ∧ (∀ a, A' = some a → w.heap.size ≤ a.block) ∧ Below w.heap.size w w' := by
  have HA := Keep.mk ha
  have HB := Keep.mk hb
  have HN := Keep.mk hn
  have HM := Keep.mk hm
  have HI := Keep.mk (hI.below (al3 w (.cells #[.bool true, .slice A n c, .int .i64 ea] 86) (.cells #[.bool false, .slice B m d, .int .i64 eb] 86) (.cells #[.bool false, .slice none 0 0, .int .i64 0] 86)) (Nat.le_refl _))
  have HJ := Keep.mk (hJ.below (al3 w (.cells #[.bool true, .slice A n c, .int .i64 ea] 86) (.cells #[.bool false, .slice B m d, .int .i64 eb] 86) (.cells #[.bool false, .slice none 0 0, .int .i64 0] 86)) (Nat.le_refl _))
  clear hI hJ ha hb hn hm
  go_enter Tryd.func77, Tryd.ntmps77
  go_wp2_with fail
  refine (ref_pair true false A B c d a b n m ea eb HN.out HM.out HA.out HB.out hla hlb h0 h1 h2 h3 _ (HI.out.more (by simp only [World.size_alloc]; omega)) (HJ.out.more (by simp only [World.size_alloc]; omega))).mono ?_
  rintro r W ⟨A', B', c', d', x, y, rfl, hp, hI1, hI2, hb1⟩
  have HX := (((Box.new (w := w) [.bool true, .slice A n c, .int .i64 ea] 86 rfl).alloc (.cells #[.bool false, .slice B m d, .int .i64 eb] 86)).alloc (.cells #[.bool false, .slice none 0 0, .int .i64 0] 86)).below hb1 (by simp only [World.size_alloc]; omega)
  have HY := ((Box.new (w := w.alloc (.cells #[.bool true, .slice A n c, .int .i64 ea] 86)) (n := w.heap.size + 1) [.bool false, .slice B m d, .int .i64 eb] 86 (by simp)).alloc (.cells #[.bool false, .slice none 0 0, .int .i64 0] 86)).below hb1 (by simp only [World.size_alloc]; omega)
  have HR := Keep.mk ((Box.new (w := (w.alloc (.cells #[.bool true, .slice A n c, .int .i64 ea] 86)).alloc (.cells #[.bool false, .slice B m d, .int .i64 eb] 86)) (n := w.heap.size + 2) [.bool false, .slice none 0 0, .int .i64 0] 86 (by simp)).below hb1 (by simp only [World.size_alloc]; omega))
  have hbw := up (al3 w _ _ _) hb1
  have HP := Keep.mk hp
  have ltr := HR.out.lt
  have x0 := HX.cell 0 _ rfl
  have y0 := HY.cell 0 _ rfl
  generalize hE : pairE a b ea eb = E at *
  have HE := Keep.mk hE
  clear hb1 HX HY hp hE
  go_wp2_with fail
  refine (ref_above B' A' d' c' y x HP.out.len.symm (by have := HP.out.few; have := HP.out.len; omega) W hI2 hI1).mono ?_
  rintro r V ⟨rfl, hbV⟩
  replace x0 := (hbV.cell (p := ⟨w.heap.size, 0, none⟩) (lt_of_cell x0)).trans x0
  replace y0 := (hbV.cell (p := ⟨w.heap.size + 1, 0, none⟩) (lt_of_cell y0)).trans y0
  replace HR := Keep.mk (HR.out.below hbV HR.out.lt)
  replace hbw := up hbw hbV
  have HIX := Keep.mk ((hI1.below hbV (Nat.le_refl _)).more hbV.size)
  have HIY := Keep.mk ((hI2.below hbV (Nat.le_refl _)).more hbV.size)
  replace HIX := Keep.mk (HIX.out.below (below_drew V) (Nat.le_refl _))
  replace HIY := Keep.mk (HIY.out.below (below_drew V) (Nat.le_refl _))
  replace ltr := HR.out.lt
  clear hbV hI1 hI2
  have hgt := gtL_iff y x HP.out.dy HP.out.dx HP.out.len.symm
  cases hg : gtL y x
  · have HGE := Keep.mk (show val y ≤ val x by rw [hg] at hgt; simp at hgt; exact hgt)
    clear hgt hg
    go_wp2_with fail
    go_region_held3 (fun w' => w'.cell? ⟨w.heap.size, 0, none⟩ = some (.bool true)) ((first | exact x0 | exact HK.out | exact keep3 (by omega) HK.out))
      ((go_at_call 114; refine (total_sub' A' B' c' d' _ _ x y rfl rfl HP.out.dx HP.out.dy HP.out.len HGE.out (by have := HP.out.few; omega) _ HIX.out HIY.out).mono ?_; rintro r w2 ⟨os, rfl, hX2, ho1, ho2, ho3, hb2⟩; have HK := Keep.mk ((hb2.cell (p := ⟨w.heap.size, 0, none⟩) (lt_of_cell x0)).trans x0); have HR2 := Keep.mk ((HR.out.below (below_drew V) HR.out.lt).below hb2 HR.out.lt); have r0 := HR2.out.cell 0 _ rfl; have r1 := HR2.out.cell 1 _ rfl; have r2 := HR2.out.cell 2 _ rfl; have f0 := HR2.out.froz 0; have f1 := HR2.out.froz 1; have f2 := HR2.out.froz 2))
    go_wp2
    refine bodyPost_ret (v := longV true (some ⟨V.heap.size, 0, none⟩) x.length os E) ?_ rfl ⟨true, some ⟨V.heap.size, 0, none⟩, x.length, os, by rw [HE.out], ?_, ?_, (fun a h => by injection h with h; subst h; exact hbw.size), st1 (st1 (st1 (up (up hbw (below_drew V)) hb2) _ _ _ (by omega)) _ _ _ (by omega)) _ _ _ (by omega)⟩
    · simp [longV, results, Tryd.results77, go_sem, r0, r1, r2, ho1]
    · exact plus_out HP.out ho2 ho1 (by unfold sg; simp only [if_true, Bool.false_eq_true, if_false]; omega)
    · have hne : w.heap.size + 1 + 1 ≠ V.heap.size := by omega
      exact (box3 hX2 hne).ints' ho1.symm (by rw [ho1]; have := HP.out.few; omega)
  · have HGE := Keep.mk (show val x ≤ val y by have := hgt.1 hg; omega)
    clear hgt hg
    go_wp2_with fail
    go_region_held3 (fun w' => w'.cell? ⟨w.heap.size + 1, 0, none⟩ = some (.bool false)) ((first | exact y0 | exact HK.out | exact keep3 (by omega) HK.out))
      ((go_at_call 114; refine (total_sub' B' A' d' c' _ _ y x rfl rfl HP.out.dy HP.out.dx HP.out.len.symm HGE.out (by have := HP.out.few; have := HP.out.len; omega) _ HIY.out HIX.out).mono ?_; rintro r w2 ⟨os, rfl, hX2, ho1, ho2, ho3, hb2⟩; have HK := Keep.mk ((hb2.cell (p := ⟨w.heap.size + 1, 0, none⟩) (lt_of_cell y0)).trans y0); have HR2 := Keep.mk ((HR.out.below (below_drew V) HR.out.lt).below hb2 HR.out.lt); have r0 := HR2.out.cell 0 _ rfl; have r1 := HR2.out.cell 1 _ rfl; have r2 := HR2.out.cell 2 _ rfl; have f0 := HR2.out.froz 0; have f1 := HR2.out.froz 1; have f2 := HR2.out.froz 2))
    go_wp2
    refine bodyPost_ret (v := longV false (some ⟨V.heap.size, 0, none⟩) y.length os E) ?_ rfl ⟨false, some ⟨V.heap.size, 0, none⟩, y.length, os, by rw [HE.out], ?_, ?_, (fun a h => by injection h with h; subst h; exact hbw.size), st1 (st1 (st1 (up (up hbw (below_drew V)) hb2) _ _ _ (by omega)) _ _ _ (by omega)) _ _ _ (by omega)⟩
    · simp [longV, results, Tryd.results77, go_sem, r0, r1, r2, ho1]
    · exact plus_out HP.out ho2 (by rw [ho1, HP.out.len]) (by unfold sg; simp only [if_true, Bool.false_eq_true, if_false]; omega)
    · have hne : w.heap.size + 1 + 1 ≠ V.heap.size := by omega
      exact (box3 hX2 hne).ints' ho1.symm (by rw [ho1]; have := HP.out.few; have := HP.out.len; omega)
set_option maxRecDepth 100000 in
set_option maxHeartbeats 2000000 in
theorem plus_tt (A B : Option Addr) (c d : Nat) (a b : List Nat) (n m : Nat) (ea eb : Int) (hn : n = a.length) (hm : m = b.length) (ha : Digs a) (hb : Digs b) (hla : n ≤ 1000) (hlb : m ≤ 1000) (h0 : -1000 ≤ ea) (h1 : ea ≤ 1000) (h2 : -1000 ≤ eb) (h3 : eb ≤ 1000)
    (w : World) (hI : IntsAt w w.heap.size A c a) (hJ : IntsAt w w.heap.size B d b) :
    Calls Tryd.prog 77 #[.agg #[.bool true, .slice A n c, .int .i64 ea], .agg #[.bool true, .slice B m d, .int .i64 eb]] w fun r w' =>
      ∃ neg A' c' os, r = .returned (longV neg A' c' os (pairE a b ea eb)) ∧ PlusOut true true a b ea eb neg os ∧ IntsAt w' w'.heap.size A' c' os ∧ (∀ a, A' = some a → w.heap.size ≤ a.block) ∧ Below w.heap.size w w' := by
  have HA := Keep.mk ha
  have HB := Keep.mk hb
  have HN := Keep.mk hn
  have HM := Keep.mk hm
  have HI := Keep.mk (hI.below (al3 w (.cells #[.bool true, .slice A n c, .int .i64 ea] 86) (.cells #[.bool true, .slice B m d, .int .i64 eb] 86) (.cells #[.bool false, .slice none 0 0, .int .i64 0] 86)) (Nat.le_refl _))
  have HJ := Keep.mk (hJ.below (al3 w (.cells #[.bool true, .slice A n c, .int .i64 ea] 86) (.cells #[.bool true, .slice B m d, .int .i64 eb] 86) (.cells #[.bool false, .slice none 0 0, .int .i64 0] 86)) (Nat.le_refl _))
  clear hI hJ ha hb hn hm
  go_enter Tryd.func77, Tryd.ntmps77
  go_wp2_with fail
  refine (ref_pair true true A B c d a b n m ea eb HN.out HM.out HA.out HB.out hla hlb h0 h1 h2 h3 _ (HI.out.more (by simp only [World.size_alloc]; omega)) (HJ.out.more (by simp only [World.size_alloc]; omega))).mono ?_
  rintro r W ⟨A', B', c', d', x, y, rfl, hp, hI1, hI2, hb1⟩
  have HX := (((Box.new (w := w) [.bool true, .slice A n c, .int .i64 ea] 86 rfl).alloc (.cells #[.bool true, .slice B m d, .int .i64 eb] 86)).alloc (.cells #[.bool false, .slice none 0 0, .int .i64 0] 86)).below hb1 (by simp only [World.size_alloc]; omega)
  have HY := ((Box.new (w := w.alloc (.cells #[.bool true, .slice A n c, .int .i64 ea] 86)) (n := w.heap.size + 1) [.bool true, .slice B m d, .int .i64 eb] 86 (by simp)).alloc (.cells #[.bool false, .slice none 0 0, .int .i64 0] 86)).below hb1 (by simp only [World.size_alloc]; omega)
  have HR := Keep.mk ((Box.new (w := (w.alloc (.cells #[.bool true, .slice A n c, .int .i64 ea] 86)).alloc (.cells #[.bool true, .slice B m d, .int .i64 eb] 86)) (n := w.heap.size + 2) [.bool false, .slice none 0 0, .int .i64 0] 86 (by simp)).below hb1 (by simp only [World.size_alloc]; omega))
  have hbw := up (al3 w _ _ _) hb1
  have HP := Keep.mk hp
  have ltr := HR.out.lt
  have x0 := HX.cell 0 _ rfl
  have y0 := HY.cell 0 _ rfl
  generalize hE : pairE a b ea eb = E at *
  have HE := Keep.mk hE
  clear hb1 HX HY hp hE
  have HIX := Keep.mk (hI1.below (below_drew W) (Nat.le_refl _))
  have HIY := Keep.mk (hI2.below (below_drew W) (Nat.le_refl _))
  go_wp2_with fail
  go_region_held3 (fun w' => w'.cell? ⟨w.heap.size, 0, none⟩ = some (.bool true)) ((first | exact x0 | exact HK.out | exact keep3 (by omega) HK.out))
    ((go_at_call 114; refine (total_add' A' B' c' d' _ _ x y rfl rfl HP.out.dx HP.out.dy HP.out.len HP.out.small (by have := HP.out.few; omega) _ HIX.out HIY.out).mono ?_; rintro r w2 ⟨os, rfl, hX2, ho1, ho2, ho3, hb2⟩; have HK := Keep.mk ((hb2.cell (p := ⟨w.heap.size, 0, none⟩) (lt_of_cell x0)).trans x0); have HR2 := Keep.mk ((HR.out.below (below_drew W) HR.out.lt).below hb2 HR.out.lt); have r0 := HR2.out.cell 0 _ rfl; have r1 := HR2.out.cell 1 _ rfl; have r2 := HR2.out.cell 2 _ rfl; have f0 := HR2.out.froz 0; have f1 := HR2.out.froz 1; have f2 := HR2.out.froz 2))
  go_wp2
  refine bodyPost_ret (v := longV true (some ⟨W.heap.size, 0, none⟩) x.length os E) ?_ rfl ⟨true, some ⟨W.heap.size, 0, none⟩, x.length, os, by rw [HE.out], ?_, ?_, (fun a h => by injection h with h; subst h; exact hbw.size), st1 (st1 (st1 (up (up hbw (below_drew W)) hb2) _ _ _ (by omega)) _ _ _ (by omega)) _ _ _ (by omega)⟩
  · simp [longV, results, Tryd.results77, go_sem, r0, r1, r2, ho1]
  · exact plus_out HP.out ho2 ho1 (by unfold sg; simp only [if_true]; omega)
  · have hne : w.heap.size + 1 + 1 ≠ W.heap.size := by omega
    exact (box3 hX2 hne).ints' ho1.symm (by rw [ho1]; have := HP.out.few; omega)
theorem ref_plus (na nb : Bool) (A B : Option Addr) (c d : Nat) (a b : List Nat) (n m : Nat) (ea eb : Int) (hn : n = a.length) (hm : m = b.length) (ha : Digs a) (hb : Digs b) (hla : n ≤ 1000) (hlb : m ≤ 1000) (h0 : -1000 ≤ ea) (h1 : ea ≤ 1000) (h2 : -1000 ≤ eb) (h3 : eb ≤ 1000)
    (w : World) (hI : IntsAt w w.heap.size A c a) (hJ : IntsAt w w.heap.size B d b) :
    Calls Tryd.prog 77 #[.agg #[.bool na, .slice A n c, .int .i64 ea], .agg #[.bool nb, .slice B m d, .int .i64 eb]] w fun r w' =>
      ∃ neg A' c' os, r = .returned (longV neg A' c' os (pairE a b ea eb)) ∧ PlusOut na nb a b ea eb neg os ∧ IntsAt w' w'.heap.size A' c' os ∧ (∀ a, A' = some a → w.heap.size ≤ a.block) ∧ Below w.heap.size w w' := by
  cases na <;> cases nb
  · exact plus_ff A B c d a b n m ea eb hn hm ha hb hla hlb h0 h1 h2 h3 w hI hJ
  · exact plus_ft A B c d a b n m ea eb hn hm ha hb hla hlb h0 h1 h2 h3 w hI hJ
  · exact plus_tf A B c d a b n m ea eb hn hm ha hb hla hlb h0 h1 h2 h3 w hI hJ
  · exact plus_tt A B c d a b n m ea eb hn hm ha hb hla hlb h0 h1 h2 h3 w hI hJ
end Go.Proofs.YtljemfajjeoecaaDoor
