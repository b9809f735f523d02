/- thimblelaw01.NumReads. Conditions: Glob; the text is no longer than texts are. -/
import Derived.Test.YtljemfajjeoecaaDoorWorks
import Derived.Test.YtljemfajjeoecaaDoorLaw
import Derived.Test.YtljemfajjeoecaaDoorRefParse
namespace Go.Proofs.YtljemfajjeoecaaDoor
open Go Go.RowKit Go.Proofs Th
attribute [local go_sem] Above.cell Above.frozen

theorem law_names (w : World) : Calls Tryd.prog 27 #[] w fun r w' => r = .returned (.bool true) ∧ Below w.heap.size w w' := by
  go_enter Tryd.func27, Tryd.ntmps27
  go_wp2
  go_ret
  exact ⟨rfl, Below.refl _ _⟩
set_option maxRecDepth 100000 in
theorem reads_long (s : ByteArray) (_hs : s.size ≤ 9223372036854775807) (hl : (5000 : Int) < s.size) (w : World) (hg : Glob w) :
    Calls Tryd.prog 6 #[.string s] w fun r w' => r = .returned (.bool true) ∧ Below w.heap.size w w' := by
  go_enter Tryd.func6, Tryd.ntmps6
  go_wp2_with fail
  refine (num_works _ hg).mono ?_
  rintro r w1 ⟨rfl, hb⟩
  go_wp2
  go_ret
  exact ⟨rfl, hb⟩
set_option maxRecDepth 100000 in
theorem reads_short (s : ByteArray) (hs : s.size ≤ 5000) (p q k : Int) (hF : parseN s.data.toList = ((p, q), k)) (w : World) (hg : Glob w) :
    Calls Tryd.prog 6 #[.string s] w fun r w' => r = .returned (.bool true) ∧ Below w.heap.size w w' := by
  have HF := Keep.mk hF
  have hs5 : (s.size : Int) ≤ 5000 := by omega
  clear hF
  go_enter Tryd.func6, Tryd.ntmps6
  go_wp2_with fail
  refine calls_world (fun W => Glob W ∧ Below w.heap.size w W) ⟨hg, Below.refl _ _⟩ ?_
  rintro W ⟨hg, B⟩
  refine (num_Parse s (by omega) _ hg).mono ?_
  rw [HF.out]
  simp only [numRes]
  rintro r W1 ⟨rfl, hb1⟩
  replace hg := hg.below hb1
  replace B := up B hb1
  clear hb1
  go_wp2_with fail
  refine calls_world (fun W => Glob W ∧ Below w.heap.size w W ∧ Cell2 W W1.heap.size (.int .i64 p) (.int .i64 q)) ⟨hg.alloc _, up B (al1 _ _), Cell2.new _ _ _ _⟩ ?_
  clear hg B
  rintro W ⟨hg, B, c3⟩
  have dc3 := c3.c0
  have ec3 := c3.c1
  have lc3 := c3.lt
  refine (ref_Parse s (by omega) _).mono ?_
  rw [HF.out]
  simp only [numRes]
  rintro r W2 ⟨rfl, hb2⟩
  replace hg := hg.below hb2
  replace B := up B hb2
  clear dc3 ec3 lc3
  replace c3 := c3.below hb2
  have dc3 := c3.c0
  have ec3 := c3.c1
  have lc3 := c3.lt
  clear hb2
  go_wp2_with fail
  clear dc3 ec3 lc3
  refine calls_world (fun W => Glob W ∧ Below w.heap.size w W ∧ Cell2 W W1.heap.size (.int .i64 p) (.int .i64 q) ∧ Cell2 W W2.heap.size (.int .i64 p) (.int .i64 q)) ⟨hg.alloc _, up B (al1 _ _), c3.alloc _, Cell2.new _ _ _ _⟩ ?_
  clear hg B c3
  rintro W ⟨hg, B, c3, c4⟩
  have dc3 := c3.c0
  have ec3 := c3.c1
  have lc3 := c3.lt
  have dc4 := c4.c0
  have ec4 := c4.c1
  have lc4 := c4.lt
  refine (law_names _).mono ?_
  rintro r W3 ⟨rfl, hb3⟩
  replace hg := hg.below hb3
  replace B := up B hb3
  clear dc3 ec3 lc3
  replace c3 := c3.below hb3
  clear dc4 ec4 lc4
  replace c4 := c4.below hb3
  have dc3 := c3.c0
  have ec3 := c3.c1
  have lc3 := c3.lt
  have dc4 := c4.c0
  have ec4 := c4.c1
  have lc4 := c4.lt
  clear hb3
  go_wp2_with fail
  refine (num_works _ hg).mono ?_
  rintro r W4 ⟨rfl, hb4⟩
  replace hg := hg.below hb4
  replace B := up B hb4
  clear dc3 ec3 lc3
  replace c3 := c3.below hb4
  clear dc4 ec4 lc4
  replace c4 := c4.below hb4
  have dc3 := c3.c0
  have ec3 := c3.c1
  have lc3 := c3.lt
  have dc4 := c4.c0
  have ec4 := c4.c1
  have lc4 := c4.lt
  clear hb4
  go_wp2
  go_ret
  exact ⟨rfl, B⟩

theorem law_reads (s : ByteArray) (hs : s.size ≤ maxLen) (w : World) (hg : Glob w) :
    Calls Tryd.prog 6 #[.string s] w fun r w' => r = .returned (.bool true) ∧ Below w.heap.size w w' := by
  unfold maxLen at hs
  by_cases h : s.size ≤ 5000
  · obtain ⟨⟨⟨p, q⟩, k⟩, hF⟩ : ∃ x, parseN s.data.toList = x := ⟨_, rfl⟩
    exact reads_short s h p q k hF w hg
  · exact reads_long s hs (by omega) w hg
end Go.Proofs.YtljemfajjeoecaaDoor
