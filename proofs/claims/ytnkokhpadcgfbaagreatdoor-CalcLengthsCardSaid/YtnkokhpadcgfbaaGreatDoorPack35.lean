/- Lemmas and contracts for the laws CalcLengths, part 35 of 37: AddV. Conditions: those that each lemma names. -/
import Derived.Test.YtnkokhpadcgfbaaGreatDoorPack34
namespace Go.Proofs.YtnkokhpadcgfbaaGreatDoor
open Go Go.RowKit Go.Proofs Th
attribute [local go_sem] Above.cell
set_option maxRecDepth 100000 in
set_option maxHeartbeats 4000000 in
theorem add_null_left (t : JV) (k2 : Int) (m e : Int) (s : ByteArray) (A : Option Addr) (n c : Nat) (A' : Option Addr) (n' c' : Nat)(m2 e2 : Int) (s2 : ByteArray) (A2 : Option Addr) (n2 c2 : Nat) (A2' : Option Addr) (n2' c2' : Nat) (w : World) (hJ2 : JAt w w.heap.size t (cells6 k2 m2 e2 s2 A2 n2 c2 A2' n2' c2')) :
    Calls Tryz.prog 24 #[.agg #[.int .i64 0, .int .i64 m, .int .i64 e, .string s, .slice A n c, .slice A' n' c'], .agg #[.int .i64 k2, .int .i64 m2, .int .i64 e2, .string s2, .slice A2 n2 c2, .slice A2' n2' c2']] w fun r w' => ∃ cs', r = .returned (.tuple #[.agg (List.toArray cs'), .int .i64 0]) ∧ JAt w' w'.heap.size t cs' ∧ Below w.heap.size w w' := by
  have HJ2 := Keep.mk hJ2
  clear hJ2
  go_enter Tryz.func24, Tryz.ntmps24
  go_upto_region 1 with fail
  refine wp_world (fun W => OpS w W (cells6 0 m e s A n c A' n' c') (cells6 k2 m2 e2 s2 A2 n2 c2 A2' n2' c2')) (OpS.new w 0 m e s A n c A' n' c' k2 m2 e2 s2 A2 n2 c2 A2' n2' c2' 27 27 27) ?_
  rintro W0 HT
  replace HT := Keep.mk HT
  have x0 := HT.out.x.cell 0 _ rfl
  have x1 := HT.out.x.cell 1 _ rfl
  have x2 := HT.out.x.cell 2 _ rfl
  have x3 := HT.out.x.cell 3 _ rfl
  have x4 := HT.out.x.cell 4 _ rfl
  have x5 := HT.out.x.cell 5 _ rfl
  have xl := HT.out.x.lt
  have y0 := HT.out.y.cell 0 _ rfl
  have y1 := HT.out.y.cell 1 _ rfl
  have y2 := HT.out.y.cell 2 _ rfl
  have y3 := HT.out.y.cell 3 _ rfl
  have y4 := HT.out.y.cell 4 _ rfl
  have y5 := HT.out.y.cell 5 _ rfl
  have yl := HT.out.y.lt
  have r0 := HT.out.r.cell 0 _ rfl
  have f0 := HT.out.r.froz 0
  have r1 := HT.out.r.cell 1 _ rfl
  have f1 := HT.out.r.froz 1
  have r2 := HT.out.r.cell 2 _ rfl
  have f2 := HT.out.r.froz 2
  have r3 := HT.out.r.cell 3 _ rfl
  have f3 := HT.out.r.froz 3
  have r4 := HT.out.r.cell 4 _ rfl
  have f4 := HT.out.r.froz 4
  have r5 := HT.out.r.cell 5 _ rfl
  have f5 := HT.out.r.froz 5
  have rl := HT.out.r.lt
  go_wp2
  refine bodyPost_ret (v := .tuple #[.agg #[.int .i64 k2, .int .i64 m2, .int .i64 e2, .string s2, .slice A2 n2 c2, .slice A2' n2' c2'], .int .i64 0]) ?_ rfl ?_
  · simp [results, Tryz.results24, go_sem, r0, r1, r2, r3, r4, r5]
  · exact ⟨_, rfl, ((HJ2.out.keep HT.out.b (Nat.le_refl _)).keep (six_below W0 (w.heap.size + 2) (.int .i64 k2) (.int .i64 m2) (.int .i64 e2) (.string s2) (.slice A2 n2 c2) (.slice A2' n2' c2') (by omega)) (Nat.le_refl _)).more (HT.out.b.trans (six_below W0 (w.heap.size + 2) (.int .i64 k2) (.int .i64 m2) (.int .i64 e2) (.string s2) (.slice A2 n2 c2) (.slice A2' n2' c2') (by omega))).size, HT.out.b.trans (six_below W0 (w.heap.size + 2) (.int .i64 k2) (.int .i64 m2) (.int .i64 e2) (.string s2) (.slice A2 n2 c2) (.slice A2' n2' c2') (by omega))⟩
set_option maxRecDepth 100000 in
set_option maxHeartbeats 4000000 in
theorem add_null_right (t : JV) (k : Int) (m e : Int) (s : ByteArray) (A : Option Addr) (n c : Nat) (A' : Option Addr) (n' c' : Nat)(m2 e2 : Int) (s2 : ByteArray) (A2 : Option Addr) (n2 c2 : Nat) (A2' : Option Addr) (n2' c2' : Nat) (w : World) (hk : k ≠ 0) (hJ : JAt w w.heap.size t (cells6 k m e s A n c A' n' c')) :
    Calls Tryz.prog 24 #[.agg #[.int .i64 k, .int .i64 m, .int .i64 e, .string s, .slice A n c, .slice A' n' c'], .agg #[.int .i64 0, .int .i64 m2, .int .i64 e2, .string s2, .slice A2 n2 c2, .slice A2' n2' c2']] w fun r w' => ∃ cs', r = .returned (.tuple #[.agg (List.toArray cs'), .int .i64 0]) ∧ JAt w' w'.heap.size t cs' ∧ Below w.heap.size w w' := by
  have HJ := Keep.mk hJ
  have bk : (k == 0) = false := by simpa using hk
  clear hJ hk
  go_enter Tryz.func24, Tryz.ntmps24
  go_upto_region 1 with fail
  refine wp_world (fun W => OpS w W (cells6 k m e s A n c A' n' c') (cells6 0 m2 e2 s2 A2 n2 c2 A2' n2' c2')) (OpS.new w k m e s A n c A' n' c' 0 m2 e2 s2 A2 n2 c2 A2' n2' c2' 27 27 27) ?_
  rintro W0 HT
  replace HT := Keep.mk HT
  have x0 := HT.out.x.cell 0 _ rfl
  have x1 := HT.out.x.cell 1 _ rfl
  have x2 := HT.out.x.cell 2 _ rfl
  have x3 := HT.out.x.cell 3 _ rfl
  have x4 := HT.out.x.cell 4 _ rfl
  have x5 := HT.out.x.cell 5 _ rfl
  have xl := HT.out.x.lt
  have y0 := HT.out.y.cell 0 _ rfl
  have y1 := HT.out.y.cell 1 _ rfl
  have y2 := HT.out.y.cell 2 _ rfl
  have y3 := HT.out.y.cell 3 _ rfl
  have y4 := HT.out.y.cell 4 _ rfl
  have y5 := HT.out.y.cell 5 _ rfl
  have yl := HT.out.y.lt
  have r0 := HT.out.r.cell 0 _ rfl
  have f0 := HT.out.r.froz 0
  have r1 := HT.out.r.cell 1 _ rfl
  have f1 := HT.out.r.froz 1
  have r2 := HT.out.r.cell 2 _ rfl
  have f2 := HT.out.r.froz 2
  have r3 := HT.out.r.cell 3 _ rfl
  have f3 := HT.out.r.froz 3
  have r4 := HT.out.r.cell 4 _ rfl
  have f4 := HT.out.r.froz 4
  have r5 := HT.out.r.cell 5 _ rfl
  have f5 := HT.out.r.froz 5
  have rl := HT.out.r.lt
  go_wp2
  refine bodyPost_ret (v := .tuple #[.agg #[.int .i64 k, .int .i64 m, .int .i64 e, .string s, .slice A n c, .slice A' n' c'], .int .i64 0]) ?_ rfl ?_
  · simp [results, Tryz.results24, go_sem, r0, r1, r2, r3, r4, r5]
  · exact ⟨_, rfl, ((HJ.out.keep HT.out.b (Nat.le_refl _)).keep (six_below W0 (w.heap.size + 2) (.int .i64 k) (.int .i64 m) (.int .i64 e) (.string s) (.slice A n c) (.slice A' n' c') (by omega)) (Nat.le_refl _)).more (HT.out.b.trans (six_below W0 (w.heap.size + 2) (.int .i64 k) (.int .i64 m) (.int .i64 e) (.string s) (.slice A n c) (.slice A' n' c') (by omega))).size, HT.out.b.trans (six_below W0 (w.heap.size + 2) (.int .i64 k) (.int .i64 m) (.int .i64 e) (.string s) (.slice A n c) (.slice A' n' c') (by omega))⟩
set_option maxRecDepth 100000 in
set_option maxHeartbeats 4000000 in
theorem add_texts  (m e : Int) (s : ByteArray) (A : Option Addr) (n c : Nat) (A' : Option Addr) (n' c' : Nat)(m2 e2 : Int) (s2 : ByteArray) (A2 : Option Addr) (n2 c2 : Nat) (A2' : Option Addr) (n2' c2' : Nat) (w : World) (hs : s.size + s2.size ≤ 16384) :
    Calls Tryz.prog 24 #[.agg #[.int .i64 4, .int .i64 m, .int .i64 e, .string s, .slice A n c, .slice A' n' c'], .agg #[.int .i64 4, .int .i64 m2, .int .i64 e2, .string s2, .slice A2 n2 c2, .slice A2' n2' c2']] w fun r w' => ∃ cs', r = .returned (.tuple #[.agg (List.toArray cs'), .int .i64 0]) ∧ JAt w' w'.heap.size (textV (s ++ s2)) cs' ∧ Below w.heap.size w w' := by
  have h1 : ¬ ((16384 : Int) - s2.size < s.size) := by omega
  have hsz : (s ++ s2).size ≤ 140737488351232 := by rw [ByteArray.size_append]; omega
  go_enter Tryz.func24, Tryz.ntmps24
  go_upto_region 1 with fail
  refine wp_world (fun W => OpS w W (cells6 4 m e s A n c A' n' c') (cells6 4 m2 e2 s2 A2 n2 c2 A2' n2' c2')) (OpS.new w 4 m e s A n c A' n' c' 4 m2 e2 s2 A2 n2 c2 A2' n2' c2' 27 27 27) ?_
  rintro W0 HT
  replace HT := Keep.mk HT
  have x0 := HT.out.x.cell 0 _ rfl
  have x1 := HT.out.x.cell 1 _ rfl
  have x2 := HT.out.x.cell 2 _ rfl
  have x3 := HT.out.x.cell 3 _ rfl
  have x4 := HT.out.x.cell 4 _ rfl
  have x5 := HT.out.x.cell 5 _ rfl
  have xl := HT.out.x.lt
  have y0 := HT.out.y.cell 0 _ rfl
  have y1 := HT.out.y.cell 1 _ rfl
  have y2 := HT.out.y.cell 2 _ rfl
  have y3 := HT.out.y.cell 3 _ rfl
  have y4 := HT.out.y.cell 4 _ rfl
  have y5 := HT.out.y.cell 5 _ rfl
  have yl := HT.out.y.lt
  go_wp2_with fail
  refine (calc_text (s ++ s2) _).mono ?_
  rintro r w1 ⟨rfl, hb1⟩
  replace HT := Keep.mk (HT.out.below hb1)
  clear hb1
  clear x0 x1 x2 x3 x4 x5 y0 y1 y2 y3 y4 y5 xl yl
  have r0 := HT.out.r.cell 0 _ rfl
  have f0 := HT.out.r.froz 0
  have r1 := HT.out.r.cell 1 _ rfl
  have f1 := HT.out.r.froz 1
  have r2 := HT.out.r.cell 2 _ rfl
  have f2 := HT.out.r.froz 2
  have r3 := HT.out.r.cell 3 _ rfl
  have f3 := HT.out.r.froz 3
  have r4 := HT.out.r.cell 4 _ rfl
  have f4 := HT.out.r.froz 4
  have r5 := HT.out.r.cell 5 _ rfl
  have f5 := HT.out.r.froz 5
  have rl := HT.out.r.lt
  go_wp2
  refine bodyPost_ret (v := .tuple #[.agg #[.int .i64 4, .int .i64 0, .int .i64 0, .string (s ++ s2), .slice none 0 0, .slice none 0 0], .int .i64 0]) ?_ rfl ?_
  · simp [results, Tryz.results24, go_sem, r0, r1, r2, r3, r4, r5]
  · exact ⟨_, rfl, textv_at _ _ _ hsz, HT.out.b.trans (six_below w1 (w.heap.size + 2) (.int .i64 4) (.int .i64 0) (.int .i64 0) (.string (s ++ s2)) (.slice none 0 0) (.slice none 0 0) (by omega))⟩
set_option maxRecDepth 100000 in
set_option maxHeartbeats 4000000 in
theorem add_lists (l r : List JV) (m e : Int) (s : ByteArray) (A : Option Addr) (n c : Nat) (A' : Option Addr) (n' c' : Nat)(m2 e2 : Int) (s2 : ByteArray) (A2 : Option Addr) (n2 c2 : Nat) (A2' : Option Addr) (n2' c2' : Nat) (w : World) (hn : n = l.length) (hn2 : n2 = r.length) (hlr : l.length + r.length ≤ 100000) (hV : ValsAt w w.heap.size A c l) (hR : ValsAt w w.heap.size A2 c2 r) :
    Calls Tryz.prog 24 #[.agg #[.int .i64 5, .int .i64 m, .int .i64 e, .string s, .slice A n c, .slice A' n' c'], .agg #[.int .i64 5, .int .i64 m2, .int .i64 e2, .string s2, .slice A2 n2 c2, .slice A2' n2' c2']] w fun z w' => ∃ cs', z = .returned (.tuple #[.agg (List.toArray cs'), .int .i64 0]) ∧ JAt w' w'.heap.size (listV (l ++ r)) cs' ∧ Below w.heap.size w w' := by
  subst hn hn2
  have HV := Keep.mk hV
  have HR := Keep.mk hR
  have hlc := hV.cap
  have hrc := hR.cap
  clear hV hR
  go_enter Tryz.func24, Tryz.ntmps24
  go_upto_region 1 with fail
  refine wp_world (fun W => OpS w W (cells6 5 m e s A l.length c A' n' c') (cells6 5 m2 e2 s2 A2 r.length c2 A2' n2' c2')) (OpS.new w 5 m e s A l.length c A' n' c' 5 m2 e2 s2 A2 r.length c2 A2' n2' c2' 27 27 27) ?_
  rintro W0 HT
  replace HT := Keep.mk HT
  have x0 := HT.out.x.cell 0 _ rfl
  have x1 := HT.out.x.cell 1 _ rfl
  have x2 := HT.out.x.cell 2 _ rfl
  have x3 := HT.out.x.cell 3 _ rfl
  have x4 := HT.out.x.cell 4 _ rfl
  have x5 := HT.out.x.cell 5 _ rfl
  have xl := HT.out.x.lt
  have y0 := HT.out.y.cell 0 _ rfl
  have y1 := HT.out.y.cell 1 _ rfl
  have y2 := HT.out.y.cell 2 _ rfl
  have y3 := HT.out.y.cell 3 _ rfl
  have y4 := HT.out.y.cell 4 _ rfl
  have y5 := HT.out.y.cell 5 _ rfl
  have yl := HT.out.y.lt
  go_wp2_with fail
  refine (calc_joined l r A c A2 c2 W0 w.heap.size HT.out.b.size hlr (HV.out.below HT.out.b (Nat.le_refl _)) (HR.out.below HT.out.b (Nat.le_refl _))).mono ?_
  rintro z w1 ⟨v, rfl, hO, hb1⟩
  obtain ⟨A7, c7, rfl, _, _⟩ := hO.form
  have HT0 := Keep.mk HT.out.r.lt
  replace HT := Keep.mk (HT.out.below hb1)
  have HO := Keep.mk hO
  have hw0 := hb1.size
  have hrl := HT.out.r.lt
  clear hb1 hO HV HR
  clear x0 x1 x2 x3 x4 x5 y0 y1 y2 y3 y4 y5 xl yl
  go_wp2_with fail
  refine (calc_list A7 _ c7 _).mono ?_
  rintro z w2 ⟨rfl, hb2⟩
  replace HT := Keep.mk (HT.out.below hb2)
  have HO2 := Keep.mk (HO.out.carry hb2 (fun g hg => by have hg : g < w.heap.size := hg; omega))
  have HL := Keep.mk (list_own (T := fun g => g < w.heap.size ∨ (W0.heap.size ≤ g ∧ g < w2.heap.size)) HO2.out (by rw [List.length_append]; omega) (fun g hg => Or.inl hg) (fun k h1 h2 => Or.inr ⟨h1, h2⟩))
  have hr3 := HT0.out
  clear hb2 HO HO2
  rw [List.length_append] at HL
  have r0 := HT.out.r.cell 0 _ rfl
  have f0 := HT.out.r.froz 0
  have r1 := HT.out.r.cell 1 _ rfl
  have f1 := HT.out.r.froz 1
  have r2 := HT.out.r.cell 2 _ rfl
  have f2 := HT.out.r.froz 2
  have r3 := HT.out.r.cell 3 _ rfl
  have f3 := HT.out.r.froz 3
  have r4 := HT.out.r.cell 4 _ rfl
  have f4 := HT.out.r.froz 4
  have r5 := HT.out.r.cell 5 _ rfl
  have f5 := HT.out.r.froz 5
  have rl := HT.out.r.lt
  go_wp2
  refine bodyPost_ret (v := .tuple #[.agg #[.int .i64 5, .int .i64 0, .int .i64 0, .string ⟨#[]⟩, .slice A7 (l.length + r.length) c7, .slice none 0 0], .int .i64 0]) ?_ rfl ?_
  · simp [results, Tryz.results24, go_sem, r0, r1, r2, r3, r4, r5]
  · have h6 := six_in (g := w.heap.size + 2) (.int .i64 5) (.int .i64 0) (.int .i64 0) (.string ⟨#[]⟩) (.slice A7 (l.length + r.length) c7) (.slice none 0 0) HL.out (fun h => by rcases h with h | h <;> omega)
    have hsz := six_size w2 (w.heap.size + 2) (.int .i64 5) (.int .i64 0) (.int .i64 0) (.string ⟨#[]⟩) (.slice A7 (l.length + r.length) c7) (.slice none 0 0)
    exact ⟨_, rfl, h6.at (fun g hg => by show g < (six w2 (w.heap.size + 2) (.int .i64 5) (.int .i64 0) (.int .i64 0) (.string ⟨#[]⟩) (.slice A7 (l.length + r.length) c7) (.slice none 0 0)).heap.size; rw [hsz]; rcases hg with hg | hg <;> omega), HT.out.b.trans (six_below w2 (w.heap.size + 2) (.int .i64 5) (.int .i64 0) (.int .i64 0) (.string ⟨#[]⟩) (.slice A7 (l.length + r.length) c7) (.slice none 0 0) (by omega))⟩
end Go.Proofs.YtnkokhpadcgfbaaGreatDoor
