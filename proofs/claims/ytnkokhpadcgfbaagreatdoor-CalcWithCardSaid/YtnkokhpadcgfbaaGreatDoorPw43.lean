/- Lemmas and contracts for the laws CalcWith, part 43 of 50: WorksC, Search. Conditions: those that each lemma names. -/
import Derived.Test.YtnkokhpadcgfbaaGreatDoorPw41
import Derived.Test.YtnkokhpadcgfbaaGreatDoorPw42
import Derived.Test.YtnkokhpadcgfbaaGreatDoorPw14
import Derived.WalkMore
namespace Go.Proofs.YtnkokhpadcgfbaaGreatDoor
open Go Go.RowKit Go.Proofs Th
attribute [local go_sem] Above.cell
def GlobM (w : World) : Prop := ∃ m : Int, w.cell? ⟨7, 0, none⟩ = some (.int .i64 m)
theorem GlobM.below {w w' : World} (h : GlobM w) (hb : Below w.heap.size w w') : GlobM w' := by
  obtain ⟨m, hm⟩ := h
  exact ⟨m, (hb.cell (p := ⟨7, 0, none⟩) (lt_of_cell hm)).trans hm⟩
theorem split_some (s b : ByteArray) (w : World) (hs : s.size < 4294967281) (h1 : 1 ≤ b.size) (hM : GlobM w) (hl : (Lib.splitB b 0 (Lib.countB s b) s).length = Lib.countB s b + 1) (hlc : Lib.countB s b + 1 ≤ 1000000) (hsm : ∀ k ∈ Lib.splitB b 0 (Lib.countB s b) s, k.size ≤ 140737488351232) :
    Calls Tryz.prog 75 #[.string s, .string b] w fun r w' => ∃ A c, r = .returned (.slice A (Lib.splitB b 0 (Lib.countB s b) s).length c) ∧ StrsAt w' w'.heap.size A c (Lib.splitB b 0 (Lib.countB s b) s) ∧ Below w.heap.size w w' := by
  obtain ⟨m, hm⟩ := hM
  refine (Tryz.strings_Split s b m w hs hm h1).mono ?_
  generalize Lib.splitB b 0 (Lib.countB s b) s = ps at *
  rintro r w' ⟨rfl, rfl⟩
  have hB : Box (w.alloc (.cells (ps.map Value.string).toArray 9)) w.heap.size (ps.map .string) := Box.new _ _ rfl
  refine ⟨_, _, by rw [hl], ⟨by omega, by omega, by omega, hsm, fun _ => ⟨_, 0, rfl, by simp, fun j hj => ?_⟩⟩, al1 _ _⟩
  rw [Nat.zero_add]
  exact hB.cell j _ (by rw [List.getElem?_map, List.getElem?_eq_getElem hj]; rfl)
theorem dig_at (W : World) (B : Nat) (m e : Int) (hm : I64 m) (he : I64 e) : JAt W B (digV (m, e)) (cells6 3 m e ⟨#[]⟩ none 0 0 none 0 0) :=
  (JIn.shut (W := W) (S := fun _ => False) (l := []) (ks := []) ⟨by decide, by decide⟩ hm he (by decide) (StrsIn.none_ _ _) (ValsIn.none_ _ _)).at fun g hg => hg.elim
set_option maxRecDepth 100000 in
theorem length_five (w : World) : Calls Tryz.prog 37 #[.agg #[.int .i64 3, .int .i64 (-5), .int .i64 0, .string ⟨#[]⟩, .slice none 0 0, .slice none 0 0]] w fun r w' =>
    ∃ cs', r = .returned (.tuple #[.agg (List.toArray cs'), .int .i64 0]) ∧ JAt w' w'.heap.size (digV (5, 0)) cs' ∧ Below w.heap.size w w' := by
  go_enter Tryz.func37, Tryz.ntmps37
  go_wp2
  refine bodyPost_ret (v := .tuple #[.agg #[.int .i64 3, .int .i64 5, .int .i64 0, .string ⟨#[]⟩, .slice none 0 0, .slice none 0 0], .int .i64 0]) ?_ rfl ?_
  · simp [results, Tryz.results37, go_sem]
  · refine ⟨_, rfl, dig_at _ _ 5 0 ⟨by decide, by decide⟩ ⟨by decide, by decide⟩, ?_⟩
    exact al2 _ _ _
set_option maxRecDepth 100000 in
theorem add_kind (m e : Int) (s s2 : ByteArray) (w : World) : Calls Tryz.prog 24 #[.agg #[.int .i64 3, .int .i64 m, .int .i64 e, .string s, .slice none 0 0, .slice none 0 0], .agg #[.int .i64 4, .int .i64 0, .int .i64 0, .string s2, .slice none 0 0, .slice none 0 0]] w fun r w' =>
    ∃ cs', r = .returned (.tuple #[.agg (List.toArray cs'), .int .i64 80]) ∧ JAt w' w'.heap.size zeroJ cs' ∧ Below w.heap.size w w' := by
  go_enter Tryz.func24, Tryz.ntmps24
  go_upto_region 1 with fail
  refine wp_world (fun W => OpS w W (cells6 3 m e s none 0 0 none 0 0) (cells6 4 0 0 s2 none 0 0 none 0 0)) (OpS.new w 3 m e s none 0 0 none 0 0 4 0 0 s2 none 0 0 none 0 0 27 27 27) ?_
  rintro W0 HT
  replace HT := Keep.mk HT
  have x0 := HT.out.x.cell 0 _ rfl
  have x1 := HT.out.x.cell 1 _ rfl
  have x2 := HT.out.x.cell 2 _ rfl
  have x3 := HT.out.x.cell 3 _ rfl
  have x4 := HT.out.x.cell 4 _ rfl
  have x5 := HT.out.x.cell 5 _ rfl
  have xl := HT.out.x.lt
  have y0 := HT.out.y.cell 0 _ rfl
  have y1 := HT.out.y.cell 1 _ rfl
  have y2 := HT.out.y.cell 2 _ rfl
  have y3 := HT.out.y.cell 3 _ rfl
  have y4 := HT.out.y.cell 4 _ rfl
  have y5 := HT.out.y.cell 5 _ rfl
  have yl := HT.out.y.lt
  go_wp2_with fail
  refine (numbers_kind 3 m e s none 0 0 none 0 0 4 0 0 s2 none 0 0 none 0 0 _ (Or.inr (by decide)) W0).mono ?_
  rintro r w1 ⟨rfl, hb1⟩
  replace HT := Keep.mk (HT.out.below hb1)
  clear hb1
  clear x0 x1 x2 x3 x4 x5 y0 y1 y2 y3 y4 y5 xl yl
  have r0 := HT.out.r.cell 0 _ rfl
  have f0 := HT.out.r.froz 0
  have r1 := HT.out.r.cell 1 _ rfl
  have f1 := HT.out.r.froz 1
  have r2 := HT.out.r.cell 2 _ rfl
  have f2 := HT.out.r.froz 2
  have r3 := HT.out.r.cell 3 _ rfl
  have f3 := HT.out.r.froz 3
  have r4 := HT.out.r.cell 4 _ rfl
  have f4 := HT.out.r.froz 4
  have r5 := HT.out.r.cell 5 _ rfl
  have f5 := HT.out.r.froz 5
  have rl := HT.out.r.lt
  go_wp2
  refine bodyPost_ret (v := .tuple #[.agg #[.int .i64 0, .int .i64 0, .int .i64 0, .string ⟨#[]⟩, .slice none 0 0, .slice none 0 0], .int .i64 80]) ?_ rfl ?_
  · simp [results, Tryz.results24, go_sem, r0, r1, r2, r3, r4, r5]
  · exact ⟨_, rfl, (zero_in _ (fun _ => False)).at (fun g hg => hg.elim), HT.out.b.trans (six_below w1 (w.heap.size + 2) (.int .i64 0) (.int .i64 0) (.int .i64 0) (.string ⟨#[]⟩) (.slice none 0 0) (.slice none 0 0) (by omega))⟩
def wkp : List ByteArray := [⟨#[97]⟩, ⟨#[98]⟩]
theorem wk_split : Lib.splitB ⟨#[44]⟩ 0 (Lib.countB ⟨#[97, 44, 98]⟩ ⟨#[44]⟩) ⟨#[97, 44, 98]⟩ = wkp := by decide +kernel
theorem wk_count : Lib.countB ⟨#[97, 44, 98]⟩ ⟨#[44]⟩ = 1 := by decide +kernel
theorem wk_a : doneJ (listV (wkp.map textV), 0) = (listV [textV ⟨#[97]⟩, textV ⟨#[98]⟩], 0) := by kernel_rfl
theorem wk_b : doneJ (listV ([digV (1, 0), digV (2, 0), digV (1, 0)].filter fun x => !([digV (1, 0)].any fun y => sameJ x y)), 0) = (listV [digV (2, 0)], 0) := by kernel_rfl
theorem wk_c : doneJ (digV (5, 0), 0) = (digV (5, 0), 0) := by kernel_rfl
theorem wk_d : doneJ (textV (joinB ([textV ⟨#[97]⟩, zeroJ, digV (1, 0)].map jpart) ⟨#[45]⟩), 0) = (textV ⟨#[97, 45, 45, 49]⟩, 0) := by kernel_rfl
theorem wk_r1 : rightJ (textV ⟨#[97, 44, 98]⟩) = 0 ∧ rightJ (textV ⟨#[44]⟩) = 0 ∧ rightJ (textV ⟨#[45]⟩) = 0 ∧ rightJ (textV ⟨#[97]⟩) = 0 := ⟨by kernel_rfl, by kernel_rfl, by kernel_rfl, by kernel_rfl⟩
theorem wk_r2 : rightJ (listV [digV (1, 0), digV (2, 0), digV (1, 0)]) = 0 ∧ rightJ (listV [digV (1, 0)]) = 0 ∧ rightJ (digV (-5, 0)) = 0 ∧ rightJ (digV (1, 0)) = 0 ∧ rightJ (listV [textV ⟨#[97]⟩, zeroJ, digV (1, 0)]) = 0 := ⟨by kernel_rfl, by kernel_rfl, by kernel_rfl, by kernel_rfl, by kernel_rfl⟩
theorem ValsAt.up {w W : World} {A : Option Addr} {c : Nat} {l : List JV} (h : ValsAt w w.heap.size A c l) (hb : Below w.heap.size w W) : ValsAt W W.heap.size A c l := (h.below hb (Nat.le_refl _)).more hb.size
theorem textv_at (W : World) (B : Nat) (s : ByteArray) (hs : s.size ≤ 140737488351232) : JAt W B (textV s) (cells6 4 0 0 s none 0 0 none 0 0) := (text_in W (fun _ => False) s hs).at fun _g hg => hg.elim
theorem zero_at (W : World) (B : Nat) : JAt W B zeroJ (cells6 0 0 0 ⟨#[]⟩ none 0 0 none 0 0) := (zero_in W (fun _ => False)).at fun _g hg => hg.elim
theorem list_vat {W : World} {A : Option Addr} {c : Nat} {l : List JV} (n : Nat) (hn : n = l.length) (hV : ValsAt W W.heap.size A c l) : JAt W W.heap.size (listV l) (cells6 5 0 0 ⟨#[]⟩ A n c none 0 0) := by
  subst hn
  exact JAt.shut (ks := []) ⟨by decide, by decide⟩ ⟨by decide, by decide⟩ ⟨by decide, by decide⟩ (by decide) ⟨Nat.le_refl _, by decide, by decide, fun _ h => absurd h List.not_mem_nil, fun h => absurd h (by decide)⟩ hV
theorem row1 (w : World) (a : JV) (ca : List Value) (_h6 : ca.length = 6) (hJ : ∀ W B, JAt W B a ca) (t : TypeId) : ValsAt (w.alloc (.cells ca.toArray t)) (w.alloc (.cells ca.toArray t)).heap.size (some ⟨w.heap.size, 0, none⟩) 1 [a] := by
  have hB := Box.new (w := w) ca t rfl
  refine ⟨by simp, by simp, by decide, fun j hj => ?_⟩
  match j, hj with
  | 0, _ => exact ⟨_, 0, _, rfl, by simp, fun i v hv => (by rw [show 0 + 0 * 6 + i = i by omega]; exact hB.cell i v hv), hJ _ _⟩
theorem row3 (w : World) (a b d : JV) (ca cb cd : List Value) (ha : ca.length = 6) (hb : cb.length = 6) (_hd : cd.length = 6) (hJa : ∀ W B, JAt W B a ca) (hJb : ∀ W B, JAt W B b cb) (hJd : ∀ W B, JAt W B d cd) (t : TypeId) :
    ValsAt (w.alloc (.cells (ca ++ (cb ++ cd)).toArray t)) (w.alloc (.cells (ca ++ (cb ++ cd)).toArray t)).heap.size (some ⟨w.heap.size, 0, none⟩) 3 [a, b, d] := by
  have hB := Box.new (w := w) (ca ++ (cb ++ cd)) t rfl
  refine ⟨by simp, by simp, by decide, fun j hj => ?_⟩
  match j, hj with
  | 0, _ => exact ⟨_, 0, _, rfl, by simp, fun i v hv => (by
      have hi : i < 6 := by rw [← ha]; exact (List.getElem?_eq_some_iff.1 hv).1
      rw [show 0 + 0 * 6 + i = i by omega]
      exact hB.cell i v (by rw [List.getElem?_append_left (by omega)]; exact hv)), hJa _ _⟩
  | 1, _ => exact ⟨_, 0, _, rfl, by simp, fun i v hv => (by
      have hi : i < 6 := by rw [← hb]; exact (List.getElem?_eq_some_iff.1 hv).1
      rw [show 0 + 1 * 6 + i = 6 + i by omega]
      exact hB.cell (6 + i) v (by rw [List.getElem?_append_right (by omega), ha, Nat.add_sub_cancel_left, List.getElem?_append_left (by omega)]; exact hv)), hJb _ _⟩
  | 2, _ => exact ⟨_, 0, _, rfl, by simp, fun i v hv => (by
      rw [show 0 + 2 * 6 + i = 12 + i by omega]
      exact hB.cell (12 + i) v (by rw [List.getElem?_append_right (by omega), ha, show 12 + i - 6 = 6 + i by omega, List.getElem?_append_right (by omega), hb, Nat.add_sub_cancel_left]; exact hv)), hJd _ _⟩
theorem wk_op1 (w : World) (hG : GlobW w) (hM : GlobM w) : Calls Tryz.prog 10 #[.string ⟨#[47]⟩, .agg #[.int .i64 4, .int .i64 0, .int .i64 0, .string ⟨#[97, 44, 98]⟩, .slice none 0 0, .slice none 0 0], .agg #[.int .i64 4, .int .i64 0, .int .i64 0, .string ⟨#[44]⟩, .slice none 0 0, .slice none 0 0]] w fun r w' => OpPost w r w' (listV [textV ⟨#[97]⟩, textV ⟨#[98]⟩], 0) := by
  have h := oper_part (textV ⟨#[97, 44, 98]⟩) (textV ⟨#[44]⟩) w _ _ hG (textv_at w _ _ (by decide)) (textv_at w _ _ (by decide)) wk_r1.1 wk_r1.2.1 (listV (wkp.map textV)) 0 (fun _ => by decide +kernel)
    (fun W hb => calc_part ⟨#[97, 44, 98]⟩ ⟨#[44]⟩ wkp W (by decide) (by rw [ba_list]; decide) (fun W2 hb2 => by
      have hs := split_some ⟨#[97, 44, 98]⟩ ⟨#[44]⟩ W2 (by decide) (by decide) (hM.below (up hb hb2)) (by rw [wk_split, wk_count]; rfl) (by rw [wk_count]; decide) (by rw [wk_split]; decide)
      rw [wk_split] at hs
      exact hs))
  rw [wk_a] at h
  exact h
theorem wk_op2 (w : World) (A : Option Addr) (c : Nat) (B : Option Addr) (d : Nat) (hG : GlobW w) (hV : ValsAt w w.heap.size A c [digV (1, 0), digV (2, 0), digV (1, 0)]) (hV2 : ValsAt w w.heap.size B d [digV (1, 0)]) :
    Calls Tryz.prog 10 #[.string ⟨#[45]⟩, .agg #[.int .i64 5, .int .i64 0, .int .i64 0, .string ⟨#[]⟩, .slice A 3 c, .slice none 0 0], .agg #[.int .i64 5, .int .i64 0, .int .i64 0, .string ⟨#[]⟩, .slice B 1 d, .slice none 0 0]] w fun r w' => OpPost w r w' (listV [digV (2, 0)], 0) := by
  have h := oper_less (listV [digV (1, 0), digV (2, 0), digV (1, 0)]) (listV [digV (1, 0)]) w _ _ hG (list_vat 3 rfl hV) (list_vat 1 rfl hV2) wk_r2.1 wk_r2.2.1 (listV ([digV (1, 0), digV (2, 0), digV (1, 0)].filter fun x => !([digV (1, 0)].any fun y => sameJ x y))) 0 (fun _ => by decide +kernel)
    (fun W hb => calc_less [digV (1, 0), digV (2, 0), digV (1, 0)] [digV (1, 0)] A c B d W (by decide) (hV.up hb) (hV2.up hb))
  rw [wk_b] at h
  exact h
theorem wk_op3 (w : World) (hG : GlobW w) : Calls Tryz.prog 14 #[.string ⟨#[108, 101, 110, 103, 116, 104]⟩, .agg #[.int .i64 3, .int .i64 (-5), .int .i64 0, .string ⟨#[]⟩, .slice none 0 0, .slice none 0 0]] w fun r w' => OpPost w r w' (digV (5, 0), 0) := by
  have h := plain_length (digV (-5, 0)) w _ hG (dig_at w _ (-5) 0 ⟨by decide, by decide⟩ ⟨by decide, by decide⟩) wk_r2.2.2.1 (digV (5, 0)) 0 (fun _ => by decide +kernel) (fun W _ => length_five W)
  rw [wk_c] at h
  exact h
theorem wk_op4 (w : World) (A : Option Addr) (c : Nat) (hG : GlobW w) (hV : ValsAt w w.heap.size A c [textV ⟨#[97]⟩, zeroJ, digV (1, 0)]) :
    Calls Tryz.prog 16 #[.string ⟨#[106, 111, 105, 110]⟩, .agg #[.int .i64 5, .int .i64 0, .int .i64 0, .string ⟨#[]⟩, .slice A 3 c, .slice none 0 0], .agg #[.int .i64 4, .int .i64 0, .int .i64 0, .string ⟨#[45]⟩, .slice none 0 0, .slice none 0 0]] w fun r w' => OpPost w r w' (textV ⟨#[97, 45, 45, 49]⟩, 0) := by
  have h := with_join (listV [textV ⟨#[97]⟩, zeroJ, digV (1, 0)]) (textV ⟨#[45]⟩) [textV ⟨#[97]⟩, zeroJ, digV (1, 0)] ⟨#[45]⟩ w A 3 c rfl rfl rfl hG (list_vat 3 rfl hV) (textv_at w _ _ (by decide)) wk_r2.2.2.2.2 wk_r1.2.2.1 (textV (joinB ([textV ⟨#[97]⟩, zeroJ, digV (1, 0)].map jpart) ⟨#[45]⟩)) 0 (fun _ => by decide +kernel)
    (fun W hb => calc_join [textV ⟨#[97]⟩, zeroJ, digV (1, 0)] ⟨#[45]⟩ A c W (by decide) (fun j hj => by match j, hj with | 0, _ => exact (show (4 : Int) ≠ 5 ∧ (4 : Int) ≠ 6 by decide) | 1, _ => exact (show (0 : Int) ≠ 5 ∧ (0 : Int) ≠ 6 by decide) | 2, _ => exact (show (3 : Int) ≠ 5 ∧ (3 : Int) ≠ 6 by decide)) (by decide +kernel) (by decide) (by decide +kernel) (hG.below hb) (hV.up hb) (by decide +kernel))
  rw [wk_d] at h
  exact h
theorem wk_op5 (w : World) (hG : GlobW w) : Calls Tryz.prog 10 #[.string ⟨#[43]⟩, .agg #[.int .i64 3, .int .i64 1, .int .i64 0, .string ⟨#[]⟩, .slice none 0 0, .slice none 0 0], .agg #[.int .i64 4, .int .i64 0, .int .i64 0, .string ⟨#[97]⟩, .slice none 0 0, .slice none 0 0]] w fun r w' => OpPost w r w' (zeroJ, 80) := by
  have h := oper_add (digV (1, 0)) (textV ⟨#[97]⟩) w _ _ hG (dig_at w _ 1 0 ⟨by decide, by decide⟩ ⟨by decide, by decide⟩) (textv_at w _ _ (by decide)) wk_r2.2.2.2.1 wk_r1.2.2.2 zeroJ 80 (fun h => absurd h (by decide)) (fun W _ => add_kind 1 0 ⟨#[]⟩ ⟨#[97]⟩ W)
  exact h
end Go.Proofs.YtnkokhpadcgfbaaGreatDoor
namespace Go.Proofs.YtnkokhpadcgfbaaGreatDoor
open Go Go.RowKit Go.Proofs Th
attribute [local go_sem] Above.cell
theorem ba_refl (x : ByteArray) : (x.toList == x.toList) = true := by simp
set_option maxRecDepth 100000 in
theorem nan_str (x : ByteArray) (w : World) : Calls Tryz.prog 99 #[.string x] w fun r w' => r = .returned (.bool false) ∧ Below w.heap.size w w' := by
  have hx := ba_refl x
  go_enter Tryz.func99, Tryz.ntmps99
  go_wp2
  go_ret
  exact ⟨rfl, Below.refl _ _⟩
set_option maxRecDepth 100000 in
theorem nan_str2 (x : ByteArray) (w : World) : Calls Tryz.prog 154 #[.string x] w fun r w' => r = .returned (.bool false) ∧ Below w.heap.size w w' := by
  have hx := ba_refl x
  go_enter Tryz.func154, Tryz.ntmps154
  go_wp2
  go_ret
  exact ⟨rfl, Below.refl _ _⟩
set_option maxRecDepth 100000 in
theorem less_str (x y : ByteArray) (w : World) : Calls Tryz.prog 98 #[.string x, .string y] w fun r w' => r = .returned (.bool (Op.bytesLess x.toList y.toList)) ∧ Below w.heap.size w w' := by
  obtain ⟨b, hb⟩ : ∃ b, Op.bytesLess x.toList y.toList = b := ⟨_, rfl⟩
  rw [hb]
  go_enter Tryz.func98, Tryz.ntmps98
  go_wp2_with fail
  refine (nan_str2 x _).mono ?_
  rintro r w1 ⟨rfl, hb1⟩
  go_wp2
  go_ret
  exact ⟨rfl, hb1⟩
theorem key_search (ks : List ByteArray) (x : ByteArray) (A : Option Addr) (c : Nat) (w : World) (hK : StrsAt w w.heap.size A c ks) (hr : riseK ks = true) :
    Calls Tryz.prog 49 #[.slice A ks.length c, .string x] w fun r w' => ∃ i : Int, r = .returned (.tuple #[.int .i64 i, .bool (hasK ks x)]) ∧ Below w.heap.size w w' := by
  have hcap := hK.cap
  have HHK := Keep.mk (has_key ks x hr)
  have HK := Keep.mk (fun W (hb : Below w.heap.size w W) => (hK.below hb (Nat.le_refl _)).more hb.size)
  obtain ⟨I, hI⟩ : ∃ I, Lib.bsGo (fun t => Op.bytesLess (ks.getD t x).data.toList x.data.toList) ks.length 0 ks.length = I := ⟨_, rfl⟩
  rw [hI] at HHK
  have HI := Keep.mk hI
  clear hI hK hr
  go_enter Tryz.func49, Tryz.ntmps49
  go_wp2_with fail
  go_loopg [7, 8] ks.length (fun gk v7 v8 wr => ∃ lo hi : Nat, v7 = .int .i64 lo ∧ v8 = .int .i64 hi ∧ lo ≤ hi ∧ hi ≤ ks.length ∧ hi - lo ≤ gk ∧ Keep (Lib.bsGo (fun t => Op.bytesLess (ks.getD t x).data.toList x.data.toList) gk lo hi = I) ∧ Keep (Below w.heap.size w wr))
  case atStart => exact ⟨0, ks.length, rfl, rfl, Nat.zero_le _, Nat.le_refl _, by omega, HI, ⟨Below.refl _ _⟩⟩
  case round =>
    obtain ⟨lo, hi, rfl, rfl, hlh, hin, hg, HB, HW⟩ := hrel
    by_cases hlt : lo < hi
    · obtain ⟨g, o, rfl, hg2, hc⟩ := (HK.out wr HW.out).at_ (by omega)
      have cm := hc ((lo + hi) / 2) (by omega)
      obtain ⟨g', rfl⟩ : ∃ g', gk = g' + 1 := ⟨gk - 1, by omega⟩
      obtain ⟨y, hy⟩ : ∃ y, (ks[(lo + hi) / 2]'(by omega)) = y := ⟨_, rfl⟩
      have hgd : ks.getD ((lo + hi) / 2) x = y := by rw [List.getD_eq_getElem?_getD, List.getElem?_eq_getElem (show (lo + hi) / 2 < ks.length by omega), ← hy]; rfl
      have HS := Keep.mk (show (if Op.bytesLess y.toList x.toList = true then Lib.bsGo (fun t => Op.bytesLess (ks.getD t x).data.toList x.data.toList) g' ((lo + hi) / 2 + 1) hi else Lib.bsGo (fun t => Op.bytesLess (ks.getD t x).data.toList x.data.toList) g' lo ((lo + hi) / 2)) = I by
        have h := HB.out
        unfold Lib.bsGo at h
        rw [if_pos hlt] at h
        simp only [hgd] at h
        rw [ba_list, ba_list]
        exact h)
      rw [hy] at cm
      have HL := Keep.mk (less_str y x)
      obtain ⟨b, hb⟩ : ∃ b, Op.bytesLess y.toList x.toList = b := ⟨_, rfl⟩
      rw [hb] at HL HS
      clear hc hy hb HB hgd
      cases b
      · go_wp2_with fail
        refine (HL.out _).mono ?_
        rintro r w2 ⟨rfl, hb2⟩
        have HW2 := Keep.mk (up HW.out hb2)
        clear hb2 HL
        go_wp2
        go_roundg ((lo + hi) / 2 - lo)
        case measure => omega
        case rel => exact ⟨lo, (lo + hi) / 2, rfl, by rw [show ((lo : Int) + (hi : Int)) / 2 = (((lo + hi) / 2 : Nat) : Int) by omega], by omega, by omega, Nat.le_refl _, ⟨by rw [← HS.out]; exact Lib.bsGo_fuel _ _ _ _ _ (Nat.le_refl _) (by omega)⟩, HW2⟩
      · go_wp2_with fail
        refine (HL.out _).mono ?_
        rintro r w2 ⟨rfl, hb2⟩
        have HW2 := Keep.mk (up HW.out hb2)
        clear hb2 HL
        go_wp2
        go_roundg (hi - ((lo + hi) / 2 + 1))
        case measure => omega
        case rel => exact ⟨(lo + hi) / 2 + 1, hi, by rw [show ((lo : Int) + (hi : Int)) / 2 + 1 = (((lo + hi) / 2 + 1 : Nat) : Int) by omega], rfl, by omega, hin, Nat.le_refl _, ⟨by rw [← HS.out]; exact Lib.bsGo_fuel _ _ _ _ _ (Nat.le_refl _) (by omega)⟩, HW2⟩
    · obtain rfl : hi = lo := by omega
      have HE := Keep.mk (show I = hi by
        rw [← HB.out]
        cases gk <;> simp [Lib.bsGo])
      by_cases hn : hi < ks.length
      · obtain ⟨g, o, rfl, hg2, hc⟩ := (HK.out wr HW.out).at_ (by omega)
        have cl := hc hi hn
        have HX := Keep.mk (show decide (ks[hi] = x) = hasK ks x by
          rw [← HHK.out, HE.out, List.getD_eq_getElem?_getD, List.getElem?_eq_getElem hn]
          simp [hn])
        obtain ⟨y, hy⟩ : ∃ y, ks[hi] = y := ⟨_, rfl⟩
        rw [hy] at cl HX
        clear hc hy HB HE HHK HI
        by_cases hyx : y = x
        · subst hyx
          have hxx := ba_refl y
          have HX2 := Keep.mk (show hasK ks y = true by rw [← HX.out]; simp)
          clear HX
          go_wp2
          go_ret2
          exact ⟨(hi : Int), by rw [HX2.out]; rfl, HW.out⟩
        · have hne : (y.toList == x.toList) = false := by
            rw [beq_eq_false_iff_ne, ba_list, ba_list]
            exact fun h => hyx (ba_inj h)
          have HX2 := Keep.mk (show hasK ks x = false by rw [← HX.out]; simpa using hyx)
          clear HX hyx
          go_wp2_with fail
          refine (nan_str y _).mono ?_
          rintro r w2 ⟨rfl, hb2⟩
          have HW2 := Keep.mk (up HW.out hb2)
          clear hb2
          go_wp2
          go_ret2
          exact ⟨(hi : Int), by rw [HX2.out]; rfl, HW2.out⟩
      · have HX2 := Keep.mk (show hasK ks x = false by rw [← HHK.out, HE.out]; simp [hn])
        clear HB HE HHK HI
        go_wp2
        go_ret2
        exact ⟨(hi : Int), by rw [HX2.out]; rfl, HW.out⟩
end Go.Proofs.YtnkokhpadcgfbaaGreatDoor
