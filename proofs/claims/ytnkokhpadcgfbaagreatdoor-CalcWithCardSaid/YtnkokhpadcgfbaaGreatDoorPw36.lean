/- Lemmas and contracts for the laws CalcWith, part 36 of 50: LessV. Conditions: those that each lemma names. -/
import Derived.Test.YtnkokhpadcgfbaaGreatDoorPw30
import Derived.Test.YtnkokhpadcgfbaaGreatDoorPw35
namespace Go.Proofs.YtnkokhpadcgfbaaGreatDoor
open Go Go.RowKit Go.Proofs Th
attribute [local go_sem] Above.cell
set_option maxRecDepth 100000 in
theorem wpList_app_vals {w : World} {ops : Array Oper} {rest : List Oper} {o : Oper} {a : Act} {Q : Exit → Act → World → Prop} (hgd : o.guard = none) (s x : Operand)
    (ho : o.op = .call { callee := .builtin .append, args := #[s, x], argTypes := #[24, 24] })
    (base : Nat) (S : Nat → Prop) (v : Value) (l : List JV) (hs : a.eval s = v) (hown : OwnV w base S v l) (p : Nat) (t : JV) (cs : List Value) (hx : a.eval x = .slice (some ⟨p, 0, none⟩) 1 1) (hcell : ∀ i u, cs[i]? = some u → w.cell? ⟨p, i, none⟩ = some u) (hJ : JIn w S t cs)
    (hl : l.length + 1 ≤ 1000000000) (hbase : base ≤ w.heap.size) (hnot : ∀ k, v.ownBlock = some k → ¬ S k) (hS : ∀ k, S k → k < w.heap.size)
    (h : ∀ v' w', OwnV w' base S v' (l ++ [t]) → w.grownBy w' v.ownBlock → (v'.ownBlock = v.ownBlock ∨ v'.ownBlock = some w.heap.size) → wpList Tryz.prog ops Q rest (a.put o.dst v') w') : wpList Tryz.prog ops Q (o :: rest) a w := by
  refine wpList_plain hgd fun K hK => ?_
  obtain ⟨v', w', hrun, h2, h3, h4⟩ := run_append_vals (w := w) o.type base S v l hown p t cs hcell hJ hl hbase hnot hS
  unfold Oper.wp execOp
  simp only [ho, resolve, invoke, builtin, Sem.run_bind, Sem.run_pure, Result.andThen_ok, List.map_toArray, List.map_cons, List.map_nil, hs, hx, hrun]
  exact hK _ _ (h v' w' h2 h3 h4)
theorem grown_below {B : Nat} {w w' : World} {v : Value} (hg : w.grownBy w' v.ownBlock) (hB : B ≤ w.heap.size) (hv : ∀ b, v.ownBlock = some b → B ≤ b) : Below B w w' := (Below.refl _ _).grown hg hB hv
theorem OpS.mono {w W W' : World} {cs cs2 : List Value} (h : OpS w W cs cs2) (hb : Below (w.heap.size + 3) W W') : OpS w W' cs cs2 := ⟨h.x.below hb (by omega), h.y.below hb (by omega), h.r.below hb (by omega), h.b.trans (hb.mono (by omega))⟩
theorem OwnV.carry {w w' : World} {base : Nat} {S : Nat → Prop} {v : Value} {l : List JV} (h : OwnV w base S v l) (hb : Below w.heap.size w w') (hS : ∀ g, S g → g < w.heap.size) : OwnV w' base S v l :=
  h.keep (fun g hg => hb.block g (hS g hg)) (fun k hk => hb.block k (h.lt k hk).2) (fun _ h => h)
set_option maxRecDepth 100000 in
theorem less_clo (x y : JV) (p : Nat) (w : World) (cx cy : List Value) (hB : Box w p cx) (hX : JAt w w.heap.size x cx) (hY : JAt w w.heap.size y cy) :
    Calls Tryz.prog 67 #[.agg cy.toArray, .pointer (some ⟨p, 0, none⟩)] w fun r w' => r = .returned (.bool (sameJ x y)) ∧ Below w.heap.size w w' := by
  obtain ⟨k, m, e, s, A, n, c, A', n', c', rfl⟩ := hX.inn.cells
  obtain ⟨k2, m2, e2, s2, B, n2, d, B', n2', d', rfl⟩ := hY.inn.cells
  have HX := Keep.mk hX
  have HY := Keep.mk hY
  have x0 := hB.cell 0 _ rfl
  have x1 := hB.cell 1 _ rfl
  have x2 := hB.cell 2 _ rfl
  have x3 := hB.cell 3 _ rfl
  have x4 := hB.cell 4 _ rfl
  have x5 := hB.cell 5 _ rfl
  have xl := hB.lt
  clear hX hY hB
  show Calls _ _ #[.agg #[.int .i64 k2, .int .i64 m2, .int .i64 e2, .string s2, .slice B n2 d, .slice B' n2' d'], .pointer (some ⟨p, 0, none⟩)] w _
  go_enter Tryz.func67, Tryz.ntmps67
  go_wp2_with fail
  refine (value_Same _ x y (Nat.le_refl _) _ _ _ (HX.out.up (al1 _ _)) (HY.out.up (al1 _ _))).mono ?_
  rintro r w1 ⟨rfl, hb⟩
  go_wp2
  go_ret
  exact ⟨rfl, up (al1 _ _) hb⟩
theorem list_at {w W : World} {A : Option Addr} {n c : Nat} {l : List JV} (h : OwnV W (w.heap.size + 3) (· < w.heap.size) (.slice A n c) l) (hl : l.length ≤ 140737488351232) (_hS : ∀ g, g < w.heap.size → g < W.heap.size) :
    JIn W (fun g => g < w.heap.size ∨ (w.heap.size + 3 ≤ g ∧ g < W.heap.size)) (listV l) (cells6 5 0 0 ⟨#[]⟩ A l.length c none 0 0) := by
  obtain ⟨e, hV⟩ := h.vals hl (T := fun g => g < w.heap.size ∨ (w.heap.size + 3 ≤ g ∧ g < W.heap.size)) (fun g hg => Or.inl hg) (fun k hk => Or.inr (h.lt k hk))
  exact JIn.shut (ks := []) ⟨by decide, by decide⟩ ⟨by decide, by decide⟩ ⟨by decide, by decide⟩ (by decide) (StrsIn.none_ _ _) hV
theorem any_step (x : JV) (l : List JV) (j : Nat) (h : j < l.length) : (l.drop j).any (fun y => sameJ x y) = (sameJ x l[j] || (l.drop (j + 1)).any fun y => sameJ x y) := by
  rw [List.drop_eq_getElem_cons h]; rfl
set_option maxRecDepth 100000 in
theorem less_index (x : JV) (l : List JV) (p : Nat) (B : Option Addr) (d : Nat) (w : World) (cx : List Value) (hB : Box w p cx) (hX : JAt w w.heap.size x cx) (hV : ValsAt w w.heap.size B d l) :
    Calls Tryz.prog 113 #[.slice B l.length d, .func (.func 67) #[] #[.pointer (some ⟨p, 0, none⟩)]] w fun r w' => ∃ z : Int, r = .returned (.int .i64 z) ∧ decide (z ≥ 0) = l.any (fun y => sameJ x y) ∧ Below w.heap.size w w' := by
  have hlc := hV.cap
  have hl0 := hV.le
  have HX := Keep.mk (fun W (hb : Below w.heap.size w W) => And.intro (hB.below hb hB.lt) (hX.up hb))
  clear hB hX
  go_enter Tryz.func113, Tryz.ntmps113
  go_wp2_with fail
  go_loopg [8] l.length (fun gk i wr => ∃ j : Nat, j + gk = l.length ∧ i = .int .i64 j ∧ Keep ((l.drop j).any (fun y => sameJ x y) = l.any (fun y => sameJ x y)) ∧ Keep (ValsAt wr w.heap.size B d l) ∧ Keep (Below w.heap.size w wr))
  case atStart => exact ⟨0, by omega, rfl, ⟨by rw [List.drop_zero]⟩, ⟨hV⟩, ⟨Below.refl _ _⟩⟩
  case round =>
    clear hV
    obtain ⟨j, hj, rfl, HC, HV, HB⟩ := hrel
    have hwl := HB.out.size
    by_cases hlt : j < l.length
    · have hgk : gk ≠ 0 := by omega
      obtain ⟨g, o, k1, m1, e1, s1, A1, n1, d1, B1, q1, f1, rfl, hg, hJ1, y0, y1, y2, y3, y4, y5⟩ := HV.out.elem j hlt
      have hg2 : g < wr.heap.size := by omega
      have HS := Keep.mk (any_step x l j hlt)
      have HCC := Keep.mk (less_clo x l[j] p wr cx _ (HX.out wr HB.out).1 (HX.out wr HB.out).2 (hJ1.more hwl))
      clear hJ1
      obtain ⟨z, hz⟩ : ∃ z : Bool, sameJ x l[j] = z := ⟨_, rfl⟩
      rw [hz] at HCC HS
      clear hz
      cases z
      · have HE := Keep.mk (show (l.drop (j + 1)).any (fun y => sameJ x y) = l.any (fun y => sameJ x y) by rw [← HC.out, HS.out]; rfl)
        clear HS HC
        go_wp2_with fail
        refine HCC.out.mono ?_
        rintro e w1 ⟨rfl, hb1⟩
        go_wp2
        go_roundg (gk - 1)
        case rel => exact ⟨j + 1, by omega, by go_num, HE, ⟨HV.out.below hb1 hwl⟩, ⟨up HB.out hb1⟩⟩
        case measure => omega
      · have HE := Keep.mk (show true = l.any (fun y => sameJ x y) by rw [← HC.out, HS.out]; rfl)
        clear HS HC
        go_wp2_with fail
        refine HCC.out.mono ?_
        rintro e w1 ⟨rfl, hb1⟩
        go_wp2
        go_ret
        exact ⟨j, rfl, by rw [← HE.out]; simp, up HB.out hb1⟩
    · have HE := Keep.mk (show false = l.any (fun y => sameJ x y) by rw [← HC.out, List.drop_eq_nil_of_le (by omega)]; rfl)
      obtain rfl : j = l.length := by omega
      clear HC
      go_wp2
      go_ret
      exact ⟨-1, rfl, by rw [← HE.out]; rfl, HB.out⟩
set_option maxRecDepth 100000 in
theorem less_contains (x : JV) (l : List JV) (p : Nat) (B : Option Addr) (d : Nat) (w : World) (cx : List Value) (hB : Box w p cx) (hX : JAt w w.heap.size x cx) (hV : ValsAt w w.heap.size B d l) :
    Calls Tryz.prog 66 #[.slice B l.length d, .func (.func 67) #[] #[.pointer (some ⟨p, 0, none⟩)]] w fun r w' => r = .returned (.bool (l.any fun y => sameJ x y)) ∧ Below w.heap.size w w' := by
  have HC := Keep.mk (less_index x l p B d w cx hB hX hV)
  clear hB hX hV
  go_enter Tryz.func66, Tryz.ntmps66
  go_wp2_with fail
  refine HC.out.mono ?_
  rintro r w1 ⟨z, rfl, hz, hb⟩
  replace hz := Keep.mk hz
  go_wp2
  go_ret
  exact ⟨ret_bool hz.out, hb⟩
theorem filter_step (l l2 : List JV) (j : Nat) (h : j < l.length) : (l.take (j + 1)).filter (fun x => !(l2.any fun y => sameJ x y)) = (l.take j).filter (fun x => !(l2.any fun y => sameJ x y)) ++ (if l2.any (fun y => sameJ l[j] y) then [] else [l[j]]) := by
  rw [List.take_succ_eq_append_getElem h, List.filter_append]
  congr 1
  cases hq : l2.any fun y => sameJ l[j] y <;> simp [List.filter, hq]
set_option maxRecDepth 100000 in
set_option maxHeartbeats 4000000 in
theorem calc_less (l l2 : List JV) (A : Option Addr) (c : Nat) (B : Option Addr) (d : Nat) (w : World) (hl : l.length ≤ 100000) (hV : ValsAt w w.heap.size A c l) (hV2 : ValsAt w w.heap.size B d l2) :
    Calls Tryz.prog 25 #[.agg #[.int .i64 5, .int .i64 0, .int .i64 0, .string ⟨#[]⟩, .slice A l.length c, .slice none 0 0], .agg #[.int .i64 5, .int .i64 0, .int .i64 0, .string ⟨#[]⟩, .slice B l2.length d, .slice none 0 0]] w fun r w' =>
      ∃ cs', r = .returned (.tuple #[.agg (List.toArray cs'), .int .i64 0]) ∧ JAt w' w'.heap.size (listV (l.filter fun x => !(l2.any fun y => sameJ x y))) cs' ∧ Below w.heap.size w w' := by
  have hlc := hV.cap
  have hl0 := hV.le
  go_enter Tryz.func25, Tryz.ntmps25
  go_upto_region 1 with fail
  refine wp_world (fun W => OpS w W (cells6 5 0 0 ⟨#[]⟩ A l.length c none 0 0) (cells6 5 0 0 ⟨#[]⟩ B l2.length d none 0 0)) (OpS.new w 5 0 0 ⟨#[]⟩ A l.length c none 0 0 5 0 0 ⟨#[]⟩ B l2.length d none 0 0 27 27 27) ?_
  rintro W0 HT
  replace HT := Keep.mk HT
  have x0 := HT.out.x.cell 0 _ rfl
  have x4 := HT.out.x.cell 4 _ rfl
  have xl := HT.out.x.lt
  have y0 := HT.out.y.cell 0 _ rfl
  have y4 := HT.out.y.cell 4 _ rfl
  have yl := HT.out.y.lt
  have HV := Keep.mk (hV.below HT.out.b (Nat.le_refl _))
  have HV2 := Keep.mk (hV2.below HT.out.b (Nat.le_refl _))
  clear hV hV2
  go_wp2_with fail
  go_loopg [6, 25] l.length (fun gk v6 i wr => ∃ j : Nat, j + gk = l.length ∧ i = .int .i64 j ∧ Keep (ValsAt wr w.heap.size A c l) ∧ Keep (ValsAt wr w.heap.size B d l2) ∧ Keep (OpS w wr (cells6 5 0 0 ⟨#[]⟩ A l.length c none 0 0) (cells6 5 0 0 ⟨#[]⟩ B l2.length d none 0 0)) ∧
    Keep (OwnV wr (w.heap.size + 3) (· < w.heap.size) v6 ((l.take j).filter fun x => !(l2.any fun y => sameJ x y))))
  case atStart => exact ⟨0, by omega, rfl, HV, HV2, HT, ⟨by rw [List.take_zero]; exact OwnV.nil _ _ _⟩⟩
  case round =>
    clear HT HV HV2 x0 x4 xl y0 y4 yl
    obtain ⟨j, hj, rfl, HV, HV2, HT, HO⟩ := hrel
    have hbs := HT.out.b.size
    have hrl := HT.out.r.lt
    by_cases hlt : j < l.length
    · have hgk : gk ≠ 0 := by omega
      obtain ⟨g, o, k1, m1, e1, s1, A1, n1, d1, B1, q1, f1, rfl, hg, hJ1, z0, z1, z2, z3, z4, z5⟩ := HV.out.elem j hlt
      have hg2 : g < wr.heap.size := by omega
      have y4 := HT.out.y.cell 4 _ rfl
      have yl := HT.out.y.lt
      have HXB := Keep.mk (show Box (wr.alloc (.cells #[.int .i64 k1, .int .i64 m1, .int .i64 e1, .string s1, .slice A1 n1 d1, .slice B1 q1 f1] 27)) wr.heap.size (cells6 k1 m1 e1 s1 A1 n1 d1 B1 q1 f1) from Box.new (cells6 k1 m1 e1 s1 A1 n1 d1 B1 q1 f1) _ rfl)
      have HCC := Keep.mk (less_contains l[j] l2 wr.heap.size B d _ _ HXB.out ((hJ1.more (by omega)).up (al1 wr _)) ((HV2.out.below (al1 wr _) (by omega)).more (by simp; omega)))
      have HS := Keep.mk (filter_step l l2 j hlt)
      have HJ1 := Keep.mk hJ1.inn
      clear hJ1
      obtain ⟨z, hz⟩ : ∃ z : Bool, (l2.any fun y => sameJ l[j] y) = z := ⟨_, rfl⟩
      rw [hz] at HCC HS
      clear hz
      cases z
      · have HE := Keep.mk (show (l.take (j + 1)).filter (fun x => !(l2.any fun y => sameJ x y)) = (l.take j).filter (fun x => !(l2.any fun y => sameJ x y)) ++ [l[j]] by rw [HS.out]; rfl)
        clear HS
        go_wp2_with fail
        refine HCC.out.mono ?_
        rintro e w1 ⟨rfl, hb1⟩
        have HB1 := Keep.mk (up (al1 wr (.cells #[.int .i64 k1, .int .i64 m1, .int .i64 e1, .string s1, .slice A1 n1 d1, .slice B1 q1 f1] 27)) hb1)
        replace HXB := Keep.mk (HXB.out.below hb1 HXB.out.lt)
        have b0 := HXB.out.cell 0 _ rfl
        have b1 := HXB.out.cell 1 _ rfl
        have b2 := HXB.out.cell 2 _ rfl
        have b3 := HXB.out.cell 3 _ rfl
        have b4 := HXB.out.cell 4 _ rfl
        have b5 := HXB.out.cell 5 _ rfl
        have bl := HXB.out.lt
        have HB2 := Keep.mk (up HB1.out (al1 w1 (.cells #[.int .i64 k1, .int .i64 m1, .int .i64 e1, .string s1, .slice A1 n1 d1, .slice B1 q1 f1] 27)))
        have HO2 := Keep.mk (HO.out.carry HB2.out (fun g hg => by have hg : g < w.heap.size := hg; omega))
        have HX2 := Keep.mk (show Box (w1.alloc (.cells #[.int .i64 k1, .int .i64 m1, .int .i64 e1, .string s1, .slice A1 n1 d1, .slice B1 q1 f1] 27)) w1.heap.size (cells6 k1 m1 e1 s1 A1 n1 d1 B1 q1 f1) from Box.new (cells6 k1 m1 e1 s1 A1 n1 d1 B1 q1 f1) _ rfl)
        have HJ2 := Keep.mk (HJ1.out.keep (W' := w1.alloc (.cells #[.int .i64 k1, .int .i64 m1, .int .i64 e1, .string s1, .slice A1 n1 d1, .slice B1 q1 f1] 27)) (fun g hg => HB2.out.block g (by have hg : g < w.heap.size := hg; omega)) (fun _ h => h))
        have hfl : Keep (((l.take j).filter fun x => !(l2.any fun y => sameJ x y)).length ≤ 100000) := ⟨by
          have h1 := List.length_filter_le (fun x => !(l2.any fun y => sameJ x y)) (l.take j)
          rw [List.length_take] at h1; omega⟩
        have hw1 := hb1.size
        simp only [World.size_alloc] at hw1
        go_wp2_with (at_builtin; refine wpList_app_vals rfl (.tmp 34) (.tmp 36) rfl (w.heap.size + 3) (· < w.heap.size) _ _ rfl HO2.out w1.heap.size _ _ rfl HX2.out.cell HJ2.out ?_ ?_ ?_ ?_ ?_)
        · have := hfl.out; omega
        · simp; omega
        · intro b hb h; have := (HO2.out.lt b hb).1; have h : b < w.heap.size := h; omega
        · intro b h; have h : b < w.heap.size := h; simp; omega
        · intro v7 w7 hO7 hg7 hv7
          have hB7 : Below (w.heap.size + 3) wr w7 := (HB2.out.mono (by omega)).trans (grown_below hg7 (by simp; omega) (fun b hb => (HO2.out.lt b hb).1))
          have HB7 := Keep.mk hB7
          have HO7 := Keep.mk hO7
          clear hO7 hg7 hv7 hB7 b0 b1 b2 b3 b4 b5 bl
          go_wp2
          go_roundg (gk - 1)
          case rel => exact ⟨j + 1, by omega, by go_num, ⟨HV.out.below (HB7.out.mono (by omega)) (Nat.le_refl _)⟩, ⟨HV2.out.below (HB7.out.mono (by omega)) (Nat.le_refl _)⟩, ⟨HT.out.mono HB7.out⟩, ⟨by rw [HE.out]; exact HO7.out⟩⟩
          case measure => omega
      · have HE := Keep.mk (show (l.take (j + 1)).filter (fun x => !(l2.any fun y => sameJ x y)) = (l.take j).filter (fun x => !(l2.any fun y => sameJ x y)) by rw [HS.out]; simp)
        clear HS
        go_wp2_with fail
        refine HCC.out.mono ?_
        rintro e w1 ⟨rfl, hb1⟩
        have HB1 := Keep.mk (up (al1 wr (.cells #[.int .i64 k1, .int .i64 m1, .int .i64 e1, .string s1, .slice A1 n1 d1, .slice B1 q1 f1] 27)) hb1)
        clear hb1
        go_wp2
        go_roundg (gk - 1)
        case rel => exact ⟨j + 1, by omega, by go_num, ⟨HV.out.below HB1.out hbs⟩, ⟨HV2.out.below HB1.out hbs⟩, ⟨HT.out.below HB1.out⟩, ⟨by rw [HE.out]; exact HO.out.carry HB1.out (fun g hg => by have hg : g < w.heap.size := hg; omega)⟩⟩
        case measure => omega
    · obtain rfl : j = l.length := by omega
      have hO := HO.out
      rw [List.take_length] at hO
      obtain ⟨A7, c7, rfl, _, _⟩ := hO.form
      have HO7 := Keep.mk hO
      clear hO HO HV HV2
      go_wp2_with fail
      refine (calc_list A7 _ c7 _).mono ?_
      rintro r w2 ⟨rfl, hb2⟩
      have HT2 := Keep.mk (HT.out.below hb2)
      have HO8 := Keep.mk (HO7.out.carry hb2 (fun g hg => by have hg : g < w.heap.size := hg; omega))
      have HL := Keep.mk (list_at HO8.out (by have := List.length_filter_le (fun x => !(l2.any fun y => sameJ x y)) l; omega) (fun g hg => by have hg : g < w.heap.size := hg; have := HT2.out.b.size; omega))
      obtain ⟨q7, hq7⟩ : ∃ q : Nat, (l.filter fun x => !(l2.any fun y => sameJ x y)).length = q := ⟨_, rfl⟩
      rw [hq7] at HL
      clear hb2 HT HO7 HO8
      have r0 := HT2.out.r.cell 0 _ rfl
      have f0 := HT2.out.r.froz 0
      have r1 := HT2.out.r.cell 1 _ rfl
      have f1 := HT2.out.r.froz 1
      have r2 := HT2.out.r.cell 2 _ rfl
      have f2 := HT2.out.r.froz 2
      have r3 := HT2.out.r.cell 3 _ rfl
      have f3 := HT2.out.r.froz 3
      have r4 := HT2.out.r.cell 4 _ rfl
      have f4 := HT2.out.r.froz 4
      have r5 := HT2.out.r.cell 5 _ rfl
      have f5 := HT2.out.r.froz 5
      have rl := HT2.out.r.lt
      go_wp2
      refine bodyPost_ret (v := .tuple #[.agg #[.int .i64 5, .int .i64 0, .int .i64 0, .string ⟨#[]⟩, .slice A7 q7 c7, .slice none 0 0], .int .i64 0]) ?_ rfl ?_
      · simp [results, Tryz.results25, go_sem, r0, r1, r2, r3, r4, r5]
      · refine ⟨_, rfl, ?_, HT2.out.b.trans (six_below w2 (w.heap.size + 2) (.int .i64 5) (.int .i64 0) (.int .i64 0) (.string ⟨#[]⟩) (.slice A7 q7 c7) (.slice none 0 0) (by omega))⟩
        have h6 := six_in (g := w.heap.size + 2) (.int .i64 5) (.int .i64 0) (.int .i64 0) (.string ⟨#[]⟩) (.slice A7 q7 c7) (.slice none 0 0) HL.out (by omega)
        have hsz := six_size w2 (w.heap.size + 2) (.int .i64 5) (.int .i64 0) (.int .i64 0) (.string ⟨#[]⟩) (.slice A7 q7 c7) (.slice none 0 0)
        exact h6.at (fun g hg => by show g < (six w2 (w.heap.size + 2) (.int .i64 5) (.int .i64 0) (.int .i64 0) (.string ⟨#[]⟩) (.slice A7 q7 c7) (.slice none 0 0)).heap.size; rw [hsz]; have := HT2.out.b.size; omega)
end Go.Proofs.YtnkokhpadcgfbaaGreatDoor
