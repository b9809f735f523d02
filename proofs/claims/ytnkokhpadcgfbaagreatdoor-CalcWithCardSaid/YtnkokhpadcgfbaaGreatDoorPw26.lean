/- Lemmas and contracts for the laws CalcWith, part 26 of 50: OrdV. Conditions: those that each lemma names. -/
import Derived.Test.YtnkokhpadcgfbaaGreatDoorPw20
import Derived.Test.YtnkokhpadcgfbaaGreatDoorPw21
import Derived.Test.YtnkokhpadcgfbaaGreatDoorPw16
import Derived.Test.YtnkokhpadcgfbaaGreatDoorPw22
import Derived.Test.YtnkokhpadcgfbaaGreatDoorPw23
import Derived.Outline
namespace Go.Proofs.YtnkokhpadcgfbaaGreatDoor
open Go Go.RowKit Go.Proofs Th
attribute [local go_sem] Above.cell
theorem cmpK_step (ks r : List ByteArray) (j : Nat) (h : j < ks.length) (h2 : j < r.length) :
    cmpK (ks.drop j) (r.drop j) = if Lib.compareBytes ks[j].data.toList r[j].data.toList ≠ 0 then Lib.compareBytes ks[j].data.toList r[j].data.toList else cmpK (ks.drop (j + 1)) (r.drop (j + 1)) := by
  rw [List.drop_eq_getElem_cons h, List.drop_eq_getElem_cons h2]; rfl
theorem cmpK_more (ks r : List ByteArray) (j : Nat) (h : j < ks.length) (h2 : r.length ≤ j) : cmpK (ks.drop j) (r.drop j) = 1 := by
  rw [List.drop_eq_getElem_cons h, List.drop_eq_nil_of_le h2]; rfl
theorem cmpK_end (ks r : List ByteArray) (j : Nat) (h : ks.length ≤ j) (hj : j ≤ r.length) : cmpK (ks.drop j) (r.drop j) = if j < r.length then -1 else 0 := by
  rw [List.drop_eq_nil_of_le h]
  by_cases h2 : j < r.length
  · rw [if_pos h2, List.drop_eq_getElem_cons h2]; rfl
  · rw [if_neg h2, List.drop_eq_nil_of_le (by omega)]; rfl
theorem cmpV_step (l r : List JV) (j : Nat) (h : j < l.length) (h2 : j < r.length) :
    cmpV (l.drop j) (r.drop j) = if cmpJ l[j] r[j] ≠ 0 then cmpJ l[j] r[j] else cmpV (l.drop (j + 1)) (r.drop (j + 1)) := by
  rw [List.drop_eq_getElem_cons h, List.drop_eq_getElem_cons h2]; rfl
theorem cmpV_more (l r : List JV) (j : Nat) (h : j < l.length) (h2 : r.length ≤ j) : cmpV (l.drop j) (r.drop j) = 1 := by
  rw [List.drop_eq_getElem_cons h, List.drop_eq_nil_of_le h2]; rfl
theorem cmpV_end (l r : List JV) (j : Nat) (h : l.length ≤ j) (hj : j ≤ r.length) : cmpV (l.drop j) (r.drop j) = if j < r.length then -1 else 0 := by
  rw [List.drop_eq_nil_of_le h]
  by_cases h2 : j < r.length
  · rw [if_pos h2, List.drop_eq_getElem_cons h2]; rfl
  · rw [if_neg h2, List.drop_eq_nil_of_le (by omega)]; rfl
theorem ret_int {a b : Int} (h : a = b) : Ending.returned (Value.int .i64 a) = .returned (.int .i64 b) := by rw [h]
set_option maxRecDepth 100000 in
theorem cmpfunc_strs (ks r : List ByteArray) (A : Option Addr) (c : Nat) (A2 : Option Addr) (c2 : Nat) (w : World) (hK : StrsAt w w.heap.size A c ks) (hR : StrsAt w w.heap.size A2 c2 r) :
    Calls Tryz.prog 176 #[.slice A ks.length c, .slice A2 r.length c2, .func (.func 122) #[] #[]] w fun e w' => e = .returned (.int .i64 (cmpK ks r)) ∧ Below w.heap.size w w' := by
  have hlc := hK.cap
  have hl0 := hK.le
  have hrc := hR.cap
  have hr0 := hR.le
  go_enter Tryz.func176, Tryz.ntmps176
  go_wp2_with fail
  go_loopg [13] ks.length (fun gk i wr => ∃ j : Nat, j + gk = ks.length ∧ j ≤ r.length ∧ i = .int .i64 j ∧ Keep (cmpK (ks.drop j) (r.drop j) = cmpK ks r) ∧ w = wr)
  case atStart => exact ⟨0, by omega, Nat.zero_le _, rfl, ⟨by rw [List.drop_zero, List.drop_zero]⟩, rfl⟩
  case round =>
    obtain ⟨j, hj, hjr, rfl, HC, rfl⟩ := hrel
    by_cases hlt : j < ks.length
    · have hgk : gk ≠ 0 := by omega
      obtain ⟨g, o, rfl, hg, hc⟩ := hK.at_ (by omega)
      have hcj := hc j hlt
      by_cases hlt2 : j < r.length
      · have HS := Keep.mk (cmpK_step ks r j hlt hlt2)
        obtain ⟨g2, o2, rfl, hg2, hc2⟩ := hR.at_ (by omega)
        have hcj2 := hc2 j hlt2
        clear hc hc2 hK hR
        generalize ks[j] = x at *
        generalize r[j] = y at *
        have HCC := Keep.mk (Tryz.strings_Compare x y w)
        obtain ⟨z, hz⟩ : ∃ z : Int, Lib.compareBytes x.data.toList y.data.toList = z := ⟨_, rfl⟩
        rw [hz] at HCC HS
        clear hz
        by_cases hz0 : z = 0
        · have HE := Keep.mk (show cmpK (ks.drop (j + 1)) (r.drop (j + 1)) = cmpK ks r by rw [← HC.out, HS.out, if_neg (fun h => h hz0)])
          subst hz0
          clear HS HC
          go_wp2_with fail
          refine HCC.out.mono ?_
          rintro e w1 ⟨rfl, rfl⟩
          go_wp2
          go_roundg (gk - 1)
          case rel => exact ⟨j + 1, by omega, by omega, by go_num, HE, rfl⟩
          case measure => omega
        · have HE := Keep.mk (show z = cmpK ks r by rw [← HC.out, HS.out, if_pos hz0])
          have hzb : (z == 0) = false := by simpa using hz0
          clear HS HC
          go_wp2_with fail
          refine HCC.out.mono ?_
          rintro e w1 ⟨rfl, rfl⟩
          go_wp2
          go_ret
          exact ⟨ret_int HE.out, Below.refl _ _⟩
      · have HE := Keep.mk (show (1 : Int) = cmpK ks r by rw [← HC.out, cmpK_more ks r j hlt (by omega)])
        clear hc hK hR HC
        go_wp2
        go_ret
        exact ⟨ret_int HE.out, Below.refl _ _⟩
    · have HE := Keep.mk (show (if j < r.length then (-1 : Int) else 0) = cmpK ks r by rw [← HC.out, cmpK_end ks r j (by omega) hjr])
      obtain rfl : j = ks.length := by omega
      clear HC
      by_cases h : ks.length < r.length
      · rw [if_pos h] at HE
        go_wp2
        go_ret
        exact ⟨ret_int HE.out, Below.refl _ _⟩
      · rw [if_neg h] at HE
        go_wp2
        go_ret
        exact ⟨ret_int HE.out, Below.refl _ _⟩
set_option maxRecDepth 100000 in
theorem rows_strs (ks r : List ByteArray) (A : Option Addr) (c : Nat) (A2 : Option Addr) (c2 : Nat) (w : World) (hK : StrsAt w w.heap.size A c ks) (hR : StrsAt w w.heap.size A2 c2 r) :
    Calls Tryz.prog 123 #[.slice A ks.length c, .slice A2 r.length c2, .func (.func 122) #[] #[]] w fun e w' => e = .returned (.int .i64 (cmpK ks r)) ∧ Below w.heap.size w w' := by
  have HC := Keep.mk (cmpfunc_strs ks r A c A2 c2 w hK hR)
  clear hK hR
  go_enter Tryz.func123, Tryz.ntmps123
  go_wp2_with fail
  refine HC.out.mono ?_
  rintro e w1 ⟨rfl, hb⟩
  go_wp2
  go_ret
  exact ⟨rfl, hb⟩
set_option maxRecDepth 100000 in
theorem cmpfunc_vals (l r : List JV) (A : Option Addr) (c : Nat) (A2 : Option Addr) (c2 : Nat) (w : World) (hV : ValsAt w w.heap.size A c l) (hR : ValsAt w w.heap.size A2 c2 r)
    (hc : ∀ j (h : j < l.length) (h2 : j < r.length) (W : World) (cs cs2 : List Value), Below w.heap.size w W → JAt W W.heap.size l[j] cs → JAt W W.heap.size r[j] cs2 → Calls Tryz.prog 78 #[.agg cs.toArray, .agg cs2.toArray] W fun e w' => e = .returned (.int .i64 (cmpJ l[j] r[j])) ∧ Below W.heap.size W w') :
    Calls Tryz.prog 177 #[.slice A l.length c, .slice A2 r.length c2, .func (.func 78) #[] #[]] w fun e w' => e = .returned (.int .i64 (cmpV l r)) ∧ Below w.heap.size w w' := by
  have hlc := hV.cap
  have hl0 := hV.le
  have hrc := hR.cap
  have hr0 := hR.le
  have HQ := Keep.mk hc
  clear hc
  go_enter Tryz.func177, Tryz.ntmps177
  go_wp2_with fail
  go_loopg [13] l.length (fun gk i wr => ∃ j : Nat, j + gk = l.length ∧ j ≤ r.length ∧ i = .int .i64 j ∧ Keep (cmpV (l.drop j) (r.drop j) = cmpV l r) ∧ Keep (ValsAt wr w.heap.size A c l) ∧ Keep (ValsAt wr w.heap.size A2 c2 r) ∧ Keep (Below w.heap.size w wr))
  case atStart => exact ⟨0, by omega, Nat.zero_le _, rfl, ⟨by rw [List.drop_zero, List.drop_zero]⟩, ⟨hV⟩, ⟨hR⟩, ⟨Below.refl _ _⟩⟩
  case round =>
    clear hV hR
    obtain ⟨j, hj, hjr, rfl, HC, HV, HR, HB⟩ := hrel
    have hwl := HB.out.size
    by_cases hlt : j < l.length
    · have hgk : gk ≠ 0 := by omega
      obtain ⟨g, o, k1, m1, e1, s1, A1, n1, d1, B1, q1, f1, rfl, hg, hJ1, y0, y1, y2, y3, y4, y5⟩ := HV.out.elem j hlt
      have hg2 : g < wr.heap.size := by omega
      by_cases hlt2 : j < r.length
      · have HS := Keep.mk (cmpV_step l r j hlt hlt2)
        obtain ⟨G, O, k7, m7, e7, s7, A7, n7, d7, B7, q7, f7, rfl, hG, hJ7, z0, z1, z2, z3, z4, z5⟩ := HR.out.elem j hlt2
        have hG2 : G < wr.heap.size := by omega
        have HCC := Keep.mk (fun o8 o9 => HQ.out j hlt hlt2 ((wr.alloc o8).alloc o9) _ _ (up HB.out (al2 _ _ _)) ((hJ1.more hwl).keep (al2 _ _ _) (Nat.le_refl _) |>.more (al2 _ _ _).size) ((hJ7.more hwl).keep (al2 _ _ _) (Nat.le_refl _) |>.more (al2 _ _ _).size))
        clear hJ1 hJ7
        obtain ⟨z, hz⟩ : ∃ z : Int, cmpJ l[j] r[j] = z := ⟨_, rfl⟩
        rw [hz] at HCC HS
        clear hz
        by_cases hz0 : z = 0
        · have HE := Keep.mk (show cmpV (l.drop (j + 1)) (r.drop (j + 1)) = cmpV l r by rw [← HC.out, HS.out, if_neg (fun h => h hz0)])
          subst hz0
          clear HS HC
          go_wp2_with fail
          refine (HCC.out _ _).mono ?_
          rintro e w1 ⟨rfl, hb1⟩
          go_wp2
          go_roundg (gk - 1)
          case rel => exact ⟨j + 1, by omega, by omega, by go_num, HE, ⟨HV.out.below (up (al2 wr _ _) hb1) hwl⟩, ⟨HR.out.below (up (al2 wr _ _) hb1) hwl⟩, ⟨up (up HB.out (al2 _ _ _)) hb1⟩⟩
          case measure => omega
        · have HE := Keep.mk (show z = cmpV l r by rw [← HC.out, HS.out, if_pos hz0])
          have hzb : (z == 0) = false := by simpa using hz0
          clear HS HC
          go_wp2_with fail
          refine (HCC.out _ _).mono ?_
          rintro e w1 ⟨rfl, hb1⟩
          go_wp2
          go_ret
          exact ⟨ret_int HE.out, up (up HB.out (al2 _ _ _)) hb1⟩
      · have HE := Keep.mk (show (1 : Int) = cmpV l r by rw [← HC.out, cmpV_more l r j hlt (by omega)])
        clear hJ1 HC HQ
        go_wp2
        go_ret
        exact ⟨ret_int HE.out, up HB.out (al1 _ _)⟩
    · have HE := Keep.mk (show (if j < r.length then (-1 : Int) else 0) = cmpV l r by rw [← HC.out, cmpV_end l r j (by omega) hjr])
      obtain rfl : j = l.length := by omega
      clear HC HQ
      by_cases h : l.length < r.length
      · rw [if_pos h] at HE
        go_wp2
        go_ret
        exact ⟨ret_int HE.out, HB.out⟩
      · rw [if_neg h] at HE
        go_wp2
        go_ret
        exact ⟨ret_int HE.out, HB.out⟩
set_option maxRecDepth 100000 in
theorem rows_vals (l r : List JV) (A : Option Addr) (c : Nat) (A2 : Option Addr) (c2 : Nat) (w : World) (hV : ValsAt w w.heap.size A c l) (hR : ValsAt w w.heap.size A2 c2 r)
    (hc : ∀ j (h : j < l.length) (h2 : j < r.length) (W : World) (cs cs2 : List Value), Below w.heap.size w W → JAt W W.heap.size l[j] cs → JAt W W.heap.size r[j] cs2 → Calls Tryz.prog 78 #[.agg cs.toArray, .agg cs2.toArray] W fun e w' => e = .returned (.int .i64 (cmpJ l[j] r[j])) ∧ Below W.heap.size W w') :
    Calls Tryz.prog 124 #[.slice A l.length c, .slice A2 r.length c2, .func (.func 78) #[] #[]] w fun e w' => e = .returned (.int .i64 (cmpV l r)) ∧ Below w.heap.size w w' := by
  have HC := Keep.mk (cmpfunc_vals l r A c A2 c2 w hV hR hc)
  clear hV hR hc
  go_enter Tryz.func124, Tryz.ntmps124
  go_wp2_with fail
  refine HC.out.mono ?_
  rintro e w1 ⟨rfl, hb⟩
  go_wp2
  go_ret
  exact ⟨rfl, hb⟩
set_option maxRecDepth 100000 in
set_option maxHeartbeats 4000000 in
theorem order_compare : ∀ (n : Nat) (t t2 : JV), countJ t ≤ n → ∀ (w : World) (cs cs2 : List Value), GlobP w → JAt w w.heap.size t cs → JAt w w.heap.size t2 cs2 →
    Calls Tryz.prog 78 #[.agg cs.toArray, .agg cs2.toArray] w fun r w' => r = .returned (.int .i64 (cmpJ t t2)) ∧ Below w.heap.size w w' := by
  intro n
  induction n with
  | zero => intro t t2 h; cases t; unfold countJ at h; omega
  | succ n ih =>
    intro t t2 hn w cs cs2 hG hJ hJ2
    cases t with
    | mk k m e s l ks =>
    cases t2 with
    | mk k2 m2 e2 s2 l2 ks2 =>
      obtain ⟨A, c, A', c', rfl, hk, hm, he, hs, hK, hV⟩ := hJ.open
      obtain ⟨B, d, B', d', rfl, hk2, hm2, he2, hs2, hK2, hV2⟩ := hJ2.open
      show Calls _ _ #[.agg #[.int .i64 k, .int .i64 m, .int .i64 e, .string s, .slice A l.length c, .slice A' ks.length c'], .agg #[.int .i64 k2, .int .i64 m2, .int .i64 e2, .string s2, .slice B l2.length d, .slice B' ks2.length d']] w _
      have hcn := countL_get l
      have hcl : countL l ≤ n := by have : 1 + countL l ≤ n + 1 := hn; omega
      have HD := Keep.mk (show cmpJ (.mk k m e s l ks) (.mk k2 m2 e2 s2 l2 ks2) = (if k ≠ k2 then Lib.compareInt k k2 else if k = 3 then (cmpN m e m2 e2).1 else if k = 4 then Lib.compareBytes s.data.toList s2.data.toList
        else if k = 6 ∧ cmpK ks ks2 ≠ 0 then cmpK ks ks2 else cmpV l l2) by rw [cmpJ])
      have HT := Keep.mk (show Two6 w ((w.alloc (.cells #[.int .i64 k, .int .i64 m, .int .i64 e, .string s, .slice A l.length c, .slice A' ks.length c'] 27)).alloc (.cells #[.int .i64 k2, .int .i64 m2, .int .i64 e2, .string s2, .slice B l2.length d, .slice B' ks2.length d'] 27)) k m e s l ks A c A' c' k2 m2 e2 s2 l2 ks2 B d B' d' from
        ⟨box_new6 .. |>.alloc _, Box.new (cells6 k2 m2 e2 s2 B l2.length d B' ks2.length d') _ (by simp), hV.below (al2 _ _ _) (Nat.le_refl _), hV2.below (al2 _ _ _) (Nat.le_refl _), hK.below (al2 _ _ _) (Nat.le_refl _), hK2.below (al2 _ _ _) (Nat.le_refl _), al2 _ _ _⟩)
      have HCN := Keep.mk (fun W => num_cmp m e m2 e2 hm hm2 W)
      have HG := Keep.mk (fun W (hb : Below w.heap.size w W) => hG.below hb)
      have HCS := Keep.mk (fun W => Tryz.strings_Compare s s2 W)
      have HCI := Keep.mk (fun W => Tryz.cmp_Compare_int k k2 W)
      have HIH := Keep.mk (fun j (h : j < l.length) (h2 : j < l2.length) W cs cs2 => ih l[j] l2[j] (by have := hcn j h; omega) W cs cs2)
      clear ih hcn hcl hn hJ hJ2 hV hV2 hK hK2 hs hs2 hk hm he hk2 hm2 he2 hG
      go_enter Tryz.func78, Tryz.ntmps78
      go_upto_region 1 with fail
      refine wp_world (fun W => Two6 w W k m e s l ks A c A' c' k2 m2 e2 s2 l2 ks2 B d B' d') HT.out ?_
      clear HT
      rintro W0 HT
      have HKS := Keep.mk (rows_strs ks ks2 A' c' B' d' W0 (HT.xk.more HT.b.size) (HT.yk.more HT.b.size))
      have HVS := Keep.mk (rows_vals l l2 A c B d)
      replace HT := Keep.mk HT
      have x0 := HT.out.x.cell 0 _ rfl
      have x1 := HT.out.x.cell 1 _ rfl
      have x2 := HT.out.x.cell 2 _ rfl
      have x3 := HT.out.x.cell 3 _ rfl
      have x4 := HT.out.x.cell 4 _ rfl
      have x5 := HT.out.x.cell 5 _ rfl
      have y0 := HT.out.y.cell 0 _ rfl
      have y1 := HT.out.y.cell 1 _ rfl
      have y2 := HT.out.y.cell 2 _ rfl
      have y3 := HT.out.y.cell 3 _ rfl
      have y4 := HT.out.y.cell 4 _ rfl
      have y5 := HT.out.y.cell 5 _ rfl
      have xl := HT.out.x.lt
      have yl := HT.out.y.lt
      by_cases hk : k = k2
      · subst hk
        by_cases h3 : k = 3
        · subst h3
          have HE := Keep.mk (show (cmpN m e m2 e2).1 = cmpJ (.mk 3 m e s l ks) (.mk 3 m2 e2 s2 l2 ks2) by rw [HD.out]; simp)
          obtain ⟨cm, hcm⟩ : ∃ cm, cmpN m e m2 e2 = cm := ⟨_, rfl⟩
          rw [hcm] at HCN HE
          clear hcm HD HIH HKS HVS HCS HCI
          obtain ⟨p, q⟩ := cm
          go_wp2_with fail
          refine (HCN.out W0 (HG.out W0 HT.out.b)).mono ?_
          simp only [cmpRes]
          rintro r w1 ⟨rfl, hb⟩
          have HB := Keep.mk (up HT.out.b hb)
          clear HT HG HCN hb
          go_wp2
          go_ret
          exact ⟨ret_int HE.out, HB.out⟩
        · by_cases h4 : k = 4
          · subst h4
            have HE := Keep.mk (show Lib.compareBytes s.data.toList s2.data.toList = cmpJ (.mk 4 m e s l ks) (.mk 4 m2 e2 s2 l2 ks2) by rw [HD.out]; simp)
            clear HD HIH HKS HVS HCN HCI HG
            go_wp2_with fail
            refine (HCS.out W0).mono ?_
            rintro r w1 ⟨rfl, rfl⟩
            clear HCS
            go_wp2
            go_ret
            exact ⟨ret_int HE.out, HT.out.b⟩
          · have b3 : (k == 3) = false := by simpa using h3
            have b4 : (k == 4) = false := by simpa using h4
            by_cases h6 : k = 6
            · subst h6
              by_cases hz : cmpK ks ks2 = 0
              · have HE := Keep.mk (show cmpV l l2 = cmpJ (.mk 6 m e s l ks) (.mk 6 m2 e2 s2 l2 ks2) by rw [HD.out]; simp [hz])
                rw [hz] at HKS
                clear hz HD HCN HCI HCS
                go_wp2_with fail
                refine HKS.out.mono ?_
                rintro r w1 ⟨rfl, hb⟩
                clear x0 x1 x2 x3 x4 x5 y0 y1 y2 y3 y4 y5 xl yl HKS
                have HT1 := Keep.mk (HT.out.below hb)
                clear HT hb
                have x4 := HT1.out.x.cell 4 _ rfl
                have y4 := HT1.out.y.cell 4 _ rfl
                have xl := HT1.out.x.lt
                have yl := HT1.out.y.lt
                go_wp2_with fail
                refine (HVS.out w1 (HT1.out.xv.more HT1.out.b.size) (HT1.out.yv.more HT1.out.b.size) (fun j h h2 W cs cs2 hB h5 h7 => HIH.out j h h2 W cs cs2 (HG.out W (up HT1.out.b hB)) h5 h7)).mono ?_
                rintro r w2 ⟨rfl, hb⟩
                have HB := Keep.mk (up HT1.out.b hb)
                clear HT1 HG HVS HIH hb
                go_wp2
                go_ret
                exact ⟨ret_int HE.out, HB.out⟩
              · have HE := Keep.mk (show cmpK ks ks2 = cmpJ (.mk 6 m e s l ks) (.mk 6 m2 e2 s2 l2 ks2) by rw [HD.out]; simp [hz])
                generalize cmpK ks ks2 = z at *
                have hzb : (z == 0) = false := by simpa using hz
                clear hz HD HCN HCI HCS HVS HIH
                go_wp2_with fail
                refine HKS.out.mono ?_
                rintro r w1 ⟨rfl, hb⟩
                have HB := Keep.mk (up HT.out.b hb)
                clear HT HKS hb HG
                go_wp2
                go_ret
                exact ⟨ret_int HE.out, HB.out⟩
            · have b6 : (k == 6) = false := by simpa using h6
              have HE := Keep.mk (show cmpV l l2 = cmpJ (.mk k m e s l ks) (.mk k m2 e2 s2 l2 ks2) by rw [HD.out]; simp [h3, h4, h6])
              clear HD HCN HCI HCS HKS h3 h4 h6
              go_wp2_with fail
              refine (HVS.out W0 (HT.out.xv.more HT.out.b.size) (HT.out.yv.more HT.out.b.size) (fun j h h2 W cs cs2 hB h5 h7 => HIH.out j h h2 W cs cs2 (HG.out W (up HT.out.b hB)) h5 h7)).mono ?_
              rintro r w2 ⟨rfl, hb⟩
              have HB := Keep.mk (up HT.out.b hb)
              clear HT HG HVS HIH hb
              go_wp2
              go_ret
              exact ⟨ret_int HE.out, HB.out⟩
      · have HE := Keep.mk (show Lib.compareInt k k2 = cmpJ (.mk k m e s l ks) (.mk k2 m2 e2 s2 l2 ks2) by rw [HD.out]; simp [hk])
        have bk : (k == k2) = false := by simpa using hk
        clear HD HCN HCS HKS HVS HIH HG hk
        go_wp2_with fail
        refine (HCI.out W0).mono ?_
        rintro r w1 ⟨rfl, rfl⟩
        clear HCI
        go_wp2
        go_ret
        exact ⟨ret_int HE.out, HT.out.b⟩
structure TwoB (w W : World) (cs cs2 : List Value) : Prop where
  x : Box W w.heap.size cs
  y : Box W (w.heap.size + 1) cs2
  b : Below w.heap.size w W
theorem TwoB.below {w W W' : World} {cs cs2 : List Value} (h : TwoB w W cs cs2) (hb : Below W.heap.size W W') : TwoB w W' cs cs2 := ⟨h.x.below hb h.x.lt, h.y.below hb h.y.lt, up h.b hb⟩
theorem TwoB.new (w : World) (k m e : Int) (s : ByteArray) (A : Option Addr) (n c : Nat) (A' : Option Addr) (n' c' : Nat) (k2 m2 e2 : Int) (s2 : ByteArray) (B : Option Addr) (n2 d : Nat) (B' : Option Addr) (n2' d' : Nat) (t t2 : TypeId) :
    TwoB w ((w.alloc (.cells #[.int .i64 k, .int .i64 m, .int .i64 e, .string s, .slice A n c, .slice A' n' c'] t)).alloc (.cells #[.int .i64 k2, .int .i64 m2, .int .i64 e2, .string s2, .slice B n2 d, .slice B' n2' d'] t2))
      (cells6 k m e s A n c A' n' c') (cells6 k2 m2 e2 s2 B n2 d B' n2' d') :=
  ⟨(Box.new (cells6 k m e s A n c A' n' c') t rfl).alloc _, Box.new (cells6 k2 m2 e2 s2 B n2 d B' n2' d') t2 (by simp), al2 _ _ _⟩
theorem JAt.up {w W : World} {t : JV} {cs : List Value} (h : JAt w w.heap.size t cs) (hb : Below w.heap.size w W) : JAt W W.heap.size t cs := (h.keep hb (Nat.le_refl _)).more hb.size
set_option maxRecDepth 100000 in
theorem order_Cmp (a b : JV) (w : World) (cs cs2 : List Value) (hG : GlobP w) (hGV : GlobV w) (hJ : JAt w w.heap.size a cs) (hJ2 : JAt w w.heap.size b cs2) (ha : rightJ a = 0) (hb : rightJ b = 0) :
    Calls Tryz.prog 30 #[.agg cs.toArray, .agg cs2.toArray] w fun r w' => r = .returned (.tuple #[.int .i64 (cmpJ a b), .int .i64 0]) ∧ Below w.heap.size w w' := by
  have HG := Keep.mk (fun W (hb : Below w.heap.size w W) => hG.below hb)
  have HGV := Keep.mk (fun W (hb : Below w.heap.size w W) => hGV.below hb)
  have HRA := Keep.mk (fun W cs g h => value_Right a W cs g h)
  have HRB := Keep.mk (fun W cs g h => value_Right b W cs g h)
  rw [ha] at HRA
  rw [hb] at HRB
  have HC := Keep.mk (order_compare _ a b (Nat.le_refl _))
  generalize cmpJ a b = z at *
  obtain ⟨k, m, e, s, A, n, c, A', n', c', rfl⟩ := hJ.inn.cells
  obtain ⟨k2, m2, e2, s2, B, n2, d, B', n2', d', rfl⟩ := hJ2.inn.cells
  have HJ := Keep.mk hJ
  have HJ2 := Keep.mk hJ2
  have HT := Keep.mk (TwoB.new w k m e s A n c A' n' c' k2 m2 e2 s2 B n2 d B' n2' d' 27 27)
  clear ha hb hG hGV hJ hJ2
  show Calls _ _ #[.agg #[.int .i64 k, .int .i64 m, .int .i64 e, .string s, .slice A n c, .slice A' n' c'], .agg #[.int .i64 k2, .int .i64 m2, .int .i64 e2, .string s2, .slice B n2 d, .slice B' n2' d']] w _
  go_enter Tryz.func30, Tryz.ntmps30
  go_wp2_with fail
  refine calls_world (fun W => TwoB w W (cells6 k m e s A n c A' n' c') (cells6 k2 m2 e2 s2 B n2 d B' n2' d')) HT.out ?_
  clear HT
  rintro W0 HT
  replace HT := Keep.mk HT
  refine (HRA.out W0 _ (HGV.out W0 HT.out.b) (HJ.out.up HT.out.b)).mono ?_
  rintro r w1 ⟨rfl, hb1⟩
  replace HT := Keep.mk (HT.out.below hb1)
  clear hb1
  have y0 := HT.out.y.cell 0 _ rfl
  have y1 := HT.out.y.cell 1 _ rfl
  have y2 := HT.out.y.cell 2 _ rfl
  have y3 := HT.out.y.cell 3 _ rfl
  have y4 := HT.out.y.cell 4 _ rfl
  have y5 := HT.out.y.cell 5 _ rfl
  have yl := HT.out.y.lt
  go_wp2_with fail
  refine (HRB.out w1 _ (HGV.out w1 HT.out.b) (HJ2.out.up HT.out.b)).mono ?_
  rintro r w2 ⟨rfl, hb2⟩
  clear y0 y1 y2 y3 y4 y5 yl
  replace HT := Keep.mk (HT.out.below hb2)
  clear hb2
  have x0 := HT.out.x.cell 0 _ rfl
  have x1 := HT.out.x.cell 1 _ rfl
  have x2 := HT.out.x.cell 2 _ rfl
  have x3 := HT.out.x.cell 3 _ rfl
  have x4 := HT.out.x.cell 4 _ rfl
  have x5 := HT.out.x.cell 5 _ rfl
  have xl := HT.out.x.lt
  have y0 := HT.out.y.cell 0 _ rfl
  have y1 := HT.out.y.cell 1 _ rfl
  have y2 := HT.out.y.cell 2 _ rfl
  have y3 := HT.out.y.cell 3 _ rfl
  have y4 := HT.out.y.cell 4 _ rfl
  have y5 := HT.out.y.cell 5 _ rfl
  have yl := HT.out.y.lt
  go_wp2_with fail
  refine (HC.out w2 _ _ (HG.out w2 HT.out.b) (HJ.out.up HT.out.b) (HJ2.out.up HT.out.b)).mono ?_
  rintro r w3 ⟨rfl, hb3⟩
  go_wp2
  go_ret2
  exact ⟨rfl, up HT.out.b hb3⟩
end Go.Proofs.YtnkokhpadcgfbaaGreatDoor
