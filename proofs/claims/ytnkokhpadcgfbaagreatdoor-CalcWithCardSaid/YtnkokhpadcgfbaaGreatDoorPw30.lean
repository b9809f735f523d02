/- Lemmas and contracts for the laws CalcWith, part 30 of 50: SameV, WriteP, Make. Conditions: those that each lemma names. -/
import Derived.Test.YtnkokhpadcgfbaaGreatDoorPw26
import Derived.Test.YtnkokhpadcgfbaaGreatDoorPw2
import Derived.Test.YtnkokhpadcgfbaaGreatDoorPw4
import Derived.Test.YtnkokhpadcgfbaaGreatDoorPw27
import Derived.Test.YtnkokhpadcgfbaaGreatDoorPw28
import Derived.Test.YtnkokhpadcgfbaaGreatDoorPw11
import Derived.Test.YtnkokhpadcgfbaaGreatDoorPw21
import Derived.Outline
import Derived.Maps.OwnOps
import Derived.StringKeys
import Derived.Maps.RangeWalk
import Derived.Sort.OwnSorted
namespace Go.Proofs.YtnkokhpadcgfbaaGreatDoor
open Go Go.RowKit Go.Proofs Th
attribute [local go_sem] Above.cell
theorem sameL_step (l r : List JV) (j : Nat) (h : j < l.length) (h2 : j < r.length) : sameL (l.drop j) (r.drop j) = (sameJ l[j] r[j] && sameL (l.drop (j + 1)) (r.drop (j + 1))) := by
  rw [List.drop_eq_getElem_cons h, List.drop_eq_getElem_cons h2]; rfl
theorem sameL_len : ∀ l r : List JV, l.length ≠ r.length → sameL l r = false
  | [], [], h => absurd rfl h
  | [], _ :: _, _ => rfl
  | _ :: _, [], _ => rfl
  | a :: l, b :: r, h => by
    show (sameJ a b && sameL l r) = false
    rw [sameL_len l r (fun e => h (by simp [e]))]; simp
set_option maxRecDepth 100000 in
theorem equalfunc_vals (l r : List JV) (A : Option Addr) (c : Nat) (A2 : Option Addr) (c2 : Nat) (w : World) (hV : ValsAt w w.heap.size A c l) (hR : ValsAt w w.heap.size A2 c2 r)
    (hc : ∀ j (h : j < l.length) (h2 : j < r.length) (W : World) (cs cs2 : List Value), JAt W W.heap.size l[j] cs → JAt W W.heap.size r[j] cs2 → Calls Tryz.prog 68 #[.agg cs.toArray, .agg cs2.toArray] W fun e w' => e = .returned (.bool (sameJ l[j] r[j])) ∧ Below W.heap.size W w') :
    Calls Tryz.prog 115 #[.slice A l.length c, .slice A2 r.length c2, .func (.func 68) #[] #[]] w fun e w' => e = .returned (.bool (sameL l r)) ∧ Below w.heap.size w w' := by
  have hlc := hV.cap
  have hl0 := hV.le
  have hrc := hR.cap
  have hr0 := hR.le
  have HQ := Keep.mk hc
  clear hc
  by_cases hlr : l.length = r.length
  · obtain ⟨N, hN⟩ : ∃ N, l.length = N := ⟨_, rfl⟩
    have HL := Keep.mk hN
    have HR2 := Keep.mk (hlr.symm.trans hN)
    rw [hN] at hlc hl0 ⊢
    rw [HR2.out] at hrc hr0 ⊢
    clear hlr hN
    go_enter Tryz.func115, Tryz.ntmps115
    go_wp2_with fail
    go_loopg [17] N (fun gk i wr => ∃ j : Nat, j + gk = N ∧ i = .int .i64 j ∧ Keep (sameL (l.drop j) (r.drop j) = sameL l r) ∧ Keep (ValsAt wr w.heap.size A c l) ∧ Keep (ValsAt wr w.heap.size A2 c2 r) ∧ Keep (Below w.heap.size w wr))
    case atStart => exact ⟨0, by omega, rfl, ⟨by rw [List.drop_zero, List.drop_zero]⟩, ⟨hV⟩, ⟨hR⟩, ⟨Below.refl _ _⟩⟩
    case round =>
      clear hV hR
      obtain ⟨j, hj, rfl, HC, HV, HR, HB⟩ := hrel
      have hwl := HB.out.size
      by_cases hlt : j < N
      · have hgk : gk ≠ 0 := by omega
        have hl1 : Keep (j < l.length) := ⟨by rw [HL.out]; exact hlt⟩
        have hl2 : Keep (j < r.length) := ⟨by rw [HR2.out]; exact hlt⟩
        obtain ⟨g, o, k1, m1, e1, s1, A1, n1, d1, B1, q1, f1, rfl, hg, hJ1, y0, y1, y2, y3, y4, y5⟩ := HV.out.elem j hl1.out
        have hg2 : g < wr.heap.size := by omega
        have HS := Keep.mk (sameL_step l r j hl1.out hl2.out)
        obtain ⟨G, O, k7, m7, e7, s7, A7, n7, d7, B7, q7, f7, rfl, hG, hJ7, z0, z1, z2, z3, z4, z5⟩ := HR.out.elem j hl2.out
        have hG2 : G < wr.heap.size := by omega
        have HCC := Keep.mk (fun o8 o9 => HQ.out j hl1.out hl2.out ((wr.alloc o8).alloc o9) _ _ ((hJ1.more hwl).up (al2 _ _ _)) ((hJ7.more hwl).up (al2 _ _ _)))
        clear hJ1 hJ7
        have hl1o := hl1.out
        have hl2o := hl2.out
        obtain ⟨z, hz⟩ : ∃ z : Bool, sameJ l[j] r[j] = z := ⟨_, rfl⟩
        rw [hz] at HCC HS
        clear hz hl1o hl2o
        cases z
        · have HE := Keep.mk (show false = sameL l r by rw [← HC.out, HS.out]; rfl)
          clear HS HC
          go_wp2_with fail
          refine (HCC.out _ _).mono ?_
          rintro e w1 ⟨rfl, hb1⟩
          go_wp2
          go_ret
          exact ⟨ret_bool HE.out, up (up HB.out (al2 _ _ _)) hb1⟩
        · have HE := Keep.mk (show sameL (l.drop (j + 1)) (r.drop (j + 1)) = sameL l r by rw [← HC.out, HS.out]; rfl)
          clear HS HC
          go_wp2_with fail
          refine (HCC.out _ _).mono ?_
          rintro e w1 ⟨rfl, hb1⟩
          go_wp2
          go_roundg (gk - 1)
          case rel => exact ⟨j + 1, by omega, by go_num, HE, ⟨HV.out.below (up (al2 wr _ _) hb1) hwl⟩, ⟨HR.out.below (up (al2 wr _ _) hb1) hwl⟩, ⟨up (up HB.out (al2 _ _ _)) hb1⟩⟩
          case measure => omega
      · have HE := Keep.mk (show true = sameL l r by rw [← HC.out, List.drop_eq_nil_of_le (by rw [HL.out]; omega), List.drop_eq_nil_of_le (by rw [HR2.out]; omega)]; rfl)
        obtain rfl : j = N := by omega
        clear HC HQ
        go_wp2
        go_ret
        exact ⟨ret_bool HE.out, HB.out⟩
  · have HE := Keep.mk (sameL_len l r hlr)
    have hne : ((l.length : Int) == r.length) = false := by
      rw [beq_eq_false_iff_ne]; omega
    clear hV hR HQ hlr
    go_enter Tryz.func115, Tryz.ntmps115
    go_wp2
    go_ret
    exact ⟨ret_bool HE.out.symm, Below.refl _ _⟩
theorem below_drewN (w : World) (q : Nat) : Below w.heap.size w (w.drewN q) := ⟨rfl, rfl, rfl, Nat.le_refl _, fun _ _ => rfl⟩
theorem equal_strs (ks r : List ByteArray) (A : Option Addr) (c : Nat) (A2 : Option Addr) (c2 : Nat) (w : World) (hK : StrsAt w w.heap.size A c ks) (hR : StrsAt w w.heap.size A2 c2 r) :
    Calls Tryz.prog 114 #[.slice A ks.length c, .slice A2 r.length c2] w fun e w' => e = .returned (.bool (decide (ks = r))) ∧ Below w.heap.size w w' := by
  by_cases hl : ks.length = r.length
  · by_cases h0 : ks.length = 0
    · have e1 : ks = [] := List.length_eq_zero_iff.1 h0
      have e2 : r = [] := List.length_eq_zero_iff.1 (hl ▸ h0)
      subst e1 e2
      refine (Tryz.slices_Equal_string_empty A A2 c 0 c2 w (by decide)).mono ?_
      rintro e w' ⟨rfl, rfl⟩
      exact ⟨by simp, Below.refl _ _⟩
    · obtain ⟨g, o, rfl, _, hc⟩ := hK.at_ (by omega)
      obtain ⟨g2, o2, rfl, _, hc2⟩ := hR.at_ (by omega)
      have h1 := hK.cap
      have h2 := hR.cap
      refine (Tryz.slices_Equal_string g o ks.length c g2 o2 r.length c2 ks r w (Nat.le_refl _) (Nat.le_refl _) (by omega) (by omega) (fun j hj => by rw [hc j hj, List.getD_eq_getElem?_getD, List.getElem?_eq_getElem hj]; rfl) (fun j hj => by rw [hc2 j hj, List.getD_eq_getElem?_getD, List.getElem?_eq_getElem hj]; rfl)).mono ?_
      rintro e w' ⟨rfl, q, rfl⟩
      rw [List.take_length, List.take_length]
      exact ⟨rfl, below_drewN _ _⟩
  · refine (Tryz.slices_Equal_string_lens A A2 ks.length c r.length c2 w hl).mono ?_
    rintro e w' ⟨rfl, rfl⟩
    have : ¬ ks = r := fun h => hl (by rw [h])
    exact ⟨by simp [this], Below.refl _ _⟩
set_option maxRecDepth 100000 in
set_option maxHeartbeats 4000000 in
theorem value_Same : ∀ (n : Nat) (t t2 : JV), countJ t ≤ n → ∀ (w : World) (cs cs2 : List Value), JAt w w.heap.size t cs → JAt w w.heap.size t2 cs2 →
    Calls Tryz.prog 68 #[.agg cs.toArray, .agg cs2.toArray] w fun r w' => r = .returned (.bool (sameJ t t2)) ∧ Below w.heap.size w w' := by
  intro n
  induction n with
  | zero => intro t t2 h; cases t; unfold countJ at h; omega
  | succ n ih =>
    intro t t2 hn w cs cs2 hJ hJ2
    cases t with
    | mk k m e s l ks =>
    cases t2 with
    | mk k2 m2 e2 s2 l2 ks2 =>
      obtain ⟨A, c, A', c', rfl, hk, hm, he, hs, hK, hV⟩ := hJ.open
      obtain ⟨B, d, B', d', rfl, hk2, hm2, he2, hs2, hK2, hV2⟩ := hJ2.open
      show Calls _ _ #[.agg #[.int .i64 k, .int .i64 m, .int .i64 e, .string s, .slice A l.length c, .slice A' ks.length c'], .agg #[.int .i64 k2, .int .i64 m2, .int .i64 e2, .string s2, .slice B l2.length d, .slice B' ks2.length d']] w _
      have hcn := countL_get l
      have hcl : countL l ≤ n := by have : 1 + countL l ≤ n + 1 := hn; omega
      have HD := Keep.mk (show sameJ (.mk k m e s l ks) (.mk k2 m2 e2 s2 l2 ks2) = (decide (k = k2) && decide (m = m2) && decide (e = e2) && decide (s = s2) && decide (ks = ks2) && sameL l l2) from rfl)
      have HT := Keep.mk (show Two6 w ((w.alloc (.cells #[.int .i64 k, .int .i64 m, .int .i64 e, .string s, .slice A l.length c, .slice A' ks.length c'] 27)).alloc (.cells #[.int .i64 k2, .int .i64 m2, .int .i64 e2, .string s2, .slice B l2.length d, .slice B' ks2.length d'] 27)) k m e s l ks A c A' c' k2 m2 e2 s2 l2 ks2 B d B' d' from
        ⟨box_new6 .. |>.alloc _, Box.new (cells6 k2 m2 e2 s2 B l2.length d B' ks2.length d') _ (by simp), hV.below (al2 _ _ _) (Nat.le_refl _), hV2.below (al2 _ _ _) (Nat.le_refl _), hK.below (al2 _ _ _) (Nat.le_refl _), hK2.below (al2 _ _ _) (Nat.le_refl _), al2 _ _ _⟩)
      have HIH := Keep.mk (fun j (h : j < l.length) (h2 : j < l2.length) W cs cs2 => ih l[j] l2[j] (by have := hcn j h; omega) W cs cs2)
      clear ih hcn hcl hn hJ hJ2 hV hV2 hK hK2 hs hs2 hk hm he hk2 hm2 he2
      go_enter Tryz.func68, Tryz.ntmps68
      go_upto_region 1 with fail
      refine wp_world (fun W => Two6 w W k m e s l ks A c A' c' k2 m2 e2 s2 l2 ks2 B d B' d') HT.out ?_
      clear HT
      rintro W0 HT
      have HKS := Keep.mk (equal_strs ks ks2 A' c' B' d' W0 (HT.xk.more HT.b.size) (HT.yk.more HT.b.size))
      have HVS := Keep.mk (equalfunc_vals l l2 A c B d)
      replace HT := Keep.mk HT
      have x0 := HT.out.x.cell 0 _ rfl
      have x1 := HT.out.x.cell 1 _ rfl
      have x2 := HT.out.x.cell 2 _ rfl
      have x3 := HT.out.x.cell 3 _ rfl
      have x5 := HT.out.x.cell 5 _ rfl
      have y0 := HT.out.y.cell 0 _ rfl
      have y1 := HT.out.y.cell 1 _ rfl
      have y2 := HT.out.y.cell 2 _ rfl
      have y3 := HT.out.y.cell 3 _ rfl
      have y5 := HT.out.y.cell 5 _ rfl
      have xl := HT.out.x.lt
      have yl := HT.out.y.lt
      by_cases hk : k = k2
      case neg =>
        have HE := Keep.mk (show false = sameJ (.mk k m e s l ks) (.mk k2 m2 e2 s2 l2 ks2) by rw [HD.out]; simp [hk])
        have bk : (k == k2) = false := by simpa using hk
        clear hk HD HKS HVS HIH
        go_wp2
        go_ret
        exact ⟨ret_bool HE.out, HT.out.b⟩
      subst hk
      by_cases hn : m = m2 ∧ e = e2
      case neg =>
        have HE := Keep.mk (show false = sameJ (.mk k m e s l ks) (.mk k m2 e2 s2 l2 ks2) by rw [HD.out]; simp; intro h1 h2; exact absurd ⟨h1, h2⟩ hn)
        have bn : (m == m2 && e == e2) = false := by rw [Bool.and_eq_false_iff, beq_eq_false_iff_ne, beq_eq_false_iff_ne]; exact (Decidable.not_and_iff_or_not.1 hn)
        clear hn HD HKS HVS HIH
        go_wp2
        go_ret
        exact ⟨ret_bool HE.out, HT.out.b⟩
      obtain ⟨rfl, rfl⟩ := hn
      by_cases hs : s = s2
      case neg =>
        have HE := Keep.mk (show false = sameJ (.mk k m e s l ks) (.mk k m e s2 l2 ks2) by rw [HD.out]; simp [hs])
        have bs : (s.toList == s2.toList) = false := by rw [ba_eq]; simpa using hs
        clear hs HD HKS HVS HIH
        go_wp2
        go_ret
        exact ⟨ret_bool HE.out, HT.out.b⟩
      subst hs
      by_cases hks : ks = ks2
      case neg =>
        have HE := Keep.mk (show false = sameJ (.mk k m e s l ks) (.mk k m e s l2 ks2) by rw [HD.out]; simp [hks])
        rw [decide_eq_false hks] at HKS
        clear hks HD HVS HIH
        go_wp2_with fail
        refine HKS.out.mono ?_
        rintro r w1 ⟨rfl, hb⟩
        clear HKS
        go_wp2
        go_ret
        exact ⟨ret_bool HE.out, up HT.out.b hb⟩
      have HE := Keep.mk (show sameL l l2 = sameJ (.mk k m e s l ks) (.mk k m e s l2 ks2) by rw [HD.out]; simp [hks])
      rw [decide_eq_true hks] at HKS
      clear hks HD
      go_wp2_with fail
      refine HKS.out.mono ?_
      rintro r w1 ⟨rfl, hb⟩
      clear x0 x1 x2 x3 x5 y0 y1 y2 y3 y5 xl yl HKS
      replace HT := Keep.mk (HT.out.below hb)
      clear hb
      have x4 := HT.out.x.cell 4 _ rfl
      have y4 := HT.out.y.cell 4 _ rfl
      have xl := HT.out.x.lt
      have yl := HT.out.y.lt
      go_wp2_with fail
      refine (HVS.out w1 (HT.out.xv.more HT.out.b.size) (HT.out.yv.more HT.out.b.size) (fun j h h2 W cs cs2 h5 h7 => HIH.out j h h2 W cs cs2 h5 h7)).mono ?_
      rintro r w2 ⟨rfl, hb⟩
      have HB := Keep.mk (up HT.out.b hb)
      clear HT HVS HIH hb
      go_wp2
      go_ret
      exact ⟨ret_bool HE.out, HB.out⟩
end Go.Proofs.YtnkokhpadcgfbaaGreatDoor
namespace Go.Proofs.YtnkokhpadcgfbaaGreatDoor
open Go Go.RowKit Go.Proofs Th
theorem dig_clean {l : List UInt8} (h : AllDig l) : ∀ c ∈ l, 32 < c.toNat ∧ c.toNat ≠ 34 ∧ c.toNat < 128 := fun c hc => by have := h c hc; omega
theorem itoa_clean (e : Int) : ∀ c ∈ Lib.itoa e, 32 < c.toNat ∧ c.toNat ≠ 34 ∧ c.toNat < 128 := by
  intro c hc
  unfold Lib.itoa at hc
  split at hc
  · rcases List.mem_cons.1 hc with rfl | h
    · decide
    · exact dig_clean (dec_all _).1 c h
  · exact dig_clean (dec_all _).1 c hc
theorem sgn_clean (m : Int) : ∀ c ∈ sgn m, 32 < c.toNat ∧ c.toNat ≠ 34 ∧ c.toNat < 128 := by
  intro c hc
  unfold sgn at hc
  split at hc
  · rw [List.mem_singleton.1 hc]; decide
  · cases hc
theorem pad_dig (m e : Int) : AllDig (pad m e) := by
  unfold pad
  split
  · exact allDig_append (all_zeros _) (dec_all _).1
  · exact (dec_all _).1
theorem text_clean (m e : Int) : ∀ c ∈ textN m e, 32 < c.toNat ∧ c.toNat ≠ 34 ∧ c.toNat < 128 := by
  intro c hc
  unfold textN at hc
  split at hc
  · simp only [List.mem_append] at hc
    rcases hc with (h | h) | h
    · exact sgn_clean m c h
    · exact dig_clean (dec_all _).1 c h
    · exact dig_clean (all_zeros _) c h
  · split at hc
    · simp only [List.mem_append] at hc
      rcases hc with ((h | h) | h) | h
      · exact sgn_clean m c h
      · exact dig_clean (pad_dig m e) c (List.mem_of_mem_take h)
      · rw [List.mem_singleton.1 h]; decide
      · exact dig_clean (pad_dig m e) c (List.mem_of_mem_drop h)
    · simp only [List.mem_append] at hc
      rcases hc with ((h | h) | h) | h
      · exact sgn_clean m c h
      · exact dig_clean (dec_all _).1 c h
      · rw [List.mem_singleton.1 h]; decide
      · exact itoa_clean e c h
def textR (m e : Int) : List UInt8 := if right m e = true then textN m e else []
theorem textR_le (m e : Int) : (textR m e).length ≤ 3000 := by
  unfold textR
  split
  · rename_i h; exact text_short h
  · simp
mutual
theorem textJ_right : ∀ v : JV, allJ v = true → textJ textN v = textJ textR v
  | .mk k m e s l ks => by
    intro h
    simp only [allJ, okOne, Bool.and_eq_true] at h
    have hr : right m e = true := h.1.1.1.2
    have hl := h.2
    simp only [textJ, textL_right true false l [] hl, textL_right true true l ks hl, show textR m e = textN m e by unfold textR; rw [if_pos hr]]
theorem textL_right (first named : Bool) : ∀ (l : List JV) (ks : List ByteArray), allL l = true → textL textN first named l ks = textL textR first named l ks
  | [], ks => fun _ => rfl
  | v :: r, ks => by
    intro h
    simp only [allL, Bool.and_eq_true] at h
    simp only [textL, textJ_right v h.1, textL_right false named r (ks.drop 1) h.2]
end
theorem textJ_len (t : JV) (h : allJ t = true) : (textJ textN t).length ≤ 4000 * sizeJ t := by
  have := textJ_le textR textR_le t
  rw [textJ_right t h]; omega
end Go.Proofs.YtnkokhpadcgfbaaGreatDoor
namespace Go.Proofs.YtnkokhpadcgfbaaGreatDoor
open Go Go.RowKit Go.Proofs Th
attribute [local go_sem] Above.cell
def printJ (t : JV) : List UInt8 := if rightJ t = 0 then textJ textN t else []
theorem right_ok {t : JV} (h : rightJ t = 0) : allJ t = true ∧ depthJ t ≤ 48 := by
  unfold rightJ at h
  by_cases hd : 48 < depthJ t
  · rw [if_pos hd] at h; omega
  · rw [if_neg hd] at h
    refine ⟨?_, by omega⟩
    cases ha : allJ t
    · rw [ha] at h; simp at h
    · rfl
theorem text_bound (t : JV) (hz : sizeJ t ≤ 1000000) (h : rightJ t = 0) : (textJ textN t).length ≤ 10000000000 := by
  have := textJ_len t (right_ok h).1
  omega
set_option maxRecDepth 100000 in
theorem write_Print (t : JV) (hz : sizeJ t ≤ 1000000) (w : World) (cs : List Value) (hG : GlobW w) (hJ : JAt w w.heap.size t cs) :
    Calls Tryz.prog 41 #[.agg cs.toArray] w fun r w' => ∃ b : ByteArray, r = .returned (.tuple #[.string b, .int .i64 (rightJ t)]) ∧ b.data.toList = printJ t ∧ Below w.heap.size w w' := by
  have HJ := Keep.mk hJ
  have HGW := Keep.mk hG
  have HC := Keep.mk (value_Right t)
  have HP := Keep.mk (put_text _ t (Nat.le_refl _) hz)
  have HR := Keep.mk (right_ok (t := t))
  have HL := Keep.mk (text_bound t hz)
  have HPR := Keep.mk (show printJ t = if rightJ t = 0 then textJ textN t else [] from rfl)
  generalize rightJ t = rr at *
  cases t with
  | mk k m e s l ks =>
    obtain ⟨A, c, A', c', rfl, hk, hm, he, hs, hK, hV⟩ := hJ.open
    show Calls _ _ #[.agg #[.int .i64 k, .int .i64 m, .int .i64 e, .string s, .slice A l.length c, .slice A' ks.length c']] w _
    have HO := Keep.mk (One6.start (k := k) (m := m) (e := e) (s := s) 27 hG hV hK)
    clear hJ hV hK hG
    go_enter Tryz.func41, Tryz.ntmps41
    go_wp2_with fail
    refine calls_world (fun W => One6 w W k m e s l ks A c A' c' ∧ JAt W W.heap.size (.mk k m e s l ks) (cells6 k m e s A l.length c A' ks.length c')) ⟨HO.out, (HJ.out.keep (al1 _ _) (Nat.le_refl _)).more (al1 _ _).size⟩ ?_
    clear HJ HO
    rintro W0 ⟨HO, HJ⟩
    replace HO := Keep.mk HO
    replace HJ := Keep.mk HJ
    refine (HC.out _ _ HO.out.g HJ.out).mono ?_
    rintro r w1 ⟨rfl, hb1⟩
    replace HO := Keep.mk (HO.out.below hb1)
    replace HJ := Keep.mk ((HJ.out.keep hb1 (Nat.le_refl _)).more hb1.size)
    clear hb1
    by_cases hrr : rr = 0
    · subst hrr
      obtain ⟨hall, hdep⟩ := HR.out rfl
      have hl := HL.out rfl
      have x0 := HO.out.x.cell 0 _ rfl
      have x1 := HO.out.x.cell 1 _ rfl
      have x2 := HO.out.x.cell 2 _ rfl
      have x3 := HO.out.x.cell 3 _ rfl
      have x4 := HO.out.x.cell 4 _ rfl
      have x5 := HO.out.x.cell 5 _ rfl
      have xl := HO.out.x.lt
      have HPT := Keep.mk (HP.out hall w1 _ w1.heap.size (HGW.out.below HO.out.b) HJ.out (Nat.le_refl _))
      have HE := Keep.mk (show printJ (.mk k m e s l ks) = textJ textN (.mk k m e s l ks) by rw [HPR.out, if_pos rfl])
      clear hall HP HPR HR
      have HTS := Keep.mk (show TxtS (w1.alloc (.cells #[.slice none 0 0] 106)) w1.heap.size [] from ⟨⟨_, heap_alloc_new w1 _, OwnB.nil _ _⟩⟩)
      go_wp2_with fail
      refine (HPT.out _ [] HTS.out (al1 _ _) (by simp only [List.length_nil]; omega)).mono ?_
      rintro r w2 ⟨rfl, h1, h2, h3⟩
      obtain ⟨v, hv, ho⟩ := h1.ex
      have hc0 := cell_of_one hv
      have hst := ho.string
      have HB2 := Keep.mk (HO.out.b.trans (((al1 w1 _).mono HO.out.b.size).trans (h3.mono HO.out.b.size)))
      clear hv ho h1 h2 h3 x0 x1 x2 x3 x4 x5
      go_wp2
      go_ret2
      exact ⟨_, rfl, by rw [HE.out], HB2.out⟩
    · have hr2 : (rr != 0) = true := by simpa using hrr
      have HE := Keep.mk (show printJ (.mk k m e s l ks) = [] by rw [HPR.out, if_neg hrr])
      clear hrr HPR HR HP
      go_wp2
      go_ret2
      exact ⟨⟨#[]⟩, rfl, by rw [HE.out], HO.out.b⟩
set_option maxRecDepth 100000 in
theorem write_Size (t : JV) (hz : sizeJ t ≤ 1000000) (w : World) (cs : List Value) (hG : GlobW w) (hJ : JAt w w.heap.size t cs) :
    Calls Tryz.prog 58 #[.agg cs.toArray] w fun r w' => r = .returned (.tuple #[.int .i64 (printJ t).length, .int .i64 (rightJ t)]) ∧ Below w.heap.size w w' := by
  have HJ := Keep.mk hJ
  have HGW := Keep.mk hG
  have HC := Keep.mk (value_Right t)
  have HP := Keep.mk (put_count _ t (Nat.le_refl _) hz)
  have HR := Keep.mk (right_ok (t := t))
  have HL := Keep.mk (text_bound t hz)
  have HPR := Keep.mk (show printJ t = if rightJ t = 0 then textJ textN t else [] from rfl)
  generalize rightJ t = rr at *
  cases t with
  | mk k m e s l ks =>
    obtain ⟨A, c, A', c', rfl, hk, hm, he, hs, hK, hV⟩ := hJ.open
    show Calls _ _ #[.agg #[.int .i64 k, .int .i64 m, .int .i64 e, .string s, .slice A l.length c, .slice A' ks.length c']] w _
    have HO := Keep.mk (One6.start (k := k) (m := m) (e := e) (s := s) 27 hG hV hK)
    clear hJ hV hK hG
    go_enter Tryz.func58, Tryz.ntmps58
    go_wp2_with fail
    refine calls_world (fun W => One6 w W k m e s l ks A c A' c' ∧ JAt W W.heap.size (.mk k m e s l ks) (cells6 k m e s A l.length c A' ks.length c')) ⟨HO.out, (HJ.out.keep (al1 _ _) (Nat.le_refl _)).more (al1 _ _).size⟩ ?_
    clear HJ HO
    rintro W0 ⟨HO, HJ⟩
    replace HO := Keep.mk HO
    replace HJ := Keep.mk HJ
    refine (HC.out _ _ HO.out.g HJ.out).mono ?_
    rintro r w1 ⟨rfl, hb1⟩
    replace HO := Keep.mk (HO.out.below hb1)
    replace HJ := Keep.mk ((HJ.out.keep hb1 (Nat.le_refl _)).more hb1.size)
    clear hb1
    by_cases hrr : rr = 0
    · subst hrr
      obtain ⟨hall, hdep⟩ := HR.out rfl
      have hl := HL.out rfl
      have x0 := HO.out.x.cell 0 _ rfl
      have x1 := HO.out.x.cell 1 _ rfl
      have x2 := HO.out.x.cell 2 _ rfl
      have x3 := HO.out.x.cell 3 _ rfl
      have x4 := HO.out.x.cell 4 _ rfl
      have x5 := HO.out.x.cell 5 _ rfl
      have xl := HO.out.x.lt
      have HPT := Keep.mk (HP.out hall w1 _ w1.heap.size (HGW.out.below HO.out.b) HJ.out (Nat.le_refl _))
      have HE := Keep.mk (show printJ (.mk k m e s l ks) = textJ textN (.mk k m e s l ks) by rw [HPR.out, if_pos rfl])
      clear hall HP HPR HR
      have HTS := Keep.mk (show CntS (w1.alloc (.cells #[.int .i64 0] 129)) w1.heap.size [] from ⟨heap_alloc_new w1 _⟩)
      go_wp2_with fail
      refine (HPT.out _ [] HTS.out (al1 _ _) (by simp only [List.length_nil]; omega)).mono ?_
      rintro r w2 ⟨rfl, h1, h2, h3⟩
      have hc0 := cell_of_one h1.ex
      have HB2 := Keep.mk (HO.out.b.trans (((al1 w1 _).mono HO.out.b.size).trans (h3.mono HO.out.b.size)))
      clear h1 h2 h3 x0 x1 x2 x3 x4 x5
      go_wp2
      go_ret2
      exact ⟨by rw [HE.out]; rfl, HB2.out⟩
    · have hr2 : (rr != 0) = true := by simpa using hrr
      have HE := Keep.mk (show printJ (.mk k m e s l ks) = [] by rw [HPR.out, if_neg hrr])
      clear hrr HPR HR HP
      go_wp2
      go_ret2
      exact ⟨by rw [HE.out]; rfl, HO.out.b⟩
end Go.Proofs.YtnkokhpadcgfbaaGreatDoor
namespace Go.Proofs.YtnkokhpadcgfbaaGreatDoor
open Go Go.RowKit Go.Proofs Th
attribute [local go_sem] Above.cell
def c12 : List Value := [.int .i64 5, .int .i64 0, .int .i64 0, .string ⟨#[]⟩, .slice none 0 0, .slice none 0 0, .int .i64 3, .int .i64 1, .int .i64 0, .string ⟨#[]⟩, .slice none 0 0, .slice none 0 0]
def w7 (w : World) : World := ((w.alloc (.cells #[.string ⟨#[97]⟩, .string ⟨#[98]⟩] 9)).alloc (.cells c12.toArray 27)).alloc
  (.cells (cells6 6 0 0 ⟨#[]⟩ (some ⟨w.heap.size + 1, 0, none⟩) 2 2 (some ⟨w.heap.size, 0, none⟩) 2 2).toArray 27)
end Go.Proofs.YtnkokhpadcgfbaaGreatDoor
namespace Go.Proofs.YtnkokhpadcgfbaaGreatDoor
open Go Go.RowKit Go.Proofs Th
attribute [local go_sem] Above.cell
theorem wpList_append_strs {w : World} {ops : Array Oper} {rest : List Oper} {o : Oper} {a : Act} {Q : Exit → Act → World → Prop} (hgd : o.guard = none) (s x : Operand)
    (ho : o.op = .call { callee := .builtin .append, args := #[s, x], argTypes := #[25, 25] })
    (base : Nat) (v : Value) (ks : List ByteArray) (hs : a.eval s = v) (hown : OwnS w base v ks) (S : Nat → Prop) (A : Option Addr) (n c : Nat) (es : List ByteArray) (hn : n = es.length) (hx : a.eval x = .slice A n c) (hr : StrsIn w S A c es)
    (hl : ks.length + es.length ≤ 1000000000) (hbase : base ≤ w.heap.size)
    (h : ∀ v' w', OwnS w' base v' (ks ++ es) → w.grownBy w' v.ownBlock → wpList Tryz.prog ops Q rest (a.put o.dst v') w') : wpList Tryz.prog ops Q (o :: rest) a w := by
  subst hn
  refine wpList_plain hgd fun K hK => ?_
  obtain ⟨v', w', hrun, h2, h3, _⟩ := run_append_strs (w := w) o.type base v ks hown S A c es hr hl hbase
  unfold Oper.wp execOp
  simp only [ho, resolve, invoke, builtin, Sem.run_bind, Sem.run_pure, Result.andThen_ok, List.map_toArray, List.map_cons, List.map_nil, hs, hx, hrun]
  exact hK _ _ (h v' w' h2 h3)
theorem strs_single (w : World) (x : ByteArray) (hx : x.size ≤ 140737488351232) (o : TypeId) : StrsIn (w.alloc (.cells #[.string x] o)) (fun _ => True) (some ⟨w.heap.size, 0, none⟩) 1 [x] :=
  ⟨by simp, by simp, by simp, fun k hk => by rw [List.mem_singleton.1 hk]; exact hx, fun _ => ⟨w.heap.size, 0, rfl, trivial, fun j hj => by
    obtain rfl : j = 0 := by simpa using hj
    have h := heap_alloc_new w (.cells #[.string x] o)
    show World.cell? _ ⟨w.heap.size, 0 + 0, none⟩ = _
    unfold World.cell?
    simp only [h]
    rfl⟩⟩
theorem zero_in (W : World) (S : Nat → Prop) : JIn W S zeroJ zero6 :=
  JIn.shut (l := []) (ks := []) ⟨by decide, by decide⟩ ⟨by decide, by decide⟩ ⟨by decide, by decide⟩ (by decide) (StrsIn.none_ _ _) (ValsIn.none_ _ _)
end Go.Proofs.YtnkokhpadcgfbaaGreatDoor
