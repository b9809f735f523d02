/- Lemmas and contracts for the laws CalcCompares, part 21 of 33: SameV, CalcJ. Conditions: those that each lemma names. -/
import Derived.Test.YtmacgdcmgbkfnaaGreatDoorPack19
import Derived.Test.YtmacgdcmgbkfnaaGreatDoorPack2
import Derived.Test.YtmacgdcmgbkfnaaGreatDoorPack7
import Derived.Test.YtmacgdcmgbkfnaaGreatDoorPack8
import Derived.Test.YtmacgdcmgbkfnaaGreatDoorPack9
import Derived.Test.YtmacgdcmgbkfnaaGreatDoorPack3
import Derived.Test.YtmacgdcmgbkfnaaGreatDoorPack1
import Derived.Test.YtmacgdcmgbkfnaaGreatDoorPack20
import Derived.Test.YtmacgdcmgbkfnaaGreatDoorPack16
import Derived.Lib.Split
import Derived.Lib.Join
import Derived.StillTail
namespace Go.Proofs.YtmacgdcmgbkfnaaGreatDoor
open Go Go.RowKit Go.Proofs Th
attribute [local go_sem] Above.cell
theorem sameL_step (l r : List JV) (j : Nat) (h : j < l.length) (h2 : j < r.length) : sameL (l.drop j) (r.drop j) = (sameJ l[j] r[j] && sameL (l.drop (j + 1)) (r.drop (j + 1))) := by
  rw [List.drop_eq_getElem_cons h, List.drop_eq_getElem_cons h2]; rfl
theorem sameL_len : ∀ l r : List JV, l.length ≠ r.length → sameL l r = false
  | [], [], h => absurd rfl h
  | [], _ :: _, _ => rfl
  | _ :: _, [], _ => rfl
  | a :: l, b :: r, h => by
    show (sameJ a b && sameL l r) = false
    rw [sameL_len l r (fun e => h (by simp [e]))]; simp
set_option maxRecDepth 100000 in
theorem equalfunc_vals (l r : List JV) (A : Option Addr) (c : Nat) (A2 : Option Addr) (c2 : Nat) (w : World) (hV : ValsAt w w.heap.size A c l) (hR : ValsAt w w.heap.size A2 c2 r)
    (hc : ∀ j (h : j < l.length) (h2 : j < r.length) (W : World) (cs cs2 : List Value), JAt W W.heap.size l[j] cs → JAt W W.heap.size r[j] cs2 → Calls Tryz.prog 52 #[.agg cs.toArray, .agg cs2.toArray] W fun e w' => e = .returned (.bool (sameJ l[j] r[j])) ∧ Below W.heap.size W w') :
    Calls Tryz.prog 88 #[.slice A l.length c, .slice A2 r.length c2, .func (.func 52) #[] #[]] w fun e w' => e = .returned (.bool (sameL l r)) ∧ Below w.heap.size w w' := by
  have hlc := hV.cap
  have hl0 := hV.le
  have hrc := hR.cap
  have hr0 := hR.le
  have HQ := Keep.mk hc
  clear hc
  by_cases hlr : l.length = r.length
  · obtain ⟨N, hN⟩ : ∃ N, l.length = N := ⟨_, rfl⟩
    have HL := Keep.mk hN
    have HR2 := Keep.mk (hlr.symm.trans hN)
    rw [hN] at hlc hl0 ⊢
    rw [HR2.out] at hrc hr0 ⊢
    clear hlr hN
    go_enter Tryz.func88, Tryz.ntmps88
    go_wp2_with fail
    go_loopg [17] N (fun gk i wr => ∃ j : Nat, j + gk = N ∧ i = .int .i64 j ∧ Keep (sameL (l.drop j) (r.drop j) = sameL l r) ∧ Keep (ValsAt wr w.heap.size A c l) ∧ Keep (ValsAt wr w.heap.size A2 c2 r) ∧ Keep (Below w.heap.size w wr))
    case atStart => exact ⟨0, by omega, rfl, ⟨by rw [List.drop_zero, List.drop_zero]⟩, ⟨hV⟩, ⟨hR⟩, ⟨Below.refl _ _⟩⟩
    case round =>
      clear hV hR
      obtain ⟨j, hj, rfl, HC, HV, HR, HB⟩ := hrel
      have hwl := HB.out.size
      by_cases hlt : j < N
      · have hgk : gk ≠ 0 := by omega
        have hl1 : Keep (j < l.length) := ⟨by rw [HL.out]; exact hlt⟩
        have hl2 : Keep (j < r.length) := ⟨by rw [HR2.out]; exact hlt⟩
        obtain ⟨g, o, k1, m1, e1, s1, A1, n1, d1, B1, q1, f1, rfl, hg, hJ1, y0, y1, y2, y3, y4, y5⟩ := HV.out.elem j hl1.out
        have hg2 : g < wr.heap.size := by omega
        have HS := Keep.mk (sameL_step l r j hl1.out hl2.out)
        obtain ⟨G, O, k7, m7, e7, s7, A7, n7, d7, B7, q7, f7, rfl, hG, hJ7, z0, z1, z2, z3, z4, z5⟩ := HR.out.elem j hl2.out
        have hG2 : G < wr.heap.size := by omega
        have HCC := Keep.mk (fun o8 o9 => HQ.out j hl1.out hl2.out ((wr.alloc o8).alloc o9) _ _ ((hJ1.more hwl).up (al2 _ _ _)) ((hJ7.more hwl).up (al2 _ _ _)))
        clear hJ1 hJ7
        have hl1o := hl1.out
        have hl2o := hl2.out
        obtain ⟨z, hz⟩ : ∃ z : Bool, sameJ l[j] r[j] = z := ⟨_, rfl⟩
        rw [hz] at HCC HS
        clear hz hl1o hl2o
        cases z
        · have HE := Keep.mk (show false = sameL l r by rw [← HC.out, HS.out]; rfl)
          clear HS HC
          go_wp2_with fail
          refine (HCC.out _ _).mono ?_
          rintro e w1 ⟨rfl, hb1⟩
          go_wp2
          go_ret
          exact ⟨ret_bool HE.out, up (up HB.out (al2 _ _ _)) hb1⟩
        · have HE := Keep.mk (show sameL (l.drop (j + 1)) (r.drop (j + 1)) = sameL l r by rw [← HC.out, HS.out]; rfl)
          clear HS HC
          go_wp2_with fail
          refine (HCC.out _ _).mono ?_
          rintro e w1 ⟨rfl, hb1⟩
          go_wp2
          go_roundg (gk - 1)
          case rel => exact ⟨j + 1, by omega, by go_num, HE, ⟨HV.out.below (up (al2 wr _ _) hb1) hwl⟩, ⟨HR.out.below (up (al2 wr _ _) hb1) hwl⟩, ⟨up (up HB.out (al2 _ _ _)) hb1⟩⟩
          case measure => omega
      · have HE := Keep.mk (show true = sameL l r by rw [← HC.out, List.drop_eq_nil_of_le (by rw [HL.out]; omega), List.drop_eq_nil_of_le (by rw [HR2.out]; omega)]; rfl)
        obtain rfl : j = N := by omega
        clear HC HQ
        go_wp2
        go_ret
        exact ⟨ret_bool HE.out, HB.out⟩
  · have HE := Keep.mk (sameL_len l r hlr)
    have hne : ((l.length : Int) == r.length) = false := by
      rw [beq_eq_false_iff_ne]; omega
    clear hV hR HQ hlr
    go_enter Tryz.func88, Tryz.ntmps88
    go_wp2
    go_ret
    exact ⟨ret_bool HE.out.symm, Below.refl _ _⟩
theorem below_drewN (w : World) (q : Nat) : Below w.heap.size w (w.drewN q) := ⟨rfl, rfl, rfl, Nat.le_refl _, fun _ _ => rfl⟩
theorem equal_strs (ks r : List ByteArray) (A : Option Addr) (c : Nat) (A2 : Option Addr) (c2 : Nat) (w : World) (hK : StrsAt w w.heap.size A c ks) (hR : StrsAt w w.heap.size A2 c2 r) :
    Calls Tryz.prog 87 #[.slice A ks.length c, .slice A2 r.length c2] w fun e w' => e = .returned (.bool (decide (ks = r))) ∧ Below w.heap.size w w' := by
  by_cases hl : ks.length = r.length
  · by_cases h0 : ks.length = 0
    · have e1 : ks = [] := List.length_eq_zero_iff.1 h0
      have e2 : r = [] := List.length_eq_zero_iff.1 (hl ▸ h0)
      subst e1 e2
      refine (Tryz.slices_Equal_string_empty A A2 c 0 c2 w (by decide)).mono ?_
      rintro e w' ⟨rfl, rfl⟩
      exact ⟨by simp, Below.refl _ _⟩
    · obtain ⟨g, o, rfl, _, hc⟩ := hK.at_ (by omega)
      obtain ⟨g2, o2, rfl, _, hc2⟩ := hR.at_ (by omega)
      have h1 := hK.cap
      have h2 := hR.cap
      refine (Tryz.slices_Equal_string g o ks.length c g2 o2 r.length c2 ks r w (Nat.le_refl _) (Nat.le_refl _) (by omega) (by omega) (fun j hj => by rw [hc j hj, List.getD_eq_getElem?_getD, List.getElem?_eq_getElem hj]; rfl) (fun j hj => by rw [hc2 j hj, List.getD_eq_getElem?_getD, List.getElem?_eq_getElem hj]; rfl)).mono ?_
      rintro e w' ⟨rfl, q, rfl⟩
      rw [List.take_length, List.take_length]
      exact ⟨rfl, below_drewN _ _⟩
  · refine (Tryz.slices_Equal_string_lens A A2 ks.length c r.length c2 w hl).mono ?_
    rintro e w' ⟨rfl, rfl⟩
    have : ¬ ks = r := fun h => hl (by rw [h])
    exact ⟨by simp [this], Below.refl _ _⟩
set_option maxRecDepth 100000 in
set_option maxHeartbeats 4000000 in
theorem value_Same : ∀ (n : Nat) (t t2 : JV), countJ t ≤ n → ∀ (w : World) (cs cs2 : List Value), JAt w w.heap.size t cs → JAt w w.heap.size t2 cs2 →
    Calls Tryz.prog 52 #[.agg cs.toArray, .agg cs2.toArray] w fun r w' => r = .returned (.bool (sameJ t t2)) ∧ Below w.heap.size w w' := by
  intro n
  induction n with
  | zero => intro t t2 h; cases t; unfold countJ at h; omega
  | succ n ih =>
    intro t t2 hn w cs cs2 hJ hJ2
    cases t with
    | mk k m e s l ks =>
    cases t2 with
    | mk k2 m2 e2 s2 l2 ks2 =>
      obtain ⟨A, c, A', c', rfl, hk, hm, he, hs, hK, hV⟩ := hJ.open
      obtain ⟨B, d, B', d', rfl, hk2, hm2, he2, hs2, hK2, hV2⟩ := hJ2.open
      show Calls _ _ #[.agg #[.int .i64 k, .int .i64 m, .int .i64 e, .string s, .slice A l.length c, .slice A' ks.length c'], .agg #[.int .i64 k2, .int .i64 m2, .int .i64 e2, .string s2, .slice B l2.length d, .slice B' ks2.length d']] w _
      have hcn := countL_get l
      have hcl : countL l ≤ n := by have : 1 + countL l ≤ n + 1 := hn; omega
      have HD := Keep.mk (show sameJ (.mk k m e s l ks) (.mk k2 m2 e2 s2 l2 ks2) = (decide (k = k2) && decide (m = m2) && decide (e = e2) && decide (s = s2) && decide (ks = ks2) && sameL l l2) from rfl)
      have HT := Keep.mk (show Two6 w ((w.alloc (.cells #[.int .i64 k, .int .i64 m, .int .i64 e, .string s, .slice A l.length c, .slice A' ks.length c'] 27)).alloc (.cells #[.int .i64 k2, .int .i64 m2, .int .i64 e2, .string s2, .slice B l2.length d, .slice B' ks2.length d'] 27)) k m e s l ks A c A' c' k2 m2 e2 s2 l2 ks2 B d B' d' from
        ⟨box_new6 .. |>.alloc _, Box.new (cells6 k2 m2 e2 s2 B l2.length d B' ks2.length d') _ (by simp), hV.below (al2 _ _ _) (Nat.le_refl _), hV2.below (al2 _ _ _) (Nat.le_refl _), hK.below (al2 _ _ _) (Nat.le_refl _), hK2.below (al2 _ _ _) (Nat.le_refl _), al2 _ _ _⟩)
      have HIH := Keep.mk (fun j (h : j < l.length) (h2 : j < l2.length) W cs cs2 => ih l[j] l2[j] (by have := hcn j h; omega) W cs cs2)
      clear ih hcn hcl hn hJ hJ2 hV hV2 hK hK2 hs hs2 hk hm he hk2 hm2 he2
      go_enter Tryz.func52, Tryz.ntmps52
      go_upto_region 1 with fail
      refine wp_world (fun W => Two6 w W k m e s l ks A c A' c' k2 m2 e2 s2 l2 ks2 B d B' d') HT.out ?_
      clear HT
      rintro W0 HT
      have HKS := Keep.mk (equal_strs ks ks2 A' c' B' d' W0 (HT.xk.more HT.b.size) (HT.yk.more HT.b.size))
      have HVS := Keep.mk (equalfunc_vals l l2 A c B d)
      replace HT := Keep.mk HT
      have x0 := HT.out.x.cell 0 _ rfl
      have x1 := HT.out.x.cell 1 _ rfl
      have x2 := HT.out.x.cell 2 _ rfl
      have x3 := HT.out.x.cell 3 _ rfl
      have x5 := HT.out.x.cell 5 _ rfl
      have y0 := HT.out.y.cell 0 _ rfl
      have y1 := HT.out.y.cell 1 _ rfl
      have y2 := HT.out.y.cell 2 _ rfl
      have y3 := HT.out.y.cell 3 _ rfl
      have y5 := HT.out.y.cell 5 _ rfl
      have xl := HT.out.x.lt
      have yl := HT.out.y.lt
      by_cases hk : k = k2
      case neg =>
        have HE := Keep.mk (show false = sameJ (.mk k m e s l ks) (.mk k2 m2 e2 s2 l2 ks2) by rw [HD.out]; simp [hk])
        have bk : (k == k2) = false := by simpa using hk
        clear hk HD HKS HVS HIH
        go_wp2
        go_ret
        exact ⟨ret_bool HE.out, HT.out.b⟩
      subst hk
      by_cases hn : m = m2 ∧ e = e2
      case neg =>
        have HE := Keep.mk (show false = sameJ (.mk k m e s l ks) (.mk k m2 e2 s2 l2 ks2) by rw [HD.out]; simp; intro h1 h2; exact absurd ⟨h1, h2⟩ hn)
        have bn : (m == m2 && e == e2) = false := by rw [Bool.and_eq_false_iff, beq_eq_false_iff_ne, beq_eq_false_iff_ne]; exact (Decidable.not_and_iff_or_not.1 hn)
        clear hn HD HKS HVS HIH
        go_wp2
        go_ret
        exact ⟨ret_bool HE.out, HT.out.b⟩
      obtain ⟨rfl, rfl⟩ := hn
      by_cases hs : s = s2
      case neg =>
        have HE := Keep.mk (show false = sameJ (.mk k m e s l ks) (.mk k m e s2 l2 ks2) by rw [HD.out]; simp [hs])
        have bs : (s.toList == s2.toList) = false := by rw [ba_eq]; simpa using hs
        clear hs HD HKS HVS HIH
        go_wp2
        go_ret
        exact ⟨ret_bool HE.out, HT.out.b⟩
      subst hs
      by_cases hks : ks = ks2
      case neg =>
        have HE := Keep.mk (show false = sameJ (.mk k m e s l ks) (.mk k m e s l2 ks2) by rw [HD.out]; simp [hks])
        rw [decide_eq_false hks] at HKS
        clear hks HD HVS HIH
        go_wp2_with fail
        refine HKS.out.mono ?_
        rintro r w1 ⟨rfl, hb⟩
        clear HKS
        go_wp2
        go_ret
        exact ⟨ret_bool HE.out, up HT.out.b hb⟩
      have HE := Keep.mk (show sameL l l2 = sameJ (.mk k m e s l ks) (.mk k m e s l2 ks2) by rw [HD.out]; simp [hks])
      rw [decide_eq_true hks] at HKS
      clear hks HD
      go_wp2_with fail
      refine HKS.out.mono ?_
      rintro r w1 ⟨rfl, hb⟩
      clear x0 x1 x2 x3 x5 y0 y1 y2 y3 y5 xl yl HKS
      replace HT := Keep.mk (HT.out.below hb)
      clear hb
      have x4 := HT.out.x.cell 4 _ rfl
      have y4 := HT.out.y.cell 4 _ rfl
      have xl := HT.out.x.lt
      have yl := HT.out.y.lt
      go_wp2_with fail
      refine (HVS.out w1 (HT.out.xv.more HT.out.b.size) (HT.out.yv.more HT.out.b.size) (fun j h h2 W cs cs2 h5 h7 => HIH.out j h h2 W cs cs2 h5 h7)).mono ?_
      rintro r w2 ⟨rfl, hb⟩
      have HB := Keep.mk (up HT.out.b hb)
      clear HT HVS HIH hb
      go_wp2
      go_ret
      exact ⟨ret_bool HE.out, HB.out⟩
end Go.Proofs.YtmacgdcmgbkfnaaGreatDoor
namespace Th
def JV.k : JV → Int | .mk k _ _ _ _ _ => k
def JV.m : JV → Int | .mk _ m _ _ _ _ => m
def JV.e : JV → Int | .mk _ _ e _ _ _ => e
def JV.s : JV → ByteArray | .mk _ _ _ s _ _ => s
end Th
namespace Go.Proofs.YtmacgdcmgbkfnaaGreatDoor
open Go Go.RowKit Go.Proofs Th
def digV (p : Int × Int) : JV := .mk 3 p.1 p.2 ⟨#[]⟩ [] []
def textV (s : ByteArray) : JV := .mk 4 0 0 s [] []
def listV (l : List JV) : JV := .mk 5 0 0 ⟨#[]⟩ l []
def truthV (b : Bool) : JV := .mk (if b then 2 else 1) 0 0 ⟨#[]⟩ [] []
def doneJ (r : JV × Int) : JV × Int :=
  if r.2 ≠ 0 then (zeroJ, r.2) else if rightJ r.1 ≠ 0 then (zeroJ, rightJ r.1) else if 16384 < (printJ r.1).length then (zeroJ, 3) else r
end Go.Proofs.YtmacgdcmgbkfnaaGreatDoor
