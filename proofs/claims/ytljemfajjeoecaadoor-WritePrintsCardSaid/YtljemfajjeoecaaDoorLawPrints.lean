/- thimblelaw07.WritePrints. Conditions: GlobV; the value lies in memory as a finite tree. -/
import Derived.Test.YtljemfajjeoecaaDoorWriteP
import Derived.Test.YtljemfajjeoecaaDoorRef7
import Derived.Test.YtljemfajjeoecaaDoorTree
import Derived.Outline
namespace Go.Proofs.YtljemfajjeoecaaDoor
open Go Go.RowKit Go.Proofs Th
attribute [local go_sem] Above.cell Above.frozen

mutual
theorem countJ_le : ∀ t : JV, countJ t ≤ sizeJ t
  | .mk _ _ _ s l ks => by
    have := countL_le l
    simp only [countJ, sizeJ]; omega
theorem countL_le : ∀ l : List JV, countL l ≤ sizeL l
  | [] => Nat.le_refl _
  | v :: r => by
    have := countJ_le v
    have := countL_le r
    simp only [countL, sizeL]; omega
end
/-- the value, and its copy in a box -/
structure PrintW (w W : World) (k m e : Int) (s : ByteArray) (l : List JV) (ks : List ByteArray) (A : Option Addr) (c : Nat) (A' : Option Addr) (c' : Nat) (p : Nat) (B : Option Addr) (d : Nat) (B' : Option Addr) (d' : Nat) : Prop where
  o : One6 w W k m e s l ks A c A' c'
  j : JAt W W.heap.size (.mk k m e s l ks) (cells6 k m e s A l.length c A' ks.length c')
  i : JAt W W.heap.size (.mk k m e s l ks) (cells6 k m e s B l.length d B' ks.length d')
  x : Box W p (cells6 k m e s B l.length d B' ks.length d')
theorem PrintW.below {w W W' : World} {k m e : Int} {s : ByteArray} {l : List JV} {ks : List ByteArray} {A : Option Addr} {c : Nat} {A' : Option Addr} {c' : Nat} {p : Nat} {B : Option Addr} {d : Nat} {B' : Option Addr} {d' : Nat}
    (h : PrintW w W k m e s l ks A c A' c' p B d B' d') (hb : Below W.heap.size W W') : PrintW w W' k m e s l ks A c A' c' p B d B' d' :=
  ⟨h.o.below hb, (h.j.keep hb (Nat.le_refl _)).more hb.size, (h.i.keep hb (Nat.le_refl _)).more hb.size, h.x.below hb h.x.lt⟩
theorem eq_beq (a : Int) : (a == a) = true := by simp
theorem ba_self (a : ByteArray) : (a.toList == a.toList) = true := by simp
set_option maxRecDepth 100000 in
set_option maxHeartbeats 4000000 in
theorem law_prints (t : JV) (w : World) (cs : List Value) (hG : GlobV w) (hJ : JAt w w.heap.size t cs) :
    Calls Tryd.prog 3 #[.agg cs.toArray] w fun r w' => r = .returned (.bool true) ∧ Below w.heap.size w w' := by
  have HJ := Keep.mk hJ
  have HBK := Keep.mk (ref3_Bulk _ t (Nat.le_refl _) 2000 (by omega))
  have HCP := Keep.mk (fun (hz : sizeJ t ≤ 2000) => ref3_Copy _ t (Nat.le_refl _) (by omega))
  have HPR := Keep.mk (fun (hz : sizeJ t ≤ 2000) => write_Print t (by omega))
  have HSI := Keep.mk (fun (hz : sizeJ t ≤ 2000) => write_Size t (by omega))
  have HPP := Keep.mk (fun (hz : sizeJ t ≤ 2000) => ref7_Print t (by omega) (by have := countJ_le t; omega))
  have HSM := Keep.mk (ref3_Same _ t t (Nat.le_refl _))
  rw [sameJ_self] at HSM
  cases t with
  | mk k m e s l ks =>
    obtain ⟨A, c, A', c', rfl, hk, hm, he, hs, hK, hV⟩ := hJ.open
    show Calls _ _ #[.agg #[.int .i64 k, .int .i64 m, .int .i64 e, .string s, .slice A l.length c, .slice A' ks.length c']] w _
    have HO := Keep.mk (One6.start (k := k) (m := m) (e := e) (s := s) 27 hG hV hK)
    clear hJ hV hK hG
    obtain ⟨tb, htb⟩ : ∃ tb : ByteArray, (⟨(printJ (.mk k m e s l ks)).toArray⟩ : ByteArray) = tb := ⟨_, rfl⟩
    have hpl : (printJ (.mk k m e s l ks)).length = tb.size := by rw [← htb, ← size_listU]
    have hps : strB (printJ (.mk k m e s l ks)) = .string tb := by rw [← htb]; rfl
    have hpd : printJ (.mk k m e s l ks) = tb.data.toList := by rw [← htb]
    rw [hpl] at HSI
    rw [hps] at HPP
    rw [hpd] at HPR
    clear hpl hps hpd htb
    generalize hrr : rightJ (.mk k m e s l ks) = rr at *
    generalize hsz : sizeJ (.mk k m e s l ks) = sz at *
    clear hrr hsz
    go_enter Tryd.func3, Tryd.ntmps3
    go_wp2_with fail
    refine calls_world (fun W => One6 w W k m e s l ks A c A' c' ∧ JAt W W.heap.size (.mk k m e s l ks) (cells6 k m e s A l.length c A' ks.length c')) ⟨HO.out, (HJ.out.keep (al1 _ _) (Nat.le_refl _)).more (al1 _ _).size⟩ ?_
    clear HJ HO
    rintro W0 ⟨HO, HJ⟩
    replace HO := Keep.mk HO
    replace HJ := Keep.mk HJ
    refine (HBK.out _ _ HJ.out).mono ?_
    rintro r w2 ⟨b, rfl, hbk, hbl, hb2⟩
    replace HO := Keep.mk (HO.out.below hb2)
    replace HJ := Keep.mk ((HJ.out.keep hb2 (Nat.le_refl _)).more hb2.size)
    clear hb2
    by_cases hb : 2000 < b
    · have hb9 : (2000 : Int) < b := by omega
      clear hbk
      go_wp2_with fail
      refine (works7 _ HO.out.g).mono ?_
      rintro r w1 ⟨rfl, hb1⟩
      replace HO := Keep.mk (HO.out.below hb1)
      go_wp2
      go_ret
      exact ⟨rfl, HO.out.b⟩
    · have hb9 : ¬ (2000 : Int) < b := by omega
      have hsz2 : sz ≤ 2000 := by have := hbk (by omega); omega
      clear hbk hb
      have x0 := HO.out.x.cell 0 _ rfl
      have x1 := HO.out.x.cell 1 _ rfl
      have x2 := HO.out.x.cell 2 _ rfl
      have x3 := HO.out.x.cell 3 _ rfl
      have x4 := HO.out.x.cell 4 _ rfl
      have x5 := HO.out.x.cell 5 _ rfl
      go_wp2_with fail
      refine (HCP.out hsz2 _ _ HJ.out).mono ?_
      rintro r w3 ⟨cs', rfl, hJ3, hb3⟩
      replace HO := Keep.mk (HO.out.below hb3)
      replace HJ := Keep.mk ((HJ.out.keep hb3 (Nat.le_refl _)).more hb3.size)
      obtain ⟨B, d, B', d', rfl, _, _, _, _, _, _⟩ := hJ3.open
      have HI := Keep.mk (hJ3.at (B := w3.heap.size) (fun _ h => h.2))
      clear hJ3 hb3 x0 x1 x2 x3 x4 x5
      have HP := Keep.mk (show PrintW w (w3.alloc (.cells #[.int .i64 k, .int .i64 m, .int .i64 e, .string s, .slice B l.length d, .slice B' ks.length d'] 27)) k m e s l ks A c A' c' w3.heap.size B d B' d' from
        ⟨HO.out.below (al1 _ _), (HJ.out.keep (al1 _ _) (Nat.le_refl _)).more (al1 _ _).size, (HI.out.keep (al1 _ _) (Nat.le_refl _)).more (al1 _ _).size, box_new6 ..⟩)
      simp only [cells6]
      go_wp2_with fail
      refine calls_world (fun W => PrintW w W k m e s l ks A c A' c' w3.heap.size B d B' d') HP.out ?_
      clear HP HO HJ HI
      rintro W4 HP
      replace HP := Keep.mk HP
      refine (HPR.out hsz2 _ _ HP.out.o.g HP.out.i).mono ?_
      rintro r w5 ⟨tb5, rfl, htb5, hb5⟩
      obtain rfl : tb5 = tb := ba_inj htb5
      replace HP := Keep.mk (HP.out.below hb5)
      clear hb5 htb5
      have x0 := HP.out.o.x.cell 0 _ rfl
      have x1 := HP.out.o.x.cell 1 _ rfl
      have x2 := HP.out.o.x.cell 2 _ rfl
      have x3 := HP.out.o.x.cell 3 _ rfl
      have x4 := HP.out.o.x.cell 4 _ rfl
      have x5 := HP.out.o.x.cell 5 _ rfl
      go_wp2_with fail
      refine (HPP.out hsz2 _ _ HP.out.j).mono ?_
      rintro r w6 ⟨rfl, hb6⟩
      replace HP := Keep.mk (HP.out.below hb6)
      clear hb6 x0 x1 x2 x3 x4 x5
      have x0 := HP.out.x.cell 0 _ rfl
      have x1 := HP.out.x.cell 1 _ rfl
      have x2 := HP.out.x.cell 2 _ rfl
      have x3 := HP.out.x.cell 3 _ rfl
      have x4 := HP.out.x.cell 4 _ rfl
      have x5 := HP.out.x.cell 5 _ rfl
      go_wp2_with fail
      refine (HSI.out hsz2 _ _ HP.out.o.g HP.out.i).mono ?_
      rintro r w7 ⟨rfl, hb7⟩
      replace HP := Keep.mk (HP.out.below hb7)
      clear hb7 x0 x1 x2 x3 x4 x5
      have x0 := HP.out.x.cell 0 _ rfl
      have x1 := HP.out.x.cell 1 _ rfl
      have x2 := HP.out.x.cell 2 _ rfl
      have x3 := HP.out.x.cell 3 _ rfl
      have x4 := HP.out.x.cell 4 _ rfl
      have x5 := HP.out.x.cell 5 _ rfl
      have y0 := HP.out.o.x.cell 0 _ rfl
      have y1 := HP.out.o.x.cell 1 _ rfl
      have y2 := HP.out.o.x.cell 2 _ rfl
      have y3 := HP.out.o.x.cell 3 _ rfl
      have y4 := HP.out.o.x.cell 4 _ rfl
      have y5 := HP.out.o.x.cell 5 _ rfl
      have r1 := ba_self tb5
      have r2 := eq_beq rr
      go_wp2_with fail
      refine (HSM.out _ _ _ HP.out.i HP.out.j).mono ?_
      rintro r w8 ⟨rfl, hb8⟩
      replace HP := Keep.mk (HP.out.below hb8)
      clear hb8 x0 x1 x2 x3 x4 x5 y0 y1 y2 y3 y4 y5
      go_wp2_with fail
      refine (works7 _ HP.out.o.g).mono ?_
      rintro r w9 ⟨rfl, hb9⟩
      replace HP := Keep.mk (HP.out.below hb9)
      go_wp2
      go_ret
      exact ⟨rfl, HP.out.o.b⟩
end Go.Proofs.YtljemfajjeoecaaDoor
