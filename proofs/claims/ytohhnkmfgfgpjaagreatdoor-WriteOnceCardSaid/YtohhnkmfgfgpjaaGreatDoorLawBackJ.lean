/- WriteBack, the law itself. Conditions: those that it names.
WriteOnce, the law itself. Conditions: those that it names. -/
import Derived.Test.YtohhnkmfgfgpjaaGreatDoorWriteP
import Derived.Test.YtohhnkmfgfgpjaaGreatDoorReadP
import Derived.Test.YtohhnkmfgfgpjaaGreatDoorSame
import Derived.Test.YtohhnkmfgfgpjaaGreatDoorBackJMath
import Derived.Outline
namespace Go.Proofs.YtohhnkmfgfgpjaaGreatDoor
open Go Go.RowKit Go.Proofs Th

theorem dig_num {l : List UInt8} (h : AllDig l) : ∀ c ∈ l, numC c = true := fun c hc => by have := h c hc; unfold numC; simp; omega
theorem itoa_num (e : Int) : ∀ c ∈ Lib.itoa e, numC c = true := by
  intro c hc
  unfold Lib.itoa at hc
  split at hc
  · rcases List.mem_cons.1 hc with rfl | h
    · rfl
    · exact dig_num (dec_all _).1 c h
  · exact dig_num (dec_all _).1 c hc
theorem sgn_num (m : Int) : ∀ c ∈ sgn m, numC c = true := by
  intro c hc
  unfold sgn at hc
  split at hc
  · rw [List.mem_singleton.1 hc]; rfl
  · cases hc
theorem text_num (m e : Int) : ∀ c ∈ textN m e, numC c = true := by
  intro c hc
  unfold textN at hc
  split at hc
  · simp only [List.mem_append] at hc
    rcases hc with (h | h) | h
    · exact sgn_num m c h
    · exact dig_num (dec_all _).1 c h
    · exact dig_num (all_zeros _) c h
  · split at hc
    · simp only [List.mem_append] at hc
      rcases hc with ((h | h) | h) | h
      · exact sgn_num m c h
      · exact dig_num (pad_dig m e) c (List.mem_of_mem_take h)
      · rw [List.mem_singleton.1 h]; rfl
      · exact dig_num (pad_dig m e) c (List.mem_of_mem_drop h)
    · simp only [List.mem_append] at hc
      rcases hc with ((h | h) | h) | h
      · exact sgn_num m c h
      · exact dig_num (dec_all _).1 c h
      · rw [List.mem_singleton.1 h]; rfl
      · exact itoa_num e c h
theorem text_head (m e : Int) (h : right m e = true) : ∃ c t, textN m e = c :: t ∧ (c.toNat = 45 ∨ (48 ≤ c.toNat ∧ c.toNat ≤ 57)) := by
  have hp := parse_text m e h
  generalize textN m e = l at hp
  unfold parseN at hp
  by_cases h1 : l.head? = some 45
  · cases l with
    | nil => cases h1
    | cons c t =>
      have : c = 45 := by simpa using h1
      subst this
      exact ⟨_, _, rfl, Or.inl rfl⟩
  · rw [if_neg h1] at hp
    by_cases h2 : nDig l = 0
    · rw [core_bad false l (Or.inl h2)] at hp
      simp only [Prod.mk.injEq] at hp
      exact absurd hp.2 (by decide)
    · cases l with
      | nil => exact absurd rfl h2
      | cons c t =>
        have h3 := nDig_get (c :: t) 0 (by simp) (by omega)
        exact ⟨_, _, rfl, Or.inr h3⟩
theorem numText : NumText textN := ⟨parse_text, fun m e _ => text_num m e, text_head⟩
theorem parseOk : ParseOk := fun _ _ _ h => parse_ok h
theorem print_back (t : JV) (h : rightJ t = 0) (hs : (printJ t).length ≤ 16384) : readV madeJ (printJ t) = (t, 0, 0) := by
  unfold printJ at *
  rw [if_pos h] at hs ⊢
  exact back_law numText t h hs
theorem print_len (t : JV) (h : rightJ t = 0) (hz : sizeJ t ≤ 2001) : (printJ t).length ≤ 10000000 := by
  unfold printJ
  rw [if_pos h]
  have := textJ_len t (right_ok h).1
  omega
theorem print_none (t : JV) (h : rightJ t ≠ 0) : printJ t = [] := by unfold printJ; rw [if_neg h]
theorem print_inj (a b : JV) (ha : rightJ a = 0) (hb : rightJ b = 0) (h : printJ a = printJ b) : a = b := by
  unfold printJ at h
  rw [if_pos ha, if_pos hb] at h
  exact text_inj numText a b ha hb h
end Go.Proofs.YtohhnkmfgfgpjaaGreatDoor
namespace Go.Proofs.YtohhnkmfgfgpjaaGreatDoor
open Go Go.RowKit Go.Proofs Th
attribute [local go_sem] Above.cell Above.frozen

/-- a value that was read, in a box -/
structure BlkV (w W : World) (p : Nat) (v : JV) (cs : List Value) : Prop where
  j : JAt W W.heap.size v cs
  v : VBlkT W p cs
  b : Below w.heap.size w W
theorem BlkV.below {w W W' : World} {p : Nat} {v : JV} {cs : List Value} (h : BlkV w W p v cs) (hb : Below W.heap.size W W') : BlkV w W' p v cs :=
  ⟨(h.j.keep hb (Nat.le_refl _)).more hb.size, (hb.block _ (lt_of_block h.v)).trans h.v, up h.b hb⟩
theorem BlkV.new {w w0 w2 : World} {v : JV} {cs : List Value} (hb : Below w.heap.size w w0) (hb2 : Below w0.heap.size w0 w2) (hJ : JIn w2 (newIn w0 w2) v cs) :
    BlkV w (w2.alloc (.cells cs.toArray 28)) w2.heap.size v cs :=
  ⟨(hJ.keep (T := (· < (w2.alloc (.cells cs.toArray 28)).heap.size)) (fun g hg => (al1 w2 _).block g hg.2) (fun _g hg => Nat.lt_of_lt_of_le hg.2 (al1 w2 _).size)).at (fun _ h => h), VBlkT.new _ rfl, up (up hb hb2) (al1 w2 _)⟩
theorem empty_of {b : ByteArray} (h : b.data.toList = []) : b = ⟨#[]⟩ := by
  refine ByteArray.ext (Array.toList_inj.1 ?_); rw [h]
set_option maxRecDepth 100000 in
set_option maxHeartbeats 4000000 in
theorem law_backJ (t : JV) (w : World) (cs : List Value) (hG : GlobW w) (hJ : JAt w w.heap.size t cs) :
    Calls Tryz.prog 5 #[.agg cs.toArray] w fun r w' => r = .returned (.bool true) ∧ Below w.heap.size w w' := by
  have HJ := Keep.mk hJ
  have HG := Keep.mk hG
  have HBK := Keep.mk (ref3_Bulk _ t (Nat.le_refl _) 2000 (by omega))
  have HPR := Keep.mk (fun (hz : sizeJ t ≤ 2000) => write_Print t (by omega))
  have HNO := Keep.mk (print_none t)
  have HLE := Keep.mk (print_len t)
  have HBA := Keep.mk (print_back t)
  have HSM := Keep.mk (ref3_Same _ t t (Nat.le_refl _))
  rw [sameJ_self] at HSM
  cases t with
  | mk k m e s l ks =>
    obtain ⟨A, c, A', c', rfl, hk, hm, he, hs, hK, hV⟩ := hJ.open
    show Calls _ _ #[.agg #[.int .i64 k, .int .i64 m, .int .i64 e, .string s, .slice A l.length c, .slice A' ks.length c']] w _
    have HO := Keep.mk (One6.start (k := k) (m := m) (e := e) (s := s) 28 hG.weak hV hK)
    clear hJ hV hK hG
    generalize hprj : printJ (.mk k m e s l ks) = PJ at *
    generalize hrr : rightJ (.mk k m e s l ks) = rr at *
    generalize hsz : sizeJ (.mk k m e s l ks) = sz at *
    clear hprj hrr hsz
    go_enter Tryz.func5, Tryz.ntmps5
    go_wp2_with fail
    refine calls_world (fun W => One6 w W k m e s l ks A c A' c' ∧ JAt W W.heap.size (.mk k m e s l ks) (cells6 k m e s A l.length c A' ks.length c')) ⟨HO.out, (HJ.out.keep (al1 _ _) (Nat.le_refl _)).more (al1 _ _).size⟩ ?_
    clear HJ HO
    rintro W0 ⟨HO, HJ⟩
    replace HO := Keep.mk HO
    replace HJ := Keep.mk HJ
    refine (works7 _ (HG.out.below HO.out.b)).mono ?_
    rintro r w1 ⟨rfl, hb1⟩
    replace HO := Keep.mk (HO.out.below hb1)
    replace HJ := Keep.mk ((HJ.out.keep hb1 (Nat.le_refl _)).more hb1.size)
    clear hb1
    have x0 := HO.out.x.cell 0 _ rfl
    have x1 := HO.out.x.cell 1 _ rfl
    have x2 := HO.out.x.cell 2 _ rfl
    have x3 := HO.out.x.cell 3 _ rfl
    have x4 := HO.out.x.cell 4 _ rfl
    have x5 := HO.out.x.cell 5 _ rfl
    go_wp2_with fail
    refine (HBK.out _ _ HJ.out).mono ?_
    rintro r w2 ⟨b, rfl, hbk, hbl, hb2⟩
    replace HO := Keep.mk (HO.out.below hb2)
    replace HJ := Keep.mk ((HJ.out.keep hb2 (Nat.le_refl _)).more hb2.size)
    clear hb2 x0 x1 x2 x3 x4 x5
    by_cases hb : 2000 < b
    · have hb9 : (2000 : Int) < b := by omega
      clear hbk
      go_wp2
      go_ret
      exact ⟨rfl, HO.out.b⟩
    · have hb9 : ¬ (2000 : Int) < b := by omega
      have hsz2 : sz ≤ 2000 := by have := hbk (by omega); omega
      clear hbk hb
      have x0 := HO.out.x.cell 0 _ rfl
      have x1 := HO.out.x.cell 1 _ rfl
      have x2 := HO.out.x.cell 2 _ rfl
      have x3 := HO.out.x.cell 3 _ rfl
      have x4 := HO.out.x.cell 4 _ rfl
      have x5 := HO.out.x.cell 5 _ rfl
      go_wp2_with fail
      refine (HPR.out hsz2 _ _ (HG.out.below HO.out.b) HJ.out).mono ?_
      rintro r w3 ⟨tb, rfl, htb, hb3⟩
      replace HO := Keep.mk (HO.out.below hb3)
      replace HJ := Keep.mk ((HJ.out.keep hb3 (Nat.le_refl _)).more hb3.size)
      clear hb3 x0 x1 x2 x3 x4 x5
      by_cases hr0 : rr = 0
      · subst hr0
        have hlen := HLE.out rfl (by omega)
        have htl : tb.size = PJ.length := by rw [← size_listU, htb]
        subst htb
        have HBK2 := Keep.mk (HBA.out rfl)
        have htz : tb.size ≤ 10000000 := by omega
        have HPA := Keep.mk (fun (W : World) (hb : Below w.heap.size w W) => read_Parse tb (by omega) W (HG.out.below hb).weak)
        have HBG := Keep.mk (readV_big tb.data.toList)
        have HTL := Keep.mk (size_listU tb)
        generalize readV madeJ tb.data.toList = R at *
        obtain ⟨v2, a2, e2⟩ := R
        clear hlen htl HNO HLE HBA HPR HBK
        go_wp2_with fail
        refine (HPA.out _ HO.out.b).mono ?_
        rintro r w4 ⟨cs, rfl, hJ4, hb4⟩
        obtain ⟨k9, m9, e9, s9, A9, n9, c9, A8, n8, c8, rfl⟩ := hJ4.cells
        have HN := Keep.mk (BlkV.new HO.out.b hb4 hJ4)
        replace HO := Keep.mk ((HO.out.below hb4).below (al1 w4 (.cells (cells6 k9 m9 e9 s9 A9 n9 c9 A8 n8 c8).toArray 28)))
        replace HJ := Keep.mk ((((HJ.out.keep hb4 (Nat.le_refl _)).more hb4.size).keep (al1 w4 (.cells (cells6 k9 m9 e9 s9 A9 n9 c9 A8 n8 c8).toArray 28)) (Nat.le_refl _)).more (al1 w4 (.cells (cells6 k9 m9 e9 s9 A9 n9 c9 A8 n8 c8).toArray 28)).size)
        clear hJ4 hb4 HPA
        simp only [cells6] at HO HJ HN ⊢
        by_cases hbig : 16384 < tb.size
        · have hR := HBG.out (by rw [HTL.out]; exact hbig)
          simp only [Prod.mk.injEq] at hR
          obtain ⟨rfl, rfl, rfl⟩ := hR
          have hb16 : (16384 : Int) < tb.size := by omega
          have HB := Keep.mk HO.out.b
          clear hbig HBG HBK2 HO HJ HN
          go_wp2
          go_ret
          exact ⟨rfl, HB.out⟩
        · have hR := HBK2.out (by rw [HTL.out]; omega)
          simp only [Prod.mk.injEq] at hR
          obtain ⟨rfl, rfl, rfl⟩ := hR
          have hb16 : ¬ (16384 : Int) < tb.size := by omega
          clear hbig HBG HBK2
          go_upto_region 11 with fail
          refine wp_world (fun W => One6 w W k m e s l ks A c A' c' ∧ JAt W W.heap.size (.mk k m e s l ks) (cells6 k m e s A l.length c A' ks.length c') ∧ BlkV w W w4.heap.size (.mk k m e s l ks) (cells6 k9 m9 e9 s9 A9 n9 c9 A8 n8 c8)) ⟨HO.out, HJ.out, HN.out⟩ ?_
          clear HO HJ HN
          generalize w4.heap.size = q
          rintro W5 ⟨HO, HJ, HN⟩
          replace HO := Keep.mk HO
          replace HJ := Keep.mk HJ
          replace HN := Keep.mk HN
          have HSM2 := Keep.mk (HSM.out W5 _ _ HJ.out HN.out.j)
          have x0 := HO.out.x.cell 0 _ rfl
          have x1 := HO.out.x.cell 1 _ rfl
          have x2 := HO.out.x.cell 2 _ rfl
          have x3 := HO.out.x.cell 3 _ rfl
          have x4 := HO.out.x.cell 4 _ rfl
          have x5 := HO.out.x.cell 5 _ rfl
          have hxl := HO.out.x.lt
          have y0 := HN.out.v.box.cell 0 _ rfl
          have y1 := HN.out.v.box.cell 1 _ rfl
          have y2 := HN.out.v.box.cell 2 _ rfl
          have y3 := HN.out.v.box.cell 3 _ rfl
          have y4 := HN.out.v.box.cell 4 _ rfl
          have y5 := HN.out.v.box.cell 5 _ rfl
          have hyl := HN.out.v.box.lt
          go_wp2_with fail
          refine HSM2.out.mono ?_
          rintro r w6 ⟨rfl, hb6⟩
          have HB6 := Keep.mk (up HO.out.b hb6)
          clear HO HJ HN HSM HSM2 hb6
          go_wp2
          go_ret
          exact ⟨rfl, HB6.out⟩
      · have hp := HNO.out hr0
        rw [hp] at htb
        obtain rfl := empty_of htb
        have b1 : (rr != 0) = true := by simpa using hr0
        have HB := Keep.mk HO.out.b
        clear hr0 hp htb HO HJ
        go_wp2
        go_ret
        exact ⟨rfl, HB.out⟩
end Go.Proofs.YtohhnkmfgfgpjaaGreatDoor
namespace Go.Proofs.YtohhnkmfgfgpjaaGreatDoor
open Go Go.RowKit Go.Proofs Th
attribute [local go_sem] Above.cell Above.frozen

theorem read_len (s : ByteArray) (hs : s.size ≤ 2000) : sizeJ (readV madeJ s.data.toList).1 ≤ 2001 := by
  have := read_size s.data.toList
  rw [size_listU] at this
  omega
theorem same_text (a b : JV) (ha : rightJ a = 0) (hb : rightJ b = 0) (x y : ByteArray) (hx : x.data.toList = printJ a) (hy : y.data.toList = printJ b) : (x.toList == y.toList) = sameJ a b := by
  cases h : sameJ a b
  · cases h2 : (x.toList == y.toList)
    · rfl
    · have e : x.toList = y.toList := by simpa using h2
      have e2 : x.data.toList = y.data.toList := by rw [← ByteArray.toList_eq, ← ByteArray.toList_eq]; exact e
      rw [hx, hy] at e2
      have := print_inj a b ha hb e2
      rw [(sameJ_iff a b).2 this] at h
      cases h
  · obtain rfl := (sameJ_iff a b).1 h
    obtain rfl := kd_inj (hx.trans hy.symm)
    simp
set_option maxRecDepth 100000 in
set_option maxHeartbeats 4000000 in
theorem law_once (s t : ByteArray) (hs : s.size ≤ 140737488351232) (ht : t.size ≤ 140737488351232) (w : World) (hG : GlobW w) :
    Calls Tryz.prog 6 #[.string s, .string t] w fun r w' => r = .returned (.bool true) ∧ Below w.heap.size w w' := by
  have HG := Keep.mk hG
  have HW := Keep.mk (works7 w hG)
  clear hG
  by_cases hbig : 2000 < s.size ∨ 2000 < t.size
  · have hb : decide (2000 < (s.size : Int)) = true ∨ (decide (2000 < (s.size : Int)) = false ∧ decide (2000 < (t.size : Int)) = true) := by
      simp only [decide_eq_true_eq, decide_eq_false_iff_not]; omega
    clear hbig
    rcases hb with h1 | ⟨h1, h2⟩
    all_goals
      go_enter Tryz.func6, Tryz.ntmps6
      go_wp2_with fail
      refine HW.out.mono ?_
      rintro r w1 ⟨rfl, hb⟩
      go_wp2
      go_ret
      exact ⟨rfl, hb⟩
  · have h1 : decide (2000 < (s.size : Int)) = false := by simp; omega
    have h2 : decide (2000 < (t.size : Int)) = false := by simp; omega
    have HS := Keep.mk (show s.size ≤ 2000 ∧ t.size ≤ 2000 by omega)
    have HPA := Keep.mk (fun (W : World) (hb : Below w.heap.size w W) => read_Parse s (by have := HS.out.1; omega) W (HG.out.below hb).weak)
    have HPB := Keep.mk (fun (W : World) (hb : Below w.heap.size w W) => read_Parse t (by have := HS.out.2; omega) W (HG.out.below hb).weak)
    have HRA := Keep.mk (read_right parseOk s.data.toList)
    have HRB := Keep.mk (read_right parseOk t.data.toList)
    have HZA := Keep.mk (read_len s HS.out.1)
    have HZB := Keep.mk (read_len t HS.out.2)
    generalize readV madeJ s.data.toList = R1 at *
    generalize readV madeJ t.data.toList = R2 at *
    obtain ⟨v1, a1, e1⟩ := R1
    obtain ⟨v2, a2, e2⟩ := R2
    clear hbig
    go_enter Tryz.func6, Tryz.ntmps6
    go_wp2_with fail
    refine HW.out.mono ?_
    rintro r w1 ⟨rfl, hb1⟩
    have HB1 := Keep.mk hb1
    clear hb1 HW
    go_wp2_with fail
    refine (HPA.out _ HB1.out).mono ?_
    rintro r w2 ⟨cs, rfl, hJ, hb2⟩
    obtain ⟨k9, m9, e9, s9, A9, n9, c9, A8, n8, c8, rfl⟩ := hJ.cells
    have HJ1 := Keep.mk (BlkV.new HB1.out hb2 hJ)
    clear hJ hb2 HPA HB1
    simp only [cells6] at HJ1 ⊢
    go_upto_region 6 with fail
    refine wp_world (fun W => BlkV w W w2.heap.size v1 (cells6 k9 m9 e9 s9 A9 n9 c9 A8 n8 c8)) HJ1.out ?_
    generalize w2.heap.size = p
    clear HJ1
    rintro W3 HJ1
    replace HJ1 := Keep.mk HJ1
    go_wp2_with fail
    refine (HPB.out _ HJ1.out.b).mono ?_
    rintro r w4 ⟨cs, rfl, hJ, hb4⟩
    obtain ⟨k7, m7, e7, s7, A7, n7, c7, A6, n6, c6, rfl⟩ := hJ.cells
    have hbz := al1 w4 (.cells (cells6 k7 m7 e7 s7 A7 n7 c7 A6 n6 c6).toArray 28)
    have HJ3 := Keep.mk ((HJ1.out.below hb4).below hbz)
    have HJ2 := Keep.mk (BlkV.new HJ1.out.b hb4 hJ)
    clear hJ hb4 HPB HJ1 hbz
    simp only [cells6] at HJ2 HJ3 ⊢
    go_upto_region 7 with fail
    refine wp_world (fun W => BlkV w W p v1 (cells6 k9 m9 e9 s9 A9 n9 c9 A8 n8 c8) ∧ BlkV w W w4.heap.size v2 (cells6 k7 m7 e7 s7 A7 n7 c7 A6 n6 c6)) ⟨HJ3.out, HJ2.out⟩ ?_
    generalize w4.heap.size = q
    clear HJ2 HJ3
    rintro W5 ⟨HJ1, HJ2⟩
    replace HJ1 := Keep.mk HJ1
    replace HJ2 := Keep.mk HJ2
    by_cases he : e1 = 0 ∧ e2 = 0
    · obtain ⟨rfl, rfl⟩ := he
      have HR1 := Keep.mk (show rightJ v1 = 0 from HRA.out rfl)
      have HR2 := Keep.mk (show rightJ v2 = 0 from HRB.out rfl)
      have HZ1 := Keep.mk (show sizeJ v1 ≤ 2001 from HZA.out)
      have HZ2 := Keep.mk (show sizeJ v2 ≤ 2001 from HZB.out)
      clear HRA HRB HZA HZB
      have HPR1 := Keep.mk (fun (W : World) (hb : Below w.heap.size w W) (cs : List Value) => write_Print v1 (by have := HZ1.out; omega) W cs (HG.out.below hb))
      have HPR2 := Keep.mk (fun (W : World) (hb : Below w.heap.size w W) (cs : List Value) => write_Print v2 (by have := HZ2.out; omega) W cs (HG.out.below hb))
      rw [HR1.out] at HPR1
      rw [HR2.out] at HPR2
      have x0 := HJ1.out.v.box.cell 0 _ rfl
      have x1 := HJ1.out.v.box.cell 1 _ rfl
      have x2 := HJ1.out.v.box.cell 2 _ rfl
      have x3 := HJ1.out.v.box.cell 3 _ rfl
      have x4 := HJ1.out.v.box.cell 4 _ rfl
      have x5 := HJ1.out.v.box.cell 5 _ rfl
      have hxl := HJ1.out.v.box.lt
      go_wp2_with fail
      refine (HPR1.out _ HJ1.out.b _ HJ1.out.j).mono ?_
      rintro r w6 ⟨x, rfl, hx, hb6⟩
      replace HJ1 := Keep.mk (HJ1.out.below hb6)
      replace HJ2 := Keep.mk (HJ2.out.below hb6)
      have HX := Keep.mk hx
      have HXL := Keep.mk (show x.size ≤ 10000000 by
        have h1 := print_len v1 HR1.out HZ1.out
        rw [← hx, size_listU] at h1; exact h1)
      clear x0 x1 x2 x3 x4 x5 hxl hb6 hx HPR1
      have y0 := HJ2.out.v.box.cell 0 _ rfl
      have y1 := HJ2.out.v.box.cell 1 _ rfl
      have y2 := HJ2.out.v.box.cell 2 _ rfl
      have y3 := HJ2.out.v.box.cell 3 _ rfl
      have y4 := HJ2.out.v.box.cell 4 _ rfl
      have y5 := HJ2.out.v.box.cell 5 _ rfl
      have hyl := HJ2.out.v.box.lt
      go_wp2_with fail
      refine (HPR2.out _ HJ2.out.b _ HJ2.out.j).mono ?_
      rintro r w7 ⟨y, rfl, hy, hb7⟩
      replace HJ1 := Keep.mk (HJ1.out.below hb7)
      replace HJ2 := Keep.mk (HJ2.out.below hb7)
      have HSAME := Keep.mk (same_text v1 v2 HR1.out HR2.out x y HX.out hy)
      clear y0 y1 y2 y3 y4 y5 hyl hb7 hy HPR2
      have HSM := Keep.mk (ref3_Same _ v1 v2 (Nat.le_refl _) w7 _ _ HJ1.out.j HJ2.out.j)
      rw [← HSAME.out] at HSM
      have x0 := HJ1.out.v.box.cell 0 _ rfl
      have x1 := HJ1.out.v.box.cell 1 _ rfl
      have x2 := HJ1.out.v.box.cell 2 _ rfl
      have x3 := HJ1.out.v.box.cell 3 _ rfl
      have x4 := HJ1.out.v.box.cell 4 _ rfl
      have x5 := HJ1.out.v.box.cell 5 _ rfl
      have hxl := HJ1.out.v.box.lt
      have y0 := HJ2.out.v.box.cell 0 _ rfl
      have y1 := HJ2.out.v.box.cell 1 _ rfl
      have y2 := HJ2.out.v.box.cell 2 _ rfl
      have y3 := HJ2.out.v.box.cell 3 _ rfl
      have y4 := HJ2.out.v.box.cell 4 _ rfl
      have y5 := HJ2.out.v.box.cell 5 _ rfl
      have hyl := HJ2.out.v.box.lt
      go_wp2_with fail
      refine HSM.out.mono ?_
      rintro r w8 ⟨rfl, hb8⟩
      have HB8 := Keep.mk (up HJ1.out.b hb8)
      clear HJ1 HJ2 HSM HSAME hb8 x0 x1 x2 x3 x4 x5 hxl y0 y1 y2 y3 y4 y5 hyl
      have HPX := Keep.mk (fun (W : World) (hb : Below w.heap.size w W) => read_Parse x (by have := HXL.out; omega) W (HG.out.below hb).weak)
      have HBIG := Keep.mk (readV_big x.data.toList)
      have HBACK := Keep.mk (print_back v1 HR1.out)
      rw [← HX.out] at HBACK
      have HTL := Keep.mk (size_listU x)
      generalize hq : (x.toList == y.toList) = bq
      clear hq
      generalize readV madeJ x.data.toList = R3 at *
      obtain ⟨v3, a3, e3⟩ := R3
      have hq2 : (bq != bq) = false := by cases bq <;> rfl
      go_wp2_with fail
      refine (HPX.out _ HB8.out).mono ?_
      rintro r w9 ⟨cs, rfl, hJ, hb9⟩
      obtain ⟨k5, m5, e5, s5, A5, n5, c5, A4, n4, c4, rfl⟩ := hJ.cells
      have HJ3 := Keep.mk (BlkV.new HB8.out hb9 hJ)
      clear hJ hb9 HPX HB8
      simp only [cells6] at HJ3 ⊢
      go_upto_region 14 with fail
      refine wp_world (fun W => BlkV w W w9.heap.size v3 (cells6 k5 m5 e5 s5 A5 n5 c5 A4 n4 c4)) HJ3.out ?_
      generalize w9.heap.size = p3
      clear HJ3
      rintro W10 HJ3
      replace HJ3 := Keep.mk HJ3
      have x0 := HJ3.out.v.box.cell 0 _ rfl
      have x1 := HJ3.out.v.box.cell 1 _ rfl
      have x2 := HJ3.out.v.box.cell 2 _ rfl
      have x3 := HJ3.out.v.box.cell 3 _ rfl
      have x4 := HJ3.out.v.box.cell 4 _ rfl
      have x5 := HJ3.out.v.box.cell 5 _ rfl
      have hxl := HJ3.out.v.box.lt
      by_cases hbx : 16384 < x.size
      · have hR := HBIG.out (by rw [HTL.out]; exact hbx)
        simp only [Prod.mk.injEq] at hR
        obtain ⟨rfl, rfl, rfl⟩ := hR
        have hb16 : (16384 : Int) < x.size := by omega
        have HPR3 := Keep.mk (fun (W : World) (hb : Below w.heap.size w W) (cs : List Value) => write_Print zeroJ (by decide) W cs (HG.out.below hb))
        clear hbx HBACK HBIG
        go_wp2_with fail
        refine (HPR3.out _ HJ3.out.b _ HJ3.out.j).mono ?_
        rintro r w11 ⟨z, rfl, hz, hb11⟩
        have HB11 := Keep.mk (up HJ3.out.b hb11)
        clear hz hb11 HJ3 x0 x1 x2 x3 x4 x5 hxl HPR3
        go_wp2
        go_ret
        exact ⟨rfl, HB11.out⟩
      · have hR := HBACK.out (by rw [HTL.out]; omega)
        simp only [Prod.mk.injEq] at hR
        obtain ⟨rfl, rfl, rfl⟩ := hR
        have hb16 : ¬ (16384 : Int) < x.size := by omega
        have HPR3 := Keep.mk (fun (W : World) (hb : Below w.heap.size w W) (cs : List Value) => write_Print v3 (by have := HZ1.out; omega) W cs (HG.out.below hb))
        rw [HR1.out] at HPR3
        clear hbx HBACK HBIG
        go_wp2_with fail
        refine (HPR3.out _ HJ3.out.b _ HJ3.out.j).mono ?_
        rintro r w11 ⟨z, rfl, hz, hb11⟩
        have HB11 := Keep.mk (up HJ3.out.b hb11)
        obtain rfl := kd_inj (hz.trans HX.out.symm)
        clear hz hb11 HJ3 x0 x1 x2 x3 x4 x5 hxl HPR3
        go_wp2
        go_ret
        exact ⟨by first | rfl | simp, HB11.out⟩
    · have hb : (e1 != 0) = true ∨ ((e1 != 0) = false ∧ (e2 != 0) = true) := by
        simp only [bne_iff_ne, ne_eq, bne_eq_false_iff_eq]
        by_cases h : e1 = 0
        · right; exact ⟨h, fun h2 => he ⟨h, h2⟩⟩
        · left; exact h
      have HB := Keep.mk HJ1.out.b
      clear he HJ1 HJ2
      rcases hb with b1 | ⟨b1, b2⟩
      all_goals
        go_wp2
        go_ret
        exact ⟨rfl, HB.out⟩
end Go.Proofs.YtohhnkmfgfgpjaaGreatDoor
