/- thimblelaw07.WriteClean. Conditions: GlobV; the value lies in memory as a finite tree. -/
import Derived.Test.YtljemfajjeoecaaDoorWriteP
import Derived.Test.YtljemfajjeoecaaDoorValMath
import Derived.Test.YtljemfajjeoecaaDoorRef3
import Derived.Outline
namespace Go.Proofs.YtljemfajjeoecaaDoor
open Go Go.RowKit Go.Proofs Th
attribute [local go_sem] Above.cell Above.frozen

/-- of the text of a value that may be -/
theorem clean_text (t : JV) (h : rightJ t = 0) (hz : sizeJ t ≤ 1000000) : runC (some (false, false)) (printJ t) = some (false, false) ∧ Lib.validD (printJ t) = true ∧ (printJ t).length ≤ 10000000000 := by
  have hb := text_bound t hz h
  unfold printJ
  rw [if_pos h]
  obtain ⟨h1, h2⟩ := textJ_run textN text_clean t
  exact ⟨h1, h2, hb⟩
theorem get_atB (s : ByteArray) (i : Nat) (h : i < s.size) : s.data.toList[i]? = some s[i] := by
  rw [List.getElem?_eq_getElem (by simpa using h)]; rfl
theorem run_none : ∀ l : List UInt8, runC none l = none
  | [] => rfl
  | _c :: l => run_none l
theorem run_next (l : List UInt8) (j : Nat) (c : UInt8) (hc : l[j]? = some c) {i b : Bool} {st : Option (Bool × Bool)} {x : Bool × Bool} (h : runC st (l.take j) = some (i, b)) (hf : runC st l = some x) :
    ∃ i' b', stepC (some (i, b)) c = some (i', b') ∧ runC st (l.take (j + 1)) = some (i', b') := by
  have h1 : runC st (l.take (j + 1)) = stepC (some (i, b)) c := by
    rw [List.take_add_one, hc, runC_append, h]; rfl
  cases hs : stepC (some (i, b)) c with
  | none =>
    exfalso
    have h2 := runC_append st (l.take (j + 1)) (l.drop (j + 1))
    rw [List.take_append_drop, h1, hs, run_none, hf] at h2
    cases h2
  | some y => exact ⟨y.1, y.2, rfl, by rw [h1, hs]⟩
theorem step_f_f_34 (c : UInt8) (hn : ¬ (c.toNat < 32 ∨ (c.toNat = 32 ∧ false = false))) (h : c.toNat = 34) : stepC (some (false, false)) c = some (true, false) := by
  unfold stepC
  refine (if_neg hn).trans ?_
  simp [h]
theorem step_f_f_92 (c : UInt8) (hn : ¬ (c.toNat < 32 ∨ (c.toNat = 32 ∧ false = false))) (h : c.toNat = 92) : stepC (some (false, false)) c = some (false, false) := by
  unfold stepC
  refine (if_neg hn).trans ?_
  simp [h]
theorem step_f_f_o (c : UInt8) (hn : ¬ (c.toNat < 32 ∨ (c.toNat = 32 ∧ false = false))) (h3 : c.toNat ≠ 34) (h9 : c.toNat ≠ 92) : stepC (some (false, false)) c = some (false, false) := by
  unfold stepC
  refine (if_neg hn).trans ?_
  simp [h3, h9]
theorem step_f_t_34 (c : UInt8) (hn : ¬ (c.toNat < 32 ∨ (c.toNat = 32 ∧ false = false))) (h : c.toNat = 34) : stepC (some (false, true)) c = some (false, false) := by
  unfold stepC
  refine (if_neg hn).trans ?_
  simp [h]
theorem step_f_t_92 (c : UInt8) (hn : ¬ (c.toNat < 32 ∨ (c.toNat = 32 ∧ false = false))) (h : c.toNat = 92) : stepC (some (false, true)) c = some (false, false) := by
  unfold stepC
  refine (if_neg hn).trans ?_
  simp [h]
theorem step_f_t_o (c : UInt8) (hn : ¬ (c.toNat < 32 ∨ (c.toNat = 32 ∧ false = false))) (h3 : c.toNat ≠ 34) (h9 : c.toNat ≠ 92) : stepC (some (false, true)) c = some (false, false) := by
  unfold stepC
  refine (if_neg hn).trans ?_
  simp [h3, h9]
theorem step_t_f_34 (c : UInt8) (hn : ¬ (c.toNat < 32 ∨ (c.toNat = 32 ∧ true = false))) (h : c.toNat = 34) : stepC (some (true, false)) c = some (false, false) := by
  unfold stepC
  refine (if_neg hn).trans ?_
  simp [h]
theorem step_t_f_92 (c : UInt8) (hn : ¬ (c.toNat < 32 ∨ (c.toNat = 32 ∧ true = false))) (h : c.toNat = 92) : stepC (some (true, false)) c = some (true, true) := by
  unfold stepC
  refine (if_neg hn).trans ?_
  simp [h]
theorem step_t_f_32 (c : UInt8) (hn : ¬ (c.toNat < 32 ∨ (c.toNat = 32 ∧ true = false))) (h : c.toNat = 32) : stepC (some (true, false)) c = some (true, false) := by
  unfold stepC
  refine (if_neg hn).trans ?_
  simp [h]
theorem step_t_f_o (c : UInt8) (hn : ¬ (c.toNat < 32 ∨ (c.toNat = 32 ∧ true = false))) (h3 : c.toNat ≠ 34) (h9 : c.toNat ≠ 92) : stepC (some (true, false)) c = some (true, false) := by
  unfold stepC
  refine (if_neg hn).trans ?_
  simp [h3, h9]
theorem step_t_t_34 (c : UInt8) (hn : ¬ (c.toNat < 32 ∨ (c.toNat = 32 ∧ true = false))) (h : c.toNat = 34) : stepC (some (true, true)) c = some (true, false) := by
  unfold stepC
  refine (if_neg hn).trans ?_
  simp [h]
theorem step_t_t_92 (c : UInt8) (hn : ¬ (c.toNat < 32 ∨ (c.toNat = 32 ∧ true = false))) (h : c.toNat = 92) : stepC (some (true, true)) c = some (true, false) := by
  unfold stepC
  refine (if_neg hn).trans ?_
  simp [h]
theorem step_t_t_32 (c : UInt8) (hn : ¬ (c.toNat < 32 ∨ (c.toNat = 32 ∧ true = false))) (h : c.toNat = 32) : stepC (some (true, true)) c = some (true, false) := by
  unfold stepC
  refine (if_neg hn).trans ?_
  simp [h]
theorem step_t_t_o (c : UInt8) (hn : ¬ (c.toNat < 32 ∨ (c.toNat = 32 ∧ true = false))) (h3 : c.toNat ≠ 34) (h9 : c.toNat ≠ 92) : stepC (some (true, true)) c = some (true, false) := by
  unfold stepC
  refine (if_neg hn).trans ?_
  simp [h3, h9]
set_option maxRecDepth 100000 in
set_option maxHeartbeats 4000000 in
theorem law_clean (t : JV) (w : World) (cs : List Value) (hG : GlobV w) (hJ : JAt w w.heap.size t cs) :
    Calls Tryd.prog 4 #[.agg cs.toArray] w fun r w' => r = .returned (.bool true) ∧ Below w.heap.size w w' := by
  have HJ := Keep.mk hJ
  have HBK := Keep.mk (ref3_Bulk _ t (Nat.le_refl _) 2000 (by omega))
  have HPR := Keep.mk (fun (hz : sizeJ t ≤ 2000) => write_Print t (by omega))
  have HRN := Keep.mk (fun (h : rightJ t = 0) (hz : sizeJ t ≤ 2000) => clean_text t h (by omega))
  have HT := Keep.mk (show sizeJ t = sizeJ t from rfl)
  cases t with
  | mk k m e s l ks =>
    obtain ⟨A, c, A', c', rfl, hk, hm, he, hs, hK, hV⟩ := hJ.open
    show Calls _ _ #[.agg #[.int .i64 k, .int .i64 m, .int .i64 e, .string s, .slice A l.length c, .slice A' ks.length c']] w _
    have HO := Keep.mk (One6.start (k := k) (m := m) (e := e) (s := s) 27 hG hV hK)
    clear hJ hV hK hG
    generalize hprj : printJ (.mk k m e s l ks) = PJ at *
    generalize hrr : rightJ (.mk k m e s l ks) = rr at *
    generalize hsz : sizeJ (.mk k m e s l ks) = sz at *
    clear hprj hrr hsz
    go_enter Tryd.func4, Tryd.ntmps4
    go_wp2_with fail
    refine calls_world (fun W => One6 w W k m e s l ks A c A' c' ∧ JAt W W.heap.size (.mk k m e s l ks) (cells6 k m e s A l.length c A' ks.length c')) ⟨HO.out, (HJ.out.keep (al1 _ _) (Nat.le_refl _)).more (al1 _ _).size⟩ ?_
    clear HJ HO
    rintro W0 ⟨HO, HJ⟩
    replace HO := Keep.mk HO
    replace HJ := Keep.mk HJ
    refine (works7 _ HO.out.g).mono ?_
    rintro r w1 ⟨rfl, hb1⟩
    replace HO := Keep.mk (HO.out.below hb1)
    replace HJ := Keep.mk ((HJ.out.keep hb1 (Nat.le_refl _)).more hb1.size)
    clear hb1
    have x0 := HO.out.x.cell 0 _ rfl
    have x1 := HO.out.x.cell 1 _ rfl
    have x2 := HO.out.x.cell 2 _ rfl
    have x3 := HO.out.x.cell 3 _ rfl
    have x4 := HO.out.x.cell 4 _ rfl
    have x5 := HO.out.x.cell 5 _ rfl
    go_wp2_with fail
    refine (HBK.out _ _ HJ.out).mono ?_
    rintro r w2 ⟨b, rfl, hbk, hbl, hb2⟩
    replace HO := Keep.mk (HO.out.below hb2)
    replace HJ := Keep.mk ((HJ.out.keep hb2 (Nat.le_refl _)).more hb2.size)
    clear hb2 x0 x1 x2 x3 x4 x5
    by_cases hb : 2000 < b
    · have hb9 : (2000 : Int) < b := by omega
      clear hbk
      go_wp2
      go_ret
      exact ⟨rfl, HO.out.b⟩
    · have hb9 : ¬ (2000 : Int) < b := by omega
      have hsz2 : sz ≤ 2000 := by have := hbk (by omega); omega
      clear hbk hb
      have x0 := HO.out.x.cell 0 _ rfl
      have x1 := HO.out.x.cell 1 _ rfl
      have x2 := HO.out.x.cell 2 _ rfl
      have x3 := HO.out.x.cell 3 _ rfl
      have x4 := HO.out.x.cell 4 _ rfl
      have x5 := HO.out.x.cell 5 _ rfl
      go_wp2_with fail
      refine (HPR.out hsz2 _ _ HO.out.g HJ.out).mono ?_
      rintro r w3 ⟨tb, rfl, htb, hb3⟩
      replace HO := Keep.mk (HO.out.below hb3)
      clear hb3 x0 x1 x2 x3 x4 x5 HJ
      by_cases hr0 : rr = 0
      · subst hr0
        obtain ⟨hrun, hval, hlen⟩ := HRN.out rfl hsz2
        have htl : tb.size = PJ.length := by rw [← size_listU, htb]
        subst htb
        have HRUN := Keep.mk hrun
        have HVAL := Keep.mk hval
        have htz : tb.size ≤ 10000000000 := by omega
        have HU := Keep.mk HO.out.g.utf
        have HB := Keep.mk HO.out.b
        clear hrun hval hlen HRN HPR htl
        go_upto_block 0 with fail
        go_cut [5] (fun s5 wx => s5 = .bool false ∧ w3 = wx)
        case first =>
          go_wp2_with fail
          go_loop [5, 6, 22] (fun i b n => ∃ (j : Nat) (ib bb : Bool), n = .int .i64 j ∧ j ≤ tb.size ∧ i = .bool ib ∧ b = .bool bb ∧ Keep (runC (some (false, false)) (tb.data.toList.take j) = some (ib, bb))) (fun _ _ n => tb.size - (intOf n).toNat)
          case atStart => exact ⟨0, false, false, rfl, by omega, rfl, rfl, ⟨rfl⟩⟩
          case round =>
            obtain ⟨j, ib, bb, rfl, hj, rfl, rfl, HR⟩ := hrel
            by_cases hlt : j < tb.size
            · skip
              have hc := get_atB tb j hlt
              have HST := Keep.mk (run_next (tb.data.toList) j tb[j] hc HR.out HRUN.out)
              have hcl := tb[j].toNat_lt
              obtain ⟨c, hcx⟩ : ∃ c, tb[j] = c := ⟨_, rfl⟩
              rw [hcx] at hc HST hcl
              have HN0 := Keep.mk (show ¬ (c.toNat < 32 ∨ (c.toNat = 32 ∧ ib = false)) from fun h => by
                obtain ⟨x, y, h1, h2⟩ := HST.out
                unfold stepC at h1
                have h3 := (if_pos h).symm.trans h1
                cases h3)
              have h32 : ¬ (c.toNat : Int) < 32 := by have := HN0.out; omega
              have HST2 := Keep.mk (show runC (some (false, false)) (tb.data.toList.take (j + 1)) = stepC (some (ib, bb)) c by
                obtain ⟨x, y, h1, h2⟩ := HST.out
                rw [h1, h2])
              clear HST hc
              cases ib <;> cases bb
              · by_cases k34 : c.toNat = 34
                · have hk := k34
                  have e32 : ((c.toNat : Int) == 32) = false := by simp; omega
                  have e34 : ((c.toNat : Int) == 34) = true := by simp [hk]
                  have e92 : ((c.toNat : Int) == 92) = false := by simp; omega
                  have HN := Keep.mk (show runC (some (false, false)) (tb.data.toList.take (j + 1)) = some (true, false) by rw [HST2.out]; exact step_f_f_34 c HN0.out hk)
                  clear HN0 HST2 hk k34
                  go_wp2
                  go_round
                  case rel => exact ⟨j + 1, true, false, by go_num, by omega, rfl, rfl, HN⟩
                  case measure => simp [intOf]; omega
                · by_cases k92 : c.toNat = 92
                  · have hk := k92
                    have e32 : ((c.toNat : Int) == 32) = false := by simp; omega
                    have e34 : ((c.toNat : Int) == 34) = false := by simp; omega
                    have e92 : ((c.toNat : Int) == 92) = true := by simp [hk]
                    have HN := Keep.mk (show runC (some (false, false)) (tb.data.toList.take (j + 1)) = some (false, false) by rw [HST2.out]; exact step_f_f_92 c HN0.out hk)
                    clear HN0 HST2 hk k92 k34
                    go_wp2
                    go_round
                    case rel => exact ⟨j + 1, false, false, by go_num, by omega, rfl, rfl, HN⟩
                    case measure => simp [intOf]; omega
                  · by_cases k32 : c.toNat = 32
                    · have hk := k32
                      exact absurd (Or.inr ⟨hk, rfl⟩) HN0.out
                    · skip
                      have e32 : ((c.toNat : Int) == 32) = false := by simp; omega
                      have e34 : ((c.toNat : Int) == 34) = false := by simp; omega
                      have e92 : ((c.toNat : Int) == 92) = false := by simp; omega
                      have HN := Keep.mk (show runC (some (false, false)) (tb.data.toList.take (j + 1)) = some (false, false) by rw [HST2.out]; exact step_f_f_o c HN0.out k34 k92)
                      clear HN0 HST2 k34 k92 k32
                      go_wp2
                      go_round
                      case rel => exact ⟨j + 1, false, false, by go_num, by omega, rfl, rfl, HN⟩
                      case measure => simp [intOf]; omega
              · by_cases k34 : c.toNat = 34
                · have hk := k34
                  have e32 : ((c.toNat : Int) == 32) = false := by simp; omega
                  have e34 : ((c.toNat : Int) == 34) = true := by simp [hk]
                  have e92 : ((c.toNat : Int) == 92) = false := by simp; omega
                  have HN := Keep.mk (show runC (some (false, false)) (tb.data.toList.take (j + 1)) = some (false, false) by rw [HST2.out]; exact step_f_t_34 c HN0.out hk)
                  clear HN0 HST2 hk k34
                  go_wp2
                  go_round
                  case rel => exact ⟨j + 1, false, false, by go_num, by omega, rfl, rfl, HN⟩
                  case measure => simp [intOf]; omega
                · by_cases k92 : c.toNat = 92
                  · have hk := k92
                    have e32 : ((c.toNat : Int) == 32) = false := by simp; omega
                    have e34 : ((c.toNat : Int) == 34) = false := by simp; omega
                    have e92 : ((c.toNat : Int) == 92) = true := by simp [hk]
                    have HN := Keep.mk (show runC (some (false, false)) (tb.data.toList.take (j + 1)) = some (false, false) by rw [HST2.out]; exact step_f_t_92 c HN0.out hk)
                    clear HN0 HST2 hk k92 k34
                    go_wp2
                    go_round
                    case rel => exact ⟨j + 1, false, false, by go_num, by omega, rfl, rfl, HN⟩
                    case measure => simp [intOf]; omega
                  · by_cases k32 : c.toNat = 32
                    · have hk := k32
                      exact absurd (Or.inr ⟨hk, rfl⟩) HN0.out
                    · skip
                      have e32 : ((c.toNat : Int) == 32) = false := by simp; omega
                      have e34 : ((c.toNat : Int) == 34) = false := by simp; omega
                      have e92 : ((c.toNat : Int) == 92) = false := by simp; omega
                      have HN := Keep.mk (show runC (some (false, false)) (tb.data.toList.take (j + 1)) = some (false, false) by rw [HST2.out]; exact step_f_t_o c HN0.out k34 k92)
                      clear HN0 HST2 k34 k92 k32
                      go_wp2
                      go_round
                      case rel => exact ⟨j + 1, false, false, by go_num, by omega, rfl, rfl, HN⟩
                      case measure => simp [intOf]; omega
              · by_cases k34 : c.toNat = 34
                · have hk := k34
                  have e32 : ((c.toNat : Int) == 32) = false := by simp; omega
                  have e34 : ((c.toNat : Int) == 34) = true := by simp [hk]
                  have e92 : ((c.toNat : Int) == 92) = false := by simp; omega
                  have HN := Keep.mk (show runC (some (false, false)) (tb.data.toList.take (j + 1)) = some (false, false) by rw [HST2.out]; exact step_t_f_34 c HN0.out hk)
                  clear HN0 HST2 hk k34
                  go_wp2
                  go_round
                  case rel => exact ⟨j + 1, false, false, by go_num, by omega, rfl, rfl, HN⟩
                  case measure => simp [intOf]; omega
                · by_cases k92 : c.toNat = 92
                  · have hk := k92
                    have e32 : ((c.toNat : Int) == 32) = false := by simp; omega
                    have e34 : ((c.toNat : Int) == 34) = false := by simp; omega
                    have e92 : ((c.toNat : Int) == 92) = true := by simp [hk]
                    have HN := Keep.mk (show runC (some (false, false)) (tb.data.toList.take (j + 1)) = some (true, true) by rw [HST2.out]; exact step_t_f_92 c HN0.out hk)
                    clear HN0 HST2 hk k92 k34
                    go_wp2
                    go_round
                    case rel => exact ⟨j + 1, true, true, by go_num, by omega, rfl, rfl, HN⟩
                    case measure => simp [intOf]; omega
                  · by_cases k32 : c.toNat = 32
                    · have hk := k32
                      have e32 : ((c.toNat : Int) == 32) = true := by simp [hk]
                      have e34 : ((c.toNat : Int) == 34) = false := by simp; omega
                      have e92 : ((c.toNat : Int) == 92) = false := by simp; omega
                      have HN := Keep.mk (show runC (some (false, false)) (tb.data.toList.take (j + 1)) = some (true, false) by rw [HST2.out]; exact step_t_f_32 c HN0.out hk)
                      clear HN0 HST2 hk k32 k92 k34
                      go_wp2
                      go_round
                      case rel => exact ⟨j + 1, true, false, by go_num, by omega, rfl, rfl, HN⟩
                      case measure => simp [intOf]; omega
                    · skip
                      have e32 : ((c.toNat : Int) == 32) = false := by simp; omega
                      have e34 : ((c.toNat : Int) == 34) = false := by simp; omega
                      have e92 : ((c.toNat : Int) == 92) = false := by simp; omega
                      have HN := Keep.mk (show runC (some (false, false)) (tb.data.toList.take (j + 1)) = some (true, false) by rw [HST2.out]; exact step_t_f_o c HN0.out k34 k92)
                      clear HN0 HST2 k34 k92 k32
                      go_wp2
                      go_round
                      case rel => exact ⟨j + 1, true, false, by go_num, by omega, rfl, rfl, HN⟩
                      case measure => simp [intOf]; omega
              · by_cases k34 : c.toNat = 34
                · have hk := k34
                  have e32 : ((c.toNat : Int) == 32) = false := by simp; omega
                  have e34 : ((c.toNat : Int) == 34) = true := by simp [hk]
                  have e92 : ((c.toNat : Int) == 92) = false := by simp; omega
                  have HN := Keep.mk (show runC (some (false, false)) (tb.data.toList.take (j + 1)) = some (true, false) by rw [HST2.out]; exact step_t_t_34 c HN0.out hk)
                  clear HN0 HST2 hk k34
                  go_wp2
                  go_round
                  case rel => exact ⟨j + 1, true, false, by go_num, by omega, rfl, rfl, HN⟩
                  case measure => simp [intOf]; omega
                · by_cases k92 : c.toNat = 92
                  · have hk := k92
                    have e32 : ((c.toNat : Int) == 32) = false := by simp; omega
                    have e34 : ((c.toNat : Int) == 34) = false := by simp; omega
                    have e92 : ((c.toNat : Int) == 92) = true := by simp [hk]
                    have HN := Keep.mk (show runC (some (false, false)) (tb.data.toList.take (j + 1)) = some (true, false) by rw [HST2.out]; exact step_t_t_92 c HN0.out hk)
                    clear HN0 HST2 hk k92 k34
                    go_wp2
                    go_round
                    case rel => exact ⟨j + 1, true, false, by go_num, by omega, rfl, rfl, HN⟩
                    case measure => simp [intOf]; omega
                  · by_cases k32 : c.toNat = 32
                    · have hk := k32
                      have e32 : ((c.toNat : Int) == 32) = true := by simp [hk]
                      have e34 : ((c.toNat : Int) == 34) = false := by simp; omega
                      have e92 : ((c.toNat : Int) == 92) = false := by simp; omega
                      have HN := Keep.mk (show runC (some (false, false)) (tb.data.toList.take (j + 1)) = some (true, false) by rw [HST2.out]; exact step_t_t_32 c HN0.out hk)
                      clear HN0 HST2 hk k32 k92 k34
                      go_wp2
                      go_round
                      case rel => exact ⟨j + 1, true, false, by go_num, by omega, rfl, rfl, HN⟩
                      case measure => simp [intOf]; omega
                    · skip
                      have e32 : ((c.toNat : Int) == 32) = false := by simp; omega
                      have e34 : ((c.toNat : Int) == 34) = false := by simp; omega
                      have e92 : ((c.toNat : Int) == 92) = false := by simp; omega
                      have HN := Keep.mk (show runC (some (false, false)) (tb.data.toList.take (j + 1)) = some (true, false) by rw [HST2.out]; exact step_t_t_o c HN0.out k34 k92)
                      clear HN0 HST2 k34 k92 k32
                      go_wp2
                      go_round
                      case rel => exact ⟨j + 1, true, false, by go_num, by omega, rfl, rfl, HN⟩
                      case measure => simp [intOf]; omega
            · have HE := Keep.mk (show ib = false by
                have h := HR.out
                rw [List.take_of_length_le (by rw [size_listU]; omega), HRUN.out] at h
                injection h with h; injection h with h1 h2; exact h1.symm)
              go_wp2_with fail
              go_meet
              exact ⟨by rw [HE.out], rfl⟩
        case rest =>
          obtain ⟨rfl, rfl⟩ := hcut
          go_wp2_with fail
          refine (quote_Right tb (by omega) _ HU.out).mono ?_
          rw [HVAL.out]
          rintro r w4 ⟨rfl, hb4⟩
          go_wp2
          go_ret
          exact ⟨rfl, up HB.out hb4⟩
      · have hr2 : (rr != 0) = true := by simpa using hr0
        clear hr0 HRN HPR
        go_wp2
        go_ret
        exact ⟨rfl, HO.out.b⟩
end Go.Proofs.YtljemfajjeoecaaDoor
