/- Lemmas and contracts for the laws CalcWith, part 39 of 50: JoinV. Conditions: those that each lemma names. -/
import Derived.Test.YtnkokhpadcgfbaaGreatDoorPw38
import Derived.WalkMore
namespace Go.Proofs.YtnkokhpadcgfbaaGreatDoor
open Go Go.RowKit Go.Proofs Th
attribute [local go_sem] Above.cell
def jpart (v : JV) : ByteArray := if v.k = 4 then v.s else if v.k = 0 then ⟨#[]⟩ else ⟨(printJ v).toArray⟩
def jsize (gap : ByteArray) : List JV → Nat
  | [] => 0
  | v :: r => (jpart v).size + gap.size + jsize gap r
theorem jsize_take (gap : ByteArray) : ∀ (l : List JV) (j : Nat) (h : j < l.length), jsize gap (l.take (j + 1)) = jsize gap (l.take j) + ((jpart l[j]).size + gap.size)
  | v :: r, 0, _ => by simp [jsize]
  | v :: r, j + 1, h => by
    have := jsize_take gap r j (by simpa using h)
    simp only [List.take_succ_cons, jsize, List.getElem_cons_succ] at this ⊢
    omega
theorem jsize_le (gap : ByteArray) : ∀ (l : List JV) (j : Nat), jsize gap (l.take j) ≤ jsize gap l
  | [], _ => by simp [jsize]
  | v :: r, 0 => by simp [jsize]
  | v :: r, j + 1 => by
    have := jsize_le gap r j
    simp only [List.take_succ_cons, jsize]
    omega
theorem jmap_step (l : List JV) (j : Nat) (h : j < l.length) : (l.take (j + 1)).map jpart = (l.take j).map jpart ++ [jpart l[j]] := by
  rw [List.take_succ_eq_append_getElem h, List.map_append]; rfl
theorem OwnS.carry {w w' : World} {base : Nat} {v : Value} {ks : List ByteArray} (h : OwnS w base v ks) (hb : Below w.heap.size w w') : OwnS w' base v ks := h.keep fun k hk => hb.block k (h.lt k hk).2
theorem JAt.parts {W : World} {B : Nat} {t : JV} {k m e : Int} {s : ByteArray} {A : Option Addr} {n c : Nat} {A' : Option Addr} {n' c' : Nat} (h : JAt W B t (cells6 k m e s A n c A' n' c')) : t.k = k ∧ t.m = m ∧ t.e = e ∧ t.s = s := by
  generalize hcs : cells6 k m e s A n c A' n' c' = cs at h
  cases h with
  | mk f hk hm he hs hl hc hcc hK hL hT =>
    simp only [cells6, List.cons.injEq, Value.int.injEq, Value.string.injEq, true_and] at hcs
    obtain ⟨rfl, rfl, rfl, rfl, _⟩ := hcs
    exact ⟨rfl, rfl, rfl, rfl⟩
def joinB (ps : List ByteArray) (gap : ByteArray) : ByteArray := ⟨(Lib.join (ps.map (·.data.toList)) gap.data.toList).toArray⟩
theorem join_strs (ks : List ByteArray) (A : Option Addr) (c : Nat) (gap : ByteArray) (w : World) (hK : StrsIn w (fun g => g < w.heap.size) A c ks) (hl : (Lib.join (ks.map (·.data.toList)) gap.data.toList).length ≤ 1000000) :
    Calls Tryz.prog 100 #[.slice A ks.length c, .string gap] w fun r w' => r = .returned (.string (joinB ks gap)) ∧ Below w.heap.size w w' := by
  by_cases h0 : ks = []
  · subst h0
    refine (Tryz.strings_Join_none A c gap w).mono ?_
    rintro r w' ⟨rfl, rfl⟩
    exact ⟨rfl, Below.refl _ _⟩
  · obtain ⟨g, o, rfl, hg, hc⟩ := hK.at_ (List.length_pos_iff.2 h0)
    refine (Tryz.strings_Join g o c ks gap w (fun j x hx => ?_) hg (by have := hK.cap; omega) hK.le (by omega)).mono ?_
    · obtain ⟨hj, rfl⟩ := List.getElem?_eq_some_iff.1 hx
      exact hc j hj
    · rintro r w' ⟨rfl, hb⟩
      exact ⟨rfl, hb⟩
set_option maxRecDepth 100000 in
set_option maxHeartbeats 4000000 in
theorem calc_join (l : List JV) (gap : ByteArray) (A : Option Addr) (c : Nat) (w : World) (hl : l.length ≤ 100000) (hk : ∀ j (h : j < l.length), l[j].k ≠ 5 ∧ l[j].k ≠ 6) (hz : sizeL l ≤ 1000000) (hgap : gap.size ≤ 1000000) (htot : jsize gap l ≤ 32768 + gap.size) (hG : GlobW w) (hV : ValsAt w w.heap.size A c l)
    (hjl : (Lib.join ((l.map jpart).map (·.data.toList)) gap.data.toList).length ≤ 1000000) :
    Calls Tryz.prog 51 #[.slice A l.length c, .string gap] w fun r w' => ∃ cs', r = .returned (.tuple #[.agg (List.toArray cs'), .int .i64 0]) ∧ JAt w' w'.heap.size (textV (joinB (l.map jpart) gap)) cs' ∧ Below w.heap.size w w' := by
  have hlc := hV.cap
  have hl0 := hV.le
  have HG := Keep.mk (fun W (hb : Below w.heap.size w W) => hG.below hb)
  have HK := Keep.mk hk
  have HZ := Keep.mk (fun j (h : j < l.length) => Nat.le_trans (sizeL_at l j h) hz)
  have HTO := Keep.mk (fun j => Nat.le_trans (jsize_le gap l j) htot)
  have HJL := Keep.mk hjl
  clear hk hz htot hG hjl
  go_enter Tryz.func51, Tryz.ntmps51
  go_wp2_with fail
  go_step3
  go_wp2_with fail
  refine wp_world (fun W => Box W w.heap.size zero6 ∧ Below w.heap.size w W ∧ W.heap.size = w.heap.size + 1) ⟨Box.new zero6 _ rfl, al1 _ _, by simp⟩ ?_
  rintro W0 ⟨HR0, hb0, hs0⟩
  have HV := Keep.mk (hV.below hb0 (Nat.le_refl _))
  replace HR0 := Keep.mk HR0
  replace hb0 := Keep.mk hb0
  replace hs0 := Keep.mk hs0
  clear hV
  go_step3
  simp only [Exit.then]
  go_wp2_with fail
  go_loopg [6, 7, 15] l.length (fun gk v6 v7 i wr => ∃ (j z : Nat), j + gk = l.length ∧ i = .int .i64 j ∧ v7 = .int .i64 z ∧ Keep (z = jsize gap (l.take j)) ∧ Keep (Below (w.heap.size + 1) W0 wr) ∧ Keep (OwnS wr (w.heap.size + 1) v6 ((l.take j).map jpart)))
  case atStart => exact ⟨0, 0, by omega, rfl, rfl, ⟨by rw [List.take_zero]; rfl⟩, ⟨Below.refl _ _⟩, ⟨by rw [List.take_zero]; exact OwnS.nil _ _⟩⟩
  case round =>
    obtain ⟨j, z, hj, rfl, rfl, HS, HB, HO⟩ := hrel
    have hbs : w.heap.size + 1 ≤ wr.heap.size := Nat.le_trans (by have := hs0.out; omega) HB.out.size
    have HBW := Keep.mk (hb0.out.trans (HB.out.mono (by omega)))
    have hzb : z ≤ 32768 + gap.size := by rw [HS.out]; exact HTO.out j
    by_cases hlt : j < l.length
    · have hgk : gk ≠ 0 := by omega
      obtain ⟨g, o, k1, m1, e1, s1, A1, n1, d1, B1, q1, f1, rfl, hg, hJ1, y0, y1, y2, y3, y4, y5⟩ := (HV.out.below (HB.out.mono (by omega)) (Nat.le_refl _)).elem j hlt
      have hg2 : g < wr.heap.size := by omega
      have hpk := Keep.mk hJ1.parts
      have hk5 := (HK.out j hlt).1
      have hk6 := (HK.out j hlt).2
      rw [hpk.out.1] at hk5 hk6
      have b5 : (k1 == 5) = false := by simpa using hk5
      have b6 : (k1 == 6) = false := by simpa using hk6
      have HJ1 := Keep.mk ((hJ1.more (Nat.le_trans (by omega) hbs)).up (al1 wr (.cells #[.int .i64 k1, .int .i64 m1, .int .i64 e1, .string s1, .slice A1 n1 d1, .slice B1 q1 f1] 27)))
      clear hJ1 hk5 hk6
      by_cases h4 : k1 = 4
      · subst h4
        have HQ := Keep.mk (show jpart l[j] = s1 by unfold jpart; rw [if_pos hpk.out.1, hpk.out.2.2.2])
        have HB2 := Keep.mk (al1 wr (.cells #[.int .i64 4, .int .i64 m1, .int .i64 e1, .string s1, .slice A1 n1 d1, .slice B1 q1 f1] 27))
        obtain ⟨W2, hW2⟩ : ∃ W2, W2 = wr.alloc (.cells #[.int .i64 4, .int .i64 m1, .int .i64 e1, .string s1, .slice A1 n1 d1, .slice B1 q1 f1] 27) := ⟨_, rfl⟩
        rw [← hW2] at HB2 HJ1
        go_upto_region 15 with fail
        rw [← hW2]
        clear hW2 y0 y1 y2 y3 y4 y5
        have hqs : Keep (s1.size + gap.size + z ≤ 32768 + gap.size) := ⟨by have h1 := HTO.out (j + 1); rw [jsize_take gap l j hlt, HQ.out, ← HS.out] at h1; omega⟩
        have hq1 := hqs.out
        have HX2 := Keep.mk (strs_single W2 s1 (by omega) 9)
        have HO2 := Keep.mk (HO.out.carry (up HB2.out (al1 W2 (.cells #[.string s1] 9))))
        have hln : Keep (((l.take j).map jpart).length ≤ 100000) := ⟨by rw [List.length_map, List.length_take]; omega⟩
        go_wp2_with (at_builtin; refine wpList_append_strs rfl (.tmp 37) (.tmp 39) rfl (w.heap.size + 1) _ _ rfl HO2.out _ _ 1 1 [s1] rfl rfl HX2.out ?_ ?_ ?_)
        · have := hln.out; simp only [List.length_singleton]; omega
        · have := HB2.out.size; simp; omega
        · intro v8 w8 hO8 hg8
          have HB8 := Keep.mk (HB.out.trans (((up HB2.out (al1 W2 (.cells #[.string s1] 9))).mono hbs).trans (grown_below hg8 (by have := HB2.out.size; simp; omega) (fun b hb => (HO2.out.lt b hb).1))))
          have HO8 := Keep.mk hO8
          clear hO8 hg8 HX2
          go_wp2
          go_roundg (gk - 1)
          case rel => exact ⟨j + 1, z + (s1.size + gap.size), by omega, by go_num, by go_num, ⟨by rw [jsize_take gap l j hlt, HQ.out, ← HS.out]⟩, HB8, ⟨by rw [jmap_step l j hlt, HQ.out, List.map_take]; exact HO8.out⟩⟩
          case measure => omega
      · by_cases h0 : k1 = 0
        · subst h0
          have HQ := Keep.mk (show jpart l[j] = ⟨#[]⟩ by unfold jpart; rw [if_neg (by rw [hpk.out.1]; decide), if_pos hpk.out.1])
          have HB2 := Keep.mk (al1 wr (.cells #[.int .i64 0, .int .i64 m1, .int .i64 e1, .string s1, .slice A1 n1 d1, .slice B1 q1 f1] 27))
          obtain ⟨W2, hW2⟩ : ∃ W2, W2 = wr.alloc (.cells #[.int .i64 0, .int .i64 m1, .int .i64 e1, .string s1, .slice A1 n1 d1, .slice B1 q1 f1] 27) := ⟨_, rfl⟩
          rw [← hW2] at HB2 HJ1
          go_upto_region 15 with fail
          rw [← hW2]
          clear hW2 y0 y1 y2 y3 y4 y5
          obtain ⟨q0, hq0⟩ : ∃ q0 : ByteArray, (⟨#[]⟩ : ByteArray) = q0 := ⟨_, rfl⟩
          rw [hq0] at HQ ⊢
          clear hq0
          have hqs : Keep (q0.size + gap.size + z ≤ 32768 + gap.size) := ⟨by have h1 := HTO.out (j + 1); rw [jsize_take gap l j hlt, HQ.out, ← HS.out] at h1; omega⟩
          have hq1 := hqs.out
          have HX2 := Keep.mk (strs_single W2 q0 (by omega) 9)
          have HO2 := Keep.mk (HO.out.carry (up HB2.out (al1 W2 (.cells #[.string q0] 9))))
          have hln : Keep (((l.take j).map jpart).length ≤ 100000) := ⟨by rw [List.length_map, List.length_take]; omega⟩
          go_wp2_with (at_builtin; refine wpList_append_strs rfl (.tmp 37) (.tmp 39) rfl (w.heap.size + 1) _ _ rfl HO2.out _ _ 1 1 [q0] rfl rfl HX2.out ?_ ?_ ?_)
          · have := hln.out; simp only [List.length_singleton]; omega
          · have := HB2.out.size; simp; omega
          · intro v8 w8 hO8 hg8
            have HB8 := Keep.mk (HB.out.trans (((up HB2.out (al1 W2 (.cells #[.string q0] 9))).mono hbs).trans (grown_below hg8 (by have := HB2.out.size; simp; omega) (fun b hb => (HO2.out.lt b hb).1))))
            have HO8 := Keep.mk hO8
            clear hO8 hg8 HX2
            go_wp2
            go_roundg (gk - 1)
            case rel => exact ⟨j + 1, z + (q0.size + gap.size), by omega, by go_num, by go_num, ⟨by rw [jsize_take gap l j hlt, HQ.out, ← HS.out]⟩, HB8, ⟨by rw [jmap_step l j hlt, HQ.out, List.map_take]; exact HO8.out⟩⟩
            case measure => omega
        · have b4 : (k1 == 4) = false := by simpa using h4
          have b0 : (k1 == 0) = false := by simpa using h0
          have HQ0 := Keep.mk (show jpart l[j] = ⟨(printJ l[j]).toArray⟩ by unfold jpart; rw [if_neg (by rw [hpk.out.1]; exact h4), if_neg (by rw [hpk.out.1]; exact h0)])
          have HPR := Keep.mk (write_Print l[j] (HZ.out j hlt) _ _ (HG.out _ (up HBW.out (al1 wr (.cells #[.int .i64 k1, .int .i64 m1, .int .i64 e1, .string s1, .slice A1 n1 d1, .slice B1 q1 f1] 27)))) HJ1.out)
          clear h4 h0
          go_wp2_with fail
          refine HPR.out.mono ?_
          rintro r W2 ⟨b, rfl, hb, hb2⟩
          have HQ := Keep.mk (show jpart l[j] = b by rw [HQ0.out, ← hb])
          have HB2 := Keep.mk (up (al1 wr (.cells #[.int .i64 k1, .int .i64 m1, .int .i64 e1, .string s1, .slice A1 n1 d1, .slice B1 q1 f1] 27)) hb2)
          clear hb hb2 HQ0 HPR y0 y1 y2 y3 y4 y5
          go_upto_region 15 with fail
          have hqs : Keep (b.size + gap.size + z ≤ 32768 + gap.size) := ⟨by have h1 := HTO.out (j + 1); rw [jsize_take gap l j hlt, HQ.out, ← HS.out] at h1; omega⟩
          have hq1 := hqs.out
          have HX2 := Keep.mk (strs_single W2 b (by omega) 9)
          have HO2 := Keep.mk (HO.out.carry (up HB2.out (al1 W2 (.cells #[.string b] 9))))
          have hln : Keep (((l.take j).map jpart).length ≤ 100000) := ⟨by rw [List.length_map, List.length_take]; omega⟩
          go_wp2_with (at_builtin; refine wpList_append_strs rfl (.tmp 37) (.tmp 39) rfl (w.heap.size + 1) _ _ rfl HO2.out _ _ 1 1 [b] rfl rfl HX2.out ?_ ?_ ?_)
          · have := hln.out; simp only [List.length_singleton]; omega
          · have := HB2.out.size; simp; omega
          · intro v8 w8 hO8 hg8
            have HB8 := Keep.mk (HB.out.trans (((up HB2.out (al1 W2 (.cells #[.string b] 9))).mono hbs).trans (grown_below hg8 (by have := HB2.out.size; simp; omega) (fun b hb => (HO2.out.lt b hb).1))))
            have HO8 := Keep.mk hO8
            clear hO8 hg8 HX2
            go_wp2
            go_roundg (gk - 1)
            case rel => exact ⟨j + 1, z + (b.size + gap.size), by omega, by go_num, by go_num, ⟨by rw [jsize_take gap l j hlt, HQ.out, ← HS.out]⟩, HB8, ⟨by rw [jmap_step l j hlt, HQ.out, List.map_take]; exact HO8.out⟩⟩
            case measure => omega
    · obtain rfl : j = l.length := by omega
      have hO := HO.out
      rw [List.take_length] at hO
      obtain ⟨A7, c7, rfl, _, _⟩ := hO.form
      obtain ⟨_, hin⟩ := hO.strs (T := fun g => g < wr.heap.size) (by rw [List.length_map]; omega) (fun k hk => (hO.lt k hk).2)
      have HJN := Keep.mk (join_strs _ A7 c7 gap wr hin HJL.out)
      have HSZ := Keep.mk (show (joinB (l.map jpart) gap).size ≤ 140737488351232 by
        have h1 := HJL.out
        have h2 : (joinB (l.map jpart) gap).size = (Lib.join ((l.map jpart).map (·.data.toList)) gap.data.toList).length := by unfold joinB; rw [ByteArray.size]; simp
        omega)
      rw [List.length_map] at HJN
      obtain ⟨q, hq⟩ : ∃ q : ByteArray, joinB (l.map jpart) gap = q := ⟨_, rfl⟩
      rw [hq] at HJN HSZ
      have HQE := Keep.mk hq
      clear hq
      clear hO HO HV hin HJL HK HZ HTO
      go_wp2_with fail
      refine HJN.out.mono ?_
      rintro r w2 ⟨rfl, hb2⟩
      go_wp2_with fail
      refine (calc_text q _).mono ?_
      rintro r w3 ⟨rfl, hb3⟩
      have HB3 := Keep.mk (HBW.out.trans ((up hb2 hb3).mono (by omega)))
      have HR3 := Keep.mk ((HR0.out.below HB.out (by omega)).below (up hb2 hb3) (by omega))
      clear hb2 hb3 HR0 HB HBW
      have r0 := HR3.out.cell 0 _ rfl
      have f0 := HR3.out.froz 0
      have r1 := HR3.out.cell 1 _ rfl
      have f1 := HR3.out.froz 1
      have r2 := HR3.out.cell 2 _ rfl
      have f2 := HR3.out.froz 2
      have r3 := HR3.out.cell 3 _ rfl
      have f3 := HR3.out.froz 3
      have r4 := HR3.out.cell 4 _ rfl
      have f4 := HR3.out.froz 4
      have r5 := HR3.out.cell 5 _ rfl
      have f5 := HR3.out.froz 5
      have rl := HR3.out.lt
      go_wp2
      rw [Exit.noGoto_ret]
      refine bodyPost_ret (v := .tuple #[.agg #[.int .i64 4, .int .i64 0, .int .i64 0, .string q, .slice none 0 0, .slice none 0 0], .int .i64 0]) ?_ rfl ?_
      · simp [results, Tryz.results51, go_sem, r0, r1, r2, r3, r4, r5]
      · exact ⟨_, rfl, by rw [HQE.out]; exact (text_in _ (fun _ => False) q HSZ.out).at (fun g hg => hg.elim), HB3.out.trans (six_below w3 w.heap.size (.int .i64 4) (.int .i64 0) (.int .i64 0) (.string q) (.slice none 0 0) (.slice none 0 0) (by omega))⟩
end Go.Proofs.YtnkokhpadcgfbaaGreatDoor
