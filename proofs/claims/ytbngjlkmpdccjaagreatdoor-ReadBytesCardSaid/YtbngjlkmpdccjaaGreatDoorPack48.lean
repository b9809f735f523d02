/- Lemmas and contracts for the laws ReadParses, ReadBytes, part 48 of 50: Ref6Q. Conditions: those that each lemma names. -/
import Derived.Test.YtbngjlkmpdccjaaGreatDoorPack47
import Derived.Outline
namespace Th
open Go Go.Lib
theorem tok_sign (l : List UInt8) (a : Nat) : (nextT l a).sign ≠ 1 := by
  unfold nextT
  generalize a + runB blankC (l.drop a) = b
  generalize l.drop b = m
  cases m with
  | nil => rw [show (oneT [] b).sign = 255 from rfl]; decide
  | cons c r =>
    simp only [oneT]
    by_cases h1 : signC c = true
    · rw [if_pos h1]
      intro h
      have h : c.toNat = 1 := h
      unfold signC at h1
      simp [h] at h1
    · rw [if_neg h1]
      by_cases h2 : c.toNat = 34
      · rw [if_pos h2]; exact (by decide : (0 : Nat) ≠ 1)
      · rw [if_neg h2]
        by_cases h3 : letterC c = true
        · rw [if_pos h3]; exact (by decide : (0 : Nat) ≠ 1)
        · rw [if_neg h3]
          by_cases h4 : c.toNat = 45 ∨ (48 ≤ c.toNat ∧ c.toNat ≤ 57)
          · rw [if_pos h4]; exact (by decide : (0 : Nat) ≠ 1)
          · rw [if_neg h4]; exact (by decide : (0 : Nat) ≠ 1)
section
variable {l : List UInt8} {rs : List Tk}
theorem readV_ok (hl : l.length ≤ 16384) (hr : rs.length ≤ l.length + 1) (h0 : rk rs 0 = nextT l 0) {j : Nat} {v : JV} (hg : Goes l rs 0 0 j (fun st _ => (.off, st, v))) (hj : j < rs.length) (he : (rk rs j).e = 0) (hs : (rk rs j).sign = 255) : readV madeJ l = (v, 0, 0) := by
  obtain ⟨_, c, hc, h⟩ := hg
  obtain ⟨F, hF⟩ : ∃ F, fuelP = F + 1 + c := ⟨fuelP - 1 - c, by unfold fuelP; omega⟩
  unfold readV
  rw [if_neg (by omega), ← h0, hF, h [] zeroJ (F + 1) rfl]
  exact off_end madeJ l F v _ he hs
theorem readV_more (hl : l.length ≤ 16384) (hr : rs.length ≤ l.length + 1) (h0 : rk rs 0 = nextT l 0) {j : Nat} {v : JV} (hg : Goes l rs 0 0 j (fun st _ => (.off, st, v))) (hj : j < rs.length) (hn : ¬ ((rk rs j).e = 0 ∧ (rk rs j).sign = 255)) : readV madeJ l = (zeroJ, (rk rs j).at_, faultE (rk rs j) 60) := by
  obtain ⟨_, c, hc, h⟩ := hg
  obtain ⟨F, hF⟩ : ∃ F, fuelP = F + 1 + c := ⟨fuelP - 1 - c, by unfold fuelP; omega⟩
  unfold readV
  rw [if_neg (by omega), ← h0, hF, h [] zeroJ (F + 1) rfl]
  unfold faultE
  by_cases he : (rk rs j).e ≠ 0
  · rw [if_pos he]; exact off_err madeJ l F [] v _ he
  · have he0 : (rk rs j).e = 0 := Classical.not_not.1 he
    rw [if_neg he]; exact off_more madeJ l F v _ he0 (fun h => hn ⟨he0, h⟩)
theorem readV_fail (hl : l.length ≤ 16384) (hr : rs.length ≤ l.length + 1) (h0 : rk rs 0 = nextT l 0) {w : Nat} {e : Int} (hf : Fails l rs 0 0 w e) : readV madeJ l = (zeroJ, w, e) := by
  obtain ⟨c, hc, h⟩ := hf
  obtain ⟨F, hF⟩ : ∃ F, fuelP = F + c := ⟨fuelP - c, by unfold fuelP; omega⟩
  unfold readV
  rw [if_neg (by omega), ← h0, hF, h [] zeroJ F rfl]
end
end Th
namespace Go.Proofs.YtbngjlkmpdccjaaGreatDoor
open Go Go.RowKit Go.Proofs Th
attribute [local go_sem] Above.cell
theorem ref6_value (l : List UInt8) (rs : List Tk) (hO : RsOk l rs) (hlen : rs.length ≤ 1000000) (hll : l.length ≤ 1000000) : ∀ (n d i : Nat), rs.length - i ≤ n → d ≤ 48 → i < rs.length → ∀ (W : World) (p g c : Nat) (wh : Int), RD W p g c (rs.map tokR) i 0 wh →
    Calls Tryz.prog 15 #[.pointer (some ⟨p, 0, none⟩), .int .i64 (d : Int)] W fun r w' => ∃ cs, r = .returned (.agg (List.toArray cs)) ∧ W.grownBy w' (some p) ∧ ValR l rs d i W w' p g c wh cs
  | 0, _, _, hn, _, hi, _, _, _, _, _, _ => by omega
  | n + 1, d, i, hn, hd, hi, W, p, g, c, wh, hR => by
    by_cases hb : (rk rs i).e ≠ 0 ∨ ((rk rs i).sign ≠ 0 ∧ (rk rs i).sign ≠ 91 ∧ (rk rs i).sign ≠ 123)
    · exact value_bad l rs hlen d i hi hd hb W p g c wh hR
    · have he : (rk rs i).e = 0 := Classical.not_not.1 fun h => hb (Or.inl h)
      have hs : (rk rs i).sign = 0 ∨ (rk rs i).sign = 91 ∨ (rk rs i).sign = 123 := by
        by_cases h0 : (rk rs i).sign = 0
        · exact Or.inl h0
        · by_cases h1 : (rk rs i).sign = 91
          · exact Or.inr (Or.inl h1)
          · exact Or.inr (Or.inr (Classical.byContradiction fun h2 => hb (Or.inr ⟨h0, h1, h2⟩)))
      by_cases h48 : d = 48
      · subst h48
        exact value_deep l rs hlen i hi he hs W p g c wh hR
      · have hIH : ∀ (j : Nat) (W : World) (p g c : Nat) (wh : Int), i < j → j < rs.length → RD W p g c (rs.map tokR) j 0 wh → Calls Tryz.prog 15 #[.pointer (some ⟨p, 0, none⟩), .int .i64 ((d : Int) + 1)] W fun r w' => ∃ cs, r = .returned (.agg (List.toArray cs)) ∧ W.grownBy w' (some p) ∧ ValR l rs (d + 1) j W w' p g c wh cs :=
          fun j W p g c wh hij hj hR => ref6_value l rs hO hlen hll n (d + 1) j (by omega) (by omega) hj W p g c wh hR
        rcases hs with hs | hs | hs
        · exact value_leaf l rs hO hlen hll d i hi (by omega) he hs W p g c wh hR
        · exact value_list l rs hO hlen d i hi (by omega) he hs hIH W p g c wh hR
        · exact value_map l rs hO hlen hll d i hi (by omega) he hs hIH W p g c wh hR
theorem tok9_len (t : Tk) : (tok9 t).length = 9 := rfl
theorem flat9 : ∀ (ts : List Tk) (j : Nat) (h : j < ts.length) (k : Nat) (v : Value), (tok9 ts[j])[k]? = some v → (ts.flatMap tok9)[j * 9 + k]? = some v
  | t :: ts, 0, _, k, v, hv => by
    have hk : k < (tok9 t).length := (List.getElem?_eq_some_iff.1 hv).1
    rw [List.flatMap_cons, Nat.zero_mul, Nat.zero_add, List.getElem?_append_left hk]
    exact hv
  | t :: ts, j + 1, h, k, v, hv => by
    rw [List.flatMap_cons, List.getElem?_append_right (by rw [tok9_len]; omega), tok9_len]
    have := flat9 ts j (by simpa using h) k v (by simpa using hv)
    rw [show (j + 1) * 9 + k - 9 = j * 9 + k by omega]
    exact this
theorem RD.made {w : World} {base : Nat} {v : Value} {ts : List Tk} (h : OwnT w base v ts) (hn : 0 < ts.length) : ∃ g c, v = .slice (some ⟨g, 0, none⟩) ts.length c ∧ base ≤ g ∧
    RD (w.alloc (.cells #[.slice (some ⟨g, 0, none⟩) ts.length c, .int .i64 0, .int .i64 0, .int .i64 0] 57)) w.heap.size g c ts 0 0 0 := by
  have h' := h
  obtain ⟨hx, ⟨_, h0⟩ | ⟨g, cap, cur, rfl, hb, hh, h3, h4, h5, h6⟩⟩ := h
  · omega
  · have hg : g < w.heap.size := lt_of_block hh
    refine ⟨g, cap, rfl, hb, heap_alloc_new w _, fun j hj k v hv => ?_, by omega, by simp; omega⟩
    have hc := World.ownsRow.cells h' (g := g) rfl (j * 9 + k) v (flat9 ts j hj k v hv)
    rw [add_at] at hc
    rw [(al1 w _).cell (p := ⟨g, j * 9 + k, none⟩) hg, ← hc]
    congr 2; omega
structure RErr (w W : World) (p g c : Nat) (ts : List Tk) (j : Nat) (er wh : Int) : Prop where
  v : VBlkT W w.heap.size zero6
  r : RD W p g c ts j er wh
  b : Below w.heap.size w W
  pg : w.heap.size < p ∧ w.heap.size < g
theorem RErr.put {w W : World} {p g c : Nat} {ts : List Tk} {j : Nat} {er wh : Int} (h : RErr w W p g c ts j er wh) : RErr w (six W w.heap.size (.int .i64 0) (.int .i64 0) (.int .i64 0) (.string ⟨#[]⟩) (.slice none 0 0) (.slice none 0 0)) p g c ts j er wh :=
  ⟨h.v.six _ _ _ _ _ _, h.r.keep (six_other _ _ _ _ _ _ _ _ _ (by have := h.pg; omega)) (six_other _ _ _ _ _ _ _ _ _ (by have := h.pg; omega)) (by simp [six]), h.b.trans (six_below _ _ _ _ _ _ _ _ (Nat.le_refl _)), h.pg⟩
theorem RErr.drawn {w W : World} {p g c : Nat} {ts : List Tk} {j : Nat} {er wh : Int} (h : RErr w W p g c ts j er wh) : RErr w { W with drawn := W.drawn + 1 } p g c ts j er wh := ⟨h.v, h.r.keep rfl rfl (Nat.le_refl _), h.b.trans ((below_drawn W).mono h.b.size), h.pg⟩
theorem grownp_below {w W0 a : World} {p : Nat} (hb : Below w.heap.size w W0) (h : W0.grownBy a (some p)) (hp : w.heap.size ≤ p) : Below w.heap.size w a :=
  hb.trans (⟨h.os, h.tape, h.output, h.size, fun k hk => h.block k (by have := hb.size; omega) (fun e => by injection e with e; omega)⟩)
set_option maxRecDepth 100000 in
set_option maxHeartbeats 4000000 in
theorem ref6_Parse (s : ByteArray) (hs : s.size ≤ 9223372036854775000) (w : World) : Calls Tryz.prog 7 #[.string s] w fun r w' =>
    ∃ cs, r = .returned (.tuple #[.agg (List.toArray cs), .int .i64 (readV madeJ s.data.toList).2.1, .int .i64 (readV madeJ s.data.toList).2.2]) ∧ JIn w' (newIn w w') (readV madeJ s.data.toList).1 cs ∧ Below w.heap.size w w' := by
  have hsz := size_listU s
  by_cases hbig : 16384 < s.size
  · have HE := Keep.mk (show readV madeJ s.data.toList = (zeroJ, 0, 3) by unfold readV; rw [if_pos (by omega)])
    have hb2 : (16384 : Int) < s.size := by omega
    clear hbig hsz
    go_enter Tryz.func7, Tryz.ntmps7
    go_upto_region 1 with fail
    refine wp_world (fun W => VBlkT W w.heap.size zero6 ∧ Below w.heap.size w W) ⟨VBlkT.new zero6 rfl, al1 _ _⟩ ?_
    rintro W0 ⟨HV, HB⟩
    have r0 := HV.box.cell 0 _ rfl
    have r1 := HV.box.cell 1 _ rfl
    have r2 := HV.box.cell 2 _ rfl
    have r3 := HV.box.cell 3 _ rfl
    have r4 := HV.box.cell 4 _ rfl
    have r5 := HV.box.cell 5 _ rfl
    have z0 := HV.box.froz 0
    have z1 := HV.box.froz 1
    have z2 := HV.box.froz 2
    have z3 := HV.box.froz 3
    have z4 := HV.box.froz 4
    have z5 := HV.box.froz 5
    have hrl := HV.box.lt
    have HBE := Keep.mk (HB.trans (six_below W0 w.heap.size (.int .i64 0) (.int .i64 0) (.int .i64 0) (.string ⟨#[]⟩) (.slice none 0 0) (.slice none 0 0) (Nat.le_refl _)))
    clear HV HB
    go_wp2
    refine bodyPost_ret (v := .tuple #[.agg (List.toArray zero6), .int .i64 0, .int .i64 3]) ?_ rfl ⟨zero6, by rw [HE.out]; rfl, by rw [HE.out]; exact zero_in _ _, HBE.out⟩
    simp [zero6, cells6, results, Tryz.results7, go_sem, r0, r1, r2, r3, r4, r5]
  · have hsm : s.size ≤ 16384 := by omega
    have hsm2 : ¬ (16384 : Int) < s.size := by omega
    obtain ⟨hr0, hO, hrl⟩ := raw_ok s.data.toList (s.size + 1) 0 (Nat.zero_le _) (by omega)
    have htr := tokens_raw s.data.toList (s.size + 1) 0
    obtain ⟨rs, hrs⟩ : ∃ rs, rawV s.data.toList (s.size + 1) 0 = rs := ⟨_, rfl⟩
    rw [hrs] at hr0 hO hrl htr
    have HTR := Keep.mk htr
    obtain ⟨hn0, h00⟩ := List.getElem?_eq_some_iff.1 hr0
    have HR0 := Keep.mk (show rk rs 0 = nextT s.data.toList 0 by rw [rk_at rs 0 hn0, h00])
    have HO := Keep.mk hO
    have HLL := Keep.mk (show s.data.toList.length ≤ 16384 by omega)
    have HRL := Keep.mk (show rs.length ≤ s.data.toList.length + 1 by omega)
    have HRL2 := Keep.mk (show rs.length ≤ 16385 by omega)
    have HTK := Keep.mk (ref6_Tokens s (by omega))
    have HN0 := Keep.mk hn0
    generalize s.data.toList = l at *
    clear hbig hsz hr0 hO hrl htr hrs h00 hn0
    go_enter Tryz.func7, Tryz.ntmps7
    go_upto_region 1 with fail
    refine wp_world (fun W => VBlkT W w.heap.size zero6 ∧ Below w.heap.size w W) ⟨VBlkT.new zero6 rfl, al1 _ _⟩ ?_
    rintro W0 ⟨HV, HB⟩
    replace HV := Keep.mk HV
    replace HB := Keep.mk HB
    go_wp2_with fail
    refine (HTK.out W0).mono ?_
    rintro r w1 ⟨v, rfl, hT1, hb1⟩
    rw [HTR.out] at hT1
    obtain ⟨g, c, hv, hgb, hR⟩ := RD.made hT1 (by rw [mk_len]; exact HN0.out)
    subst hv
    have HV1 := Keep.mk (show VBlkT (w1.alloc (.cells #[.slice (some ⟨g, 0, none⟩) (rs.map tokR).length c, .int .i64 0, .int .i64 0, .int .i64 0] 57)) w.heap.size zero6 from ((al1 w1 _).block _ (by have := lt_of_block HV.out; have := hb1.size; omega)).trans ((hb1.block _ (lt_of_block HV.out)).trans HV.out))
    have HB1 := Keep.mk (up (up HB.out hb1) (al1 w1 (.cells #[.slice (some ⟨g, 0, none⟩) (rs.map tokR).length c, .int .i64 0, .int .i64 0, .int .i64 0] 57)))
    have hpg : w.heap.size < w1.heap.size ∧ w.heap.size < g := by have := lt_of_block HV.out; have := hb1.size; omega
    replace hR := Keep.mk hR
    clear HV HB hT1 hb1 hgb HTK
    simp only [List.length_map] at HV1 hR HB1
    go_upto_region 4 with fail
    refine wp_world (fun W => VBlkT W w.heap.size zero6 ∧ RD W w1.heap.size g c (rs.map tokR) 0 0 0 ∧ Below w.heap.size w W) ⟨HV1.out, hR.out, HB1.out⟩ ?_
    clear HV1 hR HB1
    generalize w1.heap.size = p at *
    clear w1
    rintro W1 ⟨HV, HR, HB⟩
    replace HV := Keep.mk HV
    replace HB := Keep.mk HB
    have HC := Keep.mk (ref6_value l rs HO.out (by have := HRL2.out; omega) (by have := HLL.out; omega) rs.length 0 0 (by omega) (by omega) HN0.out W1 p g c 0 HR)
    have hpl := Keep.mk HR.plt
    clear HR
    go_wp2_with fail
    refine HC.out.mono ?_
    rintro r w2 ⟨cs, rfl, hg2, hv2⟩
    obtain ⟨v, j, er, wh, hJ2, hR2, hP2⟩ : ∃ (v : JV) (j : Nat) (er wh : Int), JIn w2 (newIn W1 w2) v cs ∧ RD w2 p g c (rs.map tokR) j er wh ∧ ((er = 0 ∧ wh = 0 ∧ j < rs.length ∧ Goes l rs 0 0 j (fun st _ => (.off, st, v))) ∨ (er ≠ 0 ∧ ∃ wq : Nat, wh = wq ∧ Fails l rs 0 0 wq er)) := by
      rcases hv2 with ⟨v, j, hJ, hij, hj, hr, hgo, _⟩ | ⟨e, wq, j, he, hJ, hr, hf⟩
      · exact ⟨v, j, 0, 0, hJ, hr, Or.inl ⟨rfl, rfl, hj, hgo⟩⟩
      · exact ⟨zeroJ, j, e, wq, hJ, hr, Or.inr ⟨he, wq, rfl, hf⟩⟩
    have HV2 := Keep.mk (show VBlkT w2 w.heap.size zero6 from (hg2.block _ (lt_of_block HV.out) (fun e => by injection e with e; omega)).trans HV.out)
    have HB2 := Keep.mk (grownp_below HB.out hg2 (by omega))
    have HJ2 := Keep.mk (hJ2.more (T := fun b => p < b ∧ b < w2.heap.size) (fun b hb => ⟨by have := hb.1; have := hpl.out; omega, hb.2⟩))
    have HP2 := Keep.mk hP2
    replace hR2 := Keep.mk hR2
    clear HV HB HC hg2 hv2 hJ2 hP2
    obtain ⟨k9, m9, e9, s9, A9, n9, c9, A8, n8, c8, rfl⟩ := HJ2.out.cells
    have HX3 := Keep.mk (show VBlkT (w2.alloc (.cells (cells6 k9 m9 e9 s9 A9 n9 c9 A8 n8 c8).toArray 28)) w2.heap.size (cells6 k9 m9 e9 s9 A9 n9 c9 A8 n8 c8) from VBlkT.new _ rfl)
    have HJ3 := Keep.mk (HJ2.out.keep (W' := w2.alloc (.cells (cells6 k9 m9 e9 s9 A9 n9 c9 A8 n8 c8).toArray 28)) (T := fun b => p < b ∧ b < w2.heap.size) (fun b hb => (al1 w2 _).block b hb.2) (fun _ h => h))
    have HV3 := Keep.mk (show VBlkT (w2.alloc (.cells (cells6 k9 m9 e9 s9 A9 n9 c9 A8 n8 c8).toArray 28)) w.heap.size zero6 from ((al1 w2 _).block _ (lt_of_block HV2.out)).trans HV2.out)
    have HR3 := Keep.mk (hR2.out.below (al1 w2 (.cells (cells6 k9 m9 e9 s9 A9 n9 c9 A8 n8 c8).toArray 28)))
    have HB3 := Keep.mk (up HB2.out (al1 w2 (.cells (cells6 k9 m9 e9 s9 A9 n9 c9 A8 n8 c8).toArray 28)))
    have hq1 : w.heap.size < w2.heap.size := lt_of_block HV2.out
    have hq2 : p < w2.heap.size := hR2.out.plt
    clear HJ2 HV2 hR2 HB2
    simp only [cells6] at HX3 HJ3 HV3 HR3 HB3 ⊢
    go_upto_region 5 with fail
    refine wp_world (fun W => VBlkT W w2.heap.size (cells6 k9 m9 e9 s9 A9 n9 c9 A8 n8 c8) ∧ JIn W (fun b => p < b ∧ b < w2.heap.size) v (cells6 k9 m9 e9 s9 A9 n9 c9 A8 n8 c8) ∧ VBlkT W w.heap.size zero6 ∧ RD W p g c (rs.map tokR) j er wh ∧ Below w.heap.size w W) ⟨HX3.out, HJ3.out, HV3.out, HR3.out, HB3.out⟩ ?_
    clear HX3 HJ3 HV3 HR3 HB3 hpl
    generalize w2.heap.size = q at *
    clear w2
    rintro W2 ⟨HX, HJ, HV, HR, HB⟩
    replace HX := Keep.mk HX
    replace HJ := Keep.mk HJ
    replace HV := Keep.mk HV
    replace HB := Keep.mk HB
    replace HR := Keep.mk HR
    have HW : Keep (∀ w3, W2.grownBy w3 (some p) → VBlkT w3 q (cells6 k9 m9 e9 s9 A9 n9 c9 A8 n8 c8) ∧ JIn w3 (fun b => p < b ∧ b < q) v (cells6 k9 m9 e9 s9 A9 n9 c9 A8 n8 c8) ∧ VBlkT w3 w.heap.size zero6 ∧ Below w.heap.size w w3) := ⟨fun w3 hg =>
      ⟨(hg.block q (lt_of_block HX.out) (fun e => by injection e with e; omega)).trans HX.out, HJ.out.keep (fun b hb => hg.block b (by have := hb.2; have := lt_of_block HX.out; omega) (fun e => by injection e with e; have := hb.1; omega)) (fun _ h => h),
       (hg.block _ (lt_of_block HV.out) (fun e => by injection e with e; omega)).trans HV.out, grownp_below HB.out hg (by omega)⟩⟩
    clear HX HJ HV HB
    go_cut [] (fun wx => ∃ (j' : Nat) (er' wh' : Int), Keep (RD wx p g c (rs.map tokR) j' er' wh') ∧ Keep (VBlkT wx q (cells6 k9 m9 e9 s9 A9 n9 c9 A8 n8 c8)) ∧ Keep (JIn wx (fun b => p < b ∧ b < q) v (cells6 k9 m9 e9 s9 A9 n9 c9 A8 n8 c8)) ∧ Keep (VBlkT wx w.heap.size zero6) ∧ Keep (Below w.heap.size w wx) ∧ Keep ((er' = 0 ∧ readV madeJ l = (v, 0, 0)) ∨ (er' ≠ 0 ∧ ∃ wq : Nat, wh' = wq ∧ readV madeJ l = (zeroJ, wq, er'))))
    case first =>
      by_cases her : er = 0
      · subst her
        obtain ⟨-, rfl, hj, hgo⟩ := HP2.out.resolve_right (fun h => h.1 rfl)
        have hj2 : j < (rs.map tokR).length := by rw [mk_len]; exact hj
        have hl2 : (rs.map tokR).length ≤ 1000000 := by rw [mk_len]; have := HRL2.out; omega
        have hsg : (tokR (rk rs j)).sign = 1 ↔ (rk rs j).sign = 255 := by
          have hne : (rk rs j).sign ≠ 1 := by
            rw [rk_at rs j hj]
            obtain ⟨a, _, e⟩ := HO.out.all j hj
            rw [e]; exact tok_sign l a
          unfold tokR
          by_cases h : (rk rs j).sign = 255
          · rw [if_pos h]; exact ⟨fun _ => h, fun _ => rfl⟩
          · rw [if_neg h]; exact ⟨fun h2 => absurd h2 hne, fun h2 => absurd h2 h⟩
        by_cases hend : (rk rs j).e = 0 ∧ (rk rs j).sign = 255
        · have HRV := Keep.mk (readV_ok HLL.out HRL.out HR0.out hgo hj hend.1 hend.2)
          have HWA := Keep.mk (want_ok HR.out hj2 hl2 1 (by decide) (by rw [mk_at rs j hj2, tR_e]; exact hend.1) (by rw [mk_at rs j hj2]; exact hsg.2 hend.2))
          clear HP2 hgo hj2 hl2 hsg hend
          go_wp2_with fail
          refine HWA.out.mono ?_
          rintro r w3 ⟨rfl, hr3, hg3⟩
          obtain ⟨h1, h2, h3, h4⟩ := HW.out w3 hg3
          have HR3 := Keep.mk hr3
          have H1 := Keep.mk h1
          have H2 := Keep.mk h2
          have H3 := Keep.mk h3
          have H4 := Keep.mk h4
          clear hr3 hg3 h1 h2 h3 h4 HW HWA HR
          go_wp2_with fail
          go_meet
          exact ⟨_, _, _, HR3, H1, H2, H3, H4, ⟨Or.inl ⟨rfl, HRV.out⟩⟩⟩
        · have HRV := Keep.mk (readV_more HLL.out HRL.out HR0.out hgo hj hend)
          have hne := fault_ne (rk rs j) (e := 60) (by decide)
          have h5 := want_no HR.out hj2 hl2 1 (by decide) (by rw [mk_at rs j hj2, tR_e, hsg]; exact hend)
          rw [mk_at rs j hj2, tR_fault, tR_at] at h5
          have HWA := Keep.mk h5
          have HNE := Keep.mk hne
          clear HP2 hgo hj2 hl2 hsg hend h5 hne
          generalize faultE (rk rs j) 60 = fe at *
          generalize (rk rs j).at_ = fa at *
          go_wp2_with fail
          refine HWA.out.mono ?_
          rintro r w3 ⟨rfl, hr3, hg3⟩
          obtain ⟨h1, h2, h3, h4⟩ := HW.out w3 hg3
          have HR3 := Keep.mk hr3
          have H1 := Keep.mk h1
          have H2 := Keep.mk h2
          have H3 := Keep.mk h3
          have H4 := Keep.mk h4
          clear hr3 hg3 h1 h2 h3 h4 HW HWA HR
          go_wp2_with fail
          go_meet
          exact ⟨_, _, _, HR3, H1, H2, H3, H4, ⟨Or.inr ⟨HNE.out, _, rfl, HRV.out⟩⟩⟩
      · obtain ⟨_, wq, hwq, hf⟩ := HP2.out.resolve_left (fun h => her h.1)
        have HRV := Keep.mk (readV_fail HLL.out HRL.out HR0.out hf)
        have HWA := Keep.mk (want_er HR.out her 1)
        have HNE := Keep.mk her
        have HWQ := Keep.mk hwq
        clear HP2 her hwq hf
        go_wp2_with fail
        refine HWA.out.mono ?_
        rintro r w3 ⟨rfl, hr3, hg3⟩
        obtain ⟨h1, h2, h3, h4⟩ := HW.out w3 hg3
        have HR3 := Keep.mk hr3
        have H1 := Keep.mk h1
        have H2 := Keep.mk h2
        have H3 := Keep.mk h3
        have H4 := Keep.mk h4
        clear hr3 hg3 h1 h2 h3 h4 HW HWA HR
        go_wp2_with fail
        go_meet
        exact ⟨_, _, _, HR3, H1, H2, H3, H4, ⟨Or.inr ⟨HNE.out, wq, HWQ.out, HRV.out⟩⟩⟩
    case rest =>
    obtain ⟨j', er, wh, HR3, HX3, HJ3, HV3, HB3, HD⟩ := hcut
    clear HW HR HP2
    go_upto_region 6 with fail
    refine wp_world (fun W => RErr w W p g c (rs.map tokR) j' er wh ∧ VBlkT W q (cells6 k9 m9 e9 s9 A9 n9 c9 A8 n8 c8) ∧ JIn W (fun b => p < b ∧ b < q) v (cells6 k9 m9 e9 s9 A9 n9 c9 A8 n8 c8)) ⟨⟨HV3.out, HR3.out, HB3.out, hpg⟩, HX3.out, HJ3.out⟩ ?_
    clear HR3 HX3 HJ3 HV3 HB3
    rintro W3 ⟨HE3, HX3, HJ3⟩
    replace HE3 := Keep.mk HE3
    replace HX3 := Keep.mk HX3
    replace HJ3 := Keep.mk HJ3
    have c2 := HE3.out.r.b4.cell 2 _ rfl
    have cl := HE3.out.r.plt
    by_cases her : er = 0
    · subst her
      have HE := Keep.mk (HD.out.resolve_right (fun h => h.1 rfl)).2
      have HV3 := Keep.mk HE3.out.v
      have HB3 := Keep.mk HE3.out.b
      clear HD HE3
      have r0 := HV3.out.box.cell 0 _ rfl
      have z0 := HV3.out.box.froz 0
      have r1 := HV3.out.box.cell 1 _ rfl
      have z1 := HV3.out.box.froz 1
      have r2 := HV3.out.box.cell 2 _ rfl
      have z2 := HV3.out.box.froz 2
      have r3 := HV3.out.box.cell 3 _ rfl
      have z3 := HV3.out.box.froz 3
      have r4 := HV3.out.box.cell 4 _ rfl
      have z4 := HV3.out.box.froz 4
      have r5 := HV3.out.box.cell 5 _ rfl
      have z5 := HV3.out.box.froz 5
      have hrl := HV3.out.box.lt
      have x0 := HX3.out.box.cell 0 _ rfl
      have x1 := HX3.out.box.cell 1 _ rfl
      have x2 := HX3.out.box.cell 2 _ rfl
      have x3 := HX3.out.box.cell 3 _ rfl
      have x4 := HX3.out.box.cell 4 _ rfl
      have x5 := HX3.out.box.cell 5 _ rfl
      have xl := HX3.out.box.lt
      have hqw : q < W3.heap.size := xl
      have HJ5 := Keep.mk (show JIn (six W3 w.heap.size (.int .i64 k9) (.int .i64 m9) (.int .i64 e9) (.string s9) (.slice A9 n9 c9) (.slice A8 n8 c8)) (newIn w (six W3 w.heap.size (.int .i64 k9) (.int .i64 m9) (.int .i64 e9) (.string s9) (.slice A9 n9 c9) (.slice A8 n8 c8))) v (cells6 k9 m9 e9 s9 A9 n9 c9 A8 n8 c8) from
        HJ3.out.keep (fun b hb => six_other _ _ _ _ _ _ _ _ _ (by have := hb.1; omega)) (fun b hb => ⟨by have := hb.1; omega, (by have h8 := hb.2; have h9 : b < W3.heap.size := Nat.lt_trans h8 hqw; simpa [six] using h9)⟩))
      have HBE := Keep.mk (HB3.out.trans (six_below W3 w.heap.size (.int .i64 k9) (.int .i64 m9) (.int .i64 e9) (.string s9) (.slice A9 n9 c9) (.slice A8 n8 c8) (Nat.le_refl _)))
      clear HV3 HB3 HX3 HJ3 hqw
      go_wp2
      refine bodyPost_ret (v := .tuple #[.agg (List.toArray (cells6 k9 m9 e9 s9 A9 n9 c9 A8 n8 c8)), .int .i64 0, .int .i64 0]) ?_ rfl ⟨_, by rw [HE.out]; rfl, by rw [HE.out]; exact HJ5.out, HBE.out⟩
      simp [cells6, results, Tryz.results7, go_sem, r0, r1, r2, r3, r4, r5]
    · obtain ⟨_, wq, hwq, hrv⟩ := HD.out.resolve_left (fun h => her h.1)
      have HE := Keep.mk hrv
      have HWQ := Keep.mk hwq
      have herb : (er != 0) = true := by simpa using her
      clear HD hwq hrv her HX3 HJ3
      go_upto_region 7 with fail
      refine wp_region_every (fun _ W => RErr w W p g c (rs.map tokR) j' er wh) (fun
        | 0 => fun v _ => v = .agg (List.toArray zero6)
        | 1 => fun v _ => v = .pointer (some ⟨p, 0, none⟩)
        | 2 => fun v _ => v = .pointer (some ⟨p, 0, none⟩)
        | 3 => fun v _ => v = .pointer (some ⟨p, 3, none⟩)
        | 4 => fun v _ => v = .int .i64 wh
        | 5 => fun v _ => v = .pointer (some ⟨p, 0, none⟩)
        | 6 => fun v _ => v = .pointer (some ⟨p, 0, none⟩)
        | 7 => fun v _ => v = .pointer (some ⟨p, 2, none⟩)
        | 8 => fun v _ => v = .int .i64 er
        | 10 => fun v _ => v = .int .i64 wh
        | 11 => fun v _ => v = .int .i64 er
        | _ => fun _ _ => True) (fun _ _ _ => True) (by kernel_rfl) (by kernel_rfl) HE3.out.drawn ?_ ?_ ?_
      · intro i j v w1 w2 _ _
        match j with
        | 0 | 1 | 2 | 3 | 4 | 5 | 6 | 7 | 8 | 9 | 10 | 11 => exact fun h => h
        | _ + 12 => exact fun h => h
      · simp only [stepHold]
        refine ⟨?_, ?_, ?_, ?_, ?_, ?_, ?_, ?_, ?_, ?_, ?_, ?_, trivial⟩
        · intro L a wa hL hI hs hd
          exact op_val _ (w' := wa) (by unfold execOp; go_simp; rfl) ⟨_, rfl, rfl, hI, trivial⟩
        · intro L a wa hL hI hs hd
          have e1 : a.eval (.tmp 5) = .pointer (some ⟨p, 0, none⟩) := hs 5 (by kernel_rfl)
          exact op_val _ (w' := wa) (by unfold execOp; simp only [e1]; go_simp) ⟨_, rfl, rfl, hI, trivial⟩
        · intro L a wa hL hI hs hd
          have e1 : a.eval (.tmp 25) = .pointer (some ⟨p, 0, none⟩) := hd.1
          exact op_val _ (w' := wa) (by unfold execOp; simp only [e1]; go_simp) ⟨_, rfl, rfl, hI, trivial⟩
        · intro L a wa hL hI hs hd
          have e1 : a.eval (.tmp 26) = .pointer (some ⟨p, 0, none⟩) := hd.1
          exact op_val _ (w' := wa) (by unfold execOp; simp only [e1]; go_simp) ⟨_, rfl, rfl, hI, trivial⟩
        · intro L a wa hL hI hs hd
          have e1 : a.eval (.tmp 27) = .pointer (some ⟨p, 3, none⟩) := hd.1
          have c0 := hI.r.b4.cell 3 _ rfl
          have hl := hI.r.plt
          exact op_val _ (w' := wa) (by unfold execOp; simp only [e1]; go_simp) ⟨_, rfl, rfl, hI, trivial⟩
        · intro L a wa hL hI hs hd
          have e1 : a.eval (.tmp 5) = .pointer (some ⟨p, 0, none⟩) := hs 5 (by kernel_rfl)
          exact op_val _ (w' := wa) (by unfold execOp; simp only [e1]; go_simp) ⟨_, rfl, rfl, hI, trivial⟩
        · intro L a wa hL hI hs hd
          have e1 : a.eval (.tmp 29) = .pointer (some ⟨p, 0, none⟩) := hd.1
          exact op_val _ (w' := wa) (by unfold execOp; simp only [e1]; go_simp) ⟨_, rfl, rfl, hI, trivial⟩
        · intro L a wa hL hI hs hd
          have e1 : a.eval (.tmp 30) = .pointer (some ⟨p, 0, none⟩) := hd.1
          exact op_val _ (w' := wa) (by unfold execOp; simp only [e1]; go_simp) ⟨_, rfl, rfl, hI, trivial⟩
        · intro L a wa hL hI hs hd
          have e1 : a.eval (.tmp 31) = .pointer (some ⟨p, 2, none⟩) := hd.1
          have c0 := hI.r.b4.cell 2 _ rfl
          have hl := hI.r.plt
          exact op_val _ (w' := wa) (by unfold execOp; simp only [e1]; go_simp) ⟨_, rfl, rfl, hI, trivial⟩
        · intro L a wa hL hI hs hd
          have e1 : a.eval (.tmp 2) = .pointer (some ⟨w.heap.size, 0, none⟩) := hs 2 (by kernel_rfl)
          have e2 : a.eval (.tmp 24) = .agg (List.toArray zero6) := hd.1
          have hb := hI.v.box
          have z0 := hb.froz 0
          have c0 := hb.cell 0 _ rfl
          have z1 := hb.froz 1
          have c1 := hb.cell 1 _ rfl
          have z2 := hb.froz 2
          have c2 := hb.cell 2 _ rfl
          have z3 := hb.froz 3
          have c3 := hb.cell 3 _ rfl
          have z4 := hb.froz 4
          have c4 := hb.cell 4 _ rfl
          have z5 := hb.froz 5
          have c5 := hb.cell 5 _ rfl
          have hl := hb.lt
          exact op_skip (w' := six wa w.heap.size (.int .i64 0) (.int .i64 0) (.int .i64 0) (.string ⟨#[]⟩) (.slice none 0 0) (.slice none 0 0)) (by unfold execOp; simp only [e1, e2, zero6, cells6]; go_simp; rfl) ⟨undef, rfl, trivial, hI.put, trivial⟩
        · intro L a wa hL hI hs hd
          have e1 : a.eval (.tmp 28) = .int .i64 wh := hd.1
          exact op_val _ (w' := wa) (by unfold execOp; simp only [e1]; go_simp) ⟨_, rfl, rfl, hI, trivial⟩
        · intro L a wa hL hI hs hd
          have e1 : a.eval (.tmp 32) = .int .i64 er := hd.1
          exact op_val _ (w' := wa) (by unfold execOp; simp only [e1]; go_simp) ⟨_, rfl, rfl, hI, trivial⟩
      · intro vs L W4 hL hI hall
        simp only [allHold, gives] at hall
        obtain ⟨h0, h1, h2, h3, h4, h5, h6, h7, h8, h9, h10, h11, _⟩ := hall
        simp only [putL]
        generalize vs 0 = v0 at *
        generalize vs 1 = v1 at *
        generalize vs 2 = v2 at *
        generalize vs 3 = v3 at *
        generalize vs 4 = v4 at *
        generalize vs 5 = v5 at *
        generalize vs 6 = v6 at *
        generalize vs 7 = v7 at *
        generalize vs 8 = v8 at *
        generalize vs 9 = v9 at *
        generalize vs 10 = v10 at *
        generalize vs 11 = v11 at *
        subst v0 v1 v2 v3 v4 v5 v6 v7 v8 v10 v11
        have HV4 := Keep.mk hI.v
        have HB4 := Keep.mk hI.b
        have r0 := HV4.out.box.cell 0 _ rfl
        have r1 := HV4.out.box.cell 1 _ rfl
        have r2 := HV4.out.box.cell 2 _ rfl
        have r3 := HV4.out.box.cell 3 _ rfl
        have r4 := HV4.out.box.cell 4 _ rfl
        have r5 := HV4.out.box.cell 5 _ rfl
        clear hI HE3
        go_wp2
        refine bodyPost_ret (v := .tuple #[.agg (List.toArray zero6), .int .i64 wh, .int .i64 er]) ?_ rfl ⟨zero6, by rw [HE.out, HWQ.out], by rw [HE.out]; exact zero_in _ _, HB4.out⟩
        simp [zero6, cells6, results, Tryz.results7, go_sem, r0, r1, r2, r3, r4, r5]
end Go.Proofs.YtbngjlkmpdccjaaGreatDoor
