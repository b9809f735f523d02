/- Lemmas and contracts for the laws ReadParses, ReadBytes, part 41 of 50: Ref6W. Conditions: those that each lemma names. -/
import Derived.Test.YtbngjlkmpdccjaaGreatDoorPack39
import Derived.Test.YtbngjlkmpdccjaaGreatDoorPack17
import Derived.Test.YtbngjlkmpdccjaaGreatDoorPack20
import Derived.Test.YtbngjlkmpdccjaaGreatDoorPack36
import Derived.Outline
namespace Go.Proofs.YtbngjlkmpdccjaaGreatDoor
open Go Go.RowKit Go.Proofs Th
attribute [local go_sem] Above.cell
theorem tokens_raw (l : List UInt8) : ∀ (f a : Nat), tokensV l f a = (rawV l f a).map tokR
  | 0, _ => rfl
  | f + 1, a => by
    simp only [tokensV, rawV]
    by_cases hc : (nextT l a).sign = 255 ∨ (nextT l a).e ≠ 0
    · rw [if_pos hc, if_pos hc]; rfl
    · rw [if_neg hc, if_neg hc, List.map_cons, tokens_raw l f]
      congr 1
      unfold tokR
      rw [if_neg (fun h => hc (Or.inl h))]
theorem tR_e (t : Tk) : (tokR t).e = t.e := by unfold tokR; split <;> rfl
theorem tR_at (t : Tk) : (tokR t).at_ = t.at_ := by unfold tokR; split <;> rfl
theorem tR_v (t : Tk) : (tokR t).k = t.k ∧ (tokR t).m = t.m ∧ (tokR t).x = t.x ∧ (tokR t).s = t.s := by unfold tokR; split <;> exact ⟨rfl, rfl, rfl, rfl⟩
theorem tR_sign (t : Tk) (x : Nat) (h1 : x ≠ 1) (h2 : x ≠ 255) : (tokR t).sign = x ↔ t.sign = x := by
  unfold tokR
  by_cases h : t.sign = 255
  · rw [if_pos h]
    constructor
    · intro h3; exact absurd h3.symm h1
    · intro h3; rw [h] at h3; exact absurd h3.symm h2
  · rw [if_neg h]
theorem tR_fault (t : Tk) (e : Int) : failE (tokR t) e = faultE t e := by unfold failE faultE; rw [tR_e]
theorem mk_len (rs : List Tk) : (rs.map tokR).length = rs.length := List.length_map _
theorem mk_at (rs : List Tk) (i : Nat) (hi : i < (rs.map tokR).length) : (rs.map tokR)[i] = tokR (rk rs i) := by
  rw [List.getElem_map, rk_at rs i (by simpa using hi)]
def ValR (l : List UInt8) (rs : List Tk) (d i : Nat) (W w' : World) (p g c : Nat) (wh : Int) (cs : List Value) : Prop :=
  (∃ v j, JIn w' (newIn W w') v cs ∧ i < j ∧ j < rs.length ∧ RD w' p g c (rs.map tokR) j 0 wh ∧ Goes l rs d i j (fun st _ => (.off, st, v)) ∧ depthJ v + d ≤ 96) ∨
  (∃ (e : Int) (w j : Nat), e ≠ 0 ∧ JIn w' (newIn W w') zeroJ cs ∧ RD w' p g c (rs.map tokR) j e w ∧ Fails l rs d i w e)
theorem fault_ne (t : Tk) {e : Int} (h : e ≠ 0) : faultE t e ≠ 0 := by unfold faultE; split <;> assumption
theorem six_grown (W : World) (g : Nat) (b0 b1 b2 b3 b4 b5 : Value) : W.grownBy (six W g b0 b1 b2 b3 b4 b5) (some g) :=
  grownp_trans (grownp_trans (grownp_trans (grownp_trans (grownp_trans (set_grown W g 0 b0) (set_grown _ g 1 b1)) (set_grown _ g 2 b2)) (set_grown _ g 3 b3)) (set_grown _ g 4 b4)) (set_grown _ g 5 b5)
theorem grown_new {w a b : World} {p q : Nat} (h : w.grownBy a (some p)) (k : a.grownBy b (some q)) (hq : w.heap.size ≤ q) : w.grownBy b (some p) :=
  ⟨k.os.trans h.os, k.tape.trans h.tape, k.output.trans h.output, Nat.le_trans h.size k.size, fun j hj hn => (k.block j (Nat.lt_of_lt_of_le hj h.size) (fun e => by injection e with e; omega)).trans (h.block j hj hn)⟩
set_option maxRecDepth 100000 in
set_option maxHeartbeats 4000000 in
theorem value_bad (l : List UInt8) (rs : List Tk) (hlen : rs.length ≤ 1000000) (d i : Nat) (hi : i < rs.length) (_hd : d ≤ 48) (h : (rk rs i).e ≠ 0 ∨ ((rk rs i).sign ≠ 0 ∧ (rk rs i).sign ≠ 91 ∧ (rk rs i).sign ≠ 123)) (W : World) (p g c : Nat) (wh : Int) (hR : RD W p g c (rs.map tokR) i 0 wh) :
    Calls Tryz.prog 15 #[.pointer (some ⟨p, 0, none⟩), .int .i64 d] W fun r w' => ∃ cs, r = .returned (.agg (List.toArray cs)) ∧ W.grownBy w' (some p) ∧ ValR l rs d i W w' p g c wh cs := by
  have hi2 : i < (rs.map tokR).length := by rw [mk_len]; exact hi
  have hl2 : (rs.map tokR).length ≤ 1000000 := by rw [mk_len]; exact hlen
  have hmk := mk_at rs i hi2
  have HFA := Keep.mk (fail_val (l := l) (d := d) hi h)
  have hbz : ∀ x, x = 91 ∨ x = 123 → (decide ((rs.map tokR)[i].e = 0) && decide ((rs.map tokR)[i].sign = x)) = false := by
    intro x hx
    rw [← Bool.decide_and]
    refine decide_eq_false ?_
    rw [hmk, tR_e, tR_sign _ _ (by omega) (by omega)]
    rintro ⟨h1, h2⟩
    rcases h with h | h
    · exact h h1
    · rcases hx with rfl | rfl
      · exact h.2.1 h2
      · exact h.2.2 h2
  have HI1 := Keep.mk (fun (W' : World) (hr : RD W' p g c (rs.map tokR) i 0 wh) => (ref6_is hr hi2 hl2 91 (by decide)))
  have HI2 := Keep.mk (fun (W' : World) (hr : RD W' p g c (rs.map tokR) i 0 wh) => (ref6_is hr hi2 hl2 123 (by decide)))
  rw [hbz 91 (Or.inl rfl)] at HI1
  rw [hbz 123 (Or.inr rfl)] at HI2
  have HFL := Keep.mk (fun (W' : World) (hr : RD W' p g c (rs.map tokR) i 0 wh) => ref6_fail hr hi2 hl2 60)
  rw [hmk, tR_fault, tR_at] at HFL
  have HE := Keep.mk (fun (W' : World) (hr : RD W' p g c (rs.map tokR) i 0 wh) => hr.err hi2)
  have HSG := Keep.mk (fun (W' : World) (hr : RD W' p g c (rs.map tokR) i 0 wh) => hr.sign hi2)
  rw [hmk, tR_e] at HE
  rw [hmk] at HSG
  have hil : (i : Int) < ((rs.map tokR).length : Int) := by omega
  have hcase : ((rk rs i).e != 0) = true ∨ (((rk rs i).e != 0) = false ∧ (((tokR (rk rs i)).sign : Int) != 0) = true) := by
    by_cases h0 : (rk rs i).e = 0
    · right
      refine ⟨by rw [h0]; rfl, ?_⟩
      have h2 := (h.resolve_left (fun h1 => h1 h0)).1
      have h3 : (tokR (rk rs i)).sign ≠ 0 := fun h4 => h2 ((tR_sign _ 0 (by decide) (by decide)).1 h4)
      simp; omega
    · left; simpa using h0
  have HFN := Keep.mk (fault_ne (rk rs i) (e := 60) (by decide))
  clear h hmk hbz
  generalize rk rs i = t at *
  generalize (tokR t).sign = sg at *
  generalize (rs.map tokR).length = n at *
  have HR := Keep.mk hR
  clear hR
  rcases hcase with hc | ⟨hc, hc2⟩
  all_goals
    go_enter Tryz.func15, Tryz.ntmps15
    go_upto_region 1 with fail
    refine wp_world (fun W' => VBlkT W' W.heap.size zero6 ∧ RD W' p g c (rs.map tokR) i 0 wh ∧ W.grownBy W' (some p)) ⟨VBlkT.new zero6 rfl, HR.out.below (al1 _ _), below_grown (al1 _ _)⟩ ?_
    have hpw := HR.out.plt
    have hgw := HR.out.glt
    clear HR
    rintro W1 ⟨HV, HR, HB⟩
    replace HV := Keep.mk HV
    replace HR := Keep.mk HR
    replace HB := Keep.mk HB
    have b2 := HR.out.b4.cell 2 _ rfl
    have pl := HR.out.plt
    go_wp2_with fail
    refine (HI1.out _ HR.out).mono ?_
    rintro r W2 ⟨rfl, hb2⟩
    replace HV := Keep.mk (show VBlkT W2 W.heap.size zero6 from (hb2.block _ (lt_of_block HV.out)).trans HV.out)
    replace HR := Keep.mk (HR.out.below hb2)
    replace HB := Keep.mk (grownp_trans HB.out (below_grown (row := some p) hb2))
    clear hb2 b2 pl
    go_wp2_with fail
    refine (HI2.out _ HR.out).mono ?_
    rintro r W3 ⟨rfl, hb3⟩
    replace HV := Keep.mk (show VBlkT W3 W.heap.size zero6 from (hb3.block _ (lt_of_block HV.out)).trans HV.out)
    replace HR := Keep.mk (HR.out.below hb3)
    replace HB := Keep.mk (grownp_trans HB.out (below_grown (row := some p) hb3))
    clear hb3
    have b0 := HR.out.b4.cell 0 _ rfl
    have b1 := HR.out.b4.cell 1 _ rfl
    have c8 := HE.out _ HR.out
    have c0 := HSG.out _ HR.out
    have pl := HR.out.plt
    have gl := HR.out.glt
    go_upto_region 5 with fail
    refine wp_region_above (by kernel_rfl) (by kernel_rfl) ?_
    repeat (go_big_quiet_step (fail))
    refine wpQuiet_nil ?_
    rintro _ ⟨⟨W4, hb4⟩, rfl⟩
    replace HV := Keep.mk (show VBlkT _ W.heap.size zero6 from (hb4.block _ (lt_of_block HV.out)).trans HV.out)
    replace HR := Keep.mk (HR.out.below hb4)
    replace HB := Keep.mk (grownp_trans HB.out (below_grown (row := some p) hb4))
    clear hb4 b0 b1 c8 c0 pl gl
    go_wp2_with fail
    refine (HFL.out _ HR.out).mono ?_
    rintro r W5 ⟨rfl, hr5, hb5⟩
    have HV5 := Keep.mk (show VBlkT W5 W.heap.size zero6 from (hb5.block _ (lt_of_block HV.out) (fun e => by injection e with e; omega)).trans HV.out)
    have HR5 := Keep.mk hr5
    have HB5 := Keep.mk (grownp_trans HB.out hb5)
    clear hr5 hb5 HV HR HB
    have r0 := HV5.out.box.cell 0 _ rfl
    have r1 := HV5.out.box.cell 1 _ rfl
    have r2 := HV5.out.box.cell 2 _ rfl
    have r3 := HV5.out.box.cell 3 _ rfl
    have r4 := HV5.out.box.cell 4 _ rfl
    have r5 := HV5.out.box.cell 5 _ rfl
    have z0 := HV5.out.box.froz 0
    have z1 := HV5.out.box.froz 1
    have z2 := HV5.out.box.froz 2
    have z3 := HV5.out.box.froz 3
    have z4 := HV5.out.box.froz 4
    have z5 := HV5.out.box.froz 5
    have hrl := HV5.out.box.lt
    have HRE := Keep.mk (HR5.out.keep (W' := six W5 W.heap.size (.int .i64 0) (.int .i64 0) (.int .i64 0) (.string ⟨#[]⟩) (.slice none 0 0) (.slice none 0 0)) (six_other _ _ _ _ _ _ _ _ _ (by omega)) (six_other _ _ _ _ _ _ _ _ _ (by omega)) (by simp [six]))
    have HBE := Keep.mk (grown_new HB5.out (six_grown W5 W.heap.size (.int .i64 0) (.int .i64 0) (.int .i64 0) (.string ⟨#[]⟩) (.slice none 0 0) (.slice none 0 0)) (Nat.le_refl _))
    go_wp2
    refine bodyPost_ret (v := .agg (List.toArray zero6)) ?_ rfl ⟨zero6, rfl, HBE.out, Or.inr ⟨_, _, _, HFN.out, zero_in _ _, HRE.out, HFA.out⟩⟩
    simp [zero6, cells6, results, Tryz.results15, go_sem, r0, r1, r2, r3, r4, r5]
theorem leaf_in {l : List UInt8} {rs : List Tk} (hO : RsOk l rs) (hll : l.length ≤ 1000000) {i : Nat} (hi : i < rs.length) (he : (rk rs i).e = 0) (hs : (rk rs i).sign = 0) (W : World) (S : Nat → Prop) :
    JIn W S (rk rs i).v (cells6 (rk rs i).k (rk rs i).m (rk rs i).x (rk rs i).s none 0 0 none 0 0) := by
  rw [rk_at rs i hi] at *
  obtain ⟨a, ha, e⟩ := hO.all i hi
  rw [e] at he hs ⊢
  have h1 := tok_i64 l a
  have h2 := nextT_weight l a he (by rw [hs]; decide)
  have h3 := (nextT_to l a ha).1
  exact JIn.shut (l := []) (ks := []) h1.1 h1.2.1 h1.2.2 (by omega) (StrsIn.none_ _ _) (ValsIn.none_ _ _)
set_option maxRecDepth 100000 in
set_option maxHeartbeats 4000000 in
theorem value_deep (l : List UInt8) (rs : List Tk) (hlen : rs.length ≤ 1000000) (i : Nat) (hi : i < rs.length) (he : (rk rs i).e = 0) (hs : (rk rs i).sign = 0 ∨ (rk rs i).sign = 91 ∨ (rk rs i).sign = 123) (W : World) (p g c : Nat) (wh : Int) (hR : RD W p g c (rs.map tokR) i 0 wh) :
    Calls Tryz.prog 15 #[.pointer (some ⟨p, 0, none⟩), .int .i64 48] W fun r w' => ∃ cs, r = .returned (.agg (List.toArray cs)) ∧ W.grownBy w' (some p) ∧ ValR l rs 48 i W w' p g c wh cs := by
  have hi2 : i < (rs.map tokR).length := by rw [mk_len]; exact hi
  have hl2 : (rs.map tokR).length ≤ 1000000 := by rw [mk_len]; exact hlen
  have hmk := mk_at rs i hi2
  have hflag : ∀ x, x = 91 ∨ x = 123 → (decide ((rs.map tokR)[i].e = 0) && decide ((rs.map tokR)[i].sign = x)) = decide ((rk rs i).sign = x) := by
    intro x hx
    rw [hmk, tR_e, decide_eq_true he, Bool.true_and]
    exact decide_eq_decide.2 (tR_sign _ _ (by omega) (by omega))
  have HI1 := Keep.mk (fun (W' : World) (hr : RD W' p g c (rs.map tokR) i 0 wh) => (ref6_is hr hi2 hl2 91 (by decide)))
  have HI2 := Keep.mk (fun (W' : World) (hr : RD W' p g c (rs.map tokR) i 0 wh) => (ref6_is hr hi2 hl2 123 (by decide)))
  rw [hflag 91 (Or.inl rfl)] at HI1
  rw [hflag 123 (Or.inr rfl)] at HI2
  have HE := Keep.mk (fun (W' : World) (hr : RD W' p g c (rs.map tokR) i 0 wh) => hr.err hi2)
  have HSG := Keep.mk (fun (W' : World) (hr : RD W' p g c (rs.map tokR) i 0 wh) => hr.sign hi2)
  rw [hmk, tR_e, he] at HE
  rw [hmk] at HSG
  have hil : (i : Int) < ((rs.map tokR).length : Int) := by omega
  have HFA := Keep.mk (fail_deep (l := l) hi he hs)
  have HFL := Keep.mk (fun (W' : World) (hr : RD W' p g c (rs.map tokR) i 0 wh) => ref6_fail hr hi2 hl2 31)
  rw [hmk, tR_fault, tR_at] at HFL
  have HFN := Keep.mk (fault_ne (rk rs i) (e := 31) (by decide))
  have hcase : ((rk rs i).sign = 0 ∧ (tokR (rk rs i)).sign = 0) ∨ ((rk rs i).sign = 91 ∧ (tokR (rk rs i)).sign = 91) ∨ ((rk rs i).sign = 123 ∧ (tokR (rk rs i)).sign = 123) := by
    rcases hs with h | h | h
    · exact Or.inl ⟨h, (tR_sign _ _ (by decide) (by decide)).2 h⟩
    · exact Or.inr (Or.inl ⟨h, (tR_sign _ _ (by decide) (by decide)).2 h⟩)
    · exact Or.inr (Or.inr ⟨h, (tR_sign _ _ (by decide) (by decide)).2 h⟩)
  have HR := Keep.mk hR
  clear hR hs hmk hflag he
  generalize faultE (rk rs i) 31 = fe at *
  generalize (rk rs i).at_ = fa at *
  generalize (rs.map tokR).length = n at *
  rcases hcase with ⟨h1, h2⟩ | ⟨h1, h2⟩ | ⟨h1, h2⟩
  all_goals
    rw [h1] at HI1 HI2
    rw [h2] at HSG
    clear h1 h2
    go_enter Tryz.func15, Tryz.ntmps15
    go_upto_region 1 with fail
    refine wp_world (fun W' => VBlkT W' W.heap.size zero6 ∧ RD W' p g c (rs.map tokR) i 0 wh ∧ W.grownBy W' (some p)) ⟨VBlkT.new zero6 rfl, HR.out.below (al1 _ _), below_grown (al1 _ _)⟩ ?_
    have hpw := HR.out.plt
    have hgw := HR.out.glt
    clear HR
    rintro W1 ⟨HV, HR, HB⟩
    replace HV := Keep.mk HV
    replace HR := Keep.mk HR
    replace HB := Keep.mk HB
    have b2 := HR.out.b4.cell 2 _ rfl
    have pl := HR.out.plt
    go_wp2_with fail
    refine (HI1.out _ HR.out).mono ?_
    rintro r W2 ⟨rfl, hb2⟩
    replace HV := Keep.mk (show VBlkT W2 W.heap.size zero6 from (hb2.block _ (lt_of_block HV.out)).trans HV.out)
    replace HR := Keep.mk (HR.out.below hb2)
    replace HB := Keep.mk (grownp_trans HB.out (below_grown (row := some p) hb2))
    clear hb2 b2 pl
    go_wp2_with fail
    refine (HI2.out _ HR.out).mono ?_
    rintro r W3 ⟨rfl, hb3⟩
    replace HV := Keep.mk (show VBlkT W3 W.heap.size zero6 from (hb3.block _ (lt_of_block HV.out)).trans HV.out)
    replace HR := Keep.mk (HR.out.below hb3)
    replace HB := Keep.mk (grownp_trans HB.out (below_grown (row := some p) hb3))
    clear hb3
    have b0 := HR.out.b4.cell 0 _ rfl
    have b1 := HR.out.b4.cell 1 _ rfl
    have c8 := HE.out _ HR.out
    have c0 := HSG.out _ HR.out
    have pl := HR.out.plt
    have gl := HR.out.glt
    go_upto_region 5 with fail
    refine wp_region_above (by kernel_rfl) (by kernel_rfl) ?_
    repeat (go_big_quiet_step (fail))
    refine wpQuiet_nil ?_
    rintro _ ⟨⟨W4, hb4⟩, rfl⟩
    replace HV := Keep.mk (show VBlkT _ W.heap.size zero6 from (hb4.block _ (lt_of_block HV.out)).trans HV.out)
    replace HR := Keep.mk (HR.out.below hb4)
    replace HB := Keep.mk (grownp_trans HB.out (below_grown (row := some p) hb4))
    clear hb4 b0 b1 c8 c0 pl gl
    go_wp2_with fail
    refine (HFL.out _ HR.out).mono ?_
    rintro r W5 ⟨rfl, hr5, hb5⟩
    have HV5 := Keep.mk (show VBlkT W5 W.heap.size zero6 from (hb5.block _ (lt_of_block HV.out) (fun e => by injection e with e; omega)).trans HV.out)
    have HR5 := Keep.mk hr5
    have HB5 := Keep.mk (grownp_trans HB.out hb5)
    clear hr5 hb5 HV HR HB
    have r0 := HV5.out.box.cell 0 _ rfl
    have z0 := HV5.out.box.froz 0
    have r1 := HV5.out.box.cell 1 _ rfl
    have z1 := HV5.out.box.froz 1
    have r2 := HV5.out.box.cell 2 _ rfl
    have z2 := HV5.out.box.froz 2
    have r3 := HV5.out.box.cell 3 _ rfl
    have z3 := HV5.out.box.froz 3
    have r4 := HV5.out.box.cell 4 _ rfl
    have z4 := HV5.out.box.froz 4
    have r5 := HV5.out.box.cell 5 _ rfl
    have z5 := HV5.out.box.froz 5
    have hrl := HV5.out.box.lt
    have HRE := Keep.mk (HR5.out.keep (W' := six W5 W.heap.size (.int .i64 0) (.int .i64 0) (.int .i64 0) (.string ⟨#[]⟩) (.slice none 0 0) (.slice none 0 0)) (six_other _ _ _ _ _ _ _ _ _ (by omega)) (six_other _ _ _ _ _ _ _ _ _ (by omega)) (by simp [six]))
    have HBE := Keep.mk (grown_new HB5.out (six_grown W5 W.heap.size (.int .i64 0) (.int .i64 0) (.int .i64 0) (.string ⟨#[]⟩) (.slice none 0 0) (.slice none 0 0)) (Nat.le_refl _))
    go_wp2
    refine bodyPost_ret (v := .agg (List.toArray zero6)) ?_ rfl ⟨zero6, rfl, HBE.out, Or.inr ⟨_, _, _, HFN.out, zero_in _ _, HRE.out, HFA.out⟩⟩
    simp [zero6, cells6, results, Tryz.results15, go_sem, r0, r1, r2, r3, r4, r5]
set_option maxRecDepth 100000 in
set_option maxHeartbeats 4000000 in
theorem value_leaf (l : List UInt8) (rs : List Tk) (hO : RsOk l rs) (hlen : rs.length ≤ 1000000) (hll : l.length ≤ 1000000) (d i : Nat) (hi : i < rs.length) (hd : d < 48) (he : (rk rs i).e = 0) (hs : (rk rs i).sign = 0) (W : World) (p g c : Nat) (wh : Int) (hR : RD W p g c (rs.map tokR) i 0 wh) :
    Calls Tryz.prog 15 #[.pointer (some ⟨p, 0, none⟩), .int .i64 d] W fun r w' => ∃ cs, r = .returned (.agg (List.toArray cs)) ∧ W.grownBy w' (some p) ∧ ValR l rs d i W w' p g c wh cs := by
  have hi2 : i < (rs.map tokR).length := by rw [mk_len]; exact hi
  have hl2 : (rs.map tokR).length ≤ 1000000 := by rw [mk_len]; exact hlen
  have hmk := mk_at rs i hi2
  have hflag : ∀ x, x = 91 ∨ x = 123 → (decide ((rs.map tokR)[i].e = 0) && decide ((rs.map tokR)[i].sign = x)) = decide ((rk rs i).sign = x) := by
    intro x hx
    rw [hmk, tR_e, decide_eq_true he, Bool.true_and]
    exact decide_eq_decide.2 (tR_sign _ _ (by omega) (by omega))
  have HI1 := Keep.mk (fun (W' : World) (hr : RD W' p g c (rs.map tokR) i 0 wh) => (ref6_is hr hi2 hl2 91 (by decide)))
  have HI2 := Keep.mk (fun (W' : World) (hr : RD W' p g c (rs.map tokR) i 0 wh) => (ref6_is hr hi2 hl2 123 (by decide)))
  rw [hflag 91 (Or.inl rfl)] at HI1
  rw [hflag 123 (Or.inr rfl)] at HI2
  have HE := Keep.mk (fun (W' : World) (hr : RD W' p g c (rs.map tokR) i 0 wh) => hr.err hi2)
  have HSG := Keep.mk (fun (W' : World) (hr : RD W' p g c (rs.map tokR) i 0 wh) => hr.sign hi2)
  rw [hmk, tR_e, he] at HE
  rw [hmk] at HSG
  have hil : (i : Int) < ((rs.map tokR).length : Int) := by omega
  obtain ⟨hi1, hgo⟩ := go_tok hO (d := d) hi (by omega) he hs
  have HGO := Keep.mk hgo
  have HDP := Keep.mk (show depthJ (rk rs i).v + d ≤ 96 by show 1 + 0 + d ≤ 96; omega)
  have HJ := Keep.mk (fun (W' : World) (S : Nat → Prop) => leaf_in hO hll hi he hs W' S)
  have HTV := Keep.mk (tR_v (rk rs i))
  have HTK := Keep.mk (fun (W' : World) (er : Int) (j : Nat) (hr : RD W' p g c (rs.map tokR) j er wh) => hr.tok i hi2)
  rw [hmk] at HTK
  have hsg : (tokR (rk rs i)).sign = 0 := (tR_sign _ _ (by decide) (by decide)).2 hs
  rw [hs] at HI1 HI2
  rw [hsg] at HSG
  have HR := Keep.mk hR
  clear hR hs hmk hflag he hsg hgo
  obtain ⟨e1, e2, e3, e4⟩ := HTV.out
  have HTK2 := Keep.mk (fun (W' : World) (er : Int) (j : Nat) (hr : RD W' p g c (rs.map tokR) j er wh) (k : Nat) (v : Value) (hk : k < 6) (hv : (cells6 (rk rs i).k (rk rs i).m (rk rs i).x (rk rs i).s none 0 0 none 0 0)[k]? = some v) => show W'.cell? ⟨g, i * 9 + 1 + k, none⟩ = some v by
    have h0 := HTK.out W' er j hr (1 + k) v (by
      unfold tok9
      rw [e1, e2, e3, e4]
      unfold cells6 at hv
      have : k = 0 ∨ k = 1 ∨ k = 2 ∨ k = 3 ∨ k = 4 ∨ k = 5 := by omega
      rcases this with rfl | rfl | rfl | rfl | rfl | rfl <;> exact hv)
    rw [show i * 9 + 1 + k = i * 9 + (1 + k) by omega]
    exact h0)
  clear e1 e2 e3 e4 HTV HTK
  generalize (rk rs i).v = tv at *
  generalize (rk rs i).k = tk at *
  generalize (rk rs i).m = tm at *
  generalize (rk rs i).x = tx at *
  generalize (rk rs i).s = tsx at *
  have hib : (i : Int) < 1000000 := by omega
  have hlm : (rs.map tokR).length = rs.length := mk_len rs
  generalize hnn : (rs.map tokR).length = n at *
  have hd48 : ((d : Int) == 48) = false := by rw [beq_eq_false_iff_ne]; omega
  · skip
    go_enter Tryz.func15, Tryz.ntmps15
    go_upto_region 1 with fail
    refine wp_world (fun W' => VBlkT W' W.heap.size zero6 ∧ RD W' p g c (rs.map tokR) i 0 wh ∧ W.grownBy W' (some p)) ⟨VBlkT.new zero6 rfl, HR.out.below (al1 _ _), below_grown (al1 _ _)⟩ ?_
    have hpw := HR.out.plt
    have hgw := HR.out.glt
    clear HR
    rintro W1 ⟨HV, HR, HB⟩
    replace HV := Keep.mk HV
    replace HR := Keep.mk HR
    replace HB := Keep.mk HB
    have b2 := HR.out.b4.cell 2 _ rfl
    have pl := HR.out.plt
    go_wp2_with fail
    refine (HI1.out _ HR.out).mono ?_
    rintro r W2 ⟨rfl, hb2⟩
    replace HV := Keep.mk (show VBlkT W2 W.heap.size zero6 from (hb2.block _ (lt_of_block HV.out)).trans HV.out)
    replace HR := Keep.mk (HR.out.below hb2)
    replace HB := Keep.mk (grownp_trans HB.out (below_grown (row := some p) hb2))
    clear hb2 b2 pl
    go_wp2_with fail
    refine (HI2.out _ HR.out).mono ?_
    rintro r W3 ⟨rfl, hb3⟩
    replace HV := Keep.mk (show VBlkT W3 W.heap.size zero6 from (hb3.block _ (lt_of_block HV.out)).trans HV.out)
    replace HR := Keep.mk (HR.out.below hb3)
    replace HB := Keep.mk (grownp_trans HB.out (below_grown (row := some p) hb3))
    clear hb3
    have b0 := HR.out.b4.cell 0 _ rfl
    have b1 := HR.out.b4.cell 1 _ rfl
    have c8 := HE.out _ HR.out
    have c0 := HSG.out _ HR.out
    have pl := HR.out.plt
    have gl := HR.out.glt
    go_upto_region 5 with fail
    refine wp_region_above (by kernel_rfl) (by kernel_rfl) ?_
    repeat (go_big_quiet_step (fail))
    refine wpQuiet_nil ?_
    rintro _ ⟨⟨W4, hb4⟩, rfl⟩
    replace HV := Keep.mk (show VBlkT _ W.heap.size zero6 from (hb4.block _ (lt_of_block HV.out)).trans HV.out)
    replace HR := Keep.mk (HR.out.below hb4)
    replace HB := Keep.mk (grownp_trans HB.out (below_grown (row := some p) hb4))
    clear hb4 b0 b1 c8 c0 pl gl
    have b1 := HR.out.b4.cell 1 _ rfl
    have f1 := HR.out.b4.froz 1
    have pl := HR.out.plt
    go_upto_region 13 with fail
    refine wp_world (fun W' => VBlkT W' W.heap.size zero6 ∧ RD W' p g c (rs.map tokR) (i + 1) 0 wh ∧ W.grownBy W' (some p)) ⟨HV.out.other (by omega) _ _, HR.out.set_i (i + 1), grownp_trans HB.out (set_grown _ p 1 _)⟩ ?_
    clear HV HR HB b1 f1 pl
    rintro W5 ⟨HV, HR, HB⟩
    replace HV := Keep.mk HV
    replace HR := Keep.mk HR
    replace HB := Keep.mk HB
    have b0 := HR.out.b4.cell 0 _ rfl
    have b1 := HR.out.b4.cell 1 _ rfl
    have pl := HR.out.plt
    have gl := HR.out.glt
    have t0 := HTK2.out _ _ _ HR.out 0 _ (by decide) rfl
    have t1 := HTK2.out _ _ _ HR.out 1 _ (by decide) rfl
    have t2 := HTK2.out _ _ _ HR.out 2 _ (by decide) rfl
    have t3 := HTK2.out _ _ _ HR.out 3 _ (by decide) rfl
    have t4 := HTK2.out _ _ _ HR.out 4 _ (by decide) rfl
    have t5 := HTK2.out _ _ _ HR.out 5 _ (by decide) rfl
    refine wp_region_tail 12 (Below.refl _ _) (by kernel_rfl) (by kernel_rfl) ?_
    simp only [List.take_succ_cons, List.take_zero, List.drop_succ_cons, List.drop_zero]
    repeat (go_big_quiet_step (fail))
    refine wpQuiet_nil ?_
    rintro _ ⟨⟨W6, hb6⟩, rfl⟩
    have HV5 := Keep.mk (show VBlkT _ W.heap.size zero6 from (hb6.block _ (lt_of_block HV.out)).trans HV.out)
    have HR5 := Keep.mk (HR.out.below hb6)
    have HB5 := Keep.mk (grownp_trans HB.out (below_grown (row := some p) hb6))
    clear hb6 b0 b1 pl gl t0 t1 t2 t3 t4 t5 HV HR HB
    have r0 := HV5.out.box.cell 0 _ rfl
    have z0 := HV5.out.box.froz 0
    have r1 := HV5.out.box.cell 1 _ rfl
    have z1 := HV5.out.box.froz 1
    have r2 := HV5.out.box.cell 2 _ rfl
    have z2 := HV5.out.box.froz 2
    have r3 := HV5.out.box.cell 3 _ rfl
    have z3 := HV5.out.box.froz 3
    have r4 := HV5.out.box.cell 4 _ rfl
    have z4 := HV5.out.box.froz 4
    have r5 := HV5.out.box.cell 5 _ rfl
    have z5 := HV5.out.box.froz 5
    have hrl := HV5.out.box.lt
    have HRE := Keep.mk (fun (W5 : World) (hr : RD W5 p g c (rs.map tokR) (i + 1) 0 wh) => hr.keep (W' := six W5 W.heap.size (.int .i64 tk) (.int .i64 tm) (.int .i64 tx) (.string tsx) (.slice none 0 0) (.slice none 0 0)) (six_other _ _ _ _ _ _ _ _ _ (by omega)) (six_other _ _ _ _ _ _ _ _ _ (by omega)) (by simp [six]))
    have HBE := Keep.mk (fun (W5 : World) (hb : W.grownBy W5 (some p)) => grown_new hb (six_grown W5 W.heap.size (.int .i64 tk) (.int .i64 tm) (.int .i64 tx) (.string tsx) (.slice none 0 0) (.slice none 0 0)) (Nat.le_refl _))
    go_wp2
    refine bodyPost_ret (v := .agg (List.toArray (cells6 tk tm tx tsx none 0 0 none 0 0))) ?_ rfl ⟨_, rfl, HBE.out _ HB5.out, Or.inl ⟨_, i + 1, HJ.out _ _, by omega, by omega, HRE.out _ HR5.out, HGO.out, HDP.out⟩⟩
    simp [cells6, results, Tryz.results15, go_sem, r0, r1, r2, r3, r4, r5]
end Go.Proofs.YtbngjlkmpdccjaaGreatDoor
