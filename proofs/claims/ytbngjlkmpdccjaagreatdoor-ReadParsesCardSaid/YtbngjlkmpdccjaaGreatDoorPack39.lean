/- Lemmas and contracts for the laws ReadParses, ReadBytes, part 39 of 50: Ref6V. Conditions: those that each lemma names. -/
import Derived.Test.YtbngjlkmpdccjaaGreatDoorPack36
import Derived.Outline
namespace Go.Proofs.YtbngjlkmpdccjaaGreatDoor
open Go Go.RowKit Go.Proofs Th
attribute [local go_sem] Above.cell
structure RD (W : World) (p g c : Nat) (ts : List Tk) (i : Nat) (er wh : Int) : Prop where
  box : W.heap[p]? = some (.cells #[.slice (some ⟨g, 0, none⟩) ts.length c, .int .i64 i, .int .i64 er, .int .i64 wh] 57 (0, 0))
  tok : ∀ j (h : j < ts.length) k v, (tok9 ts[j])[k]? = some v → W.cell? ⟨g, j * 9 + k, none⟩ = some v
  ne : p ≠ g
  glt : g < W.heap.size
theorem RD.plt {W : World} {p g c : Nat} {ts : List Tk} {i : Nat} {er wh : Int} (h : RD W p g c ts i er wh) : p < W.heap.size := lt_of_block h.box
theorem RD.b4 {W : World} {p g c : Nat} {ts : List Tk} {i : Nat} {er wh : Int} (h : RD W p g c ts i er wh) : Box W p [.slice (some ⟨g, 0, none⟩) ts.length c, .int .i64 i, .int .i64 er, .int .i64 wh] := by
  have hb := h.box
  refine ⟨fun k v hv => ?_, fun k => ?_, h.plt⟩
  · unfold World.cell?
    simp only [hb]
    simpa using hv
  · unfold World.frozen?
    simp only [hb]
    simp
theorem RD.keep {W W' : World} {p g c : Nat} {ts : List Tk} {i : Nat} {er wh : Int} (h : RD W p g c ts i er wh) (hp : W'.heap[p]? = W.heap[p]?) (hg : W'.heap[g]? = W.heap[g]?) (hs : W.heap.size ≤ W'.heap.size) : RD W' p g c ts i er wh :=
  ⟨hp.trans h.box, fun j hj k v hv => (World.cell?_of_block (a := ⟨g, j * 9 + k, none⟩) hg).trans (h.tok j hj k v hv), h.ne, Nat.lt_of_lt_of_le h.glt hs⟩
theorem RD.below {W W' : World} {p g c : Nat} {ts : List Tk} {i : Nat} {er wh : Int} (h : RD W p g c ts i er wh) (hb : Below W.heap.size W W') : RD W' p g c ts i er wh :=
  h.keep (hb.block _ h.plt) (hb.block _ h.glt) hb.size
theorem RD.one {W : World} {p g c : Nat} {ts : List Tk} {i : Nat} {er wh : Int} (h : RD W p g c ts i er wh) (x : Nat) (er' wh' : Int) (k : Nat) (v : Value)
    (hv : #[Value.slice (some ⟨g, 0, none⟩) ts.length c, .int .i64 i, .int .i64 er, .int .i64 wh].setIfInBounds k v = #[.slice (some ⟨g, 0, none⟩) ts.length c, .int .i64 x, .int .i64 er', .int .i64 wh']) : RD (W.setCell ⟨p, k, none⟩ v) p g c ts x er' wh' := by
  have hg : (W.setCell ⟨p, k, none⟩ v).heap[g]? = W.heap[g]? := by
    unfold World.setCell
    simp [Array.getElem?_modify, h.ne]
  refine ⟨?_, fun j hj q u hu => (World.cell?_of_block (a := ⟨g, j * 9 + q, none⟩) hg).trans (h.tok j hj q u hu), h.ne, by simpa using h.glt⟩
  rw [heap_setCell_same W p k _ _ v h.box, hv]
theorem below_grown {w w' : World} {row : Option Nat} (h : Below w.heap.size w w') : w.grownBy w' row := ⟨h.os, h.tape, h.output, h.size, fun k hk _ => h.block k hk⟩
theorem set_grown (W : World) (p k : Nat) (v : Value) : W.grownBy (W.setCell ⟨p, k, none⟩ v) (some p) := by
  refine ⟨rfl, rfl, rfl, by simp, fun b _ hb => ?_⟩
  unfold World.setCell
  have : p ≠ b := fun e => hb (by rw [e])
  simp [Array.getElem?_modify, this]
theorem RD.sign {W : World} {p g c : Nat} {ts : List Tk} {i : Nat} {er wh : Int} (h : RD W p g c ts i er wh) (hi : i < ts.length) : W.cell? ⟨g, i * 9, none⟩ = some (.int .u8 ts[i].sign) := h.tok i hi 0 _ rfl
theorem RD.at_ {W : World} {p g c : Nat} {ts : List Tk} {i : Nat} {er wh : Int} (h : RD W p g c ts i er wh) (hi : i < ts.length) : W.cell? ⟨g, i * 9 + 7, none⟩ = some (.int .i64 ts[i].at_) := h.tok i hi 7 _ rfl
theorem RD.err {W : World} {p g c : Nat} {ts : List Tk} {i : Nat} {er wh : Int} (h : RD W p g c ts i er wh) (hi : i < ts.length) : W.cell? ⟨g, i * 9 + 8, none⟩ = some (.int .i64 ts[i].e) := h.tok i hi 8 _ rfl
set_option maxRecDepth 100000 in
theorem ref6_is {W : World} {p g c : Nat} {ts : List Tk} {i : Nat} {er wh : Int} (h : RD W p g c ts i er wh) (hi : i < ts.length) (_hl : ts.length ≤ 1000000) (x : Nat) (_hx : x < 256) : Calls Tryz.prog 24 #[.pointer (some ⟨p, 0, none⟩), .int .u8 x] W fun r w' =>
    r = .returned (.bool (decide (ts[i].e = 0) && decide (ts[i].sign = x))) ∧ Below W.heap.size W w' := by
  have b0 := h.b4.cell 0 _ rfl
  have b1 := h.b4.cell 1 _ rfl
  have pl := h.plt
  have gl := h.glt
  have c0 := h.sign hi
  have c8 := h.err hi
  have hil : (i : Int) < (ts.length : Int) := by omega
  generalize ts[i] = t at *
  obtain ⟨sg, k, m, x2, ts2, ta, tt, te⟩ := t
  simp only at c0 c8 ⊢
  by_cases he : te = 0
  · subst he
    have hsb : ((sg : Int) == (x : Int)) = decide (sg = x) := by
      by_cases h : sg = x
      · rw [decide_eq_true h, h]; simp
      · rw [decide_eq_false h]; rw [beq_eq_false_iff_ne]; omega
    have HS := Keep.mk hsb
    cases hd : decide (sg = x)
    all_goals
      rw [hd] at HS
      have hs2 := HS.out
      clear hsb hd HS
      go_enter Tryz.func24, Tryz.ntmps24
      go_upto_region 1 with fail
      refine wp_region_above (by kernel_rfl) (by kernel_rfl) ?_
      repeat (go_big_quiet_step (fail))
      refine wpQuiet_nil ?_
      rintro _ ⟨⟨W4, hb4⟩, rfl⟩
      go_wp2
      go_ret
      exact ⟨rfl, hb4⟩
  · have hte : (te == 0) = false := by simpa using he
    go_enter Tryz.func24, Tryz.ntmps24
    go_upto_region 1 with fail
    refine wp_region_above (by kernel_rfl) (by kernel_rfl) ?_
    repeat (go_big_quiet_step (fail))
    refine wpQuiet_nil ?_
    rintro _ ⟨⟨W4, hb4⟩, rfl⟩
    go_wp2
    go_ret
    exact ⟨by rw [decide_eq_false he]; rfl, hb4⟩
theorem RD.set_err {W : World} {p g c : Nat} {ts : List Tk} {i : Nat} {er wh : Int} (h : RD W p g c ts i er wh) (z : Int) : RD (W.setCell ⟨p, 2, none⟩ (.int .i64 z)) p g c ts i z wh := h.one i z wh 2 _ rfl
theorem RD.set_at {W : World} {p g c : Nat} {ts : List Tk} {i : Nat} {er wh : Int} (h : RD W p g c ts i er wh) (z : Int) : RD (W.setCell ⟨p, 3, none⟩ (.int .i64 z)) p g c ts i er z := h.one i er z 3 _ rfl
theorem RD.set_i {W : World} {p g c : Nat} {ts : List Tk} {i : Nat} {er wh : Int} (h : RD W p g c ts i er wh) (x : Nat) : RD (W.setCell ⟨p, 1, none⟩ (.int .i64 x)) p g c ts x er wh := h.one x er wh 1 _ rfl
theorem grownp_trans {w a b : World} {p : Nat} (h : w.grownBy a (some p)) (k : a.grownBy b (some p)) : w.grownBy b (some p) :=
  ⟨k.os.trans h.os, k.tape.trans h.tape, k.output.trans h.output, Nat.le_trans h.size k.size, fun j hj hn => (k.block j (Nat.lt_of_lt_of_le hj h.size) hn).trans (h.block j hj hn)⟩
def failE (t : Tk) (e : Int) : Int := if t.e ≠ 0 then t.e else e
set_option maxRecDepth 100000 in
set_option maxHeartbeats 4000000 in
theorem ref6_fail {W : World} {p g c : Nat} {ts : List Tk} {i : Nat} {wh : Int} (h : RD W p g c ts i 0 wh) (hi : i < ts.length) (_hl : ts.length ≤ 1000000) (e : Int) : Calls Tryz.prog 25 #[.pointer (some ⟨p, 0, none⟩), .int .i64 e] W fun r w' =>
    r = .returned (.tuple #[]) ∧ RD w' p g c ts i (failE ts[i] e) ts[i].at_ ∧ W.grownBy w' (some p) := by
  have HRD := Keep.mk h
  have c7 := h.at_ hi
  have c8 := h.err hi
  have hil : (i : Int) < (ts.length : Int) := by omega
  have HC7 := Keep.mk (fun (W' : World) (hr : RD W' p g c ts i 0 wh) => hr.at_ hi)
  have HC7b := Keep.mk (fun (W' : World) (z : Int) (hr : RD W' p g c ts i z wh) => hr.at_ hi)
  clear h
  obtain ⟨t, hti⟩ : ∃ t, ts[i] = t := ⟨_, rfl⟩
  rw [hti] at c7 c8 HC7 HC7b ⊢
  obtain ⟨sg, k, m, x2, ts2, ta, tt, te⟩ := t
  have HTI := Keep.mk hti
  clear hti
  simp only at c7 c8 HC7 HC7b ⊢
  have b0 := HRD.out.b4.cell 0 _ rfl
  have b1 := HRD.out.b4.cell 1 _ rfl
  have pl := HRD.out.plt
  have gl := HRD.out.glt
  by_cases he : te = 0
  · have hte : (te != 0) = false := by rw [he]; rfl
    rw [show failE ⟨sg, k, m, x2, ts2, ta, tt, te⟩ e = e from if_neg (by simpa using he)]
    clear he
    go_enter Tryz.func25, Tryz.ntmps25
    go_upto_region 0 with fail
    refine wp_region_above (by kernel_rfl) (by kernel_rfl) ?_
    repeat (go_big_quiet_step (fail))
    refine wpQuiet_nil ?_
    rintro _ ⟨⟨W1, hb1⟩, rfl⟩
    have HR1 := Keep.mk (HRD.out.below hb1)
    have HB1 := Keep.mk (below_grown (row := some p) hb1)
    clear HRD hb1 b0 b1 pl gl c7 c8
    have b2 := HR1.out.b4.cell 2 _ rfl
    have f2 := HR1.out.b4.froz 2
    have pl := HR1.out.plt
    go_upto_region 4 with fail
    refine wp_world (fun W' => RD W' p g c ts i e wh ∧ W.grownBy W' (some p)) ⟨HR1.out.set_err e, grownp_trans HB1.out (set_grown _ p 2 _)⟩ ?_
    clear HR1 HB1 b2 f2 pl
    rintro W2 ⟨HR2, HB2⟩
    replace HR2 := Keep.mk HR2
    replace HB2 := Keep.mk HB2
    have c7 := HC7b.out _ _ HR2.out
    have b0 := HR2.out.b4.cell 0 _ rfl
    have b1 := HR2.out.b4.cell 1 _ rfl
    have pl := HR2.out.plt
    have gl := HR2.out.glt
    refine wp_region_tail 14 (Below.refl _ _) (by kernel_rfl) (by kernel_rfl) ?_
    simp only [List.take_succ_cons, List.take_zero, List.drop_succ_cons, List.drop_zero]
    repeat (go_big_quiet_step (fail))
    refine wpQuiet_nil ?_
    rintro _ ⟨⟨W3, hb3⟩, rfl⟩
    have HR3 := Keep.mk (HR2.out.below hb3)
    have HB3 := Keep.mk (grownp_trans HB2.out (below_grown (row := some p) hb3))
    clear HR2 HB2 hb3 b0 b1 c7 gl pl
    have b3 := HR3.out.b4.cell 3 _ rfl
    have f3 := HR3.out.b4.froz 3
    have pl := HR3.out.plt
    go_wp2
    refine bodyPost_end (v := .tuple #[]) (by simp [results, Tryz.results25, go_sem]) rfl ⟨rfl, HR3.out.set_at ta, grownp_trans HB3.out (set_grown _ p 3 _)⟩
  · have hte : (te != 0) = true := by simpa using he
    rw [show failE ⟨sg, k, m, x2, ts2, ta, tt, te⟩ e = te from if_pos he]
    clear he
    go_enter Tryz.func25, Tryz.ntmps25
    go_upto_region 0 with fail
    refine wp_region_above (by kernel_rfl) (by kernel_rfl) ?_
    repeat (go_big_quiet_step (fail))
    refine wpQuiet_nil ?_
    rintro _ ⟨⟨W1, hb1⟩, rfl⟩
    have HR1 := Keep.mk (HRD.out.below hb1)
    have HB1 := Keep.mk (below_grown (row := some p) hb1)
    clear HRD hb1 b0 b1 pl gl c7 c8
    have b0 := HR1.out.b4.cell 0 _ rfl
    have b1 := HR1.out.b4.cell 1 _ rfl
    have c8 := HR1.out.err hi
    rw [HTI.out] at c8
    have pl := HR1.out.plt
    have gl := HR1.out.glt
    go_upto_region 1 with fail
    refine wp_region_above (by kernel_rfl) (by kernel_rfl) ?_
    repeat (go_big_quiet_step (fail))
    refine wpQuiet_nil ?_
    rintro _ ⟨⟨W1, hb1⟩, rfl⟩
    replace HR1 := Keep.mk (HR1.out.below hb1)
    replace HB1 := Keep.mk (grownp_trans HB1.out (below_grown (row := some p) hb1))
    clear hb1 b0 b1 pl gl c8
    have b2 := HR1.out.b4.cell 2 _ rfl
    have f2 := HR1.out.b4.froz 2
    have pl := HR1.out.plt
    go_upto_region 4 with fail
    refine wp_world (fun W' => RD W' p g c ts i te wh ∧ W.grownBy W' (some p)) ⟨HR1.out.set_err te, grownp_trans HB1.out (set_grown _ p 2 _)⟩ ?_
    clear HR1 HB1 b2 f2 pl
    rintro W2 ⟨HR2, HB2⟩
    replace HR2 := Keep.mk HR2
    replace HB2 := Keep.mk HB2
    have c7 := HC7b.out _ _ HR2.out
    have b0 := HR2.out.b4.cell 0 _ rfl
    have b1 := HR2.out.b4.cell 1 _ rfl
    have pl := HR2.out.plt
    have gl := HR2.out.glt
    refine wp_region_tail 14 (Below.refl _ _) (by kernel_rfl) (by kernel_rfl) ?_
    simp only [List.take_succ_cons, List.take_zero, List.drop_succ_cons, List.drop_zero]
    repeat (go_big_quiet_step (fail))
    refine wpQuiet_nil ?_
    rintro _ ⟨⟨W3, hb3⟩, rfl⟩
    have HR3 := Keep.mk (HR2.out.below hb3)
    have HB3 := Keep.mk (grownp_trans HB2.out (below_grown (row := some p) hb3))
    clear HR2 HB2 hb3 b0 b1 c7 gl pl
    have b3 := HR3.out.b4.cell 3 _ rfl
    have f3 := HR3.out.b4.froz 3
    have pl := HR3.out.plt
    go_wp2
    refine bodyPost_end (v := .tuple #[]) (by simp [results, Tryz.results25, go_sem]) rfl ⟨rfl, HR3.out.set_at ta, grownp_trans HB3.out (set_grown _ p 3 _)⟩
set_option maxRecDepth 100000 in
theorem want_er {W : World} {p g c : Nat} {ts : List Tk} {i : Nat} {er wh : Int} (h : RD W p g c ts i er wh) (her : er ≠ 0) (x : Nat) : Calls Tryz.prog 16 #[.pointer (some ⟨p, 0, none⟩), .int .u8 x] W fun r w' =>
    r = .returned (.tuple #[]) ∧ RD w' p g c ts i er wh ∧ W.grownBy w' (some p) := by
  have HRD := Keep.mk h
  have b2 := h.b4.cell 2 _ rfl
  have pl := h.plt
  have hb : (er != 0) = true := by simpa using her
  clear h her
  go_enter Tryz.func16, Tryz.ntmps16
  go_wp2
  refine bodyPost_ret (v := .tuple #[]) (by simp [results, Tryz.results16, go_sem]) rfl ⟨rfl, HRD.out, World.grownBy.refl _ _⟩
set_option maxRecDepth 100000 in
theorem want_ok {W : World} {p g c : Nat} {ts : List Tk} {i : Nat} {wh : Int} (h : RD W p g c ts i 0 wh) (hi : i < ts.length) (hl : ts.length ≤ 1000000) (x : Nat) (hx : x < 256) (he : ts[i].e = 0) (hs : ts[i].sign = x) : Calls Tryz.prog 16 #[.pointer (some ⟨p, 0, none⟩), .int .u8 x] W fun r w' =>
    r = .returned (.tuple #[]) ∧ RD w' p g c ts (i + 1) 0 wh ∧ W.grownBy w' (some p) := by
  have HRD := Keep.mk h
  have HIS := Keep.mk (ref6_is h hi hl x hx)
  rw [decide_eq_true he, decide_eq_true hs] at HIS
  have b2 := h.b4.cell 2 _ rfl
  have pl := h.plt
  have hib : (i : Int) < 1000000 := by omega
  clear h he hs
  go_enter Tryz.func16, Tryz.ntmps16
  go_wp2_with fail
  refine HIS.out.mono ?_
  rintro r W1 ⟨rfl, hb1⟩
  have HR1 := Keep.mk (HRD.out.below hb1)
  have HB1 := Keep.mk (below_grown (row := some p) hb1)
  clear HRD HIS hb1 b2 pl
  have b1 := HR1.out.b4.cell 1 _ rfl
  have f1 := HR1.out.b4.froz 1
  have pl := HR1.out.plt
  go_wp2
  refine bodyPost_end (v := .tuple #[]) (by simp [results, Tryz.results16, go_sem]) rfl ⟨rfl, HR1.out.set_i (i + 1), grownp_trans HB1.out (set_grown _ p 1 _)⟩
set_option maxRecDepth 100000 in
theorem want_no {W : World} {p g c : Nat} {ts : List Tk} {i : Nat} {wh : Int} (h : RD W p g c ts i 0 wh) (hi : i < ts.length) (hl : ts.length ≤ 1000000) (x : Nat) (hx : x < 256) (hs : ¬ (ts[i].e = 0 ∧ ts[i].sign = x)) : Calls Tryz.prog 16 #[.pointer (some ⟨p, 0, none⟩), .int .u8 x] W fun r w' =>
    r = .returned (.tuple #[]) ∧ RD w' p g c ts i (failE ts[i] 60) ts[i].at_ ∧ W.grownBy w' (some p) := by
  have HRD := Keep.mk h
  have HIS := Keep.mk (ref6_is h hi hl x hx)
  rw [show (decide (ts[i].e = 0) && decide (ts[i].sign = x)) = false by rw [← Bool.decide_and]; exact decide_eq_false hs] at HIS
  have b2 := h.b4.cell 2 _ rfl
  have pl := h.plt
  clear h hs
  go_enter Tryz.func16, Tryz.ntmps16
  go_wp2_with fail
  refine HIS.out.mono ?_
  rintro r W1 ⟨rfl, hb1⟩
  have HB1 := Keep.mk (below_grown (row := some p) hb1)
  have HF := Keep.mk (ref6_fail (HRD.out.below hb1) hi hl 60)
  clear HRD HIS hb1 b2 pl
  go_wp2_with fail
  refine HF.out.mono ?_
  rintro r W2 ⟨rfl, hr2, hb2⟩
  have HR2 := Keep.mk hr2
  have HB2 := Keep.mk (grownp_trans HB1.out hb2)
  clear hr2 hb2 HF HB1
  go_wp2
  refine bodyPost_ret (v := .tuple #[]) (by simp [results, Tryz.results16, go_sem]) rfl ⟨rfl, HR2.out, HB2.out⟩
end Go.Proofs.YtbngjlkmpdccjaaGreatDoor
