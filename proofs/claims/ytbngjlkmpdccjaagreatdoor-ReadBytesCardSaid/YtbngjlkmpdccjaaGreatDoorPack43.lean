/- Lemmas and contracts for the laws ReadParses, ReadBytes, part 43 of 50: Ref6L. Conditions: those that each lemma names. -/
import Derived.Test.YtbngjlkmpdccjaaGreatDoorPack41
import Derived.Outline
namespace Go.Proofs.YtbngjlkmpdccjaaGreatDoor
open Go Go.RowKit Go.Proofs Th
attribute [local go_sem] Above.cell
set_option maxRecDepth 100000 in
theorem value_er {W : World} {p g c : Nat} {ts : List Tk} {i : Nat} {er wh : Int} (h : RD W p g c ts i er wh) (her : er ≠ 0) (d : Int) : Calls Tryz.prog 15 #[.pointer (some ⟨p, 0, none⟩), .int .i64 d] W fun r w' =>
    r = .returned (.agg (List.toArray zero6)) ∧ RD w' p g c ts i er wh ∧ W.grownBy w' (some p) := by
  have hpw := h.plt
  have hgw := h.glt
  have hb : (er != 0) = true := by simpa using her
  have HR := Keep.mk h
  clear h her
  go_enter Tryz.func15, Tryz.ntmps15
  go_upto_region 1 with fail
  refine wp_world (fun W' => VBlkT W' W.heap.size zero6 ∧ RD W' p g c ts i er wh ∧ W.grownBy W' (some p)) ⟨VBlkT.new zero6 rfl, HR.out.below (al1 _ _), below_grown (al1 _ _)⟩ ?_
  clear HR
  rintro W1 ⟨HV, HR, HB⟩
  have HV5 := Keep.mk HV
  replace HR := Keep.mk HR
  replace HB := Keep.mk HB
  clear HV
  have b2 := HR.out.b4.cell 2 _ rfl
  have pl := HR.out.plt
  have r0 := HV5.out.box.cell 0 _ rfl
  have z0 := HV5.out.box.froz 0
  have r1 := HV5.out.box.cell 1 _ rfl
  have z1 := HV5.out.box.froz 1
  have r2 := HV5.out.box.cell 2 _ rfl
  have z2 := HV5.out.box.froz 2
  have r3 := HV5.out.box.cell 3 _ rfl
  have z3 := HV5.out.box.froz 3
  have r4 := HV5.out.box.cell 4 _ rfl
  have z4 := HV5.out.box.froz 4
  have r5 := HV5.out.box.cell 5 _ rfl
  have z5 := HV5.out.box.froz 5
  have hrl := HV5.out.box.lt
  have HRE := Keep.mk (HR.out.keep (W' := six W1 W.heap.size (.int .i64 0) (.int .i64 0) (.int .i64 0) (.string ⟨#[]⟩) (.slice none 0 0) (.slice none 0 0)) (six_other _ _ _ _ _ _ _ _ _ (by omega)) (six_other _ _ _ _ _ _ _ _ _ (by omega)) (by simp [six]))
  have HBE := Keep.mk (grown_new HB.out (six_grown W1 W.heap.size (.int .i64 0) (.int .i64 0) (.int .i64 0) (.string ⟨#[]⟩) (.slice none 0 0) (.slice none 0 0)) (Nat.le_refl _))
  go_wp2
  refine bodyPost_ret (v := .agg (List.toArray zero6)) ?_ rfl ⟨rfl, HRE.out, HBE.out⟩
  simp [zero6, cells6, results, Tryz.results15, go_sem, r0, r1, r2, r3, r4, r5]
def StV (base : Nat) (W : World) (vl vk : Value) (b : Nat) : Prop := base ≤ b ∧ b < W.heap.size ∧ vl.ownBlock ≠ some b ∧ vk.ownBlock ≠ some b
structure LsS (W wr : World) (p g c : Nat) (ts : List Tk) (j : Nat) (er wh : Int) (vk vl : Value) (ks : List ByteArray) (li : List JV) : Prop where
  v : VBlkT wr W.heap.size zero6
  r : RD wr p g c ts j er wh
  b : W.grownBy wr (some p)
  k : OwnS wr (W.heap.size + 1) vk ks
  l : OwnV wr (W.heap.size + 1) (StV (W.heap.size + 1) wr vl vk) vl li
  d : ∀ b, vk.ownBlock = some b → vl.ownBlock ≠ some b
  pg : p < W.heap.size ∧ g < W.heap.size
theorem LsS.call {W wr w' : World} {p g c : Nat} {ts : List Tk} {j j' : Nat} {er wh er' wh' : Int} {vk vl : Value} {ks : List ByteArray} {li : List JV} (h : LsS W wr p g c ts j er wh vk vl ks li) (hg : wr.grownBy w' (some p)) (hr : RD w' p g c ts j' er' wh') : LsS W w' p g c ts j' er' wh' vk vl ks li := by
  have hk := h.k.lt
  have hl := h.l.lt
  have hp := h.pg
  refine ⟨(hg.block _ (lt_of_block h.v) (fun e => by injection e with e; omega)).trans h.v, hr, grownp_trans h.b hg, h.k.keep (fun b hb => hg.block b (hk b hb).2 (fun e => by injection e with e; have := hk b hb; omega)),
    h.l.keep (fun b hb => hg.block b hb.2.1 (fun e => by injection e with e; have := hb.1; omega)) (fun b hb => hg.block b (hl b hb).2 (fun e => by injection e with e; have := hl b hb; omega)) (fun b hb => ⟨hb.1, Nat.lt_of_lt_of_le hb.2.1 hg.size, hb.2.2⟩), h.d, h.pg⟩
set_option maxRecDepth 100000 in
theorem wpList_append_vals {w : World} {ops : Array Oper} {rest : List Oper} {o : Oper} {a : Act} {Q : Exit → Act → World → Prop} (hgd : o.guard = none) (s x : Operand)
    (ho : o.op = .call { callee := .builtin .append, args := #[s, x], argTypes := #[25, 25] })
    (base : Nat) (S : Nat → Prop) (v : Value) (l : List JV) (hs : a.eval s = v) (hown : OwnV w base S v l) (p : Nat) (t : JV) (cs : List Value) (hx : a.eval x = .slice (some ⟨p, 0, none⟩) 1 1) (hcell : ∀ i u, cs[i]? = some u → w.cell? ⟨p, i, none⟩ = some u) (hJ : JIn w S t cs)
    (hl : l.length + 1 ≤ 1000000000) (hbase : base ≤ w.heap.size) (hnot : ∀ k, v.ownBlock = some k → ¬ S k) (hS : ∀ k, S k → k < w.heap.size)
    (h : ∀ v' w', OwnV w' base S v' (l ++ [t]) → w.grownBy w' v.ownBlock → (v'.ownBlock = v.ownBlock ∨ v'.ownBlock = some w.heap.size) → wpList Tryz.prog ops Q rest (a.put o.dst v') w') : wpList Tryz.prog ops Q (o :: rest) a w := by
  refine wpList_plain hgd fun K hK => ?_
  obtain ⟨v', w', hrun, h2, h3, h4⟩ := run_append_vals (w := w) o.type base S v l hown p t cs hcell hJ hl hbase hnot hS
  unfold Oper.wp execOp
  simp only [ho, resolve, invoke, builtin, Sem.run_bind, Sem.run_pure, Result.andThen_ok, List.map_toArray, List.map_cons, List.map_nil, hs, hx, hrun]
  exact hK _ _ (h v' w' h2 h3 h4)
theorem LsS.alloc {W wr : World} {p g c : Nat} {ts : List Tk} {j : Nat} {er wh : Int} {vk vl : Value} {ks : List ByteArray} {li : List JV} (h : LsS W wr p g c ts j er wh vk vl ks li) (o : Obj) : LsS W (wr.alloc o) p g c ts j er wh vk vl ks li :=
  h.call (below_grown (al1 wr o)) (h.r.below (al1 wr o))
theorem LsS.grow {W W2 w3 : World} {p g c : Nat} {ts : List Tk} {j : Nat} {er wh : Int} {vk vl v' : Value} {ks : List ByteArray} {li : List JV} {v : JV} (h : LsS W W2 p g c ts j er wh vk vl ks li) (hO : OwnV w3 (W.heap.size + 1) (StV (W.heap.size + 1) W2 vl vk) v' (li ++ [v])) (hg : W2.grownBy w3 vl.ownBlock) (hv : v'.ownBlock = vl.ownBlock ∨ v'.ownBlock = some W2.heap.size) :
    LsS W w3 p g c ts j er wh vk v' ks (li ++ [v]) := by
  have hk := h.k.lt
  have hl := h.l.lt
  have hp := h.pg
  have hlo : ∀ b, b < W.heap.size + 1 → some b ≠ vl.ownBlock := fun b hb e => by have := hl b e.symm; omega
  have hv0 := lt_of_block h.v
  have hb := h.b
  refine ⟨(hg.block _ hv0 (hlo _ (by omega))).trans h.v, h.r.keep (hg.block _ h.r.plt (hlo _ (by omega))) (hg.block _ h.r.glt (hlo _ (by omega))) hg.size,
    ⟨hg.os.trans hb.os, hg.tape.trans hb.tape, hg.output.trans hb.output, Nat.le_trans hb.size hg.size, fun q hq hn => (hg.block q (Nat.lt_of_lt_of_le hq hb.size) (hlo q (by omega))).trans (hb.block q hq hn)⟩,
    h.k.keep (fun b hb2 => hg.block b (hk b hb2).2 (fun e => h.d b hb2 e.symm)), ?_, fun b hb2 e => ?_, h.pg⟩
  · refine hO.keep (fun _ _ => rfl) (fun _ _ => rfl) fun b hb2 => ⟨hb2.1, Nat.lt_of_lt_of_le hb2.2.1 hg.size, fun e => ?_, hb2.2.2.2⟩
    rcases hv with hv | hv
    · exact hb2.2.2.1 (hv.symm.trans e)
    · have := hv.symm.trans e; injection this with this; have := hb2.2.1; omega
  · rcases hv with hv | hv
    · exact h.d b hb2 (hv.symm.trans e)
    · have h1 := hv.symm.trans e; injection h1 with h1; have := (hk b hb2).2; omega
theorem LsS.fresh {W wr w' : World} {p g c : Nat} {ts : List Tk} {j : Nat} {er wh : Int} {vk vl : Value} {ks : List ByteArray} {li : List JV} (h : LsS W wr p g c ts j er wh vk vl ks li) {v : JV} {cs : List Value} (hJ : JIn w' (newIn wr w') v cs) : JIn w' (StV (W.heap.size + 1) w' vl vk) v cs := by
  have hk := h.k.lt
  have hl := h.l.lt
  have hv0 := lt_of_block h.v
  refine hJ.more fun b hb => ⟨by have := hb.1; omega, hb.2, fun e => ?_, fun e => ?_⟩
  · have := (hl b e).2; have := hb.1; omega
  · have := (hk b e).2; have := hb.1; omega
theorem LsS.fresh_alloc {W wr w' : World} {p g c : Nat} {ts : List Tk} {j : Nat} {er wh : Int} {vk vl : Value} {ks : List ByteArray} {li : List JV} (h : LsS W wr p g c ts j er wh vk vl ks li) {v : JV} {cs : List Value} (hJ : JIn w' (newIn wr w') v cs) (o : Obj) : JIn (w'.alloc o) (StV (W.heap.size + 1) (w'.alloc o) vl vk) v cs :=
  (h.fresh hJ).keep (T := StV (W.heap.size + 1) (w'.alloc o) vl vk) (fun b hb => (al1 w' o).block b hb.2.1) (fun _ hb => ⟨hb.1, Nat.lt_of_lt_of_le hb.2.1 (al1 w' o).size, hb.2.2⟩)
theorem LsS.keyed {W W2 w3 : World} {p g c : Nat} {ts : List Tk} {j : Nat} {er wh : Int} {vk vl v' : Value} {ks : List ByteArray} {li : List JV} {x : ByteArray} (h : LsS W W2 p g c ts j er wh vk vl ks li) (hO : OwnS w3 (W.heap.size + 1) v' (ks ++ [x])) (hg : W2.grownBy w3 vk.ownBlock) (hv : v'.ownBlock = vk.ownBlock ∨ ∃ b, v'.ownBlock = some b ∧ W2.heap.size ≤ b) :
    LsS W w3 p g c ts j er wh v' vl (ks ++ [x]) li := by
  have hk := h.k.lt
  have hl := h.l.lt
  have hp := h.pg
  have hlo : ∀ b, b < W.heap.size + 1 → some b ≠ vk.ownBlock := fun b hb e => by have := hk b e.symm; omega
  have hv0 := lt_of_block h.v
  have hb := h.b
  refine ⟨(hg.block _ hv0 (hlo _ (by omega))).trans h.v, h.r.keep (hg.block _ h.r.plt (hlo _ (by omega))) (hg.block _ h.r.glt (hlo _ (by omega))) hg.size,
    ⟨hg.os.trans hb.os, hg.tape.trans hb.tape, hg.output.trans hb.output, Nat.le_trans hb.size hg.size, fun q hq hn => (hg.block q (Nat.lt_of_lt_of_le hq hb.size) (hlo q (by omega))).trans (hb.block q hq hn)⟩,
    hO, h.l.keep (fun b hb2 => hg.block b hb2.2.1 (fun e => hb2.2.2.2 e.symm)) (fun b hb2 => hg.block b (hl b hb2).2 (fun e => h.d b e.symm hb2)) (fun b hb2 => ⟨hb2.1, Nat.lt_of_lt_of_le hb2.2.1 hg.size, hb2.2.2.1, fun e => ?_⟩), fun b hb2 e => ?_, h.pg⟩
  · rcases hv with hv | ⟨q, hv, hq⟩
    · exact hb2.2.2.2 (hv.symm.trans e)
    · have h1 := hv.symm.trans e; injection h1 with h1; have := hb2.2.1; omega
  · rcases hv with hv | ⟨q, hv, hq⟩
    · exact h.d b (hv.symm.trans hb2) e
    · have h1 := hv.symm.trans hb2; injection h1 with h1; have := (hl b e).2; omega
theorem is_rk {W : World} {p g c : Nat} {rs : List Tk} {j : Nat} {er wh : Int} (h : RD W p g c (rs.map tokR) j er wh) (hj : j < rs.length) (hl : rs.length ≤ 1000000) (x : Nat) (hx : x < 250) (h1 : x ≠ 1) : Calls Tryz.prog 24 #[.pointer (some ⟨p, 0, none⟩), .int .u8 x] W fun r w' =>
    r = .returned (.bool (decide ((rk rs j).e = 0 ∧ (rk rs j).sign = x))) ∧ Below W.heap.size W w' := by
  have hj2 : j < (rs.map tokR).length := by rw [mk_len]; exact hj
  have h2 := ref6_is h hj2 (by rw [mk_len]; exact hl) x (by omega)
  rw [← Bool.decide_and, mk_at rs j hj2, tR_e] at h2
  have e : decide ((rk rs j).e = 0 ∧ (tokR (rk rs j)).sign = x) = decide ((rk rs j).e = 0 ∧ (rk rs j).sign = x) := decide_eq_decide.2 (by rw [tR_sign _ _ h1 (by omega)])
  rw [e] at h2
  exact h2
theorem want_yes {W : World} {p g c : Nat} {rs : List Tk} {j : Nat} {wh : Int} (h : RD W p g c (rs.map tokR) j 0 wh) (hj : j < rs.length) (hl : rs.length ≤ 1000000) (x : Nat) (hx : x < 250) (h1 : x ≠ 1) (hs : (rk rs j).e = 0 ∧ (rk rs j).sign = x) : Calls Tryz.prog 16 #[.pointer (some ⟨p, 0, none⟩), .int .u8 x] W fun r w' =>
    r = .returned (.tuple #[]) ∧ RD w' p g c (rs.map tokR) (j + 1) 0 wh ∧ W.grownBy w' (some p) := by
  have hj2 : j < (rs.map tokR).length := by rw [mk_len]; exact hj
  exact want_ok h hj2 (by rw [mk_len]; exact hl) x (by omega) (by rw [mk_at rs j hj2, tR_e]; exact hs.1) (by rw [mk_at rs j hj2, tR_sign _ _ h1 (by omega)]; exact hs.2)
theorem want_not {W : World} {p g c : Nat} {rs : List Tk} {j : Nat} {wh : Int} (h : RD W p g c (rs.map tokR) j 0 wh) (hj : j < rs.length) (hl : rs.length ≤ 1000000) (x : Nat) (hx : x < 250) (h1 : x ≠ 1) (hs : ¬ ((rk rs j).e = 0 ∧ (rk rs j).sign = x)) : Calls Tryz.prog 16 #[.pointer (some ⟨p, 0, none⟩), .int .u8 x] W fun r w' =>
    r = .returned (.tuple #[]) ∧ RD w' p g c (rs.map tokR) j (faultE (rk rs j) 60) (rk rs j).at_ ∧ W.grownBy w' (some p) := by
  have hj2 : j < (rs.map tokR).length := by rw [mk_len]; exact hj
  have h2 := want_no h hj2 (by rw [mk_len]; exact hl) x (by omega) (by rw [mk_at rs j hj2, tR_e, tR_sign _ _ h1 (by omega)]; exact hs)
  rw [mk_at rs j hj2, tR_fault, tR_at] at h2
  exact h2
def StL (l : List UInt8) (rs : List Tk) (d i sg gk nn j : Nat) (er wh0 wh : Int) (ks : List ByteArray) (li : List JV) : Prop :=
  (er = 0 ∧ wh = wh0 ∧ j < rs.length ∧ rs.length - j < gk ∧ nn ≤ j ∧ depthL li + d + 1 ≤ 96 ∧ ((nn = 0 ∧ j = i + 1 ∧ ks = [] ∧ li = []) ∨ (nn ≠ 0 ∧ i + 1 < j ∧ ∃ ini v, li = ini ++ [v] ∧ Goes l rs d i j (fun st _ => (.off, ⟨kdO sg, ks, ini⟩ :: st, v))))) ∨
  (er ≠ 0 ∧ ∃ w : Nat, wh = w ∧ Fails l rs d i w er)
def FinL (l : List UInt8) (rs : List Tk) (d i sg j : Nat) (er wh0 wh : Int) (ks : List ByteArray) (li : List JV) : Prop :=
  (er = 0 ∧ wh = wh0 ∧ j < rs.length ∧ ((rk rs j).e = 0 ∧ (rk rs j).sign = endO sg) ∧ j + 1 < rs.length ∧ i < j + 1 ∧ Goes l rs d i (j + 1) (fun st _ => (.off, st, madeJ ⟨kdO sg, ks, li⟩)) ∧ depthL li + d + 1 ≤ 96) ∨
  (er ≠ 0 ∧ ∃ w : Nat, wh = w ∧ Fails l rs d i w er)
theorem stD {li : List JV} {v : JV} {d : Nat} (h : depthL li + d + 1 ≤ 96) (hv : depthJ v + (d + 1) ≤ 96) : depthL (li ++ [v]) + d + 1 ≤ 96 := by
  have := depthL_take (li ++ [v]) li.length (by simp)
  rw [List.take_of_length_le (by simp), List.take_left, List.getElem_append_right (Nat.le_refl _)] at this
  simp only [Nat.sub_self, List.getElem_cons_zero] at this
  omega
-- LIST
set_option maxRecDepth 100000 in
set_option maxHeartbeats 8000000 in
theorem value_list (l : List UInt8) (rs : List Tk) (hO : RsOk l rs) (hlen : rs.length ≤ 1000000) (d i : Nat) (hi : i < rs.length) (hd : d < 48) (he : (rk rs i).e = 0) (hs : (rk rs i).sign = 91)
    (IH : ∀ (j : Nat) (W : World) (p g c : Nat) (wh : Int), i < j → j < rs.length → RD W p g c (rs.map tokR) j 0 wh → Calls Tryz.prog 15 #[.pointer (some ⟨p, 0, none⟩), .int .i64 ((d : Int) + 1)] W fun r w' => ∃ cs, r = .returned (.agg (List.toArray cs)) ∧ W.grownBy w' (some p) ∧ ValR l rs (d + 1) j W w' p g c wh cs)
    (W : World) (p g c : Nat) (wh : Int) (hR : RD W p g c (rs.map tokR) i 0 wh) :
    Calls Tryz.prog 15 #[.pointer (some ⟨p, 0, none⟩), .int .i64 d] W fun r w' => ∃ cs, r = .returned (.agg (List.toArray cs)) ∧ W.grownBy w' (some p) ∧ ValR l rs d i W w' p g c wh cs := by
  have hi2 : i < (rs.map tokR).length := by rw [mk_len]; exact hi
  have hl2 : (rs.map tokR).length ≤ 1000000 := by rw [mk_len]; exact hlen
  have hmk := mk_at rs i hi2
  have hflag : ∀ x, x = 91 ∨ x = 123 → (decide ((rs.map tokR)[i].e = 0) && decide ((rs.map tokR)[i].sign = x)) = decide ((rk rs i).sign = x) := by
    intro x hx
    rw [hmk, tR_e, decide_eq_true he, Bool.true_and]
    exact decide_eq_decide.2 (tR_sign _ _ (by omega) (by omega))
  have HI1 := Keep.mk (fun (W' : World) (hr : RD W' p g c (rs.map tokR) i 0 wh) => (ref6_is hr hi2 hl2 91 (by decide)))
  have HI2 := Keep.mk (fun (W' : World) (hr : RD W' p g c (rs.map tokR) i 0 wh) => (ref6_is hr hi2 hl2 123 (by decide)))
  rw [hflag 91 (Or.inl rfl)] at HI1
  rw [hflag 123 (Or.inr rfl)] at HI2
  have HE := Keep.mk (fun (W' : World) (hr : RD W' p g c (rs.map tokR) i 0 wh) => hr.err hi2)
  have HSG := Keep.mk (fun (W' : World) (hr : RD W' p g c (rs.map tokR) i 0 wh) => hr.sign hi2)
  rw [hmk, tR_e, he] at HE
  rw [hmk] at HSG
  have hil : (i : Int) < ((rs.map tokR).length : Int) := by omega
  have hsg : (tokR (rk rs i)).sign = 91 := (tR_sign _ _ (by decide) (by decide)).2 hs
  rw [hs] at HI1 HI2
  rw [hsg] at HSG
  have HR := Keep.mk hR
  obtain ⟨hi1, hnx⟩ := hO.rk_next hi he (by rw [hs]; decide)
  have HHE := Keep.mk he
  have HHS := Keep.mk hs
  have HIH := Keep.mk IH
  clear hR hs hmk hflag he hsg hnx IH
  have hib : (i : Int) < 1000000 := by omega
  have hlm : (rs.map tokR).length = rs.length := mk_len rs
  have HLM := Keep.mk hlm
  have hdb : (d : Int) < 48 := by omega
  have hd48 : ((d : Int) == 48) = false := by rw [beq_eq_false_iff_ne]; omega
  generalize hnn : (rs.map tokR).length = n at *
  go_enter Tryz.func15, Tryz.ntmps15
  go_upto_region 1 with fail
  refine wp_world (fun W' => VBlkT W' W.heap.size zero6 ∧ RD W' p g c (rs.map tokR) i 0 wh ∧ W.grownBy W' (some p)) ⟨VBlkT.new zero6 rfl, HR.out.below (al1 _ _), below_grown (al1 _ _)⟩ ?_
  have hpw := HR.out.plt
  have hgw := HR.out.glt
  clear HR
  rintro W1 ⟨HV, HR, HB⟩
  replace HV := Keep.mk HV
  replace HR := Keep.mk HR
  replace HB := Keep.mk HB
  have b2 := HR.out.b4.cell 2 _ rfl
  have pl := HR.out.plt
  go_wp2_with fail
  refine (HI1.out _ HR.out).mono ?_
  rintro r W2 ⟨rfl, hb2⟩
  replace HV := Keep.mk (show VBlkT W2 W.heap.size zero6 from (hb2.block _ (lt_of_block HV.out)).trans HV.out)
  replace HR := Keep.mk (HR.out.below hb2)
  replace HB := Keep.mk (grownp_trans HB.out (below_grown (row := some p) hb2))
  clear hb2 b2 pl
  go_wp2_with fail
  refine (HI2.out _ HR.out).mono ?_
  rintro r W3 ⟨rfl, hb3⟩
  replace HV := Keep.mk (show VBlkT W3 W.heap.size zero6 from (hb3.block _ (lt_of_block HV.out)).trans HV.out)
  replace HR := Keep.mk (HR.out.below hb3)
  replace HB := Keep.mk (grownp_trans HB.out (below_grown (row := some p) hb3))
  clear hb3
  have b0 := HR.out.b4.cell 0 _ rfl
  have b1 := HR.out.b4.cell 1 _ rfl
  have c8 := HE.out _ HR.out
  have c0 := HSG.out _ HR.out
  have pl := HR.out.plt
  have gl := HR.out.glt
  go_upto_region 5 with fail
  refine wp_region_above (by kernel_rfl) (by kernel_rfl) ?_
  repeat (go_big_quiet_step (fail))
  refine wpQuiet_nil ?_
  rintro _ ⟨⟨W4, hb4⟩, rfl⟩
  replace HV := Keep.mk (show VBlkT _ W.heap.size zero6 from (hb4.block _ (lt_of_block HV.out)).trans HV.out)
  replace HR := Keep.mk (HR.out.below hb4)
  replace HB := Keep.mk (grownp_trans HB.out (below_grown (row := some p) hb4))
  clear hb4 b0 b1 c8 c0 pl gl
  have b1 := HR.out.b4.cell 1 _ rfl
  have f1 := HR.out.b4.froz 1
  have pl := HR.out.plt
  go_upto_block 0 with fail
  refine wp_world (fun W' => LsS W W' p g c (rs.map tokR) (i + 1) 0 wh (.slice none 0 0) (.slice none 0 0) [] []) ⟨HV.out.other (by omega) _ _, HR.out.set_i (i + 1), grownp_trans HB.out (set_grown _ p 1 _), OwnS.nil _ _, OwnV.nil _ _ _, (by intro b h; cases h), ⟨hpw, hgw⟩⟩ ?_
  clear HV HR HB b1 f1 pl HI1 HI2 HE HSG
  rintro W5 HL
  replace HL := Keep.mk HL
  go_cut [8, 9, 10] (fun t8 t9 _ wx => ∃ (vl : Value) (j : Nat) (er whI : Int) (li : List JV), t8 = .slice none 0 0 ∧ t9 = vl ∧ Keep (LsS W wx p g c (rs.map tokR) j er whI (.slice none 0 0) vl [] li) ∧ Keep (FinL l rs d i 91 j er wh whI [] li) ∧ Keep (li.length ≤ 1000002))
  case first =>
    go_wp2_with fail
    go_loopg [8, 9, 10] (rs.length + 1) (fun gk t8 t9 t10 wr => ∃ (vl : Value) (z : Int) (j : Nat) (er whI : Int) (li : List JV), t8 = .slice none 0 0 ∧ t9 = vl ∧ t10 = .int .i64 z ∧ 0 ≤ z ∧ z ≤ 1000001 ∧ Keep ((li.length : Int) = z) ∧ Keep (LsS W wr p g c (rs.map tokR) j er whI (.slice none 0 0) vl [] li) ∧ Keep (StL l rs d i 91 gk li.length j er wh whI [] li))
    case atStart => exact ⟨_, 0, i + 1, 0, wh, [], rfl, rfl, rfl, by omega, by omega, ⟨rfl⟩, HL, ⟨Or.inl ⟨rfl, rfl, hi1, by omega, Nat.zero_le _, (by show 0 + d + 1 ≤ 96; omega), Or.inl ⟨rfl, rfl, rfl, rfl⟩⟩⟩⟩
    case round =>
      clear HL
      obtain ⟨vl, z, j, er, whI, li, rfl, rfl, rfl, hz0, hz1, HLN, HL, HST⟩ := hrel
      have b2 := HL.out.r.b4.cell 2 _ rfl
      have pl := HL.out.r.plt
      by_cases her : er = 0
      case neg =>
        have herb : (er == 0) = false := by simpa using her
        have HFI := Keep.mk (show FinL l rs d i 91 j er wh whI [] li from Or.inr (HST.out.resolve_left (fun h => her h.1)))
        clear her HST
        go_wp2_with fail
        go_meet
        exact ⟨_, j, er, whI, li, rfl, rfl, HL, HFI, ⟨by have := HLN.out; omega⟩⟩
      case pos =>
      subst her
      obtain ⟨-, rfl, hj, hgk0, hnj, hdp, hst⟩ := HST.out.resolve_right (fun h => h.1 rfl)
      replace hdp := Keep.mk hdp
      replace hst := Keep.mk hst
      clear HST
      have HI := Keep.mk (is_rk HL.out.r hj hlen 93 (by decide) (by decide))
      by_cases hend : (rk rs j).e = 0 ∧ (rk rs j).sign = 93
      · rw [decide_eq_true hend] at HI
        have HFI := Keep.mk (show FinL l rs d i 91 j 0 whI whI [] li from Or.inl ⟨rfl, rfl, hj, hend, by
          rcases hst.out with ⟨_, rfl, _, rfl⟩ | ⟨_, h1, ini, v, rfl, hg⟩
          · have h := go_empty hO (d := d) hi (by omega) HHE.out (Or.inl HHS.out) hend.1 (by rw [HHS.out]; exact hend.2)
            rw [HHS.out] at h
            exact ⟨h.1, by omega, h.2, hdp.out⟩
          · have h := go_shut hO hg hj hend.1 hend.2 (Or.inl rfl)
            exact ⟨h.1, by omega, h.2, hdp.out⟩⟩)
        by_cases hn0 : z = 0
        · subst hn0
          clear hst hend
          go_wp2_with fail
          refine HI.out.mono ?_
          rintro r w3 ⟨rfl, hb3⟩
          have HL3 := Keep.mk (HL.out.call (below_grown hb3) (HL.out.r.below hb3))
          clear hb3 HL HI b2 pl
          go_wp2_with fail
          go_meet
          exact ⟨_, j, 0, _, li, rfl, rfl, HL3, HFI, ⟨by have := HLN.out; omega⟩⟩
        · have hnb : (z == 0) = false := by rw [beq_eq_false_iff_ne]; exact hn0
          have hnp : 0 < z := by omega
          clear hst hend hn0
          go_wp2_with fail
          refine HI.out.mono ?_
          rintro r w3 ⟨rfl, hb3⟩
          have HL3 := Keep.mk (HL.out.call (below_grown hb3) (HL.out.r.below hb3))
          clear hb3 HL HI b2 pl
          go_wp2_with fail
          go_meet
          exact ⟨_, j, 0, _, li, rfl, rfl, HL3, HFI, ⟨by have := HLN.out; omega⟩⟩
      · rw [decide_eq_false hend] at HI
        have hgk : gk ≠ 0 := by omega
        by_cases hn0 : z = 0
        · subst hn0
          obtain rfl : li = [] := List.eq_nil_of_length_eq_zero (by have := HLN.out; omega)
          obtain ⟨_, rfl, _, _⟩ := hst.out.resolve_right (fun h => h.1 rfl)
          have HGO := Keep.mk (go_open_list hO (d := d) hi (by omega) HHE.out HHS.out hend).2
          clear hst hend
          go_wp2_with fail
          refine HI.out.mono ?_
          rintro r w3 ⟨rfl, hb3⟩
          have HL3 := Keep.mk (HL.out.call (below_grown hb3) (HL.out.r.below hb3))
          clear hb3 HL HI b2 pl
          have b2 := HL3.out.r.b4.cell 2 _ rfl
          have pl := HL3.out.r.plt
          go_wp2_with fail
          refine (HIH.out (i + 1) _ p g c _ (by omega) hj HL3.out.r).mono ?_
          clear b2 pl
          rintro r w5 ⟨cs, rfl, hg5, hv5⟩
          rcases hv5 with ⟨v, j2, hJ5, hij, hj2, hr5, hgo5, hdv⟩ | ⟨e5, we5, j2, he5, hJ5, hr5, hf5⟩
          · have HST5 := Keep.mk (show StL l rs d i 91 (gk - 1) (([] : List JV) ++ [v]).length j2 0 whI whI [] (([] : List JV) ++ [v]) from Or.inl ⟨rfl, rfl, hj2, by omega, by have h := hnj; simp only [List.length_append, List.length_singleton] at h ⊢; omega, stD hdp.out hdv, Or.inr ⟨by simp, by omega, [], v, rfl, HGO.out.value hgo5⟩⟩)
            have HJ5 := Keep.mk hJ5
            have HG5 := Keep.mk hg5
            have HR5 := Keep.mk hr5
            clear hJ5 hg5 hr5 hgo5 hdv
            obtain ⟨k9, m9, e9, s9, A9, n9, c9, A8, n8, c8, rfl⟩ := HJ5.out.cells
            have HL5 := Keep.mk ((HL3.out.call HG5.out HR5.out).alloc (.cells (cells6 k9 m9 e9 s9 A9 n9 c9 A8 n8 c8).toArray 28))
            have HF5 := Keep.mk (HL3.out.fresh_alloc HJ5.out (.cells (cells6 k9 m9 e9 s9 A9 n9 c9 A8 n8 c8).toArray 28))
            have HX5 := Keep.mk (show Box (w5.alloc (.cells (cells6 k9 m9 e9 s9 A9 n9 c9 A8 n8 c8).toArray 28)) w5.heap.size (cells6 k9 m9 e9 s9 A9 n9 c9 A8 n8 c8) from Box.new _ _ rfl)
            have HS5 := Keep.mk (show W.heap.size + 1 ≤ w5.heap.size by have := lt_of_block HL5.out.v; have := (HL3.out.call HG5.out HR5.out).b.size; have h9 := lt_of_block (HL3.out.call HG5.out HR5.out).v; omega)
            clear HJ5 HG5 HR5
            simp only [cells6] at HL5 HF5 HX5 ⊢
            go_wp2_with (at_builtin; refine wpList_append_vals rfl (.tmp 201) (.tmp 206) rfl (W.heap.size + 1) (StV (W.heap.size + 1) _ _ _) _ _ rfl HL5.out.l w5.heap.size _ _ rfl HX5.out.cell HF5.out ?_ ?_ ?_ ?_ ?_)
            · have := HLN.out; omega
            · have := HS5.out; simp; omega
            · exact fun b hb hb2 => hb2.2.2.1 hb
            · exact fun b hb => hb.2.1
            · intro v6 w6 hO6 hg6 hv6
              have HL6 := Keep.mk (HL5.out.grow hO6 hg6 (hv6.imp id (fun h => h.trans (by simp))))
              clear hO6 hg6 hv6 HL5 HF5 HX5
              go_wp2
              go_roundg (gk - 1)
              case rel => exact ⟨_, _, j2, _, _, _, rfl, rfl, rfl, by omega, by have := HLN.out; omega, ⟨by have h := HLN.out; simp only [List.length_append, List.length_singleton] at h ⊢; omega⟩, HL6, HST5⟩
              case measure => omega
          · have HST5 := Keep.mk (show StL l rs d i 91 (gk - 1) (([] : List JV) ++ [zeroJ]).length j2 e5 whI we5 [] (([] : List JV) ++ [zeroJ]) from Or.inr ⟨he5, we5, rfl, HGO.out.bad (by omega) hf5⟩)
            have HJ5 := Keep.mk hJ5
            have HG5 := Keep.mk hg5
            have HR5 := Keep.mk hr5
            clear hJ5 hg5 hr5 hf5
            obtain ⟨k9, m9, e9, s9, A9, n9, c9, A8, n8, c8, rfl⟩ := HJ5.out.cells
            have HL5 := Keep.mk ((HL3.out.call HG5.out HR5.out).alloc (.cells (cells6 k9 m9 e9 s9 A9 n9 c9 A8 n8 c8).toArray 28))
            have HF5 := Keep.mk (HL3.out.fresh_alloc HJ5.out (.cells (cells6 k9 m9 e9 s9 A9 n9 c9 A8 n8 c8).toArray 28))
            have HX5 := Keep.mk (show Box (w5.alloc (.cells (cells6 k9 m9 e9 s9 A9 n9 c9 A8 n8 c8).toArray 28)) w5.heap.size (cells6 k9 m9 e9 s9 A9 n9 c9 A8 n8 c8) from Box.new _ _ rfl)
            have HS5 := Keep.mk (show W.heap.size + 1 ≤ w5.heap.size by have := lt_of_block HL5.out.v; have := (HL3.out.call HG5.out HR5.out).b.size; have h9 := lt_of_block (HL3.out.call HG5.out HR5.out).v; omega)
            clear HJ5 HG5 HR5
            simp only [cells6] at HL5 HF5 HX5 ⊢
            go_wp2_with (at_builtin; refine wpList_append_vals rfl (.tmp 201) (.tmp 206) rfl (W.heap.size + 1) (StV (W.heap.size + 1) _ _ _) _ _ rfl HL5.out.l w5.heap.size _ _ rfl HX5.out.cell HF5.out ?_ ?_ ?_ ?_ ?_)
            · have := HLN.out; omega
            · have := HS5.out; simp; omega
            · exact fun b hb hb2 => hb2.2.2.1 hb
            · exact fun b hb => hb.2.1
            · intro v6 w6 hO6 hg6 hv6
              have HL6 := Keep.mk (HL5.out.grow hO6 hg6 (hv6.imp id (fun h => h.trans (by simp))))
              clear hO6 hg6 hv6 HL5 HF5 HX5
              go_wp2
              go_roundg (gk - 1)
              case rel => exact ⟨_, _, j2, _, _, _, rfl, rfl, rfl, by omega, by have := HLN.out; omega, ⟨by have h := HLN.out; simp only [List.length_append, List.length_singleton] at h ⊢; omega⟩, HL6, HST5⟩
              case measure => omega
        · have hnb : (z == 0) = false := by rw [beq_eq_false_iff_ne]; exact hn0
          have hnp : 0 < z := by omega
          obtain ⟨_, hij1, ini, v0, hli, hg⟩ := hst.out.resolve_left (fun h => hn0 (by have := HLN.out; omega))
          by_cases hcm : (rk rs j).e = 0 ∧ (rk rs j).sign = 44
          · have hgc := go_comma_list hO hg hj hcm.1 hcm.2
            rw [← hli] at hgc
            have HGO := Keep.mk hgc.2
            have hj1 := hgc.1
            have HW := Keep.mk (fun (W' : World) (hr : RD W' p g c (rs.map tokR) j 0 whI) => want_yes hr hj hlen 44 (by decide) (by decide) hcm)
            clear hst hend hg hcm hgc hn0 hli
            go_wp2_with fail
            refine HI.out.mono ?_
            rintro r w3 ⟨rfl, hb3⟩
            have HL3 := Keep.mk (HL.out.call (below_grown hb3) (HL.out.r.below hb3))
            clear hb3 HL HI b2 pl
            go_wp2_with fail
            refine (HW.out _ HL3.out.r).mono ?_
            rintro r w4 ⟨rfl, hr4, hg4⟩
            have HL4 := Keep.mk (HL3.out.call hg4 hr4)
            clear HL3 hr4 hg4 HW
            go_wp2_with fail
            refine (HIH.out (j + 1) _ p g c _ (by omega) hj1 HL4.out.r).mono ?_
            rintro r w5 ⟨cs, rfl, hg5, hv5⟩
            rcases hv5 with ⟨v, j2, hJ5, hij, hj2, hr5, hgo5, hdv⟩ | ⟨e5, we5, j2, he5, hJ5, hr5, hf5⟩
            · have HST5 := Keep.mk (show StL l rs d i 91 (gk - 1) (li ++ [v]).length j2 0 whI whI [] (li ++ [v]) from Or.inl ⟨rfl, rfl, hj2, by omega, by have h := hnj; simp only [List.length_append, List.length_singleton] at h ⊢; omega, stD hdp.out hdv, Or.inr ⟨by simp, by omega, li, v, rfl, HGO.out.value hgo5⟩⟩)
              have HJ5 := Keep.mk hJ5
              have HG5 := Keep.mk hg5
              have HR5 := Keep.mk hr5
              clear hJ5 hg5 hr5 hgo5 hdv
              obtain ⟨k9, m9, e9, s9, A9, n9, c9, A8, n8, c8, rfl⟩ := HJ5.out.cells
              have HL5 := Keep.mk ((HL4.out.call HG5.out HR5.out).alloc (.cells (cells6 k9 m9 e9 s9 A9 n9 c9 A8 n8 c8).toArray 28))
              have HF5 := Keep.mk (HL4.out.fresh_alloc HJ5.out (.cells (cells6 k9 m9 e9 s9 A9 n9 c9 A8 n8 c8).toArray 28))
              have HX5 := Keep.mk (show Box (w5.alloc (.cells (cells6 k9 m9 e9 s9 A9 n9 c9 A8 n8 c8).toArray 28)) w5.heap.size (cells6 k9 m9 e9 s9 A9 n9 c9 A8 n8 c8) from Box.new _ _ rfl)
              have HS5 := Keep.mk (show W.heap.size + 1 ≤ w5.heap.size by have := lt_of_block HL5.out.v; have := (HL4.out.call HG5.out HR5.out).b.size; have h9 := lt_of_block (HL4.out.call HG5.out HR5.out).v; omega)
              clear HJ5 HG5 HR5
              simp only [cells6] at HL5 HF5 HX5 ⊢
              go_wp2_with (at_builtin; refine wpList_append_vals rfl (.tmp 201) (.tmp 206) rfl (W.heap.size + 1) (StV (W.heap.size + 1) _ _ _) _ _ rfl HL5.out.l w5.heap.size _ _ rfl HX5.out.cell HF5.out ?_ ?_ ?_ ?_ ?_)
              · have := HLN.out; omega
              · have := HS5.out; simp; omega
              · exact fun b hb hb2 => hb2.2.2.1 hb
              · exact fun b hb => hb.2.1
              · intro v6 w6 hO6 hg6 hv6
                have HL6 := Keep.mk (HL5.out.grow hO6 hg6 (hv6.imp id (fun h => h.trans (by simp))))
                clear hO6 hg6 hv6 HL5 HF5 HX5
                go_wp2
                go_roundg (gk - 1)
                case rel => exact ⟨_, _, j2, _, _, _, rfl, rfl, rfl, by omega, by have := HLN.out; omega, ⟨by have h := HLN.out; simp only [List.length_append, List.length_singleton] at h ⊢; omega⟩, HL6, HST5⟩
                case measure => omega
            · have HST5 := Keep.mk (show StL l rs d i 91 (gk - 1) (li ++ [zeroJ]).length j2 e5 whI we5 [] (li ++ [zeroJ]) from Or.inr ⟨he5, we5, rfl, HGO.out.bad (by omega) hf5⟩)
              have HJ5 := Keep.mk hJ5
              have HG5 := Keep.mk hg5
              have HR5 := Keep.mk hr5
              clear hJ5 hg5 hr5 hf5
              obtain ⟨k9, m9, e9, s9, A9, n9, c9, A8, n8, c8, rfl⟩ := HJ5.out.cells
              have HL5 := Keep.mk ((HL4.out.call HG5.out HR5.out).alloc (.cells (cells6 k9 m9 e9 s9 A9 n9 c9 A8 n8 c8).toArray 28))
              have HF5 := Keep.mk (HL4.out.fresh_alloc HJ5.out (.cells (cells6 k9 m9 e9 s9 A9 n9 c9 A8 n8 c8).toArray 28))
              have HX5 := Keep.mk (show Box (w5.alloc (.cells (cells6 k9 m9 e9 s9 A9 n9 c9 A8 n8 c8).toArray 28)) w5.heap.size (cells6 k9 m9 e9 s9 A9 n9 c9 A8 n8 c8) from Box.new _ _ rfl)
              have HS5 := Keep.mk (show W.heap.size + 1 ≤ w5.heap.size by have := lt_of_block HL5.out.v; have := (HL4.out.call HG5.out HR5.out).b.size; have h9 := lt_of_block (HL4.out.call HG5.out HR5.out).v; omega)
              clear HJ5 HG5 HR5
              simp only [cells6] at HL5 HF5 HX5 ⊢
              go_wp2_with (at_builtin; refine wpList_append_vals rfl (.tmp 201) (.tmp 206) rfl (W.heap.size + 1) (StV (W.heap.size + 1) _ _ _) _ _ rfl HL5.out.l w5.heap.size _ _ rfl HX5.out.cell HF5.out ?_ ?_ ?_ ?_ ?_)
              · have := HLN.out; omega
              · have := HS5.out; simp; omega
              · exact fun b hb hb2 => hb2.2.2.1 hb
              · exact fun b hb => hb.2.1
              · intro v6 w6 hO6 hg6 hv6
                have HL6 := Keep.mk (HL5.out.grow hO6 hg6 (hv6.imp id (fun h => h.trans (by simp))))
                clear hO6 hg6 hv6 HL5 HF5 HX5
                go_wp2
                go_roundg (gk - 1)
                case rel => exact ⟨_, _, j2, _, _, _, rfl, rfl, rfl, by omega, by have := HLN.out; omega, ⟨by have h := HLN.out; simp only [List.length_append, List.length_singleton] at h ⊢; omega⟩, HL6, HST5⟩
                case measure => omega
          · have HFA := Keep.mk (fail_off (sg := 91) hg hj (Or.inl rfl) hend hcm)
            have HW := Keep.mk (fun (W' : World) (hr : RD W' p g c (rs.map tokR) j 0 whI) => want_not hr hj hlen 44 (by decide) (by decide) hcm)
            have hfe := fault_ne (rk rs j) (e := 60) (by decide)
            generalize faultE (rk rs j) 60 = fe at *
            generalize (rk rs j).at_ = fa at *
            replace hfe := Keep.mk hfe
            clear hst hend hg hcm hn0 hli
            go_wp2_with fail
            refine HI.out.mono ?_
            rintro r w3 ⟨rfl, hb3⟩
            have HL3 := Keep.mk (HL.out.call (below_grown hb3) (HL.out.r.below hb3))
            clear hb3 HL HI b2 pl
            go_wp2_with fail
            refine (HW.out _ HL3.out.r).mono ?_
            rintro r w4 ⟨rfl, hr4, hg4⟩
            have HL4 := Keep.mk (HL3.out.call hg4 hr4)
            clear HL3 hr4 hg4 HW
            go_wp2_with fail
            refine (value_er HL4.out.r hfe.out (d + 1)).mono ?_
            rintro r w5 ⟨rfl, hr5, hg5⟩
            have HST5 := Keep.mk (show StL l rs d i 91 (gk - 1) (li ++ [zeroJ]).length j fe whI fa [] (li ++ [zeroJ]) from Or.inr ⟨hfe.out, fa, rfl, HFA.out⟩)
            have HJ5 := Keep.mk (zero_in w5 (newIn w4 w5))
            have HG5 := Keep.mk hg5
            have HR5 := Keep.mk hr5
            clear hg5 hr5
            have HL5 := Keep.mk ((HL4.out.call HG5.out HR5.out).alloc (.cells (zero6).toArray 28))
            have HF5 := Keep.mk (HL4.out.fresh_alloc HJ5.out (.cells (zero6).toArray 28))
            have HX5 := Keep.mk (show Box (w5.alloc (.cells (zero6).toArray 28)) w5.heap.size (zero6) from Box.new _ _ rfl)
            have HS5 := Keep.mk (show W.heap.size + 1 ≤ w5.heap.size by have := lt_of_block HL5.out.v; have := (HL4.out.call HG5.out HR5.out).b.size; have h9 := lt_of_block (HL4.out.call HG5.out HR5.out).v; omega)
            clear HJ5 HG5 HR5
            simp only [zero6, cells6] at HL5 HF5 HX5 ⊢
            go_wp2_with (at_builtin; refine wpList_append_vals rfl (.tmp 201) (.tmp 206) rfl (W.heap.size + 1) (StV (W.heap.size + 1) _ _ _) _ _ rfl HL5.out.l w5.heap.size _ _ rfl HX5.out.cell HF5.out ?_ ?_ ?_ ?_ ?_)
            · have := HLN.out; omega
            · have := HS5.out; simp; omega
            · exact fun b hb hb2 => hb2.2.2.1 hb
            · exact fun b hb => hb.2.1
            · intro v6 w6 hO6 hg6 hv6
              have HL6 := Keep.mk (HL5.out.grow hO6 hg6 (hv6.imp id (fun h => h.trans (by simp))))
              clear hO6 hg6 hv6 HL5 HF5 HX5
              go_wp2
              go_roundg (gk - 1)
              case rel => exact ⟨_, _, j, _, _, _, rfl, rfl, rfl, by omega, by have := HLN.out; omega, ⟨by have h := HLN.out; simp only [List.length_append, List.length_singleton] at h ⊢; omega⟩, HL6, HST5⟩
              case measure => omega
  case rest =>
    clear HL HIH
    obtain ⟨vl, j, er, whI, li, rfl, rfl, HL, HFI, HLN⟩ := hcut
    by_cases her : er = 0
    case neg =>
      obtain ⟨_, wf, hwf, hfa⟩ := HFI.out.resolve_left (fun h => her h.1)
      subst hwf
      have HFA := Keep.mk hfa
      have HNE := Keep.mk her
      have herb : (er != 0) = true := by simpa using her
      clear HFI hfa her
      go_wp2_with fail
      refine (want_er HL.out.r HNE.out 93).mono ?_
      rintro r w3 ⟨rfl, hr3, hg3⟩
      have HL3 := Keep.mk (HL.out.call hg3 hr3)
      clear HL hr3 hg3
      have b2 := HL3.out.r.b4.cell 2 _ rfl
      have pl := HL3.out.r.plt
      have r0 := HL3.out.v.box.cell 0 _ rfl
      have z0 := HL3.out.v.box.froz 0
      have r1 := HL3.out.v.box.cell 1 _ rfl
      have z1 := HL3.out.v.box.froz 1
      have r2 := HL3.out.v.box.cell 2 _ rfl
      have z2 := HL3.out.v.box.froz 2
      have r3 := HL3.out.v.box.cell 3 _ rfl
      have z3 := HL3.out.v.box.froz 3
      have r4 := HL3.out.v.box.cell 4 _ rfl
      have z4 := HL3.out.v.box.froz 4
      have r5 := HL3.out.v.box.cell 5 _ rfl
      have z5 := HL3.out.v.box.froz 5
      have hrl := HL3.out.v.box.lt
      have HRE := Keep.mk (HL3.out.r.keep (W' := six w3 W.heap.size (.int .i64 0) (.int .i64 0) (.int .i64 0) (.string ⟨#[]⟩) (.slice none 0 0) (.slice none 0 0)) (six_other _ _ _ _ _ _ _ _ _ (by omega)) (six_other _ _ _ _ _ _ _ _ _ (by omega)) (by simp [six]))
      have HBE := Keep.mk (grown_new HL3.out.b (six_grown w3 W.heap.size (.int .i64 0) (.int .i64 0) (.int .i64 0) (.string ⟨#[]⟩) (.slice none 0 0) (.slice none 0 0)) (Nat.le_refl _))
      go_wp2
      refine bodyPost_ret (v := .agg (List.toArray zero6)) ?_ rfl ⟨zero6, rfl, HBE.out, Or.inr ⟨_, _, _, HNE.out, zero_in _ _, HRE.out, HFA.out⟩⟩
      simp [zero6, cells6, results, Tryz.results15, go_sem, r0, r1, r2, r3, r4, r5]
    case pos =>
      subst her
      obtain ⟨_, rfl, hj, hend, hj1, hij, hgo, hdf⟩ := HFI.out.resolve_right (fun h => h.1 rfl)
      have HGO := Keep.mk hgo
      have HDF := Keep.mk (show depthJ (madeJ ⟨kdO 91, [], li⟩) + d ≤ 96 by show 1 + depthL li + d ≤ 96; omega)
      clear hdf
      have HW := Keep.mk (want_yes HL.out.r hj hlen 93 (by decide) (by decide) hend)
      clear HFI hend hgo
      go_wp2_with fail
      refine HW.out.mono ?_
      rintro r w3 ⟨rfl, hr3, hg3⟩
      have HL3 := Keep.mk (HL.out.call hg3 hr3)
      clear HL hr3 hg3 HW
      obtain ⟨A5, c5, hvl, hc1, hc2⟩ := HL3.out.l.form
      rw [hvl] at HL3 ⊢
      clear hvl hc1 hc2
      have b2 := HL3.out.r.b4.cell 2 _ rfl
      have pl := HL3.out.r.plt
      have r0 := HL3.out.v.box.cell 0 _ rfl
      have z0 := HL3.out.v.box.froz 0
      have r1 := HL3.out.v.box.cell 1 _ rfl
      have z1 := HL3.out.v.box.froz 1
      have r2 := HL3.out.v.box.cell 2 _ rfl
      have z2 := HL3.out.v.box.froz 2
      have r3 := HL3.out.v.box.cell 3 _ rfl
      have z3 := HL3.out.v.box.froz 3
      have r4 := HL3.out.v.box.cell 4 _ rfl
      have z4 := HL3.out.v.box.froz 4
      have r5 := HL3.out.v.box.cell 5 _ rfl
      have z5 := HL3.out.v.box.froz 5
      have hrl := HL3.out.v.box.lt
      have hbs := HL3.out.b.size
      have HVI := Keep.mk (HL3.out.l.vals (T := fun b => W.heap.size + 1 ≤ b ∧ b < w3.heap.size) (by have := HLN.out; omega) (fun _ hb => ⟨hb.1, hb.2.1⟩) (fun k hk => HL3.out.l.lt k hk)).2
      have HJ := Keep.mk (show JIn (six w3 W.heap.size (.int .i64 5) (.int .i64 0) (.int .i64 0) (.string ⟨#[]⟩) (.slice A5 li.length c5) (.slice none 0 0)) (newIn W (six w3 W.heap.size (.int .i64 5) (.int .i64 0) (.int .i64 0) (.string ⟨#[]⟩) (.slice A5 li.length c5) (.slice none 0 0))) (madeJ ⟨kdO 91, [], li⟩) (cells6 5 0 0 ⟨#[]⟩ A5 li.length c5 none 0 0) from
        JIn.shut (k := 5) (m := 0) (e := 0) (s := ⟨#[]⟩) (ks := []) ⟨by decide, by decide⟩ ⟨by decide, by decide⟩ ⟨by decide, by decide⟩ (by decide) (StrsIn.none_ _ _)
          (HVI.out.keep (fun b hb => six_other _ _ _ _ _ _ _ _ _ (by have := hb.1; omega)) (fun b hb => ⟨by have := hb.1; omega, by have := hb.2; simp [six]; omega⟩)))
      have HRE := Keep.mk (HL3.out.r.keep (W' := six w3 W.heap.size (.int .i64 5) (.int .i64 0) (.int .i64 0) (.string ⟨#[]⟩) (.slice A5 li.length c5) (.slice none 0 0)) (six_other _ _ _ _ _ _ _ _ _ (by omega)) (six_other _ _ _ _ _ _ _ _ _ (by omega)) (by simp [six]))
      have HBE := Keep.mk (grown_new HL3.out.b (six_grown w3 W.heap.size (.int .i64 5) (.int .i64 0) (.int .i64 0) (.string ⟨#[]⟩) (.slice A5 li.length c5) (.slice none 0 0)) (Nat.le_refl _))
      clear HVI
      go_wp2
      refine bodyPost_ret (v := .agg (List.toArray (cells6 5 0 0 ⟨#[]⟩ A5 li.length c5 none 0 0))) ?_ rfl ⟨_, rfl, HBE.out, Or.inl ⟨_, j + 1, HJ.out, hij, hj1, HRE.out, HGO.out, HDF.out⟩⟩
      simp [cells6, results, Tryz.results15, go_sem, r0, r1, r2, r3, r4, r5]
end Go.Proofs.YtbngjlkmpdccjaaGreatDoor
