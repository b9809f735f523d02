/- Lemmas and contracts for the laws CalcWith, part 29 of 50: RefPrint. Conditions: those that each lemma names. -/
import Derived.Test.YtnkokhpadcgfbaaGreatDoorPw24
import Derived.Test.YtnkokhpadcgfbaaGreatDoorPw17
import Derived.Test.YtnkokhpadcgfbaaGreatDoorPw18
import Derived.IntWalk
namespace Go.Proofs.YtnkokhpadcgfbaaGreatDoor
open Go Go.RowKit Go.Proofs Th
attribute [local go_sem] Above.cell
theorem dec_digs (n : Nat) (h : n ≠ 0) : (digs n).map (fun d => UInt8.ofNat (48 + d)) = Lib.decDigits n := by
  induction n using Nat.strongRecOn with
  | _ n ih =>
    rw [digs_pos n h, List.map_append, Lib.decDigits]
    split
    · rename_i h10
      rw [show n / 10 = 0 by omega, digs_zero, show n % 10 = n by omega]; rfl
    · rename_i h10
      rw [ih (n / 10) (by omega) (by omega)]; rfl
theorem bytes_digs (n : Nat) (h : n ≠ 0) : (bytesN (digs n)).data.toList = Lib.decDigits n := by
  unfold bytesN; rw [← dec_digs n h]
theorem bytes_list (ds : List Nat) : (bytesN ds).data.toList = ds.map (fun d => UInt8.ofNat (48 + d)) := by unfold bytesN; rfl
theorem zerosN_list (n : Nat) : (zerosN n).data.toList = List.replicate n 48 := by unfold zerosN; rfl
theorem IntsAt.drop {w : World} {B g o c : Nat} {ds : List Nat} (h : IntsAt w B (some ⟨g, o, none⟩) c ds) (k : Nat) (hk : k ≤ ds.length) : IntsAt w B (if c = k then some ⟨g, o, none⟩ else some ⟨g, o + k, none⟩) (c - k) (ds.drop k) := by
  have hl := h.le
  refine ⟨by rw [List.length_drop]; omega, by have := h.cap; omega, fun hn => ?_⟩
  rw [List.length_drop] at hn
  obtain ⟨g', o', e, hg, hc⟩ := h.at_ (by omega)
  injection e with e
  injection e with e1 e2
  subst e1 e2
  rw [if_neg (by omega)]
  refine ⟨_, _, rfl, hg, fun j hj => ?_⟩
  rw [List.length_drop] at hj
  have := hc (k + j) (by omega)
  rw [List.getElem_drop, Nat.add_assoc]
  exact this
theorem IntsAt.drop2 {w : World} {B g o c : Nat} {ds : List Nat} (h : IntsAt w B (some ⟨g, o, none⟩) c ds) (k : Nat) (hk : k < c) (hl : k ≤ ds.length) : IntsAt w B (some ⟨g, o + k, none⟩) (c - k) (ds.drop k) := by
  have := h.drop k hl
  rwa [if_neg (by omega)] at this
theorem above_ints {W : World} {A : Option Addr} {c : Nat} {ds : List Nat} (h : IntsAt W W.heap.size A c ds) (x : Above W) : IntsAt x.val x.val.heap.size A c ds := (h.below x.property (Nat.le_refl _)).more x.property.size
theorem text_at (A : Option Addr) (c n : Nat) (ds : List Nat) (hn : n = ds.length) (hd : Digs ds) (hl : ds.length ≤ 1000) (S : ByteArray) (hS : bytesN ds = S) (w : World) (hI : IntsAt w w.heap.size A c ds) :
    Calls Tryz.prog 158 #[.slice A n c] w fun r w' => r = .returned (.string S) ∧ Below w.heap.size w w' := by
  subst hn hS; exact ref_text A c ds hd hl w hI
theorem nought_at (n : Int) (h : n ≤ 1000) (Z : ByteArray) (hZ : zerosN n.toNat = Z) (w : World) : Calls Tryz.prog 159 #[.int .i64 n] w fun r w' => r = .returned (.string Z) ∧ Below w.heap.size w w' := by
  subst hZ; exact ref_noughts n h w
theorem long_neg (m e : Int) (hm : I64 m) (hn : m < 0) (w : World) : Calls Tryz.prog 147 #[.agg #[.int .i64 m, .int .i64 e]] w fun r w' => ∃ A c, r = .returned (.agg #[.bool true, .slice A (digs m.natAbs).length c, .int .i64 e]) ∧ IntsAt w' w'.heap.size A c (digs m.natAbs) ∧ Below w.heap.size w w' := by
  have := long_at m e hm w
  rwa [decide_eq_true hn] at this
theorem long_pos (m e : Int) (hm : I64 m) (hn : ¬ m < 0) (w : World) : Calls Tryz.prog 147 #[.agg #[.int .i64 m, .int .i64 e]] w fun r w' => ∃ A c, r = .returned (.agg #[.bool false, .slice A (digs m.natAbs).length c, .int .i64 e]) ∧ IntsAt w' w'.heap.size A c (digs m.natAbs) ∧ Below w.heap.size w w' := by
  have := long_at m e hm w
  rwa [decide_eq_false hn] at this
set_option maxRecDepth 100000 in
set_option maxHeartbeats 2000000 in
theorem rprint_bad (m e : Int) (hm : I64 m) (h : right m e = false) (w : World) : Calls Tryz.prog 101 #[.agg #[.int .i64 m, .int .i64 e]] w fun r w' => r = .returned (printRes ([], 10)) ∧ Below w.heap.size w w' := by
  go_enter Tryz.func101, Tryz.ntmps101
  go_wp2_with fail
  refine (ref_Right m e hm _).mono ?_
  rw [h]
  rintro r W1 ⟨rfl, hb⟩
  have Hx := Keep.mk ((Box.new (w := w) (n := w.heap.size) [.int .i64 m, .int .i64 e] 23 (by first | rfl | simp)).below hb (by simp only [World.size_alloc]; omega))
  have HB := Keep.mk (up (al1 w _) hb)
  have xc0 := Hx.out.cell 0 _ rfl
  have xf0 := Hx.out.froz 0
  have xc1 := Hx.out.cell 1 _ rfl
  have xf1 := Hx.out.froz 1
  have xl := Hx.out.lt
  go_wp2
  go_ret2
  exact ⟨rfl, HB.out⟩
set_option maxRecDepth 100000 in
set_option maxHeartbeats 2000000 in
theorem rprint_a_n (m e : Int) (hm : I64 m) (h : right m e = true) (_hm0 : m ≠ 0) (hn : m < 0) (he : 0 ≤ e) (hk : (nd m : Int) + e ≤ 21) (w : World) : Calls Tryz.prog 101 #[.agg #[.int .i64 m, .int .i64 e]] w fun r w' => r = .returned (printRes (textN m e, 0)) ∧ Below w.heap.size w w' := by
  have HE := right_exp h
  have hlen := digs_len m.natAbs (by have := hm.lo; have := hm.hi; omega)
  have HD := Keep.mk (digs_digs m.natAbs)
  have HK := Keep.mk (show ((digs m.natAbs).length : Nat) = nd m from nDigits_digs _ (by omega))
  have hkk : 1 ≤ (digs m.natAbs).length := by rw [HK.out]; exact nd_pos m
  rw [← HK.out] at hk
  have HF := Keep.mk (show textN m e = sgn m ++ (bytesN (digs m.natAbs)).data.toList ++ (zerosN e.toNat).data.toList by
      unfold textN; rw [if_pos ⟨he, by rw [← HK.out]; exact hk⟩, bytes_digs _ (by omega), zerosN_list])
  have HG := Keep.mk (show sgn m = [45] by unfold sgn; rw [if_pos hn])
  go_enter Tryz.func101, Tryz.ntmps101
  go_wp2_with fail
  refine (ref_Right m e hm _).mono ?_
  rw [h]
  rintro r W1 ⟨rfl, hb⟩
  have Hx := Keep.mk ((Box.new (w := w) (n := w.heap.size) [.int .i64 m, .int .i64 e] 23 (by first | rfl | simp)).below hb (by simp only [World.size_alloc]; omega))
  have HB := Keep.mk (up (al1 w _) hb)
  have xc0 := Hx.out.cell 0 _ rfl
  have xf0 := Hx.out.froz 0
  have xc1 := Hx.out.cell 1 _ rfl
  have xf1 := Hx.out.froz 1
  have xl := Hx.out.lt
  go_wp2_with fail
  refine (long_neg m e hm (by omega) _).mono ?_
  rintro r W2 ⟨A2, c2, rfl, hI2, hb⟩
  clear xc0 xc1 xf0 xf1 xl
  replace Hx := Keep.mk (Hx.out.below hb Hx.out.lt)
  replace HB := Keep.mk (up HB.out hb)
  have xc0 := Hx.out.cell 0 _ rfl
  have xf0 := Hx.out.froz 0
  have xc1 := Hx.out.cell 1 _ rfl
  have xf1 := Hx.out.froz 1
  have xl := Hx.out.lt
  have HJ := Keep.mk hI2
  clear hn
  go_upto_region 4 with fail
  have xlW2 := Hx.out.lt
  refine wp_world (fun W => Box W (w.heap.size) [.int .i64 m, .int .i64 e] ∧ Box W (W2.heap.size) [.bool true, .slice A2 (digs m.natAbs).length c2, .int .i64 e] ∧ Below w.heap.size w W ∧ IntsAt W W.heap.size A2 c2 (digs m.natAbs)) ⟨Hx.out.alloc _, Box.new [.bool true, .slice A2 (digs m.natAbs).length c2, .int .i64 e] _ rfl, up HB.out (al1 _ _), (HJ.out.below (al1 _ _) (Nat.le_refl _)).more (al1 _ _).size⟩ ?_
  clear xc0 xc1 xf0 xf1 xl
  clear Hx HB HJ
  rintro W3 ⟨Hx, Hp, HB, HJ⟩
  replace Hx := Keep.mk Hx
  replace Hp := Keep.mk Hp
  replace HB := Keep.mk HB
  replace HJ := Keep.mk HJ
  have xc0 := Hx.out.cell 0 _ rfl
  have xf0 := Hx.out.froz 0
  have xc1 := Hx.out.cell 1 _ rfl
  have xf1 := Hx.out.froz 1
  have xl := Hx.out.lt
  have pc0 := Hp.out.cell 0 _ rfl
  have pf0 := Hp.out.froz 0
  have pc1 := Hp.out.cell 1 _ rfl
  have pf1 := Hp.out.froz 1
  have pc2 := Hp.out.cell 2 _ rfl
  have pf2 := Hp.out.froz 2
  have pl := Hp.out.lt
  generalize hds : digs m.natAbs = ds at *
  clear hds
  obtain ⟨S, hS⟩ : ∃ S, bytesN ds = S := ⟨_, rfl⟩
  obtain ⟨Z, hZ⟩ : ∃ Z, zerosN e.toNat = Z := ⟨_, rfl⟩
  have hSs : S.size ≤ 1000 := by rw [← hS, bytesN_size]; omega
  have hZs : Z.size ≤ 1000 := by rw [← hZ, zerosN_size]; omega
  rw [hS, hZ] at HF
  have HS := Keep.mk hS
  have HZ := Keep.mk hZ
  clear hS hZ
  go_wp2_with fail
  refine wp_region_above (by kernel_rfl) (by kernel_rfl) ?_
  repeat (go_big_quiet_step (((first | (go_at_call 158; exact calls_above (text_at A2 c2 _ ds rfl HD.out (by omega) S HS.out _ (above_ints HJ.out _))) | (go_at_call 159; exact calls_above (nought_at e (by omega) Z HZ.out _))))))
  refine wpQuiet_nil ?_
  rintro _ ⟨x, rfl⟩
  go_wp2
  go_ret2
  exact ⟨ret_print (by rw [HF.out, HG.out]; simp), up HB.out x.property⟩
set_option maxRecDepth 100000 in
set_option maxHeartbeats 2000000 in
theorem rprint_a_p (m e : Int) (hm : I64 m) (h : right m e = true) (hm0 : m ≠ 0) (hn : ¬ m < 0) (he : 0 ≤ e) (hk : (nd m : Int) + e ≤ 21) (w : World) : Calls Tryz.prog 101 #[.agg #[.int .i64 m, .int .i64 e]] w fun r w' => r = .returned (printRes (textN m e, 0)) ∧ Below w.heap.size w w' := by
  have HE := right_exp h
  have hlen := digs_len m.natAbs (by have := hm.lo; have := hm.hi; omega)
  have HD := Keep.mk (digs_digs m.natAbs)
  have HK := Keep.mk (show ((digs m.natAbs).length : Nat) = nd m from nDigits_digs _ (by omega))
  have hkk : 1 ≤ (digs m.natAbs).length := by rw [HK.out]; exact nd_pos m
  rw [← HK.out] at hk
  have HF := Keep.mk (show textN m e = sgn m ++ (bytesN (digs m.natAbs)).data.toList ++ (zerosN e.toNat).data.toList by
      unfold textN; rw [if_pos ⟨he, by rw [← HK.out]; exact hk⟩, bytes_digs _ (by omega), zerosN_list])
  have HG := Keep.mk (show sgn m = [] by unfold sgn; rw [if_neg hn])
  go_enter Tryz.func101, Tryz.ntmps101
  go_wp2_with fail
  refine (ref_Right m e hm _).mono ?_
  rw [h]
  rintro r W1 ⟨rfl, hb⟩
  have Hx := Keep.mk ((Box.new (w := w) (n := w.heap.size) [.int .i64 m, .int .i64 e] 23 (by first | rfl | simp)).below hb (by simp only [World.size_alloc]; omega))
  have HB := Keep.mk (up (al1 w _) hb)
  have xc0 := Hx.out.cell 0 _ rfl
  have xf0 := Hx.out.froz 0
  have xc1 := Hx.out.cell 1 _ rfl
  have xf1 := Hx.out.froz 1
  have xl := Hx.out.lt
  go_wp2_with fail
  refine (long_pos m e hm (by omega) _).mono ?_
  rintro r W2 ⟨A2, c2, rfl, hI2, hb⟩
  clear xc0 xc1 xf0 xf1 xl
  replace Hx := Keep.mk (Hx.out.below hb Hx.out.lt)
  replace HB := Keep.mk (up HB.out hb)
  have xc0 := Hx.out.cell 0 _ rfl
  have xf0 := Hx.out.froz 0
  have xc1 := Hx.out.cell 1 _ rfl
  have xf1 := Hx.out.froz 1
  have xl := Hx.out.lt
  have HJ := Keep.mk hI2
  clear hn
  go_upto_region 4 with fail
  have xlW2 := Hx.out.lt
  refine wp_world (fun W => Box W (w.heap.size) [.int .i64 m, .int .i64 e] ∧ Box W (W2.heap.size) [.bool false, .slice A2 (digs m.natAbs).length c2, .int .i64 e] ∧ Below w.heap.size w W ∧ IntsAt W W.heap.size A2 c2 (digs m.natAbs)) ⟨Hx.out.alloc _, Box.new [.bool false, .slice A2 (digs m.natAbs).length c2, .int .i64 e] _ rfl, up HB.out (al1 _ _), (HJ.out.below (al1 _ _) (Nat.le_refl _)).more (al1 _ _).size⟩ ?_
  clear xc0 xc1 xf0 xf1 xl
  clear Hx HB HJ
  rintro W3 ⟨Hx, Hp, HB, HJ⟩
  replace Hx := Keep.mk Hx
  replace Hp := Keep.mk Hp
  replace HB := Keep.mk HB
  replace HJ := Keep.mk HJ
  have xc0 := Hx.out.cell 0 _ rfl
  have xf0 := Hx.out.froz 0
  have xc1 := Hx.out.cell 1 _ rfl
  have xf1 := Hx.out.froz 1
  have xl := Hx.out.lt
  have pc0 := Hp.out.cell 0 _ rfl
  have pf0 := Hp.out.froz 0
  have pc1 := Hp.out.cell 1 _ rfl
  have pf1 := Hp.out.froz 1
  have pc2 := Hp.out.cell 2 _ rfl
  have pf2 := Hp.out.froz 2
  have pl := Hp.out.lt
  generalize hds : digs m.natAbs = ds at *
  clear hds
  obtain ⟨S, hS⟩ : ∃ S, bytesN ds = S := ⟨_, rfl⟩
  obtain ⟨Z, hZ⟩ : ∃ Z, zerosN e.toNat = Z := ⟨_, rfl⟩
  have hSs : S.size ≤ 1000 := by rw [← hS, bytesN_size]; omega
  have hZs : Z.size ≤ 1000 := by rw [← hZ, zerosN_size]; omega
  rw [hS, hZ] at HF
  have HS := Keep.mk hS
  have HZ := Keep.mk hZ
  clear hS hZ
  go_wp2_with fail
  refine wp_region_above (by kernel_rfl) (by kernel_rfl) ?_
  repeat (go_big_quiet_step (((first | (go_at_call 158; exact calls_above (text_at A2 c2 _ ds rfl HD.out (by omega) S HS.out _ (above_ints HJ.out _))) | (go_at_call 159; exact calls_above (nought_at e (by omega) Z HZ.out _))))))
  refine wpQuiet_nil ?_
  rintro _ ⟨x, rfl⟩
  go_wp2
  go_ret2
  exact ⟨ret_print (by rw [HF.out, HG.out]; simp), up HB.out x.property⟩
set_option maxRecDepth 100000 in
set_option maxHeartbeats 2000000 in
theorem rprint_b2_n (m e : Int) (hm : I64 m) (h : right m e = true) (_hm0 : m ≠ 0) (hn : m < 0) (he : e < 0) (he2 : -20 ≤ e) (hk : -e < (nd m : Int)) (w : World) : Calls Tryz.prog 101 #[.agg #[.int .i64 m, .int .i64 e]] w fun r w' => r = .returned (printRes (textN m e, 0)) ∧ Below w.heap.size w w' := by
  have HE := right_exp h
  have hlen := digs_len m.natAbs (by have := hm.lo; have := hm.hi; omega)
  have HD := Keep.mk (digs_digs m.natAbs)
  have HK := Keep.mk (show ((digs m.natAbs).length : Nat) = nd m from nDigits_digs _ (by omega))
  have hkk : 1 ≤ (digs m.natAbs).length := by rw [HK.out]; exact nd_pos m
  rw [← HK.out] at hk
  have HF := Keep.mk (show textN m e = sgn m ++ (bytesN ((digs m.natAbs).take (((digs m.natAbs).length : Int) + e).toNat)).data.toList ++ [46] ++ (bytesN ((digs m.natAbs).drop (((digs m.natAbs).length : Int) + e).toNat)).data.toList by
      have hp : pad m e = Lib.decDigits m.natAbs := by {unfold pad; rw [if_neg (by rw [← HK.out]; omega)]}
      unfold textN; rw [if_neg (by omega), if_pos ⟨he, he2⟩, hp, Lib.decDigits_length, bytes_list, bytes_list, List.map_take, List.map_drop, dec_digs _ (by omega), show (digs m.natAbs).length = Lib.nDigits m.natAbs from HK.out])
  have HG := Keep.mk (show sgn m = [45] by unfold sgn; rw [if_pos hn])
  go_enter Tryz.func101, Tryz.ntmps101
  go_wp2_with fail
  refine (ref_Right m e hm _).mono ?_
  rw [h]
  rintro r W1 ⟨rfl, hb⟩
  have Hx := Keep.mk ((Box.new (w := w) (n := w.heap.size) [.int .i64 m, .int .i64 e] 23 (by first | rfl | simp)).below hb (by simp only [World.size_alloc]; omega))
  have HB := Keep.mk (up (al1 w _) hb)
  have xc0 := Hx.out.cell 0 _ rfl
  have xf0 := Hx.out.froz 0
  have xc1 := Hx.out.cell 1 _ rfl
  have xf1 := Hx.out.froz 1
  have xl := Hx.out.lt
  go_wp2_with fail
  refine (long_neg m e hm (by omega) _).mono ?_
  rintro r W2 ⟨A2, c2, rfl, hI2, hb⟩
  clear xc0 xc1 xf0 xf1 xl
  replace Hx := Keep.mk (Hx.out.below hb Hx.out.lt)
  replace HB := Keep.mk (up HB.out hb)
  have xc0 := Hx.out.cell 0 _ rfl
  have xf0 := Hx.out.froz 0
  have xc1 := Hx.out.cell 1 _ rfl
  have xf1 := Hx.out.froz 1
  have xl := Hx.out.lt
  have HJ := Keep.mk hI2
  clear hn
  go_upto_region 4 with fail
  have xlW2 := Hx.out.lt
  refine wp_world (fun W => Box W (w.heap.size) [.int .i64 m, .int .i64 e] ∧ Box W (W2.heap.size) [.bool true, .slice A2 (digs m.natAbs).length c2, .int .i64 e] ∧ Below w.heap.size w W ∧ IntsAt W W.heap.size A2 c2 (digs m.natAbs)) ⟨Hx.out.alloc _, Box.new [.bool true, .slice A2 (digs m.natAbs).length c2, .int .i64 e] _ rfl, up HB.out (al1 _ _), (HJ.out.below (al1 _ _) (Nat.le_refl _)).more (al1 _ _).size⟩ ?_
  clear xc0 xc1 xf0 xf1 xl
  clear Hx HB HJ
  rintro W3 ⟨Hx, Hp, HB, HJ⟩
  replace Hx := Keep.mk Hx
  replace Hp := Keep.mk Hp
  replace HB := Keep.mk HB
  replace HJ := Keep.mk HJ
  have xc0 := Hx.out.cell 0 _ rfl
  have xf0 := Hx.out.froz 0
  have xc1 := Hx.out.cell 1 _ rfl
  have xf1 := Hx.out.froz 1
  have xl := Hx.out.lt
  have pc0 := Hp.out.cell 0 _ rfl
  have pf0 := Hp.out.froz 0
  have pc1 := Hp.out.cell 1 _ rfl
  have pf1 := Hp.out.froz 1
  have pc2 := Hp.out.cell 2 _ rfl
  have pf2 := Hp.out.froz 2
  have pl := Hp.out.lt
  generalize hds : digs m.natAbs = ds at *
  clear hds
  obtain ⟨j, hj⟩ : ∃ j : Nat, (ds.length : Int) + e = j := ⟨((ds.length : Int) + e).toNat, by omega⟩
  have hje : ((ds.length : Int) + e).toNat = j := by omega
  rw [hje] at HF
  clear hje
  have hjl : j ≤ ds.length := by omega
  have hj0 : 0 < j := by omega
  obtain ⟨S, hS⟩ : ∃ S, bytesN (ds.take j) = S := ⟨_, rfl⟩
  obtain ⟨Z, hZ⟩ : ∃ Z, bytesN (ds.drop j) = Z := ⟨_, rfl⟩
  have hSs : S.size ≤ 1000 := by rw [← hS, bytesN_size, List.length_take]; omega
  have hZs : Z.size ≤ 1000 := by rw [← hZ, bytesN_size, List.length_drop]; omega
  rw [hS, hZ] at HF
  have HS := Keep.mk hS
  have HZ := Keep.mk hZ
  clear hS hZ
  obtain ⟨g, o, rfl, hg, hc⟩ := HJ.out.at_ (by omega)
  clear hc
  have hcap := HJ.out.le
  have hcm := HJ.out.cap
  unfold maxLen at hcm
  have H1 := Keep.mk (HJ.out.init j hjl)
  have hjc : j < c2 := by omega
  have hcj : ¬ c2 = j := by omega
  have hjl2 : j < ds.length := by omega
  have H2 := Keep.mk (HJ.out.drop2 j hjc hjl)
  have w1 : IntKind.i64.wrap ((ds.length : Int) + e) = j := by rw [hj]; exact IntWalk.i64_in _ (by omega)
  have hdl : Keep ((ds.drop j).length = ds.length - j) := ⟨by simp⟩
  have htl : Keep ((ds.take j).length = j) := ⟨by simp; omega⟩
  go_wp2_with fail
  refine wp_region_above (by kernel_rfl) (by kernel_rfl) ?_
  repeat (go_big_quiet_step (((first | (go_at_call 158; with_reducible exact calls_above (text_at (some ⟨g, o, none⟩) c2 j (ds.take j) htl.out.symm (HD.out.take j) (by rw [htl.out]; omega) S HS.out _ (above_ints H1.out _))) | (go_at_call 158; with_reducible exact calls_above (text_at (some ⟨g, o + j, none⟩) (c2 - j) (ds.length - j) (ds.drop j) hdl.out.symm (HD.out.drop j) (by rw [hdl.out]; omega) Z HZ.out _ (above_ints H2.out _)))))))
  refine wpQuiet_nil ?_
  rintro _ ⟨x, rfl⟩
  go_wp2
  go_ret2
  exact ⟨ret_print (by rw [HF.out, HG.out]; simp), up HB.out x.property⟩
set_option maxRecDepth 100000 in
set_option maxHeartbeats 2000000 in
theorem rprint_b1_n (m e : Int) (hm : I64 m) (h : right m e = true) (_hm0 : m ≠ 0) (hn : m < 0) (he : e < 0) (he2 : -20 ≤ e) (hk : (nd m : Int) ≤ -e) (w : World) : Calls Tryz.prog 101 #[.agg #[.int .i64 m, .int .i64 e]] w fun r w' => r = .returned (printRes (textN m e, 0)) ∧ Below w.heap.size w w' := by
  have HE := right_exp h
  have hlen := digs_len m.natAbs (by have := hm.lo; have := hm.hi; omega)
  have HD := Keep.mk (digs_digs m.natAbs)
  have HK := Keep.mk (show ((digs m.natAbs).length : Nat) = nd m from nDigits_digs _ (by omega))
  have hkk : 1 ≤ (digs m.natAbs).length := by rw [HK.out]; exact nd_pos m
  rw [← HK.out] at hk
  have HF := Keep.mk (show textN m e = sgn m ++ [48] ++ [46] ++ (zerosN (-e - ((digs m.natAbs).length : Int)).toNat).data.toList ++ (bytesN (digs m.natAbs)).data.toList by
      have hp : pad m e = List.replicate (1 - e - nd m).toNat 48 ++ Lib.decDigits m.natAbs := by {unfold pad; rw [if_pos (by rw [← HK.out]; exact hk)]}
      obtain ⟨z, hz⟩ : ∃ z : Nat, (1 - e - nd m).toNat = z + 1 := ⟨(1 - e - nd m).toNat - 1, by have := HK.out; omega⟩
      unfold textN; rw [if_neg (by omega), if_pos ⟨he, he2⟩, hp, hz, List.length_append, List.length_replicate, Lib.decDigits_length, show (((z + 1 + Lib.nDigits m.natAbs : Nat) : Int) + e).toNat = 1 by unfold nd at hz; omega, List.replicate_succ, zerosN_list, bytes_digs _ (by omega), show (-e - ((digs m.natAbs).length : Int)).toNat = z by rw [HK.out]; omega]; simp)
  have HG := Keep.mk (show sgn m = [45] by unfold sgn; rw [if_pos hn])
  go_enter Tryz.func101, Tryz.ntmps101
  go_wp2_with fail
  refine (ref_Right m e hm _).mono ?_
  rw [h]
  rintro r W1 ⟨rfl, hb⟩
  have Hx := Keep.mk ((Box.new (w := w) (n := w.heap.size) [.int .i64 m, .int .i64 e] 23 (by first | rfl | simp)).below hb (by simp only [World.size_alloc]; omega))
  have HB := Keep.mk (up (al1 w _) hb)
  have xc0 := Hx.out.cell 0 _ rfl
  have xf0 := Hx.out.froz 0
  have xc1 := Hx.out.cell 1 _ rfl
  have xf1 := Hx.out.froz 1
  have xl := Hx.out.lt
  go_wp2_with fail
  refine (long_neg m e hm (by omega) _).mono ?_
  rintro r W2 ⟨A2, c2, rfl, hI2, hb⟩
  clear xc0 xc1 xf0 xf1 xl
  replace Hx := Keep.mk (Hx.out.below hb Hx.out.lt)
  replace HB := Keep.mk (up HB.out hb)
  have xc0 := Hx.out.cell 0 _ rfl
  have xf0 := Hx.out.froz 0
  have xc1 := Hx.out.cell 1 _ rfl
  have xf1 := Hx.out.froz 1
  have xl := Hx.out.lt
  have HJ := Keep.mk hI2
  clear hn
  go_upto_region 4 with fail
  have xlW2 := Hx.out.lt
  refine wp_world (fun W => Box W (w.heap.size) [.int .i64 m, .int .i64 e] ∧ Box W (W2.heap.size) [.bool true, .slice A2 (digs m.natAbs).length c2, .int .i64 e] ∧ Below w.heap.size w W ∧ IntsAt W W.heap.size A2 c2 (digs m.natAbs)) ⟨Hx.out.alloc _, Box.new [.bool true, .slice A2 (digs m.natAbs).length c2, .int .i64 e] _ rfl, up HB.out (al1 _ _), (HJ.out.below (al1 _ _) (Nat.le_refl _)).more (al1 _ _).size⟩ ?_
  clear xc0 xc1 xf0 xf1 xl
  clear Hx HB HJ
  rintro W3 ⟨Hx, Hp, HB, HJ⟩
  replace Hx := Keep.mk Hx
  replace Hp := Keep.mk Hp
  replace HB := Keep.mk HB
  replace HJ := Keep.mk HJ
  have xc0 := Hx.out.cell 0 _ rfl
  have xf0 := Hx.out.froz 0
  have xc1 := Hx.out.cell 1 _ rfl
  have xf1 := Hx.out.froz 1
  have xl := Hx.out.lt
  have pc0 := Hp.out.cell 0 _ rfl
  have pf0 := Hp.out.froz 0
  have pc1 := Hp.out.cell 1 _ rfl
  have pf1 := Hp.out.froz 1
  have pc2 := Hp.out.cell 2 _ rfl
  have pf2 := Hp.out.froz 2
  have pl := Hp.out.lt
  generalize hds : digs m.natAbs = ds at *
  clear hds
  obtain ⟨S, hS⟩ : ∃ S, bytesN ds = S := ⟨_, rfl⟩
  obtain ⟨Z, hZ⟩ : ∃ Z, zerosN (-e - (ds.length : Int)).toNat = Z := ⟨_, rfl⟩
  have hSs : S.size ≤ 1000 := by rw [← hS, bytesN_size]; omega
  have hZs : Z.size ≤ 1000 := by rw [← hZ, zerosN_size]; omega
  rw [hS, hZ] at HF
  have HS := Keep.mk hS
  have HZ := Keep.mk hZ
  clear hS hZ
  go_wp2_with fail
  refine wp_region_above (by kernel_rfl) (by kernel_rfl) ?_
  repeat (go_big_quiet_step (((first | (go_at_call 158; exact calls_above (text_at A2 c2 _ ds rfl HD.out (by omega) S HS.out _ (above_ints HJ.out _))) | (go_at_call 159; exact calls_above (nought_at _ (by omega) Z HZ.out _))))))
  refine wpQuiet_nil ?_
  rintro _ ⟨x, rfl⟩
  go_wp2
  go_ret2
  exact ⟨ret_print (by rw [HF.out, HG.out]; simp), up HB.out x.property⟩
set_option maxRecDepth 100000 in
set_option maxHeartbeats 2000000 in
theorem rprint_b2_p (m e : Int) (hm : I64 m) (h : right m e = true) (hm0 : m ≠ 0) (hn : ¬ m < 0) (he : e < 0) (he2 : -20 ≤ e) (hk : -e < (nd m : Int)) (w : World) : Calls Tryz.prog 101 #[.agg #[.int .i64 m, .int .i64 e]] w fun r w' => r = .returned (printRes (textN m e, 0)) ∧ Below w.heap.size w w' := by
  have HE := right_exp h
  have hlen := digs_len m.natAbs (by have := hm.lo; have := hm.hi; omega)
  have HD := Keep.mk (digs_digs m.natAbs)
  have HK := Keep.mk (show ((digs m.natAbs).length : Nat) = nd m from nDigits_digs _ (by omega))
  have hkk : 1 ≤ (digs m.natAbs).length := by rw [HK.out]; exact nd_pos m
  rw [← HK.out] at hk
  have HF := Keep.mk (show textN m e = sgn m ++ (bytesN ((digs m.natAbs).take (((digs m.natAbs).length : Int) + e).toNat)).data.toList ++ [46] ++ (bytesN ((digs m.natAbs).drop (((digs m.natAbs).length : Int) + e).toNat)).data.toList by
      have hp : pad m e = Lib.decDigits m.natAbs := by {unfold pad; rw [if_neg (by rw [← HK.out]; omega)]}
      unfold textN; rw [if_neg (by omega), if_pos ⟨he, he2⟩, hp, Lib.decDigits_length, bytes_list, bytes_list, List.map_take, List.map_drop, dec_digs _ (by omega), show (digs m.natAbs).length = Lib.nDigits m.natAbs from HK.out])
  have HG := Keep.mk (show sgn m = [] by unfold sgn; rw [if_neg hn])
  go_enter Tryz.func101, Tryz.ntmps101
  go_wp2_with fail
  refine (ref_Right m e hm _).mono ?_
  rw [h]
  rintro r W1 ⟨rfl, hb⟩
  have Hx := Keep.mk ((Box.new (w := w) (n := w.heap.size) [.int .i64 m, .int .i64 e] 23 (by first | rfl | simp)).below hb (by simp only [World.size_alloc]; omega))
  have HB := Keep.mk (up (al1 w _) hb)
  have xc0 := Hx.out.cell 0 _ rfl
  have xf0 := Hx.out.froz 0
  have xc1 := Hx.out.cell 1 _ rfl
  have xf1 := Hx.out.froz 1
  have xl := Hx.out.lt
  go_wp2_with fail
  refine (long_pos m e hm (by omega) _).mono ?_
  rintro r W2 ⟨A2, c2, rfl, hI2, hb⟩
  clear xc0 xc1 xf0 xf1 xl
  replace Hx := Keep.mk (Hx.out.below hb Hx.out.lt)
  replace HB := Keep.mk (up HB.out hb)
  have xc0 := Hx.out.cell 0 _ rfl
  have xf0 := Hx.out.froz 0
  have xc1 := Hx.out.cell 1 _ rfl
  have xf1 := Hx.out.froz 1
  have xl := Hx.out.lt
  have HJ := Keep.mk hI2
  clear hn
  go_upto_region 4 with fail
  have xlW2 := Hx.out.lt
  refine wp_world (fun W => Box W (w.heap.size) [.int .i64 m, .int .i64 e] ∧ Box W (W2.heap.size) [.bool false, .slice A2 (digs m.natAbs).length c2, .int .i64 e] ∧ Below w.heap.size w W ∧ IntsAt W W.heap.size A2 c2 (digs m.natAbs)) ⟨Hx.out.alloc _, Box.new [.bool false, .slice A2 (digs m.natAbs).length c2, .int .i64 e] _ rfl, up HB.out (al1 _ _), (HJ.out.below (al1 _ _) (Nat.le_refl _)).more (al1 _ _).size⟩ ?_
  clear xc0 xc1 xf0 xf1 xl
  clear Hx HB HJ
  rintro W3 ⟨Hx, Hp, HB, HJ⟩
  replace Hx := Keep.mk Hx
  replace Hp := Keep.mk Hp
  replace HB := Keep.mk HB
  replace HJ := Keep.mk HJ
  have xc0 := Hx.out.cell 0 _ rfl
  have xf0 := Hx.out.froz 0
  have xc1 := Hx.out.cell 1 _ rfl
  have xf1 := Hx.out.froz 1
  have xl := Hx.out.lt
  have pc0 := Hp.out.cell 0 _ rfl
  have pf0 := Hp.out.froz 0
  have pc1 := Hp.out.cell 1 _ rfl
  have pf1 := Hp.out.froz 1
  have pc2 := Hp.out.cell 2 _ rfl
  have pf2 := Hp.out.froz 2
  have pl := Hp.out.lt
  generalize hds : digs m.natAbs = ds at *
  clear hds
  obtain ⟨j, hj⟩ : ∃ j : Nat, (ds.length : Int) + e = j := ⟨((ds.length : Int) + e).toNat, by omega⟩
  have hje : ((ds.length : Int) + e).toNat = j := by omega
  rw [hje] at HF
  clear hje
  have hjl : j ≤ ds.length := by omega
  have hj0 : 0 < j := by omega
  obtain ⟨S, hS⟩ : ∃ S, bytesN (ds.take j) = S := ⟨_, rfl⟩
  obtain ⟨Z, hZ⟩ : ∃ Z, bytesN (ds.drop j) = Z := ⟨_, rfl⟩
  have hSs : S.size ≤ 1000 := by rw [← hS, bytesN_size, List.length_take]; omega
  have hZs : Z.size ≤ 1000 := by rw [← hZ, bytesN_size, List.length_drop]; omega
  rw [hS, hZ] at HF
  have HS := Keep.mk hS
  have HZ := Keep.mk hZ
  clear hS hZ
  obtain ⟨g, o, rfl, hg, hc⟩ := HJ.out.at_ (by omega)
  clear hc
  have hcap := HJ.out.le
  have hcm := HJ.out.cap
  unfold maxLen at hcm
  have H1 := Keep.mk (HJ.out.init j hjl)
  have hjc : j < c2 := by omega
  have hcj : ¬ c2 = j := by omega
  have hjl2 : j < ds.length := by omega
  have H2 := Keep.mk (HJ.out.drop2 j hjc hjl)
  have w1 : IntKind.i64.wrap ((ds.length : Int) + e) = j := by rw [hj]; exact IntWalk.i64_in _ (by omega)
  have hdl : Keep ((ds.drop j).length = ds.length - j) := ⟨by simp⟩
  have htl : Keep ((ds.take j).length = j) := ⟨by simp; omega⟩
  go_wp2_with fail
  refine wp_region_above (by kernel_rfl) (by kernel_rfl) ?_
  repeat (go_big_quiet_step (((first | (go_at_call 158; with_reducible exact calls_above (text_at (some ⟨g, o, none⟩) c2 j (ds.take j) htl.out.symm (HD.out.take j) (by rw [htl.out]; omega) S HS.out _ (above_ints H1.out _))) | (go_at_call 158; with_reducible exact calls_above (text_at (some ⟨g, o + j, none⟩) (c2 - j) (ds.length - j) (ds.drop j) hdl.out.symm (HD.out.drop j) (by rw [hdl.out]; omega) Z HZ.out _ (above_ints H2.out _)))))))
  refine wpQuiet_nil ?_
  rintro _ ⟨x, rfl⟩
  go_wp2
  go_ret2
  exact ⟨ret_print (by rw [HF.out, HG.out]; simp), up HB.out x.property⟩
set_option maxRecDepth 100000 in
set_option maxHeartbeats 2000000 in
theorem rprint_b1_p (m e : Int) (hm : I64 m) (h : right m e = true) (hm0 : m ≠ 0) (hn : ¬ m < 0) (he : e < 0) (he2 : -20 ≤ e) (hk : (nd m : Int) ≤ -e) (w : World) : Calls Tryz.prog 101 #[.agg #[.int .i64 m, .int .i64 e]] w fun r w' => r = .returned (printRes (textN m e, 0)) ∧ Below w.heap.size w w' := by
  have HE := right_exp h
  have hlen := digs_len m.natAbs (by have := hm.lo; have := hm.hi; omega)
  have HD := Keep.mk (digs_digs m.natAbs)
  have HK := Keep.mk (show ((digs m.natAbs).length : Nat) = nd m from nDigits_digs _ (by omega))
  have hkk : 1 ≤ (digs m.natAbs).length := by rw [HK.out]; exact nd_pos m
  rw [← HK.out] at hk
  have HF := Keep.mk (show textN m e = sgn m ++ [48] ++ [46] ++ (zerosN (-e - ((digs m.natAbs).length : Int)).toNat).data.toList ++ (bytesN (digs m.natAbs)).data.toList by
      have hp : pad m e = List.replicate (1 - e - nd m).toNat 48 ++ Lib.decDigits m.natAbs := by {unfold pad; rw [if_pos (by rw [← HK.out]; exact hk)]}
      obtain ⟨z, hz⟩ : ∃ z : Nat, (1 - e - nd m).toNat = z + 1 := ⟨(1 - e - nd m).toNat - 1, by have := HK.out; omega⟩
      unfold textN; rw [if_neg (by omega), if_pos ⟨he, he2⟩, hp, hz, List.length_append, List.length_replicate, Lib.decDigits_length, show (((z + 1 + Lib.nDigits m.natAbs : Nat) : Int) + e).toNat = 1 by unfold nd at hz; omega, List.replicate_succ, zerosN_list, bytes_digs _ (by omega), show (-e - ((digs m.natAbs).length : Int)).toNat = z by rw [HK.out]; omega]; simp)
  have HG := Keep.mk (show sgn m = [] by unfold sgn; rw [if_neg hn])
  go_enter Tryz.func101, Tryz.ntmps101
  go_wp2_with fail
  refine (ref_Right m e hm _).mono ?_
  rw [h]
  rintro r W1 ⟨rfl, hb⟩
  have Hx := Keep.mk ((Box.new (w := w) (n := w.heap.size) [.int .i64 m, .int .i64 e] 23 (by first | rfl | simp)).below hb (by simp only [World.size_alloc]; omega))
  have HB := Keep.mk (up (al1 w _) hb)
  have xc0 := Hx.out.cell 0 _ rfl
  have xf0 := Hx.out.froz 0
  have xc1 := Hx.out.cell 1 _ rfl
  have xf1 := Hx.out.froz 1
  have xl := Hx.out.lt
  go_wp2_with fail
  refine (long_pos m e hm (by omega) _).mono ?_
  rintro r W2 ⟨A2, c2, rfl, hI2, hb⟩
  clear xc0 xc1 xf0 xf1 xl
  replace Hx := Keep.mk (Hx.out.below hb Hx.out.lt)
  replace HB := Keep.mk (up HB.out hb)
  have xc0 := Hx.out.cell 0 _ rfl
  have xf0 := Hx.out.froz 0
  have xc1 := Hx.out.cell 1 _ rfl
  have xf1 := Hx.out.froz 1
  have xl := Hx.out.lt
  have HJ := Keep.mk hI2
  clear hn
  go_upto_region 4 with fail
  have xlW2 := Hx.out.lt
  refine wp_world (fun W => Box W (w.heap.size) [.int .i64 m, .int .i64 e] ∧ Box W (W2.heap.size) [.bool false, .slice A2 (digs m.natAbs).length c2, .int .i64 e] ∧ Below w.heap.size w W ∧ IntsAt W W.heap.size A2 c2 (digs m.natAbs)) ⟨Hx.out.alloc _, Box.new [.bool false, .slice A2 (digs m.natAbs).length c2, .int .i64 e] _ rfl, up HB.out (al1 _ _), (HJ.out.below (al1 _ _) (Nat.le_refl _)).more (al1 _ _).size⟩ ?_
  clear xc0 xc1 xf0 xf1 xl
  clear Hx HB HJ
  rintro W3 ⟨Hx, Hp, HB, HJ⟩
  replace Hx := Keep.mk Hx
  replace Hp := Keep.mk Hp
  replace HB := Keep.mk HB
  replace HJ := Keep.mk HJ
  have xc0 := Hx.out.cell 0 _ rfl
  have xf0 := Hx.out.froz 0
  have xc1 := Hx.out.cell 1 _ rfl
  have xf1 := Hx.out.froz 1
  have xl := Hx.out.lt
  have pc0 := Hp.out.cell 0 _ rfl
  have pf0 := Hp.out.froz 0
  have pc1 := Hp.out.cell 1 _ rfl
  have pf1 := Hp.out.froz 1
  have pc2 := Hp.out.cell 2 _ rfl
  have pf2 := Hp.out.froz 2
  have pl := Hp.out.lt
  generalize hds : digs m.natAbs = ds at *
  clear hds
  obtain ⟨S, hS⟩ : ∃ S, bytesN ds = S := ⟨_, rfl⟩
  obtain ⟨Z, hZ⟩ : ∃ Z, zerosN (-e - (ds.length : Int)).toNat = Z := ⟨_, rfl⟩
  have hSs : S.size ≤ 1000 := by rw [← hS, bytesN_size]; omega
  have hZs : Z.size ≤ 1000 := by rw [← hZ, zerosN_size]; omega
  rw [hS, hZ] at HF
  have HS := Keep.mk hS
  have HZ := Keep.mk hZ
  clear hS hZ
  go_wp2_with fail
  refine wp_region_above (by kernel_rfl) (by kernel_rfl) ?_
  repeat (go_big_quiet_step (((first | (go_at_call 158; exact calls_above (text_at A2 c2 _ ds rfl HD.out (by omega) S HS.out _ (above_ints HJ.out _))) | (go_at_call 159; exact calls_above (nought_at _ (by omega) Z HZ.out _))))))
  refine wpQuiet_nil ?_
  rintro _ ⟨x, rfl⟩
  go_wp2
  go_ret2
  exact ⟨ret_print (by rw [HF.out, HG.out]; simp), up HB.out x.property⟩
set_option maxRecDepth 100000 in
set_option maxHeartbeats 2000000 in
theorem rprint_c1_n (m e : Int) (hm : I64 m) (h : right m e = true) (_hm0 : m ≠ 0) (hn : m < 0) (he : 0 ≤ e) (hk : 21 < (nd m : Int) + e) (w : World) : Calls Tryz.prog 101 #[.agg #[.int .i64 m, .int .i64 e]] w fun r w' => r = .returned (printRes (textN m e, 0)) ∧ Below w.heap.size w w' := by
  have HE := right_exp h
  have hlen := digs_len m.natAbs (by have := hm.lo; have := hm.hi; omega)
  have HD := Keep.mk (digs_digs m.natAbs)
  have HK := Keep.mk (show ((digs m.natAbs).length : Nat) = nd m from nDigits_digs _ (by omega))
  have hkk : 1 ≤ (digs m.natAbs).length := by rw [HK.out]; exact nd_pos m
  rw [← HK.out] at hk
  have he0 : 0 < e := by omega
  have hlen2 := digs_len e.natAbs (by omega)
  have HD2 := Keep.mk (digs_digs e.natAbs)
  have hIe : I64 e := ⟨by omega, by omega⟩
  have HF := Keep.mk (show textN m e = sgn m ++ (bytesN (digs m.natAbs)).data.toList ++ [101] ++ (bytesN (digs e.natAbs)).data.toList by
      unfold textN; rw [if_neg (by have := HK.out; omega), if_neg (by omega), bytes_digs _ (by omega), bytes_digs _ (by omega)]; unfold Lib.itoa; rw [if_neg (by omega), show e.toNat = e.natAbs by omega])
  have HG := Keep.mk (show sgn m = [45] by unfold sgn; rw [if_pos hn])
  obtain ⟨S, hS⟩ : ∃ S, bytesN (digs m.natAbs) = S := ⟨_, rfl⟩
  obtain ⟨Z, hZ⟩ : ∃ Z, bytesN (digs e.natAbs) = Z := ⟨_, rfl⟩
  have hSs : S.size ≤ 1000 := by rw [← hS, bytesN_size]; omega
  have hZs : Z.size ≤ 1000 := by rw [← hZ, bytesN_size]; omega
  rw [hS, hZ] at HF
  have HS := Keep.mk hS
  have HZ := Keep.mk hZ
  clear hS hZ
  go_enter Tryz.func101, Tryz.ntmps101
  go_wp2_with fail
  refine (ref_Right m e hm _).mono ?_
  rw [h]
  rintro r W1 ⟨rfl, hb⟩
  have Hx := Keep.mk ((Box.new (w := w) (n := w.heap.size) [.int .i64 m, .int .i64 e] 23 (by first | rfl | simp)).below hb (by simp only [World.size_alloc]; omega))
  have HB := Keep.mk (up (al1 w _) hb)
  have xc0 := Hx.out.cell 0 _ rfl
  have xf0 := Hx.out.froz 0
  have xc1 := Hx.out.cell 1 _ rfl
  have xf1 := Hx.out.froz 1
  have xl := Hx.out.lt
  go_wp2_with fail
  refine (long_neg m e hm (by omega) _).mono ?_
  rintro r W2 ⟨A2, c2, rfl, hI2, hb⟩
  clear xc0 xc1 xf0 xf1 xl
  replace Hx := Keep.mk (Hx.out.below hb Hx.out.lt)
  replace HB := Keep.mk (up HB.out hb)
  have xc0 := Hx.out.cell 0 _ rfl
  have xf0 := Hx.out.froz 0
  have xc1 := Hx.out.cell 1 _ rfl
  have xf1 := Hx.out.froz 1
  have xl := Hx.out.lt
  have HJ := Keep.mk hI2
  clear hn
  go_upto_region 4 with fail
  have xlW2 := Hx.out.lt
  refine wp_world (fun W => Box W (w.heap.size) [.int .i64 m, .int .i64 e] ∧ Box W (W2.heap.size) [.bool true, .slice A2 (digs m.natAbs).length c2, .int .i64 e] ∧ Below w.heap.size w W ∧ IntsAt W W.heap.size A2 c2 (digs m.natAbs)) ⟨Hx.out.alloc _, Box.new [.bool true, .slice A2 (digs m.natAbs).length c2, .int .i64 e] _ rfl, up HB.out (al1 _ _), (HJ.out.below (al1 _ _) (Nat.le_refl _)).more (al1 _ _).size⟩ ?_
  clear xc0 xc1 xf0 xf1 xl
  clear Hx HB HJ
  rintro W3 ⟨Hx, Hp, HB, HJ⟩
  replace Hx := Keep.mk Hx
  replace Hp := Keep.mk Hp
  replace HB := Keep.mk HB
  replace HJ := Keep.mk HJ
  have xc0 := Hx.out.cell 0 _ rfl
  have xf0 := Hx.out.froz 0
  have xc1 := Hx.out.cell 1 _ rfl
  have xf1 := Hx.out.froz 1
  have xl := Hx.out.lt
  have pc0 := Hp.out.cell 0 _ rfl
  have pf0 := Hp.out.froz 0
  have pc1 := Hp.out.cell 1 _ rfl
  have pf1 := Hp.out.froz 1
  have pc2 := Hp.out.cell 2 _ rfl
  have pf2 := Hp.out.froz 2
  have pl := Hp.out.lt
  go_wp2_with fail
  refine (long_pos e 0 hIe (by omega) _).mono ?_
  rintro r W4 ⟨A3, c3, rfl, hI3, hb⟩
  clear xc0 xc1 xf0 xf1 xl pc0 pc1 pc2 pf0 pf1 pf2 pl
  replace Hx := Keep.mk (Hx.out.below hb Hx.out.lt)
  replace Hp := Keep.mk (Hp.out.below hb Hp.out.lt)
  replace HJ := Keep.mk ((HJ.out.below hb (Nat.le_refl _)).more hb.size)
  replace HB := Keep.mk (up HB.out hb)
  have xc0 := Hx.out.cell 0 _ rfl
  have xf0 := Hx.out.froz 0
  have xc1 := Hx.out.cell 1 _ rfl
  have xf1 := Hx.out.froz 1
  have xl := Hx.out.lt
  have pc0 := Hp.out.cell 0 _ rfl
  have pf0 := Hp.out.froz 0
  have pc1 := Hp.out.cell 1 _ rfl
  have pf1 := Hp.out.froz 1
  have pc2 := Hp.out.cell 2 _ rfl
  have pf2 := Hp.out.froz 2
  have pl := Hp.out.lt
  have HK2 := Keep.mk hI3
  go_wp2_with fail
  have xlW4 := Hx.out.lt
  have plW4 := Hp.out.lt
  refine calls_world (fun W => Box W (w.heap.size) [.int .i64 m, .int .i64 e] ∧ Box W (W2.heap.size) [.bool true, .slice A2 (digs m.natAbs).length c2, .int .i64 e] ∧ Box W (W4.heap.size) [.bool false, .slice A3 (digs e.natAbs).length c3, .int .i64 0] ∧ Below w.heap.size w W ∧ IntsAt W W.heap.size A2 c2 (digs m.natAbs) ∧ IntsAt W W.heap.size A3 c3 (digs e.natAbs)) ⟨Hx.out.alloc _, Hp.out.alloc _, Box.new [.bool false, .slice A3 (digs e.natAbs).length c3, .int .i64 0] _ rfl, up HB.out (al1 _ _), (HJ.out.below (al1 _ _) (Nat.le_refl _)).more (al1 _ _).size, (HK2.out.below (al1 _ _) (Nat.le_refl _)).more (al1 _ _).size⟩ ?_
  clear xc0 xc1 xf0 xf1 xl pc0 pc1 pc2 pf0 pf1 pf2 pl
  clear Hx Hp HB HJ HK2
  rintro W5 ⟨Hx, Hp, Hf, HB, HJ, HK2⟩
  replace Hx := Keep.mk Hx
  replace Hp := Keep.mk Hp
  replace Hf := Keep.mk Hf
  replace HB := Keep.mk HB
  replace HJ := Keep.mk HJ
  replace HK2 := Keep.mk HK2
  have xc0 := Hx.out.cell 0 _ rfl
  have xf0 := Hx.out.froz 0
  have xc1 := Hx.out.cell 1 _ rfl
  have xf1 := Hx.out.froz 1
  have xl := Hx.out.lt
  have pc0 := Hp.out.cell 0 _ rfl
  have pf0 := Hp.out.froz 0
  have pc1 := Hp.out.cell 1 _ rfl
  have pf1 := Hp.out.froz 1
  have pc2 := Hp.out.cell 2 _ rfl
  have pf2 := Hp.out.froz 2
  have pl := Hp.out.lt
  have fc0 := Hf.out.cell 0 _ rfl
  have ff0 := Hf.out.froz 0
  have fc1 := Hf.out.cell 1 _ rfl
  have ff1 := Hf.out.froz 1
  have fc2 := Hf.out.cell 2 _ rfl
  have ff2 := Hf.out.froz 2
  have fl := Hf.out.lt
  refine (text_at A2 c2 _ (digs m.natAbs) rfl HD.out (by omega) S HS.out _ HJ.out).mono ?_
  rintro r W6 ⟨rfl, hb⟩
  clear xc0 xc1 xf0 xf1 xl pc0 pc1 pc2 pf0 pf1 pf2 pl fc0 fc1 fc2 ff0 ff1 ff2 fl
  replace Hx := Keep.mk (Hx.out.below hb Hx.out.lt)
  replace Hp := Keep.mk (Hp.out.below hb Hp.out.lt)
  replace Hf := Keep.mk (Hf.out.below hb Hf.out.lt)
  replace HJ := Keep.mk ((HJ.out.below hb (Nat.le_refl _)).more hb.size)
  replace HK2 := Keep.mk ((HK2.out.below hb (Nat.le_refl _)).more hb.size)
  replace HB := Keep.mk (up HB.out hb)
  have xc0 := Hx.out.cell 0 _ rfl
  have xf0 := Hx.out.froz 0
  have xc1 := Hx.out.cell 1 _ rfl
  have xf1 := Hx.out.froz 1
  have xl := Hx.out.lt
  have pc0 := Hp.out.cell 0 _ rfl
  have pf0 := Hp.out.froz 0
  have pc1 := Hp.out.cell 1 _ rfl
  have pf1 := Hp.out.froz 1
  have pc2 := Hp.out.cell 2 _ rfl
  have pf2 := Hp.out.froz 2
  have pl := Hp.out.lt
  have fc0 := Hf.out.cell 0 _ rfl
  have ff0 := Hf.out.froz 0
  have fc1 := Hf.out.cell 1 _ rfl
  have ff1 := Hf.out.froz 1
  have fc2 := Hf.out.cell 2 _ rfl
  have ff2 := Hf.out.froz 2
  have fl := Hf.out.lt
  go_wp2_with fail
  refine (text_at A3 c3 _ (digs e.natAbs) rfl HD2.out (by omega) Z HZ.out _ HK2.out).mono ?_
  rintro r W7 ⟨rfl, hb⟩
  clear xc0 xc1 xf0 xf1 xl pc0 pc1 pc2 pf0 pf1 pf2 pl fc0 fc1 fc2 ff0 ff1 ff2 fl
  replace Hx := Keep.mk (Hx.out.below hb Hx.out.lt)
  replace Hp := Keep.mk (Hp.out.below hb Hp.out.lt)
  replace Hf := Keep.mk (Hf.out.below hb Hf.out.lt)
  replace HJ := Keep.mk ((HJ.out.below hb (Nat.le_refl _)).more hb.size)
  replace HK2 := Keep.mk ((HK2.out.below hb (Nat.le_refl _)).more hb.size)
  replace HB := Keep.mk (up HB.out hb)
  have xc0 := Hx.out.cell 0 _ rfl
  have xf0 := Hx.out.froz 0
  have xc1 := Hx.out.cell 1 _ rfl
  have xf1 := Hx.out.froz 1
  have xl := Hx.out.lt
  have pc0 := Hp.out.cell 0 _ rfl
  have pf0 := Hp.out.froz 0
  have pc1 := Hp.out.cell 1 _ rfl
  have pf1 := Hp.out.froz 1
  have pc2 := Hp.out.cell 2 _ rfl
  have pf2 := Hp.out.froz 2
  have pl := Hp.out.lt
  have fc0 := Hf.out.cell 0 _ rfl
  have ff0 := Hf.out.froz 0
  have fc1 := Hf.out.cell 1 _ rfl
  have ff1 := Hf.out.froz 1
  have fc2 := Hf.out.cell 2 _ rfl
  have ff2 := Hf.out.froz 2
  have fl := Hf.out.lt
  go_wp2
  go_ret2
  exact ⟨ret_print (by rw [HF.out, HG.out]; simp), HB.out⟩
set_option maxRecDepth 100000 in
set_option maxHeartbeats 2000000 in
theorem rprint_c2_n (m e : Int) (hm : I64 m) (h : right m e = true) (_hm0 : m ≠ 0) (hn : m < 0) (he : e < -20) (w : World) : Calls Tryz.prog 101 #[.agg #[.int .i64 m, .int .i64 e]] w fun r w' => r = .returned (printRes (textN m e, 0)) ∧ Below w.heap.size w w' := by
  have HE := right_exp h
  have hlen := digs_len m.natAbs (by have := hm.lo; have := hm.hi; omega)
  have HD := Keep.mk (digs_digs m.natAbs)
  have HK := Keep.mk (show ((digs m.natAbs).length : Nat) = nd m from nDigits_digs _ (by omega))
  have hkk : 1 ≤ (digs m.natAbs).length := by rw [HK.out]; exact nd_pos m
  have hlen2 := digs_len e.natAbs (by omega)
  have HD2 := Keep.mk (digs_digs e.natAbs)
  have hIe : I64 e := ⟨by omega, by omega⟩
  have HF := Keep.mk (show textN m e = sgn m ++ (bytesN (digs m.natAbs)).data.toList ++ [101] ++ [45] ++ (bytesN (digs e.natAbs)).data.toList by
      unfold textN; rw [if_neg (by have := HK.out; omega), if_neg (by omega), bytes_digs _ (by omega), bytes_digs _ (by omega)]; unfold Lib.itoa; rw [if_pos (by omega)]; simp)
  have HG := Keep.mk (show sgn m = [45] by unfold sgn; rw [if_pos hn])
  obtain ⟨S, hS⟩ : ∃ S, bytesN (digs m.natAbs) = S := ⟨_, rfl⟩
  obtain ⟨Z, hZ⟩ : ∃ Z, bytesN (digs e.natAbs) = Z := ⟨_, rfl⟩
  have hSs : S.size ≤ 1000 := by rw [← hS, bytesN_size]; omega
  have hZs : Z.size ≤ 1000 := by rw [← hZ, bytesN_size]; omega
  rw [hS, hZ] at HF
  have HS := Keep.mk hS
  have HZ := Keep.mk hZ
  clear hS hZ
  go_enter Tryz.func101, Tryz.ntmps101
  go_wp2_with fail
  refine (ref_Right m e hm _).mono ?_
  rw [h]
  rintro r W1 ⟨rfl, hb⟩
  have Hx := Keep.mk ((Box.new (w := w) (n := w.heap.size) [.int .i64 m, .int .i64 e] 23 (by first | rfl | simp)).below hb (by simp only [World.size_alloc]; omega))
  have HB := Keep.mk (up (al1 w _) hb)
  have xc0 := Hx.out.cell 0 _ rfl
  have xf0 := Hx.out.froz 0
  have xc1 := Hx.out.cell 1 _ rfl
  have xf1 := Hx.out.froz 1
  have xl := Hx.out.lt
  go_wp2_with fail
  refine (long_neg m e hm (by omega) _).mono ?_
  rintro r W2 ⟨A2, c2, rfl, hI2, hb⟩
  clear xc0 xc1 xf0 xf1 xl
  replace Hx := Keep.mk (Hx.out.below hb Hx.out.lt)
  replace HB := Keep.mk (up HB.out hb)
  have xc0 := Hx.out.cell 0 _ rfl
  have xf0 := Hx.out.froz 0
  have xc1 := Hx.out.cell 1 _ rfl
  have xf1 := Hx.out.froz 1
  have xl := Hx.out.lt
  have HJ := Keep.mk hI2
  clear hn
  go_upto_region 4 with fail
  have xlW2 := Hx.out.lt
  refine wp_world (fun W => Box W (w.heap.size) [.int .i64 m, .int .i64 e] ∧ Box W (W2.heap.size) [.bool true, .slice A2 (digs m.natAbs).length c2, .int .i64 e] ∧ Below w.heap.size w W ∧ IntsAt W W.heap.size A2 c2 (digs m.natAbs)) ⟨Hx.out.alloc _, Box.new [.bool true, .slice A2 (digs m.natAbs).length c2, .int .i64 e] _ rfl, up HB.out (al1 _ _), (HJ.out.below (al1 _ _) (Nat.le_refl _)).more (al1 _ _).size⟩ ?_
  clear xc0 xc1 xf0 xf1 xl
  clear Hx HB HJ
  rintro W3 ⟨Hx, Hp, HB, HJ⟩
  replace Hx := Keep.mk Hx
  replace Hp := Keep.mk Hp
  replace HB := Keep.mk HB
  replace HJ := Keep.mk HJ
  have xc0 := Hx.out.cell 0 _ rfl
  have xf0 := Hx.out.froz 0
  have xc1 := Hx.out.cell 1 _ rfl
  have xf1 := Hx.out.froz 1
  have xl := Hx.out.lt
  have pc0 := Hp.out.cell 0 _ rfl
  have pf0 := Hp.out.froz 0
  have pc1 := Hp.out.cell 1 _ rfl
  have pf1 := Hp.out.froz 1
  have pc2 := Hp.out.cell 2 _ rfl
  have pf2 := Hp.out.froz 2
  have pl := Hp.out.lt
  go_wp2_with fail
  refine (long_neg e 0 hIe (by omega) _).mono ?_
  rintro r W4 ⟨A3, c3, rfl, hI3, hb⟩
  clear xc0 xc1 xf0 xf1 xl pc0 pc1 pc2 pf0 pf1 pf2 pl
  replace Hx := Keep.mk (Hx.out.below hb Hx.out.lt)
  replace Hp := Keep.mk (Hp.out.below hb Hp.out.lt)
  replace HJ := Keep.mk ((HJ.out.below hb (Nat.le_refl _)).more hb.size)
  replace HB := Keep.mk (up HB.out hb)
  have xc0 := Hx.out.cell 0 _ rfl
  have xf0 := Hx.out.froz 0
  have xc1 := Hx.out.cell 1 _ rfl
  have xf1 := Hx.out.froz 1
  have xl := Hx.out.lt
  have pc0 := Hp.out.cell 0 _ rfl
  have pf0 := Hp.out.froz 0
  have pc1 := Hp.out.cell 1 _ rfl
  have pf1 := Hp.out.froz 1
  have pc2 := Hp.out.cell 2 _ rfl
  have pf2 := Hp.out.froz 2
  have pl := Hp.out.lt
  have HK2 := Keep.mk hI3
  go_wp2_with fail
  have xlW4 := Hx.out.lt
  have plW4 := Hp.out.lt
  refine calls_world (fun W => Box W (w.heap.size) [.int .i64 m, .int .i64 e] ∧ Box W (W2.heap.size) [.bool true, .slice A2 (digs m.natAbs).length c2, .int .i64 e] ∧ Box W (W4.heap.size) [.bool true, .slice A3 (digs e.natAbs).length c3, .int .i64 0] ∧ Below w.heap.size w W ∧ IntsAt W W.heap.size A2 c2 (digs m.natAbs) ∧ IntsAt W W.heap.size A3 c3 (digs e.natAbs)) ⟨Hx.out.alloc _, Hp.out.alloc _, Box.new [.bool true, .slice A3 (digs e.natAbs).length c3, .int .i64 0] _ rfl, up HB.out (al1 _ _), (HJ.out.below (al1 _ _) (Nat.le_refl _)).more (al1 _ _).size, (HK2.out.below (al1 _ _) (Nat.le_refl _)).more (al1 _ _).size⟩ ?_
  clear xc0 xc1 xf0 xf1 xl pc0 pc1 pc2 pf0 pf1 pf2 pl
  clear Hx Hp HB HJ HK2
  rintro W5 ⟨Hx, Hp, Hf, HB, HJ, HK2⟩
  replace Hx := Keep.mk Hx
  replace Hp := Keep.mk Hp
  replace Hf := Keep.mk Hf
  replace HB := Keep.mk HB
  replace HJ := Keep.mk HJ
  replace HK2 := Keep.mk HK2
  have xc0 := Hx.out.cell 0 _ rfl
  have xf0 := Hx.out.froz 0
  have xc1 := Hx.out.cell 1 _ rfl
  have xf1 := Hx.out.froz 1
  have xl := Hx.out.lt
  have pc0 := Hp.out.cell 0 _ rfl
  have pf0 := Hp.out.froz 0
  have pc1 := Hp.out.cell 1 _ rfl
  have pf1 := Hp.out.froz 1
  have pc2 := Hp.out.cell 2 _ rfl
  have pf2 := Hp.out.froz 2
  have pl := Hp.out.lt
  have fc0 := Hf.out.cell 0 _ rfl
  have ff0 := Hf.out.froz 0
  have fc1 := Hf.out.cell 1 _ rfl
  have ff1 := Hf.out.froz 1
  have fc2 := Hf.out.cell 2 _ rfl
  have ff2 := Hf.out.froz 2
  have fl := Hf.out.lt
  refine (text_at A2 c2 _ (digs m.natAbs) rfl HD.out (by omega) S HS.out _ HJ.out).mono ?_
  rintro r W6 ⟨rfl, hb⟩
  clear xc0 xc1 xf0 xf1 xl pc0 pc1 pc2 pf0 pf1 pf2 pl fc0 fc1 fc2 ff0 ff1 ff2 fl
  replace Hx := Keep.mk (Hx.out.below hb Hx.out.lt)
  replace Hp := Keep.mk (Hp.out.below hb Hp.out.lt)
  replace Hf := Keep.mk (Hf.out.below hb Hf.out.lt)
  replace HJ := Keep.mk ((HJ.out.below hb (Nat.le_refl _)).more hb.size)
  replace HK2 := Keep.mk ((HK2.out.below hb (Nat.le_refl _)).more hb.size)
  replace HB := Keep.mk (up HB.out hb)
  have xc0 := Hx.out.cell 0 _ rfl
  have xf0 := Hx.out.froz 0
  have xc1 := Hx.out.cell 1 _ rfl
  have xf1 := Hx.out.froz 1
  have xl := Hx.out.lt
  have pc0 := Hp.out.cell 0 _ rfl
  have pf0 := Hp.out.froz 0
  have pc1 := Hp.out.cell 1 _ rfl
  have pf1 := Hp.out.froz 1
  have pc2 := Hp.out.cell 2 _ rfl
  have pf2 := Hp.out.froz 2
  have pl := Hp.out.lt
  have fc0 := Hf.out.cell 0 _ rfl
  have ff0 := Hf.out.froz 0
  have fc1 := Hf.out.cell 1 _ rfl
  have ff1 := Hf.out.froz 1
  have fc2 := Hf.out.cell 2 _ rfl
  have ff2 := Hf.out.froz 2
  have fl := Hf.out.lt
  go_wp2_with fail
  refine (text_at A3 c3 _ (digs e.natAbs) rfl HD2.out (by omega) Z HZ.out _ HK2.out).mono ?_
  rintro r W7 ⟨rfl, hb⟩
  clear xc0 xc1 xf0 xf1 xl pc0 pc1 pc2 pf0 pf1 pf2 pl fc0 fc1 fc2 ff0 ff1 ff2 fl
  replace Hx := Keep.mk (Hx.out.below hb Hx.out.lt)
  replace Hp := Keep.mk (Hp.out.below hb Hp.out.lt)
  replace Hf := Keep.mk (Hf.out.below hb Hf.out.lt)
  replace HJ := Keep.mk ((HJ.out.below hb (Nat.le_refl _)).more hb.size)
  replace HK2 := Keep.mk ((HK2.out.below hb (Nat.le_refl _)).more hb.size)
  replace HB := Keep.mk (up HB.out hb)
  have xc0 := Hx.out.cell 0 _ rfl
  have xf0 := Hx.out.froz 0
  have xc1 := Hx.out.cell 1 _ rfl
  have xf1 := Hx.out.froz 1
  have xl := Hx.out.lt
  have pc0 := Hp.out.cell 0 _ rfl
  have pf0 := Hp.out.froz 0
  have pc1 := Hp.out.cell 1 _ rfl
  have pf1 := Hp.out.froz 1
  have pc2 := Hp.out.cell 2 _ rfl
  have pf2 := Hp.out.froz 2
  have pl := Hp.out.lt
  have fc0 := Hf.out.cell 0 _ rfl
  have ff0 := Hf.out.froz 0
  have fc1 := Hf.out.cell 1 _ rfl
  have ff1 := Hf.out.froz 1
  have fc2 := Hf.out.cell 2 _ rfl
  have ff2 := Hf.out.froz 2
  have fl := Hf.out.lt
  go_wp2
  go_ret2
  exact ⟨ret_print (by rw [HF.out, HG.out]; simp), HB.out⟩
set_option maxRecDepth 100000 in
set_option maxHeartbeats 2000000 in
theorem rprint_c1_p (m e : Int) (hm : I64 m) (h : right m e = true) (hm0 : m ≠ 0) (hn : ¬ m < 0) (he : 0 ≤ e) (hk : 21 < (nd m : Int) + e) (w : World) : Calls Tryz.prog 101 #[.agg #[.int .i64 m, .int .i64 e]] w fun r w' => r = .returned (printRes (textN m e, 0)) ∧ Below w.heap.size w w' := by
  have HE := right_exp h
  have hlen := digs_len m.natAbs (by have := hm.lo; have := hm.hi; omega)
  have HD := Keep.mk (digs_digs m.natAbs)
  have HK := Keep.mk (show ((digs m.natAbs).length : Nat) = nd m from nDigits_digs _ (by omega))
  have hkk : 1 ≤ (digs m.natAbs).length := by rw [HK.out]; exact nd_pos m
  rw [← HK.out] at hk
  have he0 : 0 < e := by omega
  have hlen2 := digs_len e.natAbs (by omega)
  have HD2 := Keep.mk (digs_digs e.natAbs)
  have hIe : I64 e := ⟨by omega, by omega⟩
  have HF := Keep.mk (show textN m e = sgn m ++ (bytesN (digs m.natAbs)).data.toList ++ [101] ++ (bytesN (digs e.natAbs)).data.toList by
      unfold textN; rw [if_neg (by have := HK.out; omega), if_neg (by omega), bytes_digs _ (by omega), bytes_digs _ (by omega)]; unfold Lib.itoa; rw [if_neg (by omega), show e.toNat = e.natAbs by omega])
  have HG := Keep.mk (show sgn m = [] by unfold sgn; rw [if_neg hn])
  obtain ⟨S, hS⟩ : ∃ S, bytesN (digs m.natAbs) = S := ⟨_, rfl⟩
  obtain ⟨Z, hZ⟩ : ∃ Z, bytesN (digs e.natAbs) = Z := ⟨_, rfl⟩
  have hSs : S.size ≤ 1000 := by rw [← hS, bytesN_size]; omega
  have hZs : Z.size ≤ 1000 := by rw [← hZ, bytesN_size]; omega
  rw [hS, hZ] at HF
  have HS := Keep.mk hS
  have HZ := Keep.mk hZ
  clear hS hZ
  go_enter Tryz.func101, Tryz.ntmps101
  go_wp2_with fail
  refine (ref_Right m e hm _).mono ?_
  rw [h]
  rintro r W1 ⟨rfl, hb⟩
  have Hx := Keep.mk ((Box.new (w := w) (n := w.heap.size) [.int .i64 m, .int .i64 e] 23 (by first | rfl | simp)).below hb (by simp only [World.size_alloc]; omega))
  have HB := Keep.mk (up (al1 w _) hb)
  have xc0 := Hx.out.cell 0 _ rfl
  have xf0 := Hx.out.froz 0
  have xc1 := Hx.out.cell 1 _ rfl
  have xf1 := Hx.out.froz 1
  have xl := Hx.out.lt
  go_wp2_with fail
  refine (long_pos m e hm (by omega) _).mono ?_
  rintro r W2 ⟨A2, c2, rfl, hI2, hb⟩
  clear xc0 xc1 xf0 xf1 xl
  replace Hx := Keep.mk (Hx.out.below hb Hx.out.lt)
  replace HB := Keep.mk (up HB.out hb)
  have xc0 := Hx.out.cell 0 _ rfl
  have xf0 := Hx.out.froz 0
  have xc1 := Hx.out.cell 1 _ rfl
  have xf1 := Hx.out.froz 1
  have xl := Hx.out.lt
  have HJ := Keep.mk hI2
  clear hn
  go_upto_region 4 with fail
  have xlW2 := Hx.out.lt
  refine wp_world (fun W => Box W (w.heap.size) [.int .i64 m, .int .i64 e] ∧ Box W (W2.heap.size) [.bool false, .slice A2 (digs m.natAbs).length c2, .int .i64 e] ∧ Below w.heap.size w W ∧ IntsAt W W.heap.size A2 c2 (digs m.natAbs)) ⟨Hx.out.alloc _, Box.new [.bool false, .slice A2 (digs m.natAbs).length c2, .int .i64 e] _ rfl, up HB.out (al1 _ _), (HJ.out.below (al1 _ _) (Nat.le_refl _)).more (al1 _ _).size⟩ ?_
  clear xc0 xc1 xf0 xf1 xl
  clear Hx HB HJ
  rintro W3 ⟨Hx, Hp, HB, HJ⟩
  replace Hx := Keep.mk Hx
  replace Hp := Keep.mk Hp
  replace HB := Keep.mk HB
  replace HJ := Keep.mk HJ
  have xc0 := Hx.out.cell 0 _ rfl
  have xf0 := Hx.out.froz 0
  have xc1 := Hx.out.cell 1 _ rfl
  have xf1 := Hx.out.froz 1
  have xl := Hx.out.lt
  have pc0 := Hp.out.cell 0 _ rfl
  have pf0 := Hp.out.froz 0
  have pc1 := Hp.out.cell 1 _ rfl
  have pf1 := Hp.out.froz 1
  have pc2 := Hp.out.cell 2 _ rfl
  have pf2 := Hp.out.froz 2
  have pl := Hp.out.lt
  go_wp2_with fail
  refine (long_pos e 0 hIe (by omega) _).mono ?_
  rintro r W4 ⟨A3, c3, rfl, hI3, hb⟩
  clear xc0 xc1 xf0 xf1 xl pc0 pc1 pc2 pf0 pf1 pf2 pl
  replace Hx := Keep.mk (Hx.out.below hb Hx.out.lt)
  replace Hp := Keep.mk (Hp.out.below hb Hp.out.lt)
  replace HJ := Keep.mk ((HJ.out.below hb (Nat.le_refl _)).more hb.size)
  replace HB := Keep.mk (up HB.out hb)
  have xc0 := Hx.out.cell 0 _ rfl
  have xf0 := Hx.out.froz 0
  have xc1 := Hx.out.cell 1 _ rfl
  have xf1 := Hx.out.froz 1
  have xl := Hx.out.lt
  have pc0 := Hp.out.cell 0 _ rfl
  have pf0 := Hp.out.froz 0
  have pc1 := Hp.out.cell 1 _ rfl
  have pf1 := Hp.out.froz 1
  have pc2 := Hp.out.cell 2 _ rfl
  have pf2 := Hp.out.froz 2
  have pl := Hp.out.lt
  have HK2 := Keep.mk hI3
  go_wp2_with fail
  have xlW4 := Hx.out.lt
  have plW4 := Hp.out.lt
  refine calls_world (fun W => Box W (w.heap.size) [.int .i64 m, .int .i64 e] ∧ Box W (W2.heap.size) [.bool false, .slice A2 (digs m.natAbs).length c2, .int .i64 e] ∧ Box W (W4.heap.size) [.bool false, .slice A3 (digs e.natAbs).length c3, .int .i64 0] ∧ Below w.heap.size w W ∧ IntsAt W W.heap.size A2 c2 (digs m.natAbs) ∧ IntsAt W W.heap.size A3 c3 (digs e.natAbs)) ⟨Hx.out.alloc _, Hp.out.alloc _, Box.new [.bool false, .slice A3 (digs e.natAbs).length c3, .int .i64 0] _ rfl, up HB.out (al1 _ _), (HJ.out.below (al1 _ _) (Nat.le_refl _)).more (al1 _ _).size, (HK2.out.below (al1 _ _) (Nat.le_refl _)).more (al1 _ _).size⟩ ?_
  clear xc0 xc1 xf0 xf1 xl pc0 pc1 pc2 pf0 pf1 pf2 pl
  clear Hx Hp HB HJ HK2
  rintro W5 ⟨Hx, Hp, Hf, HB, HJ, HK2⟩
  replace Hx := Keep.mk Hx
  replace Hp := Keep.mk Hp
  replace Hf := Keep.mk Hf
  replace HB := Keep.mk HB
  replace HJ := Keep.mk HJ
  replace HK2 := Keep.mk HK2
  have xc0 := Hx.out.cell 0 _ rfl
  have xf0 := Hx.out.froz 0
  have xc1 := Hx.out.cell 1 _ rfl
  have xf1 := Hx.out.froz 1
  have xl := Hx.out.lt
  have pc0 := Hp.out.cell 0 _ rfl
  have pf0 := Hp.out.froz 0
  have pc1 := Hp.out.cell 1 _ rfl
  have pf1 := Hp.out.froz 1
  have pc2 := Hp.out.cell 2 _ rfl
  have pf2 := Hp.out.froz 2
  have pl := Hp.out.lt
  have fc0 := Hf.out.cell 0 _ rfl
  have ff0 := Hf.out.froz 0
  have fc1 := Hf.out.cell 1 _ rfl
  have ff1 := Hf.out.froz 1
  have fc2 := Hf.out.cell 2 _ rfl
  have ff2 := Hf.out.froz 2
  have fl := Hf.out.lt
  refine (text_at A2 c2 _ (digs m.natAbs) rfl HD.out (by omega) S HS.out _ HJ.out).mono ?_
  rintro r W6 ⟨rfl, hb⟩
  clear xc0 xc1 xf0 xf1 xl pc0 pc1 pc2 pf0 pf1 pf2 pl fc0 fc1 fc2 ff0 ff1 ff2 fl
  replace Hx := Keep.mk (Hx.out.below hb Hx.out.lt)
  replace Hp := Keep.mk (Hp.out.below hb Hp.out.lt)
  replace Hf := Keep.mk (Hf.out.below hb Hf.out.lt)
  replace HJ := Keep.mk ((HJ.out.below hb (Nat.le_refl _)).more hb.size)
  replace HK2 := Keep.mk ((HK2.out.below hb (Nat.le_refl _)).more hb.size)
  replace HB := Keep.mk (up HB.out hb)
  have xc0 := Hx.out.cell 0 _ rfl
  have xf0 := Hx.out.froz 0
  have xc1 := Hx.out.cell 1 _ rfl
  have xf1 := Hx.out.froz 1
  have xl := Hx.out.lt
  have pc0 := Hp.out.cell 0 _ rfl
  have pf0 := Hp.out.froz 0
  have pc1 := Hp.out.cell 1 _ rfl
  have pf1 := Hp.out.froz 1
  have pc2 := Hp.out.cell 2 _ rfl
  have pf2 := Hp.out.froz 2
  have pl := Hp.out.lt
  have fc0 := Hf.out.cell 0 _ rfl
  have ff0 := Hf.out.froz 0
  have fc1 := Hf.out.cell 1 _ rfl
  have ff1 := Hf.out.froz 1
  have fc2 := Hf.out.cell 2 _ rfl
  have ff2 := Hf.out.froz 2
  have fl := Hf.out.lt
  go_wp2_with fail
  refine (text_at A3 c3 _ (digs e.natAbs) rfl HD2.out (by omega) Z HZ.out _ HK2.out).mono ?_
  rintro r W7 ⟨rfl, hb⟩
  clear xc0 xc1 xf0 xf1 xl pc0 pc1 pc2 pf0 pf1 pf2 pl fc0 fc1 fc2 ff0 ff1 ff2 fl
  replace Hx := Keep.mk (Hx.out.below hb Hx.out.lt)
  replace Hp := Keep.mk (Hp.out.below hb Hp.out.lt)
  replace Hf := Keep.mk (Hf.out.below hb Hf.out.lt)
  replace HJ := Keep.mk ((HJ.out.below hb (Nat.le_refl _)).more hb.size)
  replace HK2 := Keep.mk ((HK2.out.below hb (Nat.le_refl _)).more hb.size)
  replace HB := Keep.mk (up HB.out hb)
  have xc0 := Hx.out.cell 0 _ rfl
  have xf0 := Hx.out.froz 0
  have xc1 := Hx.out.cell 1 _ rfl
  have xf1 := Hx.out.froz 1
  have xl := Hx.out.lt
  have pc0 := Hp.out.cell 0 _ rfl
  have pf0 := Hp.out.froz 0
  have pc1 := Hp.out.cell 1 _ rfl
  have pf1 := Hp.out.froz 1
  have pc2 := Hp.out.cell 2 _ rfl
  have pf2 := Hp.out.froz 2
  have pl := Hp.out.lt
  have fc0 := Hf.out.cell 0 _ rfl
  have ff0 := Hf.out.froz 0
  have fc1 := Hf.out.cell 1 _ rfl
  have ff1 := Hf.out.froz 1
  have fc2 := Hf.out.cell 2 _ rfl
  have ff2 := Hf.out.froz 2
  have fl := Hf.out.lt
  go_wp2
  go_ret2
  exact ⟨ret_print (by rw [HF.out, HG.out]; simp), HB.out⟩
set_option maxRecDepth 100000 in
set_option maxHeartbeats 2000000 in
theorem rprint_c2_p (m e : Int) (hm : I64 m) (h : right m e = true) (hm0 : m ≠ 0) (hn : ¬ m < 0) (he : e < -20) (w : World) : Calls Tryz.prog 101 #[.agg #[.int .i64 m, .int .i64 e]] w fun r w' => r = .returned (printRes (textN m e, 0)) ∧ Below w.heap.size w w' := by
  have HE := right_exp h
  have hlen := digs_len m.natAbs (by have := hm.lo; have := hm.hi; omega)
  have HD := Keep.mk (digs_digs m.natAbs)
  have HK := Keep.mk (show ((digs m.natAbs).length : Nat) = nd m from nDigits_digs _ (by omega))
  have hkk : 1 ≤ (digs m.natAbs).length := by rw [HK.out]; exact nd_pos m
  have hlen2 := digs_len e.natAbs (by omega)
  have HD2 := Keep.mk (digs_digs e.natAbs)
  have hIe : I64 e := ⟨by omega, by omega⟩
  have HF := Keep.mk (show textN m e = sgn m ++ (bytesN (digs m.natAbs)).data.toList ++ [101] ++ [45] ++ (bytesN (digs e.natAbs)).data.toList by
      unfold textN; rw [if_neg (by have := HK.out; omega), if_neg (by omega), bytes_digs _ (by omega), bytes_digs _ (by omega)]; unfold Lib.itoa; rw [if_pos (by omega)]; simp)
  have HG := Keep.mk (show sgn m = [] by unfold sgn; rw [if_neg hn])
  obtain ⟨S, hS⟩ : ∃ S, bytesN (digs m.natAbs) = S := ⟨_, rfl⟩
  obtain ⟨Z, hZ⟩ : ∃ Z, bytesN (digs e.natAbs) = Z := ⟨_, rfl⟩
  have hSs : S.size ≤ 1000 := by rw [← hS, bytesN_size]; omega
  have hZs : Z.size ≤ 1000 := by rw [← hZ, bytesN_size]; omega
  rw [hS, hZ] at HF
  have HS := Keep.mk hS
  have HZ := Keep.mk hZ
  clear hS hZ
  go_enter Tryz.func101, Tryz.ntmps101
  go_wp2_with fail
  refine (ref_Right m e hm _).mono ?_
  rw [h]
  rintro r W1 ⟨rfl, hb⟩
  have Hx := Keep.mk ((Box.new (w := w) (n := w.heap.size) [.int .i64 m, .int .i64 e] 23 (by first | rfl | simp)).below hb (by simp only [World.size_alloc]; omega))
  have HB := Keep.mk (up (al1 w _) hb)
  have xc0 := Hx.out.cell 0 _ rfl
  have xf0 := Hx.out.froz 0
  have xc1 := Hx.out.cell 1 _ rfl
  have xf1 := Hx.out.froz 1
  have xl := Hx.out.lt
  go_wp2_with fail
  refine (long_pos m e hm (by omega) _).mono ?_
  rintro r W2 ⟨A2, c2, rfl, hI2, hb⟩
  clear xc0 xc1 xf0 xf1 xl
  replace Hx := Keep.mk (Hx.out.below hb Hx.out.lt)
  replace HB := Keep.mk (up HB.out hb)
  have xc0 := Hx.out.cell 0 _ rfl
  have xf0 := Hx.out.froz 0
  have xc1 := Hx.out.cell 1 _ rfl
  have xf1 := Hx.out.froz 1
  have xl := Hx.out.lt
  have HJ := Keep.mk hI2
  clear hn
  go_upto_region 4 with fail
  have xlW2 := Hx.out.lt
  refine wp_world (fun W => Box W (w.heap.size) [.int .i64 m, .int .i64 e] ∧ Box W (W2.heap.size) [.bool false, .slice A2 (digs m.natAbs).length c2, .int .i64 e] ∧ Below w.heap.size w W ∧ IntsAt W W.heap.size A2 c2 (digs m.natAbs)) ⟨Hx.out.alloc _, Box.new [.bool false, .slice A2 (digs m.natAbs).length c2, .int .i64 e] _ rfl, up HB.out (al1 _ _), (HJ.out.below (al1 _ _) (Nat.le_refl _)).more (al1 _ _).size⟩ ?_
  clear xc0 xc1 xf0 xf1 xl
  clear Hx HB HJ
  rintro W3 ⟨Hx, Hp, HB, HJ⟩
  replace Hx := Keep.mk Hx
  replace Hp := Keep.mk Hp
  replace HB := Keep.mk HB
  replace HJ := Keep.mk HJ
  have xc0 := Hx.out.cell 0 _ rfl
  have xf0 := Hx.out.froz 0
  have xc1 := Hx.out.cell 1 _ rfl
  have xf1 := Hx.out.froz 1
  have xl := Hx.out.lt
  have pc0 := Hp.out.cell 0 _ rfl
  have pf0 := Hp.out.froz 0
  have pc1 := Hp.out.cell 1 _ rfl
  have pf1 := Hp.out.froz 1
  have pc2 := Hp.out.cell 2 _ rfl
  have pf2 := Hp.out.froz 2
  have pl := Hp.out.lt
  go_wp2_with fail
  refine (long_neg e 0 hIe (by omega) _).mono ?_
  rintro r W4 ⟨A3, c3, rfl, hI3, hb⟩
  clear xc0 xc1 xf0 xf1 xl pc0 pc1 pc2 pf0 pf1 pf2 pl
  replace Hx := Keep.mk (Hx.out.below hb Hx.out.lt)
  replace Hp := Keep.mk (Hp.out.below hb Hp.out.lt)
  replace HJ := Keep.mk ((HJ.out.below hb (Nat.le_refl _)).more hb.size)
  replace HB := Keep.mk (up HB.out hb)
  have xc0 := Hx.out.cell 0 _ rfl
  have xf0 := Hx.out.froz 0
  have xc1 := Hx.out.cell 1 _ rfl
  have xf1 := Hx.out.froz 1
  have xl := Hx.out.lt
  have pc0 := Hp.out.cell 0 _ rfl
  have pf0 := Hp.out.froz 0
  have pc1 := Hp.out.cell 1 _ rfl
  have pf1 := Hp.out.froz 1
  have pc2 := Hp.out.cell 2 _ rfl
  have pf2 := Hp.out.froz 2
  have pl := Hp.out.lt
  have HK2 := Keep.mk hI3
  go_wp2_with fail
  have xlW4 := Hx.out.lt
  have plW4 := Hp.out.lt
  refine calls_world (fun W => Box W (w.heap.size) [.int .i64 m, .int .i64 e] ∧ Box W (W2.heap.size) [.bool false, .slice A2 (digs m.natAbs).length c2, .int .i64 e] ∧ Box W (W4.heap.size) [.bool true, .slice A3 (digs e.natAbs).length c3, .int .i64 0] ∧ Below w.heap.size w W ∧ IntsAt W W.heap.size A2 c2 (digs m.natAbs) ∧ IntsAt W W.heap.size A3 c3 (digs e.natAbs)) ⟨Hx.out.alloc _, Hp.out.alloc _, Box.new [.bool true, .slice A3 (digs e.natAbs).length c3, .int .i64 0] _ rfl, up HB.out (al1 _ _), (HJ.out.below (al1 _ _) (Nat.le_refl _)).more (al1 _ _).size, (HK2.out.below (al1 _ _) (Nat.le_refl _)).more (al1 _ _).size⟩ ?_
  clear xc0 xc1 xf0 xf1 xl pc0 pc1 pc2 pf0 pf1 pf2 pl
  clear Hx Hp HB HJ HK2
  rintro W5 ⟨Hx, Hp, Hf, HB, HJ, HK2⟩
  replace Hx := Keep.mk Hx
  replace Hp := Keep.mk Hp
  replace Hf := Keep.mk Hf
  replace HB := Keep.mk HB
  replace HJ := Keep.mk HJ
  replace HK2 := Keep.mk HK2
  have xc0 := Hx.out.cell 0 _ rfl
  have xf0 := Hx.out.froz 0
  have xc1 := Hx.out.cell 1 _ rfl
  have xf1 := Hx.out.froz 1
  have xl := Hx.out.lt
  have pc0 := Hp.out.cell 0 _ rfl
  have pf0 := Hp.out.froz 0
  have pc1 := Hp.out.cell 1 _ rfl
  have pf1 := Hp.out.froz 1
  have pc2 := Hp.out.cell 2 _ rfl
  have pf2 := Hp.out.froz 2
  have pl := Hp.out.lt
  have fc0 := Hf.out.cell 0 _ rfl
  have ff0 := Hf.out.froz 0
  have fc1 := Hf.out.cell 1 _ rfl
  have ff1 := Hf.out.froz 1
  have fc2 := Hf.out.cell 2 _ rfl
  have ff2 := Hf.out.froz 2
  have fl := Hf.out.lt
  refine (text_at A2 c2 _ (digs m.natAbs) rfl HD.out (by omega) S HS.out _ HJ.out).mono ?_
  rintro r W6 ⟨rfl, hb⟩
  clear xc0 xc1 xf0 xf1 xl pc0 pc1 pc2 pf0 pf1 pf2 pl fc0 fc1 fc2 ff0 ff1 ff2 fl
  replace Hx := Keep.mk (Hx.out.below hb Hx.out.lt)
  replace Hp := Keep.mk (Hp.out.below hb Hp.out.lt)
  replace Hf := Keep.mk (Hf.out.below hb Hf.out.lt)
  replace HJ := Keep.mk ((HJ.out.below hb (Nat.le_refl _)).more hb.size)
  replace HK2 := Keep.mk ((HK2.out.below hb (Nat.le_refl _)).more hb.size)
  replace HB := Keep.mk (up HB.out hb)
  have xc0 := Hx.out.cell 0 _ rfl
  have xf0 := Hx.out.froz 0
  have xc1 := Hx.out.cell 1 _ rfl
  have xf1 := Hx.out.froz 1
  have xl := Hx.out.lt
  have pc0 := Hp.out.cell 0 _ rfl
  have pf0 := Hp.out.froz 0
  have pc1 := Hp.out.cell 1 _ rfl
  have pf1 := Hp.out.froz 1
  have pc2 := Hp.out.cell 2 _ rfl
  have pf2 := Hp.out.froz 2
  have pl := Hp.out.lt
  have fc0 := Hf.out.cell 0 _ rfl
  have ff0 := Hf.out.froz 0
  have fc1 := Hf.out.cell 1 _ rfl
  have ff1 := Hf.out.froz 1
  have fc2 := Hf.out.cell 2 _ rfl
  have ff2 := Hf.out.froz 2
  have fl := Hf.out.lt
  go_wp2_with fail
  refine (text_at A3 c3 _ (digs e.natAbs) rfl HD2.out (by omega) Z HZ.out _ HK2.out).mono ?_
  rintro r W7 ⟨rfl, hb⟩
  clear xc0 xc1 xf0 xf1 xl pc0 pc1 pc2 pf0 pf1 pf2 pl fc0 fc1 fc2 ff0 ff1 ff2 fl
  replace Hx := Keep.mk (Hx.out.below hb Hx.out.lt)
  replace Hp := Keep.mk (Hp.out.below hb Hp.out.lt)
  replace Hf := Keep.mk (Hf.out.below hb Hf.out.lt)
  replace HJ := Keep.mk ((HJ.out.below hb (Nat.le_refl _)).more hb.size)
  replace HK2 := Keep.mk ((HK2.out.below hb (Nat.le_refl _)).more hb.size)
  replace HB := Keep.mk (up HB.out hb)
  have xc0 := Hx.out.cell 0 _ rfl
  have xf0 := Hx.out.froz 0
  have xc1 := Hx.out.cell 1 _ rfl
  have xf1 := Hx.out.froz 1
  have xl := Hx.out.lt
  have pc0 := Hp.out.cell 0 _ rfl
  have pf0 := Hp.out.froz 0
  have pc1 := Hp.out.cell 1 _ rfl
  have pf1 := Hp.out.froz 1
  have pc2 := Hp.out.cell 2 _ rfl
  have pf2 := Hp.out.froz 2
  have pl := Hp.out.lt
  have fc0 := Hf.out.cell 0 _ rfl
  have ff0 := Hf.out.froz 0
  have fc1 := Hf.out.cell 1 _ rfl
  have ff1 := Hf.out.froz 1
  have fc2 := Hf.out.cell 2 _ rfl
  have ff2 := Hf.out.froz 2
  have fl := Hf.out.lt
  go_wp2
  go_ret2
  exact ⟨ret_print (by rw [HF.out, HG.out]; simp), HB.out⟩
set_option maxRecDepth 100000 in
theorem rprint_zero (w : World) : Calls Tryz.prog 101 #[.agg #[.int .i64 0, .int .i64 0]] w fun r w' => r = .returned (printRes (textN 0 0, 0)) ∧ Below w.heap.size w w' := by
  have hI0 : I64 0 := ⟨by omega, by omega⟩
  have HZ := Keep.mk digs_zero
  have HT : Keep (textN 0 0 = [48]) := ⟨by rw [text_bare]; unfold sgn bareN nd; simp [Lib.nDigits, Lib.decDigits]⟩
  go_enter Tryz.func101, Tryz.ntmps101
  go_wp2_with fail
  refine (ref_Right 0 0 hI0 _).mono ?_
  rw [show right 0 0 = true from rfl]
  rintro r W1 ⟨rfl, hb⟩
  have Hx := Keep.mk ((Box.new (w := w) (n := w.heap.size) [.int .i64 0, .int .i64 0] 23 (by first | rfl | simp)).below hb (by simp only [World.size_alloc]; omega))
  have HB := Keep.mk (up (al1 w _) hb)
  have xc0 := Hx.out.cell 0 _ rfl
  have xf0 := Hx.out.froz 0
  have xc1 := Hx.out.cell 1 _ rfl
  have xf1 := Hx.out.froz 1
  have xl := Hx.out.lt
  go_wp2_with fail
  refine (long_pos 0 0 hI0 (by omega) _).mono ?_
  rw [show (0 : Int).natAbs = 0 from rfl, HZ.out]
  rintro r W2 ⟨A2, c2, rfl, hI2, hb⟩
  clear xc0 xc1 xf0 xf1 xl
  replace Hx := Keep.mk (Hx.out.below hb Hx.out.lt)
  replace HB := Keep.mk (up HB.out hb)
  have xc0 := Hx.out.cell 0 _ rfl
  have xf0 := Hx.out.froz 0
  have xc1 := Hx.out.cell 1 _ rfl
  have xf1 := Hx.out.froz 1
  have xl := Hx.out.lt
  go_upto_region 4 with fail
  have xlW2 := Hx.out.lt
  refine wp_world (fun W => Box W (w.heap.size) [.int .i64 0, .int .i64 0] ∧ Box W (W2.heap.size) [.bool false, .slice A2 ([] : List Nat).length c2, .int .i64 0] ∧ Below w.heap.size w W) ⟨Hx.out.alloc _, Box.new [.bool false, .slice A2 ([] : List Nat).length c2, .int .i64 0] _ rfl, up HB.out (al1 _ _)⟩ ?_
  clear xc0 xc1 xf0 xf1 xl
  clear Hx HB
  rintro W3 ⟨Hx, Hp, HB⟩
  replace Hx := Keep.mk Hx
  replace Hp := Keep.mk Hp
  replace HB := Keep.mk HB
  have xc0 := Hx.out.cell 0 _ rfl
  have xf0 := Hx.out.froz 0
  have xc1 := Hx.out.cell 1 _ rfl
  have xf1 := Hx.out.froz 1
  have xl := Hx.out.lt
  have pc0 := Hp.out.cell 0 _ rfl
  have pf0 := Hp.out.froz 0
  have pc1 := Hp.out.cell 1 _ rfl
  have pf1 := Hp.out.froz 1
  have pc2 := Hp.out.cell 2 _ rfl
  have pf2 := Hp.out.froz 2
  have pl := Hp.out.lt
  go_wp2
  go_ret2
  exact ⟨ret_print (by rw [HT.out]), HB.out⟩
theorem ref_Print (m e : Int) (hm : I64 m) (w : World) : Calls Tryz.prog 101 #[.agg #[.int .i64 m, .int .i64 e]] w fun r w' => r = .returned (printRes (printN m e)) ∧ Below w.heap.size w w' := by
  unfold printN
  cases h : right m e
  · exact rprint_bad m e hm h w
  · simp only [↓reduceIte]
    by_cases hm0 : m = 0
    · subst hm0
      have : e = 0 := by simpa [right] using h
      subst this
      exact rprint_zero w
    by_cases hn : m < 0
    all_goals
      by_cases he : 0 ≤ e
      · by_cases hk : (nd m : Int) + e ≤ 21
        · first | exact rprint_a_n m e hm h hm0 hn he hk w | exact rprint_a_p m e hm h hm0 hn he hk w
        · first | exact rprint_c1_n m e hm h hm0 hn he (by omega) w | exact rprint_c1_p m e hm h hm0 hn he (by omega) w
      · by_cases he2 : -20 ≤ e
        · by_cases hk : (nd m : Int) ≤ -e
          · first | exact rprint_b1_n m e hm h hm0 hn (by omega) he2 hk w | exact rprint_b1_p m e hm h hm0 hn (by omega) he2 hk w
          · first | exact rprint_b2_n m e hm h hm0 hn (by omega) he2 (by omega) w | exact rprint_b2_p m e hm h hm0 hn (by omega) he2 (by omega) w
        · first | exact rprint_c2_n m e hm h hm0 hn (by omega) w | exact rprint_c2_p m e hm h hm0 hn (by omega) w
end Go.Proofs.YtnkokhpadcgfbaaGreatDoor
