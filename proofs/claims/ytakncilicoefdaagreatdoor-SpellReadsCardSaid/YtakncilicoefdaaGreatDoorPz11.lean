/- Lemmas and contracts. Conditions: those that each lemma names. -/
import Derived.Test.YtakncilicoefdaaGreatDoorPz9
set_option maxRecDepth 100000
set_option maxHeartbeats 4000000
namespace Go.Proofs.YtakncilicoefdaaGreatDoor
open Go Go.RowKit Go.Proofs Th
attribute [local go_sem] Above.cell
def Gg (c : Int) : ByteArray := ⟨(List.replicate c.toNat (48 : UInt8)).toArray⟩
theorem Mu (c : Int) : (Gg c).size = c.toNat := by unfold Gg; show (List.replicate _ _).toArray.size = _; simp
theorem LE (c : Int) : (Gg c).data.toList = List.replicate c.toNat 48 := by unfold Gg; simp
theorem Qj (c : Nat) : Lib.repeatL [48] c = List.replicate c 48 := by
 induction c with
 | zero => rfl
 | succ c ih =>
  have : Lib.repeatL [48] (c + 1) = [48] ++ Lib.repeatL [48] c := by simp [Lib.repeatL]
  rw [this, ih]; rfl
theorem QZ (c : Int) (h0 : 0 ≤ c) (h1 : c ≤ 1000) (w : World) : Calls Tryz.prog 53 #[.string ⟨#[48]⟩, .int .i64 c] w fun r w' => r = .returned (.string (Gg c)) ∧ Below w.heap.size w w' := by
 obtain ⟨c, rfl⟩ := Int.eq_ofNat_of_zero_le h0; have h := Tryz.strings_Repeat ⟨#[48]⟩ c w (by omega) (by show 1 * c ≤ _; omega); refine h.mono ?_; rintro e w' ⟨rfl, hb⟩; refine ⟨?_, hb⟩; unfold Gg; show Ending.returned (.string ⟨(Lib.repeatL [48] c).toArray⟩) = _
 rw [Qj]; rfl
def L5 (m e : Int) : List UInt8 × Int := if right m e then (BF m e, 0) else ([], 10)
def DI (p : List UInt8 × Int) : Value := .tuple #[.string ⟨p.1.toArray⟩, .int .i64 p.2]
theorem Dr {a : ByteArray} {l : List UInt8} {c : Int} (h : a.data.toList = l) : Ending.returned (.tuple #[.string a, .int .i64 c]) = .returned (DI (l, c)) := by
 unfold DI; rw [← h]
theorem Il (p d D : ByteArray) (k n : Nat) (hn : n = D.size) : (p ++ D.extract 0 k ++ d ++ D.extract k n).data.toList = p.data.toList ++ D.data.toList.take k ++ d.data.toList ++ D.data.toList.drop k := by
 subst hn; have e1 : (D.extract 0 k).data.toList = D.data.toList.take k := by rw [Lib.extract_data]; simp
 have e2 : (D.extract k D.size).data.toList = D.data.toList.drop k := by
  rw [Lib.extract_data, List.take_of_length_le]; simp
 simp only [ByteArray.data_append, Array.toList_append, e1, e2]
theorem Qz (m e : Int) (hm : I64 m) (h : right m e = false) (w : World) (hg : GlobP w) : Calls Tryz.prog 27 #[.agg #[.int .i64 m, .int .i64 e]] w fun r w' =>
  r = .returned (DI ([], 10)) ∧ Below w.heap.size w w' := by
 go_enter Tryz.func27, Tryz.ntmps27
 go_wp2_with fail
 refine (CU m e hm.lo hm.hi _ (hg.weak.below (al1 _ _))).mono ?_; rw [h]; rintro r w1 ⟨rfl, hb1⟩; obtain ⟨hc, hf⟩ := Am hb1; go_wp2
 go_ret2
 exact ⟨rfl, up (al1 _ _) hb1⟩
theorem Yj (m e : Int) (hm : I64 m) (h : right m e = true) (he : 0 ≤ e) (hk : (nd m : Int) + e ≤ 21) (w : World) (hg : GlobP w) : Calls Tryz.prog 27 #[.agg #[.int .i64 m, .int .i64 e]] w fun r w' =>
  r = .returned (DI (BF m e, 0)) ∧ Below w.heap.size w w' := by
 obtain ⟨A, S, hA1, hA2, hA3, hA4, hA5⟩ := GU m e hm h; have hx := DX h; have hS : S.size ≤ 18 := by rw [hA3]; exact LU h
 have hS1 : 1 ≤ S.size := by rw [hA3]; exact GT m
 have HL := Keep.mk (show S.data.toList = Lib.decDigits m.natAbs by rw [hA2]); rw [← hA3] at hk; have HA4 := Keep.mk hA4; have HA5 := Keep.mk hA5; have HA3 := Keep.mk hA3; clear hA1 hA2 hA3 hA4 hA5; obtain ⟨Z, hZ⟩ : ∃ Z, Z = Gg e := ⟨_, rfl⟩
 have hz3 : Z.size ≤ 1000 := by rw [hZ, Mu]; omega
 have hrep : Keep (∀ w, Calls Tryz.prog 53 #[.string ⟨#[48]⟩, .int .i64 e] w fun r w' => r = .returned (.string Z) ∧ Below w.heap.size w w') := ⟨fun w => by rw [hZ]; exact QZ _ (by omega) (by omega) w⟩; have HZ := Keep.mk (show Z.data.toList = List.replicate e.toNat 48 by rw [hZ, LE]); clear hZ; have HF := Keep.mk (show BF m e = sgn m ++ S.data.toList ++ List.replicate e.toNat 48 by unfold BF; rw [if_pos ⟨he, by rw [← HA3.out]; exact hk⟩, HL.out]); by_cases hn : m < 0
 ·have HG := Keep.mk (show sgn m = [45] by unfold sgn; rw [if_pos hn])
  have hnF : (m < 0) = True := by simp; omega
  clear hn; go_enter Tryz.func27, Tryz.ntmps27
  go_wp2_with fail
  refine (CU m e hm.lo hm.hi _ (hg.weak.below (al1 _ _))).mono ?_; rw [h]; rintro r w1 ⟨rfl, hb1⟩; obtain ⟨hc, hf⟩ := Am hb1; go_wp2_with fail
  refine (HA4.out _).mono ?_; rintro r w2 ⟨rfl, hb2'⟩; have hb2 := up hb1 hb2'; clear hc hf; obtain ⟨hc, hf⟩ := Am hb2; go_wp2_with fail
  refine (HA5.out _ (hg.below (up (al1 _ _) hb2))).mono ?_; rintro r w3 ⟨rfl, hb3'⟩; have hb3 := up hb2 hb3'; clear hc hf; obtain ⟨hc, hf⟩ := Am hb3; go_wp2_with fail
  refine (hrep.out _).mono ?_; rintro r w4 ⟨rfl, hb4'⟩; have hb4 := up hb3 hb4'; clear hc hf; obtain ⟨hc, hf⟩ := Am hb4; go_wp2
  go_ret2
  refine ⟨Dr ?_, up (al1 _ _) hb4⟩; rw [HF.out, HG.out, ← HZ.out]; simp
 have HG := Keep.mk (show sgn m = [] by unfold sgn; rw [if_neg hn]); have hnF : (m < 0) = False := by simp; omega
 clear hn; go_enter Tryz.func27, Tryz.ntmps27
 go_wp2_with fail
 refine (CU m e hm.lo hm.hi _ (hg.weak.below (al1 _ _))).mono ?_; rw [h]; rintro r w1 ⟨rfl, hb1⟩; obtain ⟨hc, hf⟩ := Am hb1; go_wp2_with fail
 refine (HA4.out _).mono ?_; rintro r w2 ⟨rfl, hb2'⟩; have hb2 := up hb1 hb2'; clear hc hf; obtain ⟨hc, hf⟩ := Am hb2; go_wp2_with fail
 refine (HA5.out _ (hg.below (up (al1 _ _) hb2))).mono ?_; rintro r w3 ⟨rfl, hb3'⟩; have hb3 := up hb2 hb3'; clear hc hf; obtain ⟨hc, hf⟩ := Am hb3; go_wp2_with fail
 refine (hrep.out _).mono ?_; rintro r w4 ⟨rfl, hb4'⟩; have hb4 := up hb3 hb4'; clear hc hf; obtain ⟨hc, hf⟩ := Am hb4; go_wp2
 go_ret2
 refine ⟨Dr ?_, up (al1 _ _) hb4⟩; rw [HF.out, HG.out, ← HZ.out]; simp
theorem WF (m e : Int) (hm : I64 m) (h : right m e = true) (he : e < 0) (he2 : -20 ≤ e) (hk : (nd m : Int) ≤ -e) (w : World) (hg : GlobP w) : Calls Tryz.prog 27 #[.agg #[.int .i64 m, .int .i64 e]] w fun r w' =>
  r = .returned (DI (BF m e, 0)) ∧ Below w.heap.size w w' := by
 obtain ⟨A, S, hA1, hA2, hA3, hA4, hA5⟩ := GU m e hm h; have hx := DX h; have hS : S.size ≤ 18 := by rw [hA3]; exact LU h
 have hS1 : 1 ≤ S.size := by rw [hA3]; exact GT m
 have HL := Keep.mk (show S.data.toList = Lib.decDigits m.natAbs by rw [hA2]); rw [← hA3] at hk; have HA4 := Keep.mk hA4; have HA5 := Keep.mk hA5; have HA3 := Keep.mk hA3; clear hA1 hA2 hA3 hA4 hA5; obtain ⟨Z, hZ⟩ : ∃ Z, Z = Gg (1 - e - S.size) := ⟨_, rfl⟩
 have hZs : (Z.size : Int) = 1 - e - S.size := by rw [hZ, Mu]; omega
 have hz1 : (Z.size : Int) + S.size + e ≤ 1 := by omega
 have hz2 : 1 ≤ (Z.size : Int) + S.size + e := by omega
 have hz3 : Z.size ≤ 1000 := by omega
 have hrep : Keep (∀ w, Calls Tryz.prog 53 #[.string ⟨#[48]⟩, .int .i64 (1 - e - S.size)] w fun r w' => r = .returned (.string Z) ∧ Below w.heap.size w w') := ⟨fun w => by rw [hZ]; exact QZ _ (by omega) (by omega) w⟩; have HF := Keep.mk (show BF m e = sgn m ++ (Z ++ S).data.toList.take 1 ++ [46] ++ (Z ++ S).data.toList.drop 1 by
  have hp : pad m e = (Z ++ S).data.toList := by
   unfold pad; rw [if_pos (by rw [← HA3.out]; exact hk), ← HL.out, ← HA3.out, hZ]; simp [LE]
  have hl : (((Z ++ S).data.toList.length : Int) + e).toNat = 1 := by
   have : (Z ++ S).data.toList.length = Z.size + S.size := by simp
   omega
  unfold BF; rw [if_neg (by omega), if_pos ⟨he, he2⟩, hp, hl])
 clear hZ hZs; by_cases hn : m < 0
 ·have HG := Keep.mk (show sgn m = [45] by unfold sgn; rw [if_pos hn])
  have hnF : (m < 0) = True := by simp; omega
  clear hn; go_enter Tryz.func27, Tryz.ntmps27
  go_wp2_with fail
  refine (CU m e hm.lo hm.hi _ (hg.weak.below (al1 _ _))).mono ?_; rw [h]; rintro r w1 ⟨rfl, hb1⟩; obtain ⟨hc, hf⟩ := Am hb1; go_wp2_with fail
  refine (HA4.out _).mono ?_; rintro r w2 ⟨rfl, hb2'⟩; have hb2 := up hb1 hb2'; clear hc hf; obtain ⟨hc, hf⟩ := Am hb2; go_wp2_with fail
  refine (HA5.out _ (hg.below (up (al1 _ _) hb2))).mono ?_; rintro r w3 ⟨rfl, hb3'⟩; have hb3 := up hb2 hb3'; clear hc hf; obtain ⟨hc, hf⟩ := Am hb3; go_wp2_with fail
  refine (hrep.out _).mono ?_; rintro r w4 ⟨rfl, hb4'⟩; have hb4 := up hb3 hb4'; clear hc hf; obtain ⟨hc, hf⟩ := Am hb4; go_wp2_with fail
  refine Bh hb4 (by kernel_rfl) (by kernel_rfl) ?_; repeat (go_big_quiet_step (fail))
  refine wpQuiet_nil ?_; rintro _ ⟨x5, rfl⟩; have hb5 := x5.property; clear hc hf; obtain ⟨hc, hf⟩ := Am hb5; go_wp2
  go_ret2
  refine ⟨Dr ?_, up (al1 _ _) hb5⟩; rw [HF.out, HG.out]; rw [Il _ _ _ _ _ (by simp), show ((Z.size : Int) + S.size + e).toNat = 1 by omega]
 have HG := Keep.mk (show sgn m = [] by unfold sgn; rw [if_neg hn]); have hnF : (m < 0) = False := by simp; omega
 clear hn; go_enter Tryz.func27, Tryz.ntmps27
 go_wp2_with fail
 refine (CU m e hm.lo hm.hi _ (hg.weak.below (al1 _ _))).mono ?_; rw [h]; rintro r w1 ⟨rfl, hb1⟩; obtain ⟨hc, hf⟩ := Am hb1; go_wp2_with fail
 refine (HA4.out _).mono ?_; rintro r w2 ⟨rfl, hb2'⟩; have hb2 := up hb1 hb2'; clear hc hf; obtain ⟨hc, hf⟩ := Am hb2; go_wp2_with fail
 refine (HA5.out _ (hg.below (up (al1 _ _) hb2))).mono ?_; rintro r w3 ⟨rfl, hb3'⟩; have hb3 := up hb2 hb3'; clear hc hf; obtain ⟨hc, hf⟩ := Am hb3; go_wp2_with fail
 refine (hrep.out _).mono ?_; rintro r w4 ⟨rfl, hb4'⟩; have hb4 := up hb3 hb4'; clear hc hf; obtain ⟨hc, hf⟩ := Am hb4; go_wp2_with fail
 refine Bh hb4 (by kernel_rfl) (by kernel_rfl) ?_; repeat (go_big_quiet_step (fail))
 refine wpQuiet_nil ?_; rintro _ ⟨x5, rfl⟩; have hb5 := x5.property; clear hc hf; obtain ⟨hc, hf⟩ := Am hb5; go_wp2
 go_ret2
 refine ⟨Dr ?_, up (al1 _ _) hb5⟩; rw [HF.out, HG.out]; rw [Il _ _ _ _ _ (by simp), show ((Z.size : Int) + S.size + e).toNat = 1 by omega]
theorem Vn (m e : Int) (hm : I64 m) (h : right m e = true) (he : e < 0) (he2 : -20 ≤ e) (hk : -e < (nd m : Int)) (w : World) (hg : GlobP w) : Calls Tryz.prog 27 #[.agg #[.int .i64 m, .int .i64 e]] w fun r w' =>
  r = .returned (DI (BF m e, 0)) ∧ Below w.heap.size w w' := by
 obtain ⟨A, S, hA1, hA2, hA3, hA4, hA5⟩ := GU m e hm h; have hx := DX h; have hS : S.size ≤ 18 := by rw [hA3]; exact LU h
 have hS1 : 1 ≤ S.size := by rw [hA3]; exact GT m
 have HL := Keep.mk (show S.data.toList = Lib.decDigits m.natAbs by rw [hA2]); rw [← hA3] at hk; have HA4 := Keep.mk hA4; have HA5 := Keep.mk hA5; have HA3 := Keep.mk hA3; clear hA1 hA2 hA3 hA4 hA5; have HF := Keep.mk (show BF m e = sgn m ++ S.data.toList.take ((S.size : Int) + e).toNat ++ [46] ++ S.data.toList.drop ((S.size : Int) + e).toNat by
  have hp : pad m e = S.data.toList := by unfold pad; rw [if_neg (by rw [← HA3.out]; omega), HL.out]
  unfold BF; rw [if_neg (by omega), if_pos ⟨he, he2⟩, hp]; rfl)
 by_cases hn : m < 0
 ·have HG := Keep.mk (show sgn m = [45] by unfold sgn; rw [if_pos hn])
  have hnF : (m < 0) = True := by simp; omega
  clear hn; go_enter Tryz.func27, Tryz.ntmps27
  go_wp2_with fail
  refine (CU m e hm.lo hm.hi _ (hg.weak.below (al1 _ _))).mono ?_; rw [h]; rintro r w1 ⟨rfl, hb1⟩; obtain ⟨hc, hf⟩ := Am hb1; go_wp2_with fail
  refine (HA4.out _).mono ?_; rintro r w2 ⟨rfl, hb2'⟩; have hb2 := up hb1 hb2'; clear hc hf; obtain ⟨hc, hf⟩ := Am hb2; go_wp2_with fail
  refine (HA5.out _ (hg.below (up (al1 _ _) hb2))).mono ?_; rintro r w3 ⟨rfl, hb3'⟩; have hb3 := up hb2 hb3'; clear hc hf; obtain ⟨hc, hf⟩ := Am hb3; go_wp2_with fail
  refine Bh hb3 (by kernel_rfl) (by kernel_rfl) ?_; repeat (go_big_quiet_step (fail))
  refine wpQuiet_nil ?_; rintro _ ⟨x4, rfl⟩; have hb4 := x4.property; clear hc hf; obtain ⟨hc, hf⟩ := Am hb4; go_wp2
  go_ret2
  refine ⟨Dr ?_, up (al1 _ _) hb4⟩; rw [HF.out, HG.out]; rw [Il _ _ _ _ _ rfl]
 have HG := Keep.mk (show sgn m = [] by unfold sgn; rw [if_neg hn]); have hnF : (m < 0) = False := by simp; omega
 clear hn; go_enter Tryz.func27, Tryz.ntmps27
 go_wp2_with fail
 refine (CU m e hm.lo hm.hi _ (hg.weak.below (al1 _ _))).mono ?_; rw [h]; rintro r w1 ⟨rfl, hb1⟩; obtain ⟨hc, hf⟩ := Am hb1; go_wp2_with fail
 refine (HA4.out _).mono ?_; rintro r w2 ⟨rfl, hb2'⟩; have hb2 := up hb1 hb2'; clear hc hf; obtain ⟨hc, hf⟩ := Am hb2; go_wp2_with fail
 refine (HA5.out _ (hg.below (up (al1 _ _) hb2))).mono ?_; rintro r w3 ⟨rfl, hb3'⟩; have hb3 := up hb2 hb3'; clear hc hf; obtain ⟨hc, hf⟩ := Am hb3; go_wp2_with fail
 refine Bh hb3 (by kernel_rfl) (by kernel_rfl) ?_; repeat (go_big_quiet_step (fail))
 refine wpQuiet_nil ?_; rintro _ ⟨x4, rfl⟩; have hb4 := x4.property; clear hc hf; obtain ⟨hc, hf⟩ := Am hb4; go_wp2
 go_ret2
 refine ⟨Dr ?_, up (al1 _ _) hb4⟩; rw [HF.out, HG.out]; rw [Il _ _ _ _ _ rfl]
theorem Xk (m e : Int) (hm : I64 m) (h : right m e = true) (he : 0 ≤ e) (hk : 21 < (nd m : Int) + e) (w : World) (hg : GlobP w) : Calls Tryz.prog 27 #[.agg #[.int .i64 m, .int .i64 e]] w fun r w' =>
  r = .returned (DI (BF m e, 0)) ∧ Below w.heap.size w w' := by
 obtain ⟨A, S, hA1, hA2, hA3, hA4, hA5⟩ := GU m e hm h; have hx := DX h; have hS : S.size ≤ 18 := by rw [hA3]; exact LU h
 have hS1 : 1 ≤ S.size := by rw [hA3]; exact GT m
 have HL := Keep.mk (show S.data.toList = Lib.decDigits m.natAbs by rw [hA2]); rw [← hA3] at hk; have HA4 := Keep.mk hA4; have HA5 := Keep.mk hA5; have HA3 := Keep.mk hA3; clear hA1 hA2 hA3 hA4 hA5; obtain ⟨Z, hZ⟩ : ∃ Z : ByteArray, Z = ⟨(Lib.itoa e).toArray⟩ := ⟨_, rfl⟩
 have hz3 : Z.size ≤ 1000 := by
  rw [hZ]; show (Lib.itoa e).toArray.size ≤ 1000
  rw [List.size_toArray]; exact Pd e hx.1 hx.2
 have hrep : Keep (∀ w, GlobP w → Calls Tryz.prog 54 #[.int .i64 e] w fun r w' => r = .returned (.string Z) ∧ Below w.heap.size w w') := ⟨fun w hg => by rw [hZ]; exact itoa e (by omega) (by omega) w hg⟩; have HZ := Keep.mk (show Z.data.toList = Lib.itoa e by rw [hZ]); clear hZ; have HF := Keep.mk (show BF m e = sgn m ++ S.data.toList ++ [101] ++ Lib.itoa e by unfold BF; rw [if_neg (by rw [← HA3.out]; omega), if_neg (by omega), HL.out]); by_cases hn : m < 0
 ·have HG := Keep.mk (show sgn m = [45] by unfold sgn; rw [if_pos hn])
  have hnF : (m < 0) = True := by simp; omega
  clear hn; go_enter Tryz.func27, Tryz.ntmps27
  go_wp2_with fail
  refine (CU m e hm.lo hm.hi _ (hg.weak.below (al1 _ _))).mono ?_; rw [h]; rintro r w1 ⟨rfl, hb1⟩; obtain ⟨hc, hf⟩ := Am hb1; go_wp2_with fail
  refine (HA4.out _).mono ?_; rintro r w2 ⟨rfl, hb2'⟩; have hb2 := up hb1 hb2'; clear hc hf; obtain ⟨hc, hf⟩ := Am hb2; go_wp2_with fail
  refine (HA5.out _ (hg.below (up (al1 _ _) hb2))).mono ?_; rintro r w3 ⟨rfl, hb3'⟩; have hb3 := up hb2 hb3'; clear hc hf; obtain ⟨hc, hf⟩ := Am hb3; go_wp2_with fail
  refine (hrep.out _ (hg.below (up (al1 _ _) hb3))).mono ?_; rintro r w4 ⟨rfl, hb4'⟩; have hb4 := up hb3 hb4'; clear hc hf; obtain ⟨hc, hf⟩ := Am hb4; go_wp2
  go_ret2
  refine ⟨Dr ?_, up (al1 _ _) hb4⟩; rw [HF.out, HG.out, ← HZ.out]; simp
 have HG := Keep.mk (show sgn m = [] by unfold sgn; rw [if_neg hn]); have hnF : (m < 0) = False := by simp; omega
 clear hn; go_enter Tryz.func27, Tryz.ntmps27
 go_wp2_with fail
 refine (CU m e hm.lo hm.hi _ (hg.weak.below (al1 _ _))).mono ?_; rw [h]; rintro r w1 ⟨rfl, hb1⟩; obtain ⟨hc, hf⟩ := Am hb1; go_wp2_with fail
 refine (HA4.out _).mono ?_; rintro r w2 ⟨rfl, hb2'⟩; have hb2 := up hb1 hb2'; clear hc hf; obtain ⟨hc, hf⟩ := Am hb2; go_wp2_with fail
 refine (HA5.out _ (hg.below (up (al1 _ _) hb2))).mono ?_; rintro r w3 ⟨rfl, hb3'⟩; have hb3 := up hb2 hb3'; clear hc hf; obtain ⟨hc, hf⟩ := Am hb3; go_wp2_with fail
 refine (hrep.out _ (hg.below (up (al1 _ _) hb3))).mono ?_; rintro r w4 ⟨rfl, hb4'⟩; have hb4 := up hb3 hb4'; clear hc hf; obtain ⟨hc, hf⟩ := Am hb4; go_wp2
 go_ret2
 refine ⟨Dr ?_, up (al1 _ _) hb4⟩; rw [HF.out, HG.out, ← HZ.out]; simp
theorem VK (m e : Int) (hm : I64 m) (h : right m e = true) (he : e < -20) (hk : 0 < (nd m : Int)) (w : World) (hg : GlobP w) : Calls Tryz.prog 27 #[.agg #[.int .i64 m, .int .i64 e]] w fun r w' =>
  r = .returned (DI (BF m e, 0)) ∧ Below w.heap.size w w' := by
 obtain ⟨A, S, hA1, hA2, hA3, hA4, hA5⟩ := GU m e hm h; have hx := DX h; have hS : S.size ≤ 18 := by rw [hA3]; exact LU h
 have hS1 : 1 ≤ S.size := by rw [hA3]; exact GT m
 have HL := Keep.mk (show S.data.toList = Lib.decDigits m.natAbs by rw [hA2]); rw [← hA3] at hk; have HA4 := Keep.mk hA4; have HA5 := Keep.mk hA5; have HA3 := Keep.mk hA3; clear hA1 hA2 hA3 hA4 hA5; obtain ⟨Z, hZ⟩ : ∃ Z : ByteArray, Z = ⟨(Lib.itoa e).toArray⟩ := ⟨_, rfl⟩
 have hz3 : Z.size ≤ 1000 := by
  rw [hZ]; show (Lib.itoa e).toArray.size ≤ 1000
  rw [List.size_toArray]; exact Pd e hx.1 hx.2
 have hrep : Keep (∀ w, GlobP w → Calls Tryz.prog 54 #[.int .i64 e] w fun r w' => r = .returned (.string Z) ∧ Below w.heap.size w w') := ⟨fun w hg => by rw [hZ]; exact itoa e (by omega) (by omega) w hg⟩; have HZ := Keep.mk (show Z.data.toList = Lib.itoa e by rw [hZ]); clear hZ; have HF := Keep.mk (show BF m e = sgn m ++ S.data.toList ++ [101] ++ Lib.itoa e by unfold BF; rw [if_neg (by rw [← HA3.out]; omega), if_neg (by omega), HL.out]); by_cases hn : m < 0
 ·have HG := Keep.mk (show sgn m = [45] by unfold sgn; rw [if_pos hn])
  have hnF : (m < 0) = True := by simp; omega
  clear hn; go_enter Tryz.func27, Tryz.ntmps27
  go_wp2_with fail
  refine (CU m e hm.lo hm.hi _ (hg.weak.below (al1 _ _))).mono ?_; rw [h]; rintro r w1 ⟨rfl, hb1⟩; obtain ⟨hc, hf⟩ := Am hb1; go_wp2_with fail
  refine (HA4.out _).mono ?_; rintro r w2 ⟨rfl, hb2'⟩; have hb2 := up hb1 hb2'; clear hc hf; obtain ⟨hc, hf⟩ := Am hb2; go_wp2_with fail
  refine (HA5.out _ (hg.below (up (al1 _ _) hb2))).mono ?_; rintro r w3 ⟨rfl, hb3'⟩; have hb3 := up hb2 hb3'; clear hc hf; obtain ⟨hc, hf⟩ := Am hb3; go_wp2_with fail
  refine (hrep.out _ (hg.below (up (al1 _ _) hb3))).mono ?_; rintro r w4 ⟨rfl, hb4'⟩; have hb4 := up hb3 hb4'; clear hc hf; obtain ⟨hc, hf⟩ := Am hb4; go_wp2
  go_ret2
  refine ⟨Dr ?_, up (al1 _ _) hb4⟩; rw [HF.out, HG.out, ← HZ.out]; simp
 have HG := Keep.mk (show sgn m = [] by unfold sgn; rw [if_neg hn]); have hnF : (m < 0) = False := by simp; omega
 clear hn; go_enter Tryz.func27, Tryz.ntmps27
 go_wp2_with fail
 refine (CU m e hm.lo hm.hi _ (hg.weak.below (al1 _ _))).mono ?_; rw [h]; rintro r w1 ⟨rfl, hb1⟩; obtain ⟨hc, hf⟩ := Am hb1; go_wp2_with fail
 refine (HA4.out _).mono ?_; rintro r w2 ⟨rfl, hb2'⟩; have hb2 := up hb1 hb2'; clear hc hf; obtain ⟨hc, hf⟩ := Am hb2; go_wp2_with fail
 refine (HA5.out _ (hg.below (up (al1 _ _) hb2))).mono ?_; rintro r w3 ⟨rfl, hb3'⟩; have hb3 := up hb2 hb3'; clear hc hf; obtain ⟨hc, hf⟩ := Am hb3; go_wp2_with fail
 refine (hrep.out _ (hg.below (up (al1 _ _) hb3))).mono ?_; rintro r w4 ⟨rfl, hb4'⟩; have hb4 := up hb3 hb4'; clear hc hf; obtain ⟨hc, hf⟩ := Am hb4; go_wp2
 go_ret2
 refine ⟨Dr ?_, up (al1 _ _) hb4⟩; rw [HF.out, HG.out, ← HZ.out]; simp
theorem UG (m e : Int) (hm : I64 m) (w : World) (hg : GlobP w) : Calls Tryz.prog 27 #[.agg #[.int .i64 m, .int .i64 e]] w fun r w' =>
  r = .returned (DI (L5 m e)) ∧ Below w.heap.size w w' := by
 unfold L5; cases h : right m e
 ·exact Qz m e hm h w hg
 simp only [↓reduceIte]; have h1 := GT m; by_cases he : 0 ≤ e
 ·by_cases hk : (nd m : Int) + e ≤ 21
  ·exact Yj m e hm h he hk w hg
  exact Xk m e hm h he (by omega) w hg
 by_cases he2 : -20 ≤ e
 ·by_cases hk : (nd m : Int) ≤ -e
  ·exact WF m e hm h (by omega) he2 hk w hg
  exact Vn m e hm h (by omega) he2 (by omega) w hg
 exact VK m e hm h (by omega) (by omega) w hg
end Go.Proofs.YtakncilicoefdaaGreatDoor
