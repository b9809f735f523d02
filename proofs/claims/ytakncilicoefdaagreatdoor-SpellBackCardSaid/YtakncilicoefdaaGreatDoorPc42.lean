/- Lemmas and contracts. Conditions: those that each lemma names. -/
import Derived.Test.YtakncilicoefdaaGreatDoorPc41
import Derived.Test.YtakncilicoefdaaGreatDoorPc38
import Derived.Test.YtakncilicoefdaaGreatDoorPc14
import Derived.Test.YtakncilicoefdaaGreatDoorPc39
set_option maxRecDepth 100000
set_option maxHeartbeats 4000000
namespace Go.Proofs.YtakncilicoefdaaGreatDoor
open Go Go.RowKit Go.Proofs Th
theorem even_get : ∀ (l : List NJ), evenStr l = true → ∀ (j : Nat) (h : j < l.length), j % 2 = 0 → kindJ l[j] = 3
 | [], _, j, h, _ => absurd h (by simp)
 | [x], he, 0, _, _ => by simpa [evenStr] using he
 | [x], _, j + 1, h, _ => absurd h (by simp)
 | x :: y :: r, he, 0, _, _ => by simp [evenStr] at he; exact he.1
 | x :: y :: r, _, 1, _, h2 => absurd h2 (by decide)
 | x :: y :: r, he, j + 2, h, h2 => by
  simp [evenStr] at he; have := even_get r he.2 j (by simpa using h) (by omega); simpa using this
theorem len1 {l : List NJ} (h : l.length = 1) : ∃ x0, l = [x0] := by
 match l, h with
 | [x0], _ => exact ⟨x0, rfl⟩
theorem len2 {l : List NJ} (h : l.length = 2) : ∃ x0 x1, l = [x0, x1] := by
 match l, h with
 | [x0, x1], _ => exact ⟨x0, x1, rfl⟩
theorem len3 {l : List NJ} (h : l.length = 3) : ∃ x0 x1 x2, l = [x0, x1, x2] := by
 match l, h with
 | [x0, x1, x2], _ => exact ⟨x0, x1, x2, rfl⟩
theorem len4 {l : List NJ} (h : l.length = 4) : ∃ x0 x1 x2 x3, l = [x0, x1, x2, x3] := by
 match l, h with
 | [x0, x1, x2, x3], _ => exact ⟨x0, x1, x2, x3, rfl⟩
theorem fit_str : ∀ x : NJ, okJ x = true → kindJ x = 3 → Lib.validD (nmJ x).data.toList = true
 | .mk k s m e l a, h, hk => by
  have hk : k = 3 := hk; subst hk; rw [okJ, Bool.and_eq_true] at h; have hfit : fitJ (.mk 3 s m e l a) = true := by have := h.1; unfold oneJ at this; rw [Bool.and_eq_true] at this; exact this.2
  simp [fitJ] at hfit; exact hfit.2
structure KidF (T : NJ → Prop) (s : ByteArray) (l : List NJ) (a : List ByteArray) : Prop where
 c : ∀ x ∈ l, T x
 ok : ∀ x ∈ l, okJ x = true
 h : ∀ x ∈ l, (spJ x).size ≤ 10000000
 p : ∀ t ∈ l.map spJ, 0 < t.size
 sep : ∀ gap : ByteArray, gap.size ≤ 2 → (sepB gap (l.map spJ)).size ≤ 9000000
 jn : (joinT true (l.map nmJ) (spL l)).size ≤ 10000000
 ob : (objT true (spL l)).size ≤ 10000000
 ss : s.size ≤ 100000
 nm : ∀ x ∈ l, (nmJ x).size ≤ 100000
 ar : ∀ x ∈ a, x.size ≤ 100000
 sa : (sepB ⟨#[59, 32]⟩ a).size ≤ 200000
theorem kidF {T : NJ → Prop} {k : Int} {s : ByteArray} {m e : Int} {l : List NJ} {a : List ByteArray} (hw : wtJ (.mk k s m e l a) ≤ 100000) (hk : ∀ x ∈ l, okJ x = true) (hT : ∀ x ∈ l, T x) : KidF T s l a := by
 rw [wtJ] at hw; have hS : ∀ x ∈ l, (spJ x).size + 22 ≤ 48 * wtJ x := fun x hx => sp_size2 (depJ x) x (Nat.le_refl _) (hk x hx)
 have hsum := sum_wt2 l hS; have h2 := sumZ_le (show 2 ≤ 22 by decide) (spL l); have h6 := sumZ_le (show 6 ≤ 22 by decide) (spL l); have hj := join_size2 true l hS; have ho := obj_size true (spL l); have ha := sep_size ⟨#[59, 32]⟩ 2 (Nat.le_refl _) a; have ha2 := sumZ_two a; have hwa : (a.map fun x => 1 + x.size).sum = sumZ 1 a := rfl; rw [hwa] at hw; refine ⟨hT, hk, fun x hx => by have := hS x hx; have := wtL_mem hx; omega, fun t ht => ?_, fun gap hg => ?_, by omega, by omega, by omega, fun x hx => by have := nm_wt x; have := wtL_mem hx; omega, fun x hx => by have := wtA_mem hx; rw [hwa] at this; omega, by omega⟩
 ·obtain ⟨x, hx, rfl⟩ := List.mem_map.1 ht
  exact sp_pos x (hk x hx)
 have := sep_size gap 2 hg (l.map spJ); rw [← spL_map] at this ⊢; omega
variable {G : World → CS → Prop}
theorem arr_eq (s : ByteArray) (m e : Int) (l : List NJ) (a : List ByteArray) (hl : l.length ≤ 1) : spJ (.mk 15 s m e l a) = catB [⟨#[91]⟩, sepB ⟨#[]⟩ (l.map spJ), ⟨#[93]⟩] := by
 match l, hl with
 | [], _ => rw [spJ]; simp [spL, catB, sepB, ape, eap]
 | [x], _ => rw [spJ]; simp [spL, catB, sepB, ape, ByteArray.append_assoc]
 | x :: y :: r, h => exact absurd h (by simp)
theorem tail_size (gap : ByteArray) (x : NJ) (l : List NJ) : (sepB gap (l.map spJ)).size ≤ (sepB gap ((x :: l).map spJ)).size := by
 cases l with
 | nil => rw [show sepB gap (([] : List NJ).map spJ) = ⟨#[]⟩ from rfl]; exact Nat.zero_le _
 | cons y r =>
  show _ ≤ (spJ x ++ gap ++ sepB gap ((y :: r).map spJ)).size
  rw [ByteArray.size_append, ByteArray.size_append]; omega
theorem sp_text (gk : GK G) (hP : NumPP G) (hW : QuoWP G) : ∀ (d : Nat) (n : NJ), depJ n ≤ d → okJ n = true → nokJ n → wtJ n ≤ 100000 → TxtP G n
 | 0, .mk k s m e l a, hd, _, _, _ => by rw [depJ] at hd; omega
 | d + 1, .mk k s m e l a, hd, h, hn, hw => by
  have hsz := sp_size2 (d + 1) (.mk k s m e l a) hd h; rw [depJ] at hd; rw [okJ, Bool.and_eq_true, okL_all, List.all_eq_true] at h; obtain ⟨h1, hk⟩ := h; have hfit : fitJ (.mk k s m e l a) = true := by unfold oneJ at h1; rw [Bool.and_eq_true] at h1; exact h1.2
  obtain ⟨_, hm, _, _, _, hkl⟩ := hn; have F : KidF (TxtP G) s l a := kidF hw hk fun x hx => sp_text gk hP hW d x (deps_le2.1 (by omega) x hx) (hk x hx) ((nokL_all l).1 hkl x hx) (by rw [wtJ] at hw; have := wtL_mem hx; omega)
  unfold TxtP; by_cases k1 : k = 1
  ·subst k1
   simp [fitJ] at hfit; rw [show spJ (.mk 1 s m e l a) = ⟨#[46]⟩ from by rw [spJ]; simp]; exact sp_t1 gk s m e l a
  by_cases k26 : k = 26
  ·subst k26
   simp [fitJ] at hfit; rw [show spJ (.mk 26 s m e l a) = ⟨#[46, 46]⟩ from by rw [spJ]; simp]; exact sp_t26 gk s m e l a
  by_cases k2 : k = 2
  ·subst k2
   simp [fitJ] at hfit; rw [show spJ (.mk 2 s m e l a) = bs (textN m e) from by rw [spJ]; simp]; exact sp_t2 gk hP s m e l a hm hfit.1.2
  by_cases k3 : k = 3
  ·subst k3
   simp [fitJ] at hfit; rw [show spJ (.mk 3 s m e l a) = quoteB s from by rw [spJ]; simp]; exact sp_t3 gk hW s m e l a (by have := F.ss; omega) hfit.2
  by_cases k4 : k = 4
  ·subst k4
   simp [fitJ] at hfit; rw [show spJ (.mk 4 s m e l a) = catB [⟨#[34]⟩, joinT true (l.map nmJ) (spL l), ⟨#[34]⟩] from by rw [spJ]; simp [catB, ape, ByteArray.append_assoc]]; exact sp_t4 gk s m e l a _ (sp_joined gk hW s m e l a F.c F.h (fun j hj h2 => ⟨fit_str _ (hk _ (List.getElem_mem hj)) (even_get l hfit.1.1 j hj h2), by have := F.nm _ (List.getElem_mem hj); omega⟩) F.jn)
  by_cases k5 : k = 5
  ·subst k5
   simp [fitJ] at hfit; obtain ⟨x0, x1, rfl⟩ := len2 hfit; rw [show spJ (.mk 5 s m e [x0, x1] a) = catB [tgB (kindJ x0) (spJ x0), ⟨#[91]⟩, spJ x1, ⟨#[93]⟩] from by rw [spJ]; simp [spL, catB, ape, tgJ, tgB, ByteArray.append_assoc]]; exact sp_t5 gk s m e a x0 x1 (F.c x0 (by simp)) (F.h x0 (by simp)) (F.c x1 (by simp)) (F.h x1 (by simp))
  by_cases k6 : k = 6
  ·obtain ⟨hl, ha⟩ := bareA hfit k6
   subst k6; rcases ha with rfl | rfl | rfl
   ·obtain ⟨x0, x1, rfl⟩ := len2 hl
    rw [show spJ (.mk 6 s m e [x0, x1] [fromB]) = catB [tgB (kindJ x0) (spJ x0), ⟨#[91]⟩, spJ x1, ⟨#[58]⟩, ⟨#[]⟩, ⟨#[93]⟩] from by rw [spJ]; simp [fromB, toB, spL, catB, ape, eap, tgJ, tgB, ByteArray.append_assoc]]; exact sp_t6 gk s m e _ _ _ (sp_part1 gk s m e x0 x1 (F.c x0 (by simp)) (F.h x0 (by simp)) (F.c x1 (by simp)) (F.h x1 (by simp)))
   ·obtain ⟨x0, x1, rfl⟩ := len2 hl
    rw [show spJ (.mk 6 s m e [x0, x1] [toB]) = catB [tgB (kindJ x0) (spJ x0), ⟨#[91]⟩, ⟨#[]⟩, ⟨#[58]⟩, spJ x1, ⟨#[93]⟩] from by rw [spJ]; simp [fromB, toB, spL, catB, ape, eap, tgJ, tgB, ByteArray.append_assoc]]; exact sp_t6 gk s m e _ _ _ (sp_part2 gk s m e x0 x1 (F.c x0 (by simp)) (F.h x0 (by simp)) (F.c x1 (by simp)) (F.h x1 (by simp)))
   obtain ⟨x0, x1, x2, rfl⟩ := len3 hl; rw [show spJ (.mk 6 s m e [x0, x1, x2] [fromB, toB]) = catB [tgB (kindJ x0) (spJ x0), ⟨#[91]⟩, spJ x1, ⟨#[58]⟩, spJ x2, ⟨#[93]⟩] from by rw [spJ]; simp [fromB, toB, spL, catB, ape, tgJ, tgB, ByteArray.append_assoc]]; exact sp_t6 gk s m e _ _ _ (sp_part3 gk s m e x0 x1 x2 (F.c x0 (by simp)) (F.h x0 (by simp)) (F.c x1 (by simp)) (F.h x1 (by simp)) (F.c x2 (by simp)) (F.h x2 (by simp)))
  by_cases k7 : k = 7
  ·subst k7
   simp [fitJ] at hfit; obtain ⟨x0, rfl⟩ := len1 hfit; rw [show spJ (.mk 7 s m e [x0] a) = catB [tgB (kindJ x0) (spJ x0), ⟨#[91, 93]⟩] from by rw [spJ]; simp [spL, catB, ape, tgJ, tgB]]; exact sp_t7 gk s m e a x0 (F.c x0 (by simp)) (F.h x0 (by simp))
  by_cases k8 : k = 8
  ·subst k8
   simp [fitJ] at hfit; obtain ⟨x0, x1, rfl⟩ := len2 hfit; rw [show spJ (.mk 8 s m e [x0, x1] a) = catB [⟨#[40]⟩, spJ x0, ⟨#[32]⟩, ⟨#[124]⟩, ⟨#[32]⟩, spJ x1, ⟨#[41]⟩] from by rw [spJ]; simp [spL, catB, ape, signB, ByteArray.append_assoc]]; exact sp_t8 gk s m e a x0 x1 (F.c x0 (by simp)) (F.h x0 (by simp)) (F.c x1 (by simp)) (F.h x1 (by simp))
  by_cases k9 : k = 9
  ·subst k9
   simp [fitJ] at hfit; obtain ⟨x0, x1, rfl⟩ := len2 hfit; rw [show spJ (.mk 9 s m e [x0, x1] a) = catB [⟨#[40]⟩, spJ x0, ⟨#[32]⟩, ⟨#[44]⟩, ⟨#[32]⟩, spJ x1, ⟨#[41]⟩] from by rw [spJ]; simp [spL, catB, ape, signB, ByteArray.append_assoc]]; exact sp_t9 gk s m e a x0 x1 (F.c x0 (by simp)) (F.h x0 (by simp)) (F.c x1 (by simp)) (F.h x1 (by simp))
  by_cases k11 : k = 11
  ·subst k11
   simp [fitJ] at hfit; obtain ⟨x0, x1, rfl⟩ := len2 hfit; rw [show spJ (.mk 11 s m e [x0, x1] a) = catB [⟨#[40]⟩, spJ x0, ⟨#[32]⟩, ⟨#[97, 110, 100]⟩, ⟨#[32]⟩, spJ x1, ⟨#[41]⟩] from by rw [spJ]; simp [spL, catB, ape, signB, ByteArray.append_assoc]]; exact sp_t11 gk s m e a x0 x1 (F.c x0 (by simp)) (F.h x0 (by simp)) (F.c x1 (by simp)) (F.h x1 (by simp))
  by_cases k12 : k = 12
  ·subst k12
   simp [fitJ] at hfit; obtain ⟨x0, x1, rfl⟩ := len2 hfit; rw [show spJ (.mk 12 s m e [x0, x1] a) = catB [⟨#[40]⟩, spJ x0, ⟨#[32]⟩, ⟨#[111, 114]⟩, ⟨#[32]⟩, spJ x1, ⟨#[41]⟩] from by rw [spJ]; simp [spL, catB, ape, signB, ByteArray.append_assoc]]; exact sp_t12 gk s m e a x0 x1 (F.c x0 (by simp)) (F.h x0 (by simp)) (F.c x1 (by simp)) (F.h x1 (by simp))
  by_cases k13 : k = 13
  ·subst k13
   simp [fitJ] at hfit; obtain ⟨x0, x1, rfl⟩ := len2 hfit; rw [show spJ (.mk 13 s m e [x0, x1] a) = catB [⟨#[40]⟩, spJ x0, ⟨#[32]⟩, ⟨#[47, 47]⟩, ⟨#[32]⟩, spJ x1, ⟨#[41]⟩] from by rw [spJ]; simp [spL, catB, ape, signB, ByteArray.append_assoc]]; exact sp_t13 gk s m e a x0 x1 (F.c x0 (by simp)) (F.h x0 (by simp)) (F.c x1 (by simp)) (F.h x1 (by simp))
  by_cases k10 : k = 10
  ·subst k10
   simp [fitJ] at hfit; obtain ⟨x0, x1, rfl⟩ := len2 hfit.1; rw [show spJ (.mk 10 s m e [x0, x1] a) = catB [⟨#[40]⟩, spJ x0, ⟨#[32]⟩, s, ⟨#[32]⟩, spJ x1, ⟨#[41]⟩] from by rw [spJ]; simp [spL, catB, ape, signB, ByteArray.append_assoc]]; exact sp_t10 gk s m e a (by have := F.ss; omega) x0 x1 (F.c x0 (by simp)) (F.h x0 (by simp)) (F.c x1 (by simp)) (F.h x1 (by simp))
  by_cases k25 : k = 25
  ·subst k25
   simp [fitJ] at hfit; obtain ⟨x0, x1, rfl⟩ := len2 hfit.1; rw [show spJ (.mk 25 s m e [x0, x1] a) = catB [⟨#[40]⟩, spJ x0, ⟨#[32]⟩, s, ⟨#[32]⟩, spJ x1, ⟨#[41]⟩] from by rw [spJ]; simp [spL, catB, ape, signB, ByteArray.append_assoc]]; exact sp_t25 gk s m e a (by have := F.ss; omega) x0 x1 (F.c x0 (by simp)) (F.h x0 (by simp)) (F.c x1 (by simp)) (F.h x1 (by simp))
  by_cases k14 : k = 14
  ·subst k14
   simp [fitJ] at hfit; obtain ⟨x0, rfl⟩ := len1 hfit; rw [show spJ (.mk 14 s m e [x0] a) = catB [⟨#[40, 45]⟩, spJ x0, ⟨#[41]⟩] from by rw [spJ]; simp [spL, catB, ape, ByteArray.append_assoc]]; exact sp_t14 gk s m e a x0 (F.c x0 (by simp)) (F.h x0 (by simp))
  by_cases k15 : k = 15
  ·subst k15
   simp [fitJ] at hfit; have hz : betB ⟨#[]⟩ ⟨#[]⟩ (l.map spJ) = sepB ⟨#[]⟩ (l.map spJ) := bet_zero _ _ F.p; have hz2 : (betB ⟨#[]⟩ ⟨#[]⟩ (l.map spJ)).size ≤ 10000000 := by rw [hz]; have := F.sep ⟨#[]⟩ (by decide); omega
   rw [show spJ (.mk 15 s m e l a) = catB [⟨#[91]⟩, betB ⟨#[]⟩ ⟨#[]⟩ (l.map spJ), ⟨#[93]⟩] from by rw [hz]; exact arr_eq s m e l a hfit]; exact sp_t15 gk s m e l a F.c F.h hz2
  by_cases k16 : k = 16
  ·subst k16
   simp [fitJ] at hfit; rw [show spJ (.mk 16 s m e l a) = catB [⟨#[123]⟩, objT true (spL l), ⟨#[125]⟩] from by rw [spJ]; simp [catB, ape, ByteArray.append_assoc]]; exact sp_t16 gk s m e l a _ (sp_object gk s m e l a F.c F.h hfit F.ob)
  by_cases k17 : k = 17
  ·subst k17
   simp [fitJ] at hfit; obtain ⟨x0, x1, x2, rfl⟩ := len3 hfit; rw [show spJ (.mk 17 s m e [x0, x1, x2] a) = catB [⟨#[105, 102, 32]⟩, spJ x0, ⟨#[32, 116, 104, 101, 110, 32]⟩, spJ x1, ⟨#[32, 101, 108, 115, 101, 32]⟩, spJ x2, ⟨#[32, 101, 110, 100]⟩] from by rw [spJ]; simp [spL, catB, ape, ByteArray.append_assoc]]; exact sp_tL gk s m e _ _ 17 _ (sp_l17 gk s m e a x0 x1 x2 (F.c x0 (by simp)) (F.h x0 (by simp)) (F.c x1 (by simp)) (F.h x1 (by simp)) (F.c x2 (by simp)) (F.h x2 (by simp))) (by decide)
  by_cases k18 : k = 18
  ·subst k18
   simp [fitJ] at hfit; rcases hfit with hfit | hfit
   ·obtain ⟨x0, rfl⟩ := len1 hfit
    rw [show spJ (.mk 18 s m e [x0] a) = catB [⟨#[40, 116, 114, 121, 32]⟩, tgB (kindJ x0) (spJ x0)] ++ ⟨#[41]⟩ from by rw [spJ]; simp [spL, catB, ape, tgJ, tgB, ByteArray.append_assoc]]; exact sp_tL gk s m e _ _ 18 _ (sp_l18a gk s m e a x0 (F.c x0 (by simp)) (F.h x0 (by simp))) (by decide)
   obtain ⟨x0, x1, rfl⟩ := len2 hfit; rw [show spJ (.mk 18 s m e [x0, x1] a) = catB [⟨#[40, 116, 114, 121, 32]⟩, tgB (kindJ x0) (spJ x0)] ++ catB [⟨#[32, 99, 97, 116, 99, 104, 32]⟩, tgB (kindJ x1) (spJ x1)] ++ ⟨#[41]⟩ from by rw [spJ]; simp [spL, catB, ape, tgJ, tgB, ByteArray.append_assoc]]; exact sp_tL gk s m e _ _ 18 _ (sp_l18b gk s m e a x0 x1 (F.c x0 (by simp)) (F.h x0 (by simp)) (F.c x1 (by simp)) (F.h x1 (by simp))) (by decide)
  by_cases k19 : k = 19
  ·subst k19
   simp [fitJ] at hfit; obtain ⟨x0, x1, x2, rfl⟩ := len3 hfit.1; have hz : betB ⟨#[59, 32]⟩ ⟨#[]⟩ ([x1, x2].map spJ) = sepB ⟨#[59, 32]⟩ ([x1, x2].map spJ) := bet_zero _ _ (fun t ht => F.p t (by simp only [List.map_cons, List.map_nil, List.mem_cons] at ht ⊢; exact Or.inr ht)); have hz2 : (betB ⟨#[59, 32]⟩ ⟨#[]⟩ ([x1, x2].map spJ)).size ≤ 10000000 := by rw [hz]; exact Nat.le_trans (tail_size ⟨#[59, 32]⟩ x0 [x1, x2]) (by have := F.sep ⟨#[59, 32]⟩ (by decide); omega)
   rw [show spJ (.mk 19 s m e [x0, x1, x2] a) = catB [⟨#[114, 101, 100, 117, 99, 101, 32]⟩, tgB (kindJ x0) (spJ x0), ⟨#[32, 97, 115, 32, 36]⟩, s, ⟨#[32, 40]⟩, betB ⟨#[59, 32]⟩ ⟨#[]⟩ ([x1, x2].map spJ), ⟨#[41]⟩] from by rw [hz]; rw [spJ]; simp [spL, catB, ape, tgJ, tgB, ByteArray.append_assoc]]; exact sp_tL gk s m e _ _ 19 _ (sp_l19 gk s m e a (by have := F.ss; omega) x0 x1 x2 hz2 (F.c x0 (by simp)) (F.h x0 (by simp)) (F.c x1 (by simp)) (F.h x1 (by simp)) (F.c x2 (by simp)) (F.h x2 (by simp))) (by decide)
  by_cases k20 : k = 20
  ·subst k20
   simp [fitJ] at hfit; obtain ⟨x0, x1, x2, x3, rfl⟩ := len4 hfit.1; have hz : betB ⟨#[59, 32]⟩ ⟨#[]⟩ ([x1, x2, x3].map spJ) = sepB ⟨#[59, 32]⟩ ([x1, x2, x3].map spJ) := bet_zero _ _ (fun t ht => F.p t (by simp only [List.map_cons, List.map_nil, List.mem_cons] at ht ⊢; exact Or.inr ht)); have hz2 : (betB ⟨#[59, 32]⟩ ⟨#[]⟩ ([x1, x2, x3].map spJ)).size ≤ 10000000 := by rw [hz]; exact Nat.le_trans (tail_size ⟨#[59, 32]⟩ x0 [x1, x2, x3]) (by have := F.sep ⟨#[59, 32]⟩ (by decide); omega)
   rw [show spJ (.mk 20 s m e [x0, x1, x2, x3] a) = catB [⟨#[102, 111, 114, 101, 97, 99, 104, 32]⟩, tgB (kindJ x0) (spJ x0), ⟨#[32, 97, 115, 32, 36]⟩, s, ⟨#[32, 40]⟩, betB ⟨#[59, 32]⟩ ⟨#[]⟩ ([x1, x2, x3].map spJ), ⟨#[41]⟩] from by rw [hz]; rw [spJ]; simp [spL, catB, ape, tgJ, tgB, ByteArray.append_assoc]]; exact sp_tL gk s m e _ _ 20 _ (sp_l20 gk s m e a (by have := F.ss; omega) x0 x1 x2 x3 hz2 (F.c x0 (by simp)) (F.h x0 (by simp)) (F.c x1 (by simp)) (F.h x1 (by simp)) (F.c x2 (by simp)) (F.h x2 (by simp)) (F.c x3 (by simp)) (F.h x3 (by simp))) (by decide)
  by_cases k21 : k = 21
  ·subst k21
   simp [fitJ] at hfit; obtain ⟨x0, x1, rfl⟩ := len2 hfit.1; rw [show spJ (.mk 21 s m e [x0, x1] a) = catB [⟨#[40]⟩, tgB (kindJ x0) (spJ x0), ⟨#[32, 97, 115, 32, 36]⟩, s, ⟨#[32, 124, 32]⟩, spJ x1, ⟨#[41]⟩] from by rw [spJ]; simp [spL, catB, ape, tgJ, tgB, ByteArray.append_assoc]]; exact sp_tL gk s m e _ _ 21 _ (sp_l21 gk s m e a (by have := F.ss; omega) x0 x1 (F.c x0 (by simp)) (F.h x0 (by simp)) (F.c x1 (by simp)) (F.h x1 (by simp))) (by decide)
  by_cases k22 : k = 22
  ·subst k22
   simp [fitJ] at hfit; rw [show spJ (.mk 22 s m e l a) = ⟨#[36]⟩ ++ s from by rw [spJ]; simp]; exact sp_tL gk s m e _ _ 22 _ (sp_l22 gk s m e a l (by have := F.ss; omega)) (by decide)
  by_cases k23 : k = 23
  ·subst k23
   by_cases hl : l.length = 0
   ·obtain rfl := List.eq_nil_of_length_eq_zero hl
    rw [show spJ (.mk 23 s m e [] a) = s from by rw [spJ]; simp]; exact sp_tL gk s m e _ _ 23 _ (sp_l23a gk s m e a) (by decide)
   have hln : ¬ l = [] := fun h => hl (by rw [h]; rfl)
   have hz : betB ⟨#[59, 32]⟩ ⟨#[]⟩ (l.map spJ) = sepB ⟨#[59, 32]⟩ (l.map spJ) := bet_zero _ _ F.p; have hz2 : (betB ⟨#[59, 32]⟩ ⟨#[]⟩ (l.map spJ)).size ≤ 10000000 := by rw [hz]; have := F.sep ⟨#[59, 32]⟩ (by decide); omega
   rw [show spJ (.mk 23 s m e l a) = catB [s, ⟨#[40]⟩, betB ⟨#[59, 32]⟩ ⟨#[]⟩ (l.map spJ), ⟨#[41]⟩] from by rw [hz]; rw [spJ]; simp [spL_map, catB, ape, hl, ByteArray.append_assoc]]; exact sp_tL gk s m e _ _ 23 _ (sp_l23b gk s m e a l (by omega) (by have := F.ss; omega) F.c F.h hz2) (by decide)
  by_cases k24 : k = 24
  ·subst k24
   simp [fitJ] at hfit; obtain ⟨x0, x1, rfl⟩ := len2 hfit.1.1; by_cases ha : a.length = 0
   ·obtain rfl := List.eq_nil_of_length_eq_zero ha
    rw [show spJ (.mk 24 s m e [x0, x1] []) = catB [⟨#[40, 100, 101, 102, 32]⟩, s, ⟨#[]⟩, ⟨#[58, 32]⟩, spJ x0, ⟨#[59, 32]⟩, spJ x1, ⟨#[41]⟩] from by rw [spJ]; simp [spL, catB, ape, eap, ByteArray.append_assoc]]; exact sp_tL gk s m e _ _ 24 _ (sp_l24a gk s m e (by have := F.ss; omega) x0 x1 (F.c x0 (by simp)) (F.h x0 (by simp)) (F.c x1 (by simp)) (F.h x1 (by simp))) (by decide)
   have han : ¬ a = [] := fun h => ha (by rw [h]; rfl)
   rw [show spJ (.mk 24 s m e [x0, x1] a) = catB [⟨#[40, 100, 101, 102, 32]⟩, s, catB [⟨#[40]⟩, sepB ⟨#[59, 32]⟩ a, ⟨#[41]⟩], ⟨#[58, 32]⟩, spJ x0, ⟨#[59, 32]⟩, spJ x1, ⟨#[41]⟩] from by rw [spJ]; simp [spL, catB, ape, ByteArray.append_assoc, han]]; exact sp_tL gk s m e _ _ 24 _ (sp_l24b gk s m e a (by omega) (by have := F.sa; omega) (by have := F.ss; omega) x0 x1 (F.c x0 (by simp)) (F.h x0 (by simp)) (F.c x1 (by simp)) (F.h x1 (by simp))) (by decide)
  exfalso; simp [fitJ, *] at hfit
end Go.Proofs.YtakncilicoefdaaGreatDoor
