/- Lemmas and contracts. Conditions: those that each lemma names. -/
import Derived.Test.YtakncilicoefdaaGreatDoorPz43
set_option maxRecDepth 100000
set_option maxHeartbeats 4000000
namespace Go.Proofs.YtakncilicoefdaaGreatDoor
open Go Go.RowKit Go.Proofs Th
theorem Qa : ∀ (l : List NJ), BU l = true → ∀ (j : Nat) (h : j < l.length), j % 2 = 0 → Av l[j] = 3
 | [], _, j, h, _ => absurd h (by simp)
 | [x], he, 0, _, _ => by simpa [BU] using he
 | [x], _, j + 1, h, _ => absurd h (by simp)
 | x :: y :: r, he, 0, _, _ => by simp [BU] at he; exact he.1
 | x :: y :: r, _, 1, _, h2 => absurd h2 (by decide)
 | x :: y :: r, he, j + 2, h, h2 => by
  simp [BU] at he; have := Qa r he.2 j (by simpa using h) (by omega); simpa using this
theorem W6 {l : List NJ} (h : l.length = 1) : ∃ x0, l = [x0] := by
 match l, h with
 | [x0], _ => exact ⟨x0, rfl⟩
theorem FJ {l : List NJ} (h : l.length = 2) : ∃ x0 x1, l = [x0, x1] := by
 match l, h with
 | [x0, x1], _ => exact ⟨x0, x1, rfl⟩
theorem Xj {l : List NJ} (h : l.length = 3) : ∃ x0 x1 x2, l = [x0, x1, x2] := by
 match l, h with
 | [x0, x1, x2], _ => exact ⟨x0, x1, x2, rfl⟩
theorem aH {l : List NJ} (h : l.length = 4) : ∃ x0 x1 x2 x3, l = [x0, x1, x2, x3] := by
 match l, h with
 | [x0, x1, x2, x3], _ => exact ⟨x0, x1, x2, x3, rfl⟩
theorem XM : ∀ x : NJ, okJ x = true → Av x = 3 → Lib.validD (nmJ x).data.toList = true
 | .mk k s m e l a, h, hk => by
  have hk : k = 3 := hk; subst hk; rw [okJ, Bool.and_eq_true] at h; have hfit : Ac (.mk 3 s m e l a) = true := by have := h.1; unfold ES at this; rw [Bool.and_eq_true] at this; exact this.2
  simp [Ac] at hfit; exact hfit.2
structure KidF (T : NJ → Prop) (s : ByteArray) (l : List NJ) (a : List ByteArray) : Prop where
 c : ∀ x ∈ l, T x
 ok : ∀ x ∈ l, okJ x = true
 h : ∀ x ∈ l, (spJ x).size ≤ 2000000000000
 p : ∀ t ∈ l.map spJ, 0 < t.size
 sep : ∀ gap : ByteArray, gap.size ≤ 2 → (Ba gap (l.map spJ)).size ≤ 1990000000000
 ob : (Cs true (spL l)).size ≤ 2000000000000
 ss : s.size ≤ 200000
 nm : ∀ x ∈ l, (nmJ x).size ≤ 200000
 ar : ∀ x ∈ a, x.size ≤ 200000
 sa : (Ba ⟨#[59, 32]⟩ a).size ≤ 200000
theorem bg {T : NJ → Prop} {k : Int} {s : ByteArray} {m e : Int} {l : List NJ} {a : List ByteArray} (hs : smB (.mk k s m e l a) = true) (hk : ∀ x ∈ l, okJ x = true) (hT : ∀ x ∈ l, T x) : KidF T s l a := by
 obtain ⟨h1, h2, h3, h4⟩ := FY.1 hs; have h6 := Hy (show 6 ≤ 22 by decide) (spL l); have ho := KY true (spL l); have ha := GR ⟨#[59, 32]⟩ 2 (Nat.le_refl _) a; refine ⟨hT, hk, fun x hx => by have := MM hx; omega, fun t ht => ?_, fun gap hg => ?_, by omega, by omega, fun x hx => ag x (h4 x hx), fun x hx => by have := MJ hx; omega, by omega⟩
 ·obtain ⟨x, hx, rfl⟩ := List.mem_map.1 ht
  exact Zz x (hk x hx)
 have := GR gap 2 hg (l.map spJ); rw [← FA] at this ⊢; have := Hy (show 2 ≤ 22 by decide) (spL l); omega
variable {G : World → CS → Prop}
theorem Y2 (s : ByteArray) (m e : Int) (l : List NJ) (a : List ByteArray) (hl : l.length ≤ 1) : spJ (.mk 15 s m e l a) = Ah [⟨#[91]⟩, Ba ⟨#[]⟩ (l.map spJ), ⟨#[93]⟩] := by
 match l, hl with
 | [], _ => rw [spJ]; simp [spL, Ah, Ba, ape, eap]
 | [x], _ => rw [spJ]; simp [spL, Ah, Ba, ape, ByteArray.append_assoc]
 | x :: y :: r, h => exact absurd h (by simp)
theorem NP (gap : ByteArray) (x : NJ) (l : List NJ) : (Ba gap (l.map spJ)).size ≤ (Ba gap ((x :: l).map spJ)).size := by
 cases l with
 | nil => rw [show Ba gap (([] : List NJ).map spJ) = ⟨#[]⟩ from rfl]; exact Nat.zero_le _
 | cons y r =>
  show _ ≤ (spJ x ++ gap ++ Ba gap ((y :: r).map spJ)).size
  rw [ByteArray.size_append, ByteArray.size_append]; omega
theorem QU (gk : GK G) (hP : Of G) (hW : Kc G) : ∀ (d : Nat) (n : NJ), AB n ≤ d → okJ n = true → FE n → (spJ n).size ≤ 60000000000 → smB n = true → AP G n
 | 0, .mk k s m e l a, hd, _, _, _, _ => by rw [AB] at hd; omega
 | d + 1, .mk k s m e l a, hd, h, hn, hw, hs => by
  rw [AB] at hd; rw [okJ, Bool.and_eq_true, DW, List.all_eq_true] at h; obtain ⟨h1, hk⟩ := h; have hfit : Ac (.mk k s m e l a) = true := by unfold ES at h1; rw [Bool.and_eq_true] at h1; exact h1.2
  obtain ⟨_, hm, _, _, _, hkl⟩ := hn; have F : KidF (AP G) s l a := bg hs hk fun x hx => QU gk hP hW d x (Cz.1 (by omega) x hx) (hk x hx) ((K5 l).1 hkl x hx) (by have := MM hx; have := (FY.1 hs).2.2.1; omega) ((FY.1 hs).2.2.2 x hx)
  unfold AP; by_cases k1 : k = 1
  ·subst k1
   simp [Ac] at hfit; rw [show spJ (.mk 1 s m e l a) = ⟨#[46]⟩ from by rw [spJ]; simp]; exact Z3 gk s m e l a
  by_cases k26 : k = 26
  ·subst k26
   simp [Ac] at hfit; rw [show spJ (.mk 26 s m e l a) = ⟨#[46, 46]⟩ from by rw [spJ]; simp]; exact Y1 gk s m e l a
  by_cases k2 : k = 2
  ·subst k2
   simp [Ac] at hfit; rw [show spJ (.mk 2 s m e l a) = bs (BF m e) from by rw [spJ]; simp]; exact ac gk hP s m e l a hm hfit.1.2
  by_cases k3 : k = 3
  ·subst k3
   simp [Ac] at hfit; rw [show spJ (.mk 3 s m e l a) = Dw s from by rw [spJ]; simp]; exact av gk hW s m e l a (by have := F.ss; omega) hfit.2
  by_cases k4 : k = 4
  ·subst k4
   have hj : (CQ true (l.map nmJ) (spL l)).size ≤ 2000000000000 := by
    rw [show spJ (.mk 4 s m e l a) = ⟨#[34]⟩ ++ CQ true (l.map nmJ) (spL l) ++ ⟨#[34]⟩ from by rw [spJ]; simp] at hw; rw [ByteArray.size_append, ByteArray.size_append] at hw; omega
   simp [Ac] at hfit; rw [show spJ (.mk 4 s m e l a) = Ah [⟨#[34]⟩, CQ true (l.map nmJ) (spL l), ⟨#[34]⟩] from by rw [spJ]; simp [Ah, ape, ByteArray.append_assoc]]; exact ai gk s m e l a _ (U6 gk hW s m e l a F.c F.h (fun j hj h2 => ⟨XM _ (hk _ (List.getElem_mem hj)) (Qa l hfit.1.1 j hj h2), by have := F.nm _ (List.getElem_mem hj); omega⟩) hj)
  by_cases k5 : k = 5
  ·subst k5
   simp [Ac] at hfit; obtain ⟨x0, x1, rfl⟩ := FJ hfit; rw [show spJ (.mk 5 s m e [x0, x1] a) = Ah [tgB (Av x0) (spJ x0), ⟨#[91]⟩, spJ x1, ⟨#[93]⟩] from by rw [spJ]; simp [spL, Ah, ape, tgJ, tgB, ByteArray.append_assoc]]; exact au gk s m e a x0 x1 (F.c x0 (by simp)) (F.h x0 (by simp)) (F.c x1 (by simp)) (F.h x1 (by simp))
  by_cases k6 : k = 6
  ·obtain ⟨hl, ha⟩ := Sw hfit k6
   subst k6; rcases ha with rfl | rfl | rfl
   ·obtain ⟨x0, x1, rfl⟩ := FJ hl
    rw [show spJ (.mk 6 s m e [x0, x1] [fromB]) = Ah [tgB (Av x0) (spJ x0), ⟨#[91]⟩, spJ x1, ⟨#[58]⟩, ⟨#[]⟩, ⟨#[93]⟩] from by rw [spJ]; simp [fromB, toB, spL, Ah, ape, eap, tgJ, tgB, ByteArray.append_assoc]]; exact Sx gk s m e _ _ _ (V3 gk s m e x0 x1 (F.c x0 (by simp)) (F.h x0 (by simp)) (F.c x1 (by simp)) (F.h x1 (by simp)))
   ·obtain ⟨x0, x1, rfl⟩ := FJ hl
    rw [show spJ (.mk 6 s m e [x0, x1] [toB]) = Ah [tgB (Av x0) (spJ x0), ⟨#[91]⟩, ⟨#[]⟩, ⟨#[58]⟩, spJ x1, ⟨#[93]⟩] from by rw [spJ]; simp [fromB, toB, spL, Ah, ape, eap, tgJ, tgB, ByteArray.append_assoc]]; exact Sx gk s m e _ _ _ (Wn gk s m e x0 x1 (F.c x0 (by simp)) (F.h x0 (by simp)) (F.c x1 (by simp)) (F.h x1 (by simp)))
   obtain ⟨x0, x1, x2, rfl⟩ := Xj hl; rw [show spJ (.mk 6 s m e [x0, x1, x2] [fromB, toB]) = Ah [tgB (Av x0) (spJ x0), ⟨#[91]⟩, spJ x1, ⟨#[58]⟩, spJ x2, ⟨#[93]⟩] from by rw [spJ]; simp [fromB, toB, spL, Ah, ape, tgJ, tgB, ByteArray.append_assoc]]; exact Sx gk s m e _ _ _ (VF gk s m e x0 x1 x2 (F.c x0 (by simp)) (F.h x0 (by simp)) (F.c x1 (by simp)) (F.h x1 (by simp)) (F.c x2 (by simp)) (F.h x2 (by simp)))
  by_cases k7 : k = 7
  ·subst k7
   simp [Ac] at hfit; obtain ⟨x0, rfl⟩ := W6 hfit; rw [show spJ (.mk 7 s m e [x0] a) = Ah [tgB (Av x0) (spJ x0), ⟨#[91, 93]⟩] from by rw [spJ]; simp [spL, Ah, ape, tgJ, tgB]]; exact af gk s m e a x0 (F.c x0 (by simp)) (F.h x0 (by simp))
  by_cases k8 : k = 8
  ·subst k8
   simp [Ac] at hfit; obtain ⟨x0, x1, rfl⟩ := FJ hfit; rw [show spJ (.mk 8 s m e [x0, x1] a) = Ah [⟨#[40]⟩, spJ x0, ⟨#[32]⟩, ⟨#[124]⟩, ⟨#[32]⟩, spJ x1, ⟨#[41]⟩] from by rw [spJ]; simp [spL, Ah, ape, BZ, ByteArray.append_assoc]]; exact ZZ gk s m e a x0 x1 (F.c x0 (by simp)) (F.h x0 (by simp)) (F.c x1 (by simp)) (F.h x1 (by simp))
  by_cases k9 : k = 9
  ·subst k9
   simp [Ac] at hfit; obtain ⟨x0, x1, rfl⟩ := FJ hfit; rw [show spJ (.mk 9 s m e [x0, x1] a) = Ah [⟨#[40]⟩, spJ x0, ⟨#[32]⟩, ⟨#[44]⟩, ⟨#[32]⟩, spJ x1, ⟨#[41]⟩] from by rw [spJ]; simp [spL, Ah, ape, BZ, ByteArray.append_assoc]]; exact Z9 gk s m e a x0 x1 (F.c x0 (by simp)) (F.h x0 (by simp)) (F.c x1 (by simp)) (F.h x1 (by simp))
  by_cases k11 : k = 11
  ·subst k11
   simp [Ac] at hfit; obtain ⟨x0, x1, rfl⟩ := FJ hfit; rw [show spJ (.mk 11 s m e [x0, x1] a) = Ah [⟨#[40]⟩, spJ x0, ⟨#[32]⟩, ⟨#[97, 110, 100]⟩, ⟨#[32]⟩, spJ x1, ⟨#[41]⟩] from by rw [spJ]; simp [spL, Ah, ape, BZ, ByteArray.append_assoc]]; exact Zs gk s m e a x0 x1 (F.c x0 (by simp)) (F.h x0 (by simp)) (F.c x1 (by simp)) (F.h x1 (by simp))
  by_cases k12 : k = 12
  ·subst k12
   simp [Ac] at hfit; obtain ⟨x0, x1, rfl⟩ := FJ hfit; rw [show spJ (.mk 12 s m e [x0, x1] a) = Ah [⟨#[40]⟩, spJ x0, ⟨#[32]⟩, ⟨#[111, 114]⟩, ⟨#[32]⟩, spJ x1, ⟨#[41]⟩] from by rw [spJ]; simp [spL, Ah, ape, BZ, ByteArray.append_assoc]]; exact ZC gk s m e a x0 x1 (F.c x0 (by simp)) (F.h x0 (by simp)) (F.c x1 (by simp)) (F.h x1 (by simp))
  by_cases k13 : k = 13
  ·subst k13
   simp [Ac] at hfit; obtain ⟨x0, x1, rfl⟩ := FJ hfit; rw [show spJ (.mk 13 s m e [x0, x1] a) = Ah [⟨#[40]⟩, spJ x0, ⟨#[32]⟩, ⟨#[47, 47]⟩, ⟨#[32]⟩, spJ x1, ⟨#[41]⟩] from by rw [spJ]; simp [spL, Ah, ape, BZ, ByteArray.append_assoc]]; exact ZW gk s m e a x0 x1 (F.c x0 (by simp)) (F.h x0 (by simp)) (F.c x1 (by simp)) (F.h x1 (by simp))
  by_cases k10 : k = 10
  ·subst k10
   simp [Ac] at hfit; obtain ⟨x0, x1, rfl⟩ := FJ hfit.1; rw [show spJ (.mk 10 s m e [x0, x1] a) = Ah [⟨#[40]⟩, spJ x0, ⟨#[32]⟩, s, ⟨#[32]⟩, spJ x1, ⟨#[41]⟩] from by rw [spJ]; simp [spL, Ah, ape, BZ, ByteArray.append_assoc]]; exact YZ gk s m e a (by have := F.ss; omega) x0 x1 (F.c x0 (by simp)) (F.h x0 (by simp)) (F.c x1 (by simp)) (F.h x1 (by simp))
  by_cases k25 : k = 25
  ·subst k25
   simp [Ac] at hfit; obtain ⟨x0, x1, rfl⟩ := FJ hfit.1; rw [show spJ (.mk 25 s m e [x0, x1] a) = Ah [⟨#[40]⟩, spJ x0, ⟨#[32]⟩, s, ⟨#[32]⟩, spJ x1, ⟨#[41]⟩] from by rw [spJ]; simp [spL, Ah, ape, BZ, ByteArray.append_assoc]]; exact YR gk s m e a (by have := F.ss; omega) x0 x1 (F.c x0 (by simp)) (F.h x0 (by simp)) (F.c x1 (by simp)) (F.h x1 (by simp))
  by_cases k14 : k = 14
  ·subst k14
   simp [Ac] at hfit; obtain ⟨x0, rfl⟩ := W6 hfit; rw [show spJ (.mk 14 s m e [x0] a) = Ah [⟨#[40, 45]⟩, spJ x0, ⟨#[41]⟩] from by rw [spJ]; simp [spL, Ah, ape, ByteArray.append_assoc]]; exact Y8 gk s m e a x0 (F.c x0 (by simp)) (F.h x0 (by simp))
  by_cases k15 : k = 15
  ·subst k15
   simp [Ac] at hfit; have hz : Cp ⟨#[]⟩ ⟨#[]⟩ (l.map spJ) = Ba ⟨#[]⟩ (l.map spJ) := Is _ _ F.p; have hz2 : (Cp ⟨#[]⟩ ⟨#[]⟩ (l.map spJ)).size ≤ 2000000000000 := by rw [hz]; have := F.sep ⟨#[]⟩ (by decide); omega
   rw [show spJ (.mk 15 s m e l a) = Ah [⟨#[91]⟩, Cp ⟨#[]⟩ ⟨#[]⟩ (l.map spJ), ⟨#[93]⟩] from by rw [hz]; exact Y2 s m e l a hfit]; exact Zy gk s m e l a F.c F.h hz2
  by_cases k16 : k = 16
  ·subst k16
   simp [Ac] at hfit; rw [show spJ (.mk 16 s m e l a) = Ah [⟨#[123]⟩, Cs true (spL l), ⟨#[125]⟩] from by rw [spJ]; simp [Ah, ape, ByteArray.append_assoc]]; exact YX gk s m e l a _ (Ui gk s m e l a F.c F.h hfit F.ob)
  by_cases k17 : k = 17
  ·subst k17
   simp [Ac] at hfit; obtain ⟨x0, x1, x2, rfl⟩ := Xj hfit; rw [show spJ (.mk 17 s m e [x0, x1, x2] a) = Ah [⟨#[105, 102, 32]⟩, spJ x0, ⟨#[32, 116, 104, 101, 110, 32]⟩, spJ x1, ⟨#[32, 101, 108, 115, 101, 32]⟩, spJ x2, ⟨#[32, 101, 110, 100]⟩] from by rw [spJ]; simp [spL, Ah, ape, ByteArray.append_assoc]]; exact Ff gk s m e _ _ 17 _ (YW gk s m e a x0 x1 x2 (F.c x0 (by simp)) (F.h x0 (by simp)) (F.c x1 (by simp)) (F.h x1 (by simp)) (F.c x2 (by simp)) (F.h x2 (by simp))) (by decide)
  by_cases k18 : k = 18
  ·subst k18
   simp [Ac] at hfit; rcases hfit with hfit | hfit
   ·obtain ⟨x0, rfl⟩ := W6 hfit
    rw [show spJ (.mk 18 s m e [x0] a) = Ah [⟨#[40, 116, 114, 121, 32]⟩, tgB (Av x0) (spJ x0)] ++ ⟨#[41]⟩ from by rw [spJ]; simp [spL, Ah, ape, tgJ, tgB, ByteArray.append_assoc]]; exact Ff gk s m e _ _ 18 _ (YI gk s m e a x0 (F.c x0 (by simp)) (F.h x0 (by simp))) (by decide)
   obtain ⟨x0, x1, rfl⟩ := FJ hfit; rw [show spJ (.mk 18 s m e [x0, x1] a) = Ah [⟨#[40, 116, 114, 121, 32]⟩, tgB (Av x0) (spJ x0)] ++ Ah [⟨#[32, 99, 97, 116, 99, 104, 32]⟩, tgB (Av x1) (spJ x1)] ++ ⟨#[41]⟩ from by rw [spJ]; simp [spL, Ah, ape, tgJ, tgB, ByteArray.append_assoc]]; exact Ff gk s m e _ _ 18 _ (XZ gk s m e a x0 x1 (F.c x0 (by simp)) (F.h x0 (by simp)) (F.c x1 (by simp)) (F.h x1 (by simp))) (by decide)
  by_cases k19 : k = 19
  ·subst k19
   simp [Ac] at hfit; obtain ⟨x0, x1, x2, rfl⟩ := Xj hfit.1; have hz : Cp ⟨#[59, 32]⟩ ⟨#[]⟩ ([x1, x2].map spJ) = Ba ⟨#[59, 32]⟩ ([x1, x2].map spJ) := Is _ _ (fun t ht => F.p t (by simp only [List.map_cons, List.map_nil, List.mem_cons] at ht ⊢; exact Or.inr ht)); have hz2 : (Cp ⟨#[59, 32]⟩ ⟨#[]⟩ ([x1, x2].map spJ)).size ≤ 2000000000000 := by rw [hz]; exact Nat.le_trans (NP ⟨#[59, 32]⟩ x0 [x1, x2]) (by have := F.sep ⟨#[59, 32]⟩ (by decide); omega)
   rw [show spJ (.mk 19 s m e [x0, x1, x2] a) = Ah [⟨#[114, 101, 100, 117, 99, 101, 32]⟩, tgB (Av x0) (spJ x0), ⟨#[32, 97, 115, 32, 36]⟩, s, ⟨#[32, 40]⟩, Cp ⟨#[59, 32]⟩ ⟨#[]⟩ ([x1, x2].map spJ), ⟨#[41]⟩] from by rw [hz]; rw [spJ]; simp [spL, Ah, ape, tgJ, tgB, ByteArray.append_assoc]]; exact Ff gk s m e _ _ 19 _ (Y5 gk s m e a (by have := F.ss; omega) x0 x1 x2 hz2 (F.c x0 (by simp)) (F.h x0 (by simp)) (F.c x1 (by simp)) (F.h x1 (by simp)) (F.c x2 (by simp)) (F.h x2 (by simp))) (by decide)
  by_cases k20 : k = 20
  ·subst k20
   simp [Ac] at hfit; obtain ⟨x0, x1, x2, x3, rfl⟩ := aH hfit.1; have hz : Cp ⟨#[59, 32]⟩ ⟨#[]⟩ ([x1, x2, x3].map spJ) = Ba ⟨#[59, 32]⟩ ([x1, x2, x3].map spJ) := Is _ _ (fun t ht => F.p t (by simp only [List.map_cons, List.map_nil, List.mem_cons] at ht ⊢; exact Or.inr ht)); have hz2 : (Cp ⟨#[59, 32]⟩ ⟨#[]⟩ ([x1, x2, x3].map spJ)).size ≤ 2000000000000 := by rw [hz]; exact Nat.le_trans (NP ⟨#[59, 32]⟩ x0 [x1, x2, x3]) (by have := F.sep ⟨#[59, 32]⟩ (by decide); omega)
   rw [show spJ (.mk 20 s m e [x0, x1, x2, x3] a) = Ah [⟨#[102, 111, 114, 101, 97, 99, 104, 32]⟩, tgB (Av x0) (spJ x0), ⟨#[32, 97, 115, 32, 36]⟩, s, ⟨#[32, 40]⟩, Cp ⟨#[59, 32]⟩ ⟨#[]⟩ ([x1, x2, x3].map spJ), ⟨#[41]⟩] from by rw [hz]; rw [spJ]; simp [spL, Ah, ape, tgJ, tgB, ByteArray.append_assoc]]; exact Ff gk s m e _ _ 20 _ (ZK gk s m e a (by have := F.ss; omega) x0 x1 x2 x3 hz2 (F.c x0 (by simp)) (F.h x0 (by simp)) (F.c x1 (by simp)) (F.h x1 (by simp)) (F.c x2 (by simp)) (F.h x2 (by simp)) (F.c x3 (by simp)) (F.h x3 (by simp))) (by decide)
  by_cases k21 : k = 21
  ·subst k21
   simp [Ac] at hfit; obtain ⟨x0, x1, rfl⟩ := FJ hfit.1; rw [show spJ (.mk 21 s m e [x0, x1] a) = Ah [⟨#[40]⟩, tgB (Av x0) (spJ x0), ⟨#[32, 97, 115, 32, 36]⟩, s, ⟨#[32, 124, 32]⟩, spJ x1, ⟨#[41]⟩] from by rw [spJ]; simp [spL, Ah, ape, tgJ, tgB, ByteArray.append_assoc]]; exact Ff gk s m e _ _ 21 _ (Zf gk s m e a (by have := F.ss; omega) x0 x1 (F.c x0 (by simp)) (F.h x0 (by simp)) (F.c x1 (by simp)) (F.h x1 (by simp))) (by decide)
  by_cases k22 : k = 22
  ·subst k22
   simp [Ac] at hfit; rw [show spJ (.mk 22 s m e l a) = ⟨#[36]⟩ ++ s from by rw [spJ]; simp]; exact Ff gk s m e _ _ 22 _ (ZS gk s m e a l (by have := F.ss; omega)) (by decide)
  by_cases k23 : k = 23
  ·subst k23
   by_cases hl : l.length = 0
   ·obtain rfl := List.eq_nil_of_length_eq_zero hl
    rw [show spJ (.mk 23 s m e [] a) = s from by rw [spJ]; simp]; exact Ff gk s m e _ _ 23 _ (Yv gk s m e a) (by decide)
   have hln : ¬ l = [] := fun h => hl (by rw [h]; rfl)
   have hz : Cp ⟨#[59, 32]⟩ ⟨#[]⟩ (l.map spJ) = Ba ⟨#[59, 32]⟩ (l.map spJ) := Is _ _ F.p; have hz2 : (Cp ⟨#[59, 32]⟩ ⟨#[]⟩ (l.map spJ)).size ≤ 2000000000000 := by rw [hz]; have := F.sep ⟨#[59, 32]⟩ (by decide); omega
   rw [show spJ (.mk 23 s m e l a) = Ah [s, ⟨#[40]⟩, Cp ⟨#[59, 32]⟩ ⟨#[]⟩ (l.map spJ), ⟨#[41]⟩] from by rw [hz]; rw [spJ]; simp [FA, Ah, ape, hl, ByteArray.append_assoc]]; exact Ff gk s m e _ _ 23 _ (XC gk s m e a l (by omega) (by have := F.ss; omega) F.c F.h hz2) (by decide)
  by_cases k24 : k = 24
  ·subst k24
   simp [Ac] at hfit; obtain ⟨x0, x1, rfl⟩ := FJ hfit.1.1; by_cases ha : a.length = 0
   ·obtain rfl := List.eq_nil_of_length_eq_zero ha
    rw [show spJ (.mk 24 s m e [x0, x1] []) = Ah [⟨#[40, 100, 101, 102, 32]⟩, s, ⟨#[]⟩, ⟨#[58, 32]⟩, spJ x0, ⟨#[59, 32]⟩, spJ x1, ⟨#[41]⟩] from by rw [spJ]; simp [spL, Ah, ape, eap, ByteArray.append_assoc]]; exact Ff gk s m e _ _ 24 _ (XB gk s m e (by have := F.ss; omega) x0 x1 (F.c x0 (by simp)) (F.h x0 (by simp)) (F.c x1 (by simp)) (F.h x1 (by simp))) (by decide)
   have han : ¬ a = [] := fun h => ha (by rw [h]; rfl)
   rw [show spJ (.mk 24 s m e [x0, x1] a) = Ah [⟨#[40, 100, 101, 102, 32]⟩, s, Ah [⟨#[40]⟩, Ba ⟨#[59, 32]⟩ a, ⟨#[41]⟩], ⟨#[58, 32]⟩, spJ x0, ⟨#[59, 32]⟩, spJ x1, ⟨#[41]⟩] from by rw [spJ]; simp [spL, Ah, ape, ByteArray.append_assoc, han]]; exact Ff gk s m e _ _ 24 _ (Yr gk s m e a (by omega) (by have := F.sa; omega) (by have := F.ss; omega) x0 x1 (F.c x0 (by simp)) (F.h x0 (by simp)) (F.c x1 (by simp)) (F.h x1 (by simp))) (by decide)
  exfalso; simp [Ac, *] at hfit
end Go.Proofs.YtakncilicoefdaaGreatDoor
