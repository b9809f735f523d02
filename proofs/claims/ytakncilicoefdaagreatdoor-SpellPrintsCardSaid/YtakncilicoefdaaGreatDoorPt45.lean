/- Lemmas and contracts. Conditions: those that each lemma names. -/
import Derived.Test.YtakncilicoefdaaGreatDoorPt44
set_option maxRecDepth 100000
set_option maxHeartbeats 4000000
namespace Go.Proofs.YtakncilicoefdaaGreatDoor
open Go Go.RowKit Go.Proofs Th
theorem JA : ∀ (l : List NJ), Cm l = true → ∀ (j : Nat) (h : j < l.length), j % 2 = 0 → Av l[j] = 3
 | [], _, j, h, _ => absurd h (by simp)
 | [x], he, 0, _, _ => by simpa [Cm] using he
 | [x], _, j + 1, h, _ => absurd h (by simp)
 | x :: y :: r, he, 0, _, _ => by simp [Cm] at he; exact he.1
 | x :: y :: r, _, 1, _, h2 => absurd h2 (by decide)
 | x :: y :: r, he, j + 2, h, h2 => by
  simp [Cm] at he; have := JA r he.2 j (by simpa using h) (by omega); simpa using this
theorem KG {l : List NJ} (h : l.length = 1) : ∃ x0, l = [x0] := by
 match l, h with
 | [x0], _ => exact ⟨x0, rfl⟩
theorem Cn {l : List NJ} (h : l.length = 2) : ∃ x0 x1, l = [x0, x1] := by
 match l, h with
 | [x0, x1], _ => exact ⟨x0, x1, rfl⟩
theorem KC {l : List NJ} (h : l.length = 3) : ∃ x0 x1 x2, l = [x0, x1, x2] := by
 match l, h with
 | [x0, x1, x2], _ => exact ⟨x0, x1, x2, rfl⟩
theorem VN {l : List NJ} (h : l.length = 4) : ∃ x0 x1 x2 x3, l = [x0, x1, x2, x3] := by
 match l, h with
 | [x0, x1, x2, x3], _ => exact ⟨x0, x1, x2, x3, rfl⟩
theorem OR : ∀ x : NJ, okJ x = true → Av x = 3 → Lib.validD (nmJ x).data.toList = true
 | .mk k s m e l a, h, hk => by
  have hk : k = 3 := hk; subst hk; rw [okJ, Bool.and_eq_true] at h; have hfit : Ai (.mk 3 s m e l a) = true := by have := h.1; unfold AB at this; rw [Bool.and_eq_true] at this; exact this.2
  simp [Ai] at hfit; exact hfit.2
structure KidF (T : NJ → Prop) (s : ByteArray) (l : List NJ) (a : List ByteArray) : Prop where
 c : ∀ x ∈ l, T x
 ok : ∀ x ∈ l, okJ x = true
 h : ∀ x ∈ l, (spJ x).size ≤ 10000000
 p : ∀ t ∈ l.map spJ, 0 < t.size
 sep : ∀ gap : ByteArray, gap.size ≤ 2 → (AP gap (l.map spJ)).size ≤ 9000000
 jn : (BH true (l.map nmJ) (spL l)).size ≤ 10000000
 ob : (Cx true (spL l)).size ≤ 10000000
 ss : s.size ≤ 100000
 nm : ∀ x ∈ l, (nmJ x).size ≤ 100000
 ar : ∀ x ∈ a, x.size ≤ 100000
 sa : (AP ⟨#[59, 32]⟩ a).size ≤ 200000
theorem VU {T : NJ → Prop} {k : Int} {s : ByteArray} {m e : Int} {l : List NJ} {a : List ByteArray} (hw : wtJ (.mk k s m e l a) ≤ 100000) (hk : ∀ x ∈ l, okJ x = true) (hT : ∀ x ∈ l, T x) : KidF T s l a := by
 rw [wtJ] at hw; have hS : ∀ x ∈ l, (spJ x).size + 22 ≤ 48 * wtJ x := fun x hx => Gl (Bp x) x (Nat.le_refl _) (hk x hx)
 have hsum := La l hS; have h2 := Fd (show 2 ≤ 22 by decide) (spL l); have h6 := Fd (show 6 ≤ 22 by decide) (spL l); have hj := E7 true l hS; have ho := Jk true (spL l); have ha := EC ⟨#[59, 32]⟩ 2 (Nat.le_refl _) a; have ha2 := Ja a; have hwa : (a.map fun x => 1 + x.size).sum = Dg 1 a := rfl; rw [hwa] at hw; refine ⟨hT, hk, fun x hx => by have := hS x hx; have := F7 hx; omega, fun t ht => ?_, fun gap hg => ?_, by omega, by omega, by omega, fun x hx => by have := T7 x; have := F7 hx; omega, fun x hx => by have := KN hx; rw [hwa] at this; omega, by omega⟩
 ·obtain ⟨x, hx, rfl⟩ := List.mem_map.1 ht
  exact VD x (hk x hx)
 have := EC gap 2 hg (l.map spJ); rw [← Ij] at this ⊢; omega
variable {G : World → CS → Prop}
theorem Qr (s : ByteArray) (m e : Int) (l : List NJ) (a : List ByteArray) (hl : l.length ≤ 1) : spJ (.mk 15 s m e l a) = Aa [⟨#[91]⟩, AP ⟨#[]⟩ (l.map spJ), ⟨#[93]⟩] := by
 match l, hl with
 | [], _ => rw [spJ]; simp [spL, Aa, AP, ape, eap]
 | [x], _ => rw [spJ]; simp [spL, Aa, AP, ape, ByteArray.append_assoc]
 | x :: y :: r, h => exact absurd h (by simp)
theorem FU (gap : ByteArray) (x : NJ) (l : List NJ) : (AP gap (l.map spJ)).size ≤ (AP gap ((x :: l).map spJ)).size := by
 cases l with
 | nil => rw [show AP gap (([] : List NJ).map spJ) = ⟨#[]⟩ from rfl]; exact Nat.zero_le _
 | cons y r =>
  show _ ≤ (spJ x ++ gap ++ AP gap ((y :: r).map spJ)).size
  rw [ByteArray.size_append, ByteArray.size_append]; omega
theorem Pd (gk : GK G) (hP : Ms G) (hW : IG G) : ∀ (d : Nat) (n : NJ), Bp n ≤ d → okJ n = true → Cy n → wtJ n ≤ 100000 → AE G n
 | 0, .mk k s m e l a, hd, _, _, _ => by rw [Bp] at hd; omega
 | d + 1, .mk k s m e l a, hd, h, hn, hw => by
  have hsz := Gl (d + 1) (.mk k s m e l a) hd h; rw [Bp] at hd; rw [okJ, Bool.and_eq_true, Gc, List.all_eq_true] at h; obtain ⟨h1, hk⟩ := h; have hfit : Ai (.mk k s m e l a) = true := by unfold AB at h1; rw [Bool.and_eq_true] at h1; exact h1.2
  obtain ⟨_, hm, _, _, _, hkl⟩ := hn; have F : KidF (AE G) s l a := VU hw hk fun x hx => Pd gk hP hW d x (C7.1 (by omega) x hx) (hk x hx) ((CY l).1 hkl x hx) (by rw [wtJ] at hw; have := F7 hx; omega)
  unfold AE; by_cases k1 : k = 1
  ·subst k1
   simp [Ai] at hfit; rw [show spJ (.mk 1 s m e l a) = ⟨#[46]⟩ from by rw [spJ]; simp]; exact Wo gk s m e l a
  by_cases k26 : k = 26
  ·subst k26
   simp [Ai] at hfit; rw [show spJ (.mk 26 s m e l a) = ⟨#[46, 46]⟩ from by rw [spJ]; simp]; exact V9 gk s m e l a
  by_cases k2 : k = 2
  ·subst k2
   simp [Ai] at hfit; rw [show spJ (.mk 2 s m e l a) = bs (AL m e) from by rw [spJ]; simp]; exact WE gk hP s m e l a hm hfit.1.2
  by_cases k3 : k = 3
  ·subst k3
   simp [Ai] at hfit; rw [show spJ (.mk 3 s m e l a) = BQ s from by rw [spJ]; simp]; exact Wv gk hW s m e l a (by have := F.ss; omega) hfit.2
  by_cases k4 : k = 4
  ·subst k4
   simp [Ai] at hfit; rw [show spJ (.mk 4 s m e l a) = Aa [⟨#[34]⟩, BH true (l.map nmJ) (spL l), ⟨#[34]⟩] from by rw [spJ]; simp [Aa, ape, ByteArray.append_assoc]]; exact WC gk s m e l a _ (Rj gk hW s m e l a F.c F.h (fun j hj h2 => ⟨OR _ (hk _ (List.getElem_mem hj)) (JA l hfit.1.1 j hj h2), by have := F.nm _ (List.getElem_mem hj); omega⟩) F.jn)
  by_cases k5 : k = 5
  ·subst k5
   simp [Ai] at hfit; obtain ⟨x0, x1, rfl⟩ := Cn hfit; rw [show spJ (.mk 5 s m e [x0, x1] a) = Aa [tgB (Av x0) (spJ x0), ⟨#[91]⟩, spJ x1, ⟨#[93]⟩] from by rw [spJ]; simp [spL, Aa, ape, tgJ, tgB, ByteArray.append_assoc]]; exact WR gk s m e a x0 x1 (F.c x0 (by simp)) (F.h x0 (by simp)) (F.c x1 (by simp)) (F.h x1 (by simp))
  by_cases k6 : k = 6
  ·obtain ⟨hl, ha⟩ := Qd hfit k6
   subst k6; rcases ha with rfl | rfl | rfl
   ·obtain ⟨x0, x1, rfl⟩ := Cn hl
    rw [show spJ (.mk 6 s m e [x0, x1] [A6]) = Aa [tgB (Av x0) (spJ x0), ⟨#[91]⟩, spJ x1, ⟨#[58]⟩, ⟨#[]⟩, ⟨#[93]⟩] from by rw [spJ]; simp [A6, toB, spL, Aa, ape, eap, tgJ, tgB, ByteArray.append_assoc]]; exact P3 gk s m e _ _ _ (TC gk s m e x0 x1 (F.c x0 (by simp)) (F.h x0 (by simp)) (F.c x1 (by simp)) (F.h x1 (by simp)))
   ·obtain ⟨x0, x1, rfl⟩ := Cn hl
    rw [show spJ (.mk 6 s m e [x0, x1] [toB]) = Aa [tgB (Av x0) (spJ x0), ⟨#[91]⟩, ⟨#[]⟩, ⟨#[58]⟩, spJ x1, ⟨#[93]⟩] from by rw [spJ]; simp [A6, toB, spL, Aa, ape, eap, tgJ, tgB, ByteArray.append_assoc]]; exact P3 gk s m e _ _ _ (Sk gk s m e x0 x1 (F.c x0 (by simp)) (F.h x0 (by simp)) (F.c x1 (by simp)) (F.h x1 (by simp)))
   obtain ⟨x0, x1, x2, rfl⟩ := KC hl; rw [show spJ (.mk 6 s m e [x0, x1, x2] [A6, toB]) = Aa [tgB (Av x0) (spJ x0), ⟨#[91]⟩, spJ x1, ⟨#[58]⟩, spJ x2, ⟨#[93]⟩] from by rw [spJ]; simp [A6, toB, spL, Aa, ape, tgJ, tgB, ByteArray.append_assoc]]; exact P3 gk s m e _ _ _ (Se gk s m e x0 x1 x2 (F.c x0 (by simp)) (F.h x0 (by simp)) (F.c x1 (by simp)) (F.h x1 (by simp)) (F.c x2 (by simp)) (F.h x2 (by simp)))
  by_cases k7 : k = 7
  ·subst k7
   simp [Ai] at hfit; obtain ⟨x0, rfl⟩ := KG hfit; rw [show spJ (.mk 7 s m e [x0] a) = Aa [tgB (Av x0) (spJ x0), ⟨#[91, 93]⟩] from by rw [spJ]; simp [spL, Aa, ape, tgJ, tgB]]; exact WI gk s m e a x0 (F.c x0 (by simp)) (F.h x0 (by simp))
  by_cases k8 : k = 8
  ·subst k8
   simp [Ai] at hfit; obtain ⟨x0, x1, rfl⟩ := Cn hfit; rw [show spJ (.mk 8 s m e [x0, x1] a) = Aa [⟨#[40]⟩, spJ x0, ⟨#[32]⟩, ⟨#[124]⟩, ⟨#[32]⟩, spJ x1, ⟨#[41]⟩] from by rw [spJ]; simp [spL, Aa, ape, AG, ByteArray.append_assoc]]; exact Wl gk s m e a x0 x1 (F.c x0 (by simp)) (F.h x0 (by simp)) (F.c x1 (by simp)) (F.h x1 (by simp))
  by_cases k9 : k = 9
  ·subst k9
   simp [Ai] at hfit; obtain ⟨x0, x1, rfl⟩ := Cn hfit; rw [show spJ (.mk 9 s m e [x0, x1] a) = Aa [⟨#[40]⟩, spJ x0, ⟨#[32]⟩, ⟨#[44]⟩, ⟨#[32]⟩, spJ x1, ⟨#[41]⟩] from by rw [spJ]; simp [spL, Aa, ape, AG, ByteArray.append_assoc]]; exact WJ gk s m e a x0 x1 (F.c x0 (by simp)) (F.h x0 (by simp)) (F.c x1 (by simp)) (F.h x1 (by simp))
  by_cases k11 : k = 11
  ·subst k11
   simp [Ai] at hfit; obtain ⟨x0, x1, rfl⟩ := Cn hfit; rw [show spJ (.mk 11 s m e [x0, x1] a) = Aa [⟨#[40]⟩, spJ x0, ⟨#[32]⟩, ⟨#[97, 110, 100]⟩, ⟨#[32]⟩, spJ x1, ⟨#[41]⟩] from by rw [spJ]; simp [spL, Aa, ape, AG, ByteArray.append_assoc]]; exact VL gk s m e a x0 x1 (F.c x0 (by simp)) (F.h x0 (by simp)) (F.c x1 (by simp)) (F.h x1 (by simp))
  by_cases k12 : k = 12
  ·subst k12
   simp [Ai] at hfit; obtain ⟨x0, x1, rfl⟩ := Cn hfit; rw [show spJ (.mk 12 s m e [x0, x1] a) = Aa [⟨#[40]⟩, spJ x0, ⟨#[32]⟩, ⟨#[111, 114]⟩, ⟨#[32]⟩, spJ x1, ⟨#[41]⟩] from by rw [spJ]; simp [spL, Aa, ape, AG, ByteArray.append_assoc]]; exact Wd gk s m e a x0 x1 (F.c x0 (by simp)) (F.h x0 (by simp)) (F.c x1 (by simp)) (F.h x1 (by simp))
  by_cases k13 : k = 13
  ·subst k13
   simp [Ai] at hfit; obtain ⟨x0, x1, rfl⟩ := Cn hfit; rw [show spJ (.mk 13 s m e [x0, x1] a) = Aa [⟨#[40]⟩, spJ x0, ⟨#[32]⟩, ⟨#[47, 47]⟩, ⟨#[32]⟩, spJ x1, ⟨#[41]⟩] from by rw [spJ]; simp [spL, Aa, ape, AG, ByteArray.append_assoc]]; exact VJ gk s m e a x0 x1 (F.c x0 (by simp)) (F.h x0 (by simp)) (F.c x1 (by simp)) (F.h x1 (by simp))
  by_cases k10 : k = 10
  ·subst k10
   simp [Ai] at hfit; obtain ⟨x0, x1, rfl⟩ := Cn hfit.1; rw [show spJ (.mk 10 s m e [x0, x1] a) = Aa [⟨#[40]⟩, spJ x0, ⟨#[32]⟩, s, ⟨#[32]⟩, spJ x1, ⟨#[41]⟩] from by rw [spJ]; simp [spL, Aa, ape, AG, ByteArray.append_assoc]]; exact V1 gk s m e a (by have := F.ss; omega) x0 x1 (F.c x0 (by simp)) (F.h x0 (by simp)) (F.c x1 (by simp)) (F.h x1 (by simp))
  by_cases k25 : k = 25
  ·subst k25
   simp [Ai] at hfit; obtain ⟨x0, x1, rfl⟩ := Cn hfit.1; rw [show spJ (.mk 25 s m e [x0, x1] a) = Aa [⟨#[40]⟩, spJ x0, ⟨#[32]⟩, s, ⟨#[32]⟩, spJ x1, ⟨#[41]⟩] from by rw [spJ]; simp [spL, Aa, ape, AG, ByteArray.append_assoc]]; exact Vr gk s m e a (by have := F.ss; omega) x0 x1 (F.c x0 (by simp)) (F.h x0 (by simp)) (F.c x1 (by simp)) (F.h x1 (by simp))
  by_cases k14 : k = 14
  ·subst k14
   simp [Ai] at hfit; obtain ⟨x0, rfl⟩ := KG hfit; rw [show spJ (.mk 14 s m e [x0] a) = Aa [⟨#[40, 45]⟩, spJ x0, ⟨#[41]⟩] from by rw [spJ]; simp [spL, Aa, ape, ByteArray.append_assoc]]; exact VT gk s m e a x0 (F.c x0 (by simp)) (F.h x0 (by simp))
  by_cases k15 : k = 15
  ·subst k15
   simp [Ai] at hfit; have hz : BK ⟨#[]⟩ ⟨#[]⟩ (l.map spJ) = AP ⟨#[]⟩ (l.map spJ) := Gu _ _ F.p; have hz2 : (BK ⟨#[]⟩ ⟨#[]⟩ (l.map spJ)).size ≤ 10000000 := by rw [hz]; have := F.sep ⟨#[]⟩ (by decide); omega
   rw [show spJ (.mk 15 s m e l a) = Aa [⟨#[91]⟩, BK ⟨#[]⟩ ⟨#[]⟩ (l.map spJ), ⟨#[93]⟩] from by rw [hz]; exact Qr s m e l a hfit]; exact VA gk s m e l a F.c F.h hz2
  by_cases k16 : k = 16
  ·subst k16
   simp [Ai] at hfit; rw [show spJ (.mk 16 s m e l a) = Aa [⟨#[123]⟩, Cx true (spL l), ⟨#[125]⟩] from by rw [spJ]; simp [Aa, ape, ByteArray.append_assoc]]; exact VP gk s m e l a _ (RY gk s m e l a F.c F.h hfit F.ob)
  by_cases k17 : k = 17
  ·subst k17
   simp [Ai] at hfit; obtain ⟨x0, x1, x2, rfl⟩ := KC hfit; rw [show spJ (.mk 17 s m e [x0, x1, x2] a) = Aa [⟨#[105, 102, 32]⟩, spJ x0, ⟨#[32, 116, 104, 101, 110, 32]⟩, spJ x1, ⟨#[32, 101, 108, 115, 101, 32]⟩, spJ x2, ⟨#[32, 101, 110, 100]⟩] from by rw [spJ]; simp [spL, Aa, ape, ByteArray.append_assoc]]; exact Ej gk s m e _ _ 17 _ (Wb gk s m e a x0 x1 x2 (F.c x0 (by simp)) (F.h x0 (by simp)) (F.c x1 (by simp)) (F.h x1 (by simp)) (F.c x2 (by simp)) (F.h x2 (by simp))) (by decide)
  by_cases k18 : k = 18
  ·subst k18
   simp [Ai] at hfit; rcases hfit with hfit | hfit
   ·obtain ⟨x0, rfl⟩ := KG hfit
    rw [show spJ (.mk 18 s m e [x0] a) = Aa [⟨#[40, 116, 114, 121, 32]⟩, tgB (Av x0) (spJ x0)] ++ ⟨#[41]⟩ from by rw [spJ]; simp [spL, Aa, ape, tgJ, tgB, ByteArray.append_assoc]]; exact Ej gk s m e _ _ 18 _ (Vc gk s m e a x0 (F.c x0 (by simp)) (F.h x0 (by simp))) (by decide)
   obtain ⟨x0, x1, rfl⟩ := Cn hfit; rw [show spJ (.mk 18 s m e [x0, x1] a) = Aa [⟨#[40, 116, 114, 121, 32]⟩, tgB (Av x0) (spJ x0)] ++ Aa [⟨#[32, 99, 97, 116, 99, 104, 32]⟩, tgB (Av x1) (spJ x1)] ++ ⟨#[41]⟩ from by rw [spJ]; simp [spL, Aa, ape, tgJ, tgB, ByteArray.append_assoc]]; exact Ej gk s m e _ _ 18 _ (UL gk s m e a x0 x1 (F.c x0 (by simp)) (F.h x0 (by simp)) (F.c x1 (by simp)) (F.h x1 (by simp))) (by decide)
  by_cases k19 : k = 19
  ·subst k19
   simp [Ai] at hfit; obtain ⟨x0, x1, x2, rfl⟩ := KC hfit.1; have hz : BK ⟨#[59, 32]⟩ ⟨#[]⟩ ([x1, x2].map spJ) = AP ⟨#[59, 32]⟩ ([x1, x2].map spJ) := Gu _ _ (fun t ht => F.p t (by simp only [List.map_cons, List.map_nil, List.mem_cons] at ht ⊢; exact Or.inr ht)); have hz2 : (BK ⟨#[59, 32]⟩ ⟨#[]⟩ ([x1, x2].map spJ)).size ≤ 10000000 := by rw [hz]; exact Nat.le_trans (FU ⟨#[59, 32]⟩ x0 [x1, x2]) (by have := F.sep ⟨#[59, 32]⟩ (by decide); omega)
   rw [show spJ (.mk 19 s m e [x0, x1, x2] a) = Aa [⟨#[114, 101, 100, 117, 99, 101, 32]⟩, tgB (Av x0) (spJ x0), ⟨#[32, 97, 115, 32, 36]⟩, s, ⟨#[32, 40]⟩, BK ⟨#[59, 32]⟩ ⟨#[]⟩ ([x1, x2].map spJ), ⟨#[41]⟩] from by rw [hz]; rw [spJ]; simp [spL, Aa, ape, tgJ, tgB, ByteArray.append_assoc]]; exact Ej gk s m e _ _ 19 _ (Vt gk s m e a (by have := F.ss; omega) x0 x1 x2 hz2 (F.c x0 (by simp)) (F.h x0 (by simp)) (F.c x1 (by simp)) (F.h x1 (by simp)) (F.c x2 (by simp)) (F.h x2 (by simp))) (by decide)
  by_cases k20 : k = 20
  ·subst k20
   simp [Ai] at hfit; obtain ⟨x0, x1, x2, x3, rfl⟩ := VN hfit.1; have hz : BK ⟨#[59, 32]⟩ ⟨#[]⟩ ([x1, x2, x3].map spJ) = AP ⟨#[59, 32]⟩ ([x1, x2, x3].map spJ) := Gu _ _ (fun t ht => F.p t (by simp only [List.map_cons, List.map_nil, List.mem_cons] at ht ⊢; exact Or.inr ht)); have hz2 : (BK ⟨#[59, 32]⟩ ⟨#[]⟩ ([x1, x2, x3].map spJ)).size ≤ 10000000 := by rw [hz]; exact Nat.le_trans (FU ⟨#[59, 32]⟩ x0 [x1, x2, x3]) (by have := F.sep ⟨#[59, 32]⟩ (by decide); omega)
   rw [show spJ (.mk 20 s m e [x0, x1, x2, x3] a) = Aa [⟨#[102, 111, 114, 101, 97, 99, 104, 32]⟩, tgB (Av x0) (spJ x0), ⟨#[32, 97, 115, 32, 36]⟩, s, ⟨#[32, 40]⟩, BK ⟨#[59, 32]⟩ ⟨#[]⟩ ([x1, x2, x3].map spJ), ⟨#[41]⟩] from by rw [hz]; rw [spJ]; simp [spL, Aa, ape, tgJ, tgB, ByteArray.append_assoc]]; exact Ej gk s m e _ _ 20 _ (VE gk s m e a (by have := F.ss; omega) x0 x1 x2 x3 hz2 (F.c x0 (by simp)) (F.h x0 (by simp)) (F.c x1 (by simp)) (F.h x1 (by simp)) (F.c x2 (by simp)) (F.h x2 (by simp)) (F.c x3 (by simp)) (F.h x3 (by simp))) (by decide)
  by_cases k21 : k = 21
  ·subst k21
   simp [Ai] at hfit; obtain ⟨x0, x1, rfl⟩ := Cn hfit.1; rw [show spJ (.mk 21 s m e [x0, x1] a) = Aa [⟨#[40]⟩, tgB (Av x0) (spJ x0), ⟨#[32, 97, 115, 32, 36]⟩, s, ⟨#[32, 124, 32]⟩, spJ x1, ⟨#[41]⟩] from by rw [spJ]; simp [spL, Aa, ape, tgJ, tgB, ByteArray.append_assoc]]; exact Ej gk s m e _ _ 21 _ (Wa gk s m e a (by have := F.ss; omega) x0 x1 (F.c x0 (by simp)) (F.h x0 (by simp)) (F.c x1 (by simp)) (F.h x1 (by simp))) (by decide)
  by_cases k22 : k = 22
  ·subst k22
   simp [Ai] at hfit; rw [show spJ (.mk 22 s m e l a) = ⟨#[36]⟩ ++ s from by rw [spJ]; simp]; exact Ej gk s m e _ _ 22 _ (V2 gk s m e a l (by have := F.ss; omega)) (by decide)
  by_cases k23 : k = 23
  ·subst k23
   by_cases hl : l.length = 0
   ·obtain rfl := List.eq_nil_of_length_eq_zero hl
    rw [show spJ (.mk 23 s m e [] a) = s from by rw [spJ]; simp]; exact Ej gk s m e _ _ 23 _ (UO gk s m e a) (by decide)
   have hln : ¬ l = [] := fun h => hl (by rw [h]; rfl)
   have hz : BK ⟨#[59, 32]⟩ ⟨#[]⟩ (l.map spJ) = AP ⟨#[59, 32]⟩ (l.map spJ) := Gu _ _ F.p; have hz2 : (BK ⟨#[59, 32]⟩ ⟨#[]⟩ (l.map spJ)).size ≤ 10000000 := by rw [hz]; have := F.sep ⟨#[59, 32]⟩ (by decide); omega
   rw [show spJ (.mk 23 s m e l a) = Aa [s, ⟨#[40]⟩, BK ⟨#[59, 32]⟩ ⟨#[]⟩ (l.map spJ), ⟨#[41]⟩] from by rw [hz]; rw [spJ]; simp [Ij, Aa, ape, hl, ByteArray.append_assoc]]; exact Ej gk s m e _ _ 23 _ (UY gk s m e a l (by omega) (by have := F.ss; omega) F.c F.h hz2) (by decide)
  by_cases k24 : k = 24
  ·subst k24
   simp [Ai] at hfit; obtain ⟨x0, x1, rfl⟩ := Cn hfit.1.1; by_cases ha : a.length = 0
   ·obtain rfl := List.eq_nil_of_length_eq_zero ha
    rw [show spJ (.mk 24 s m e [x0, x1] []) = Aa [⟨#[40, 100, 101, 102, 32]⟩, s, ⟨#[]⟩, ⟨#[58, 32]⟩, spJ x0, ⟨#[59, 32]⟩, spJ x1, ⟨#[41]⟩] from by rw [spJ]; simp [spL, Aa, ape, eap, ByteArray.append_assoc]]; exact Ej gk s m e _ _ 24 _ (Us gk s m e (by have := F.ss; omega) x0 x1 (F.c x0 (by simp)) (F.h x0 (by simp)) (F.c x1 (by simp)) (F.h x1 (by simp))) (by decide)
   have han : ¬ a = [] := fun h => ha (by rw [h]; rfl)
   rw [show spJ (.mk 24 s m e [x0, x1] a) = Aa [⟨#[40, 100, 101, 102, 32]⟩, s, Aa [⟨#[40]⟩, AP ⟨#[59, 32]⟩ a, ⟨#[41]⟩], ⟨#[58, 32]⟩, spJ x0, ⟨#[59, 32]⟩, spJ x1, ⟨#[41]⟩] from by rw [spJ]; simp [spL, Aa, ape, ByteArray.append_assoc, han]]; exact Ej gk s m e _ _ 24 _ (Vk gk s m e a (by omega) (by have := F.sa; omega) (by have := F.ss; omega) x0 x1 (F.c x0 (by simp)) (F.h x0 (by simp)) (F.c x1 (by simp)) (F.h x1 (by simp))) (by decide)
  exfalso; simp [Ai, *] at hfit
theorem QO (gk : GK G) (hP : Mp G) (hW : Gd G) : ∀ (d : Nat) (n : NJ), Bp n ≤ d → okJ n = true → Cy n → wtJ n ≤ 100000 → TxR G n
 | 0, .mk k s m e l a, hd, _, _, _ => by rw [Bp] at hd; omega
 | d + 1, .mk k s m e l a, hd, h, hn, hw => by
  have hsz := Gl (d + 1) (.mk k s m e l a) hd h; rw [Bp] at hd; rw [okJ, Bool.and_eq_true, Gc, List.all_eq_true] at h; obtain ⟨h1, hk⟩ := h; have hfit : Ai (.mk k s m e l a) = true := by unfold AB at h1; rw [Bool.and_eq_true] at h1; exact h1.2
  obtain ⟨_, hm, _, _, _, hkl⟩ := hn; have F : KidF (TxR G) s l a := VU hw hk fun x hx => QO gk hP hW d x (C7.1 (by omega) x hx) (hk x hx) ((CY l).1 hkl x hx) (by rw [wtJ] at hw; have := F7 hx; omega)
  unfold TxR; by_cases k1 : k = 1
  ·subst k1
   simp [Ai] at hfit; rw [show spJ (.mk 1 s m e l a) = ⟨#[46]⟩ from by rw [spJ]; simp]; exact Xf gk s m e l a
  by_cases k26 : k = 26
  ·subst k26
   simp [Ai] at hfit; rw [show spJ (.mk 26 s m e l a) = ⟨#[46, 46]⟩ from by rw [spJ]; simp]; exact WA gk s m e l a
  by_cases k2 : k = 2
  ·subst k2
   simp [Ai] at hfit; rw [show spJ (.mk 2 s m e l a) = bs (AL m e) from by rw [spJ]; simp]; exact Xk gk hP s m e l a hm hfit.1.2
  by_cases k3 : k = 3
  ·subst k3
   simp [Ai] at hfit; rw [show spJ (.mk 3 s m e l a) = BQ s from by rw [spJ]; simp]; exact Xn gk hW s m e l a (by have := F.ss; omega) hfit.2
  by_cases k4 : k = 4
  ·subst k4
   simp [Ai] at hfit; rw [show spJ (.mk 4 s m e l a) = ⟨#[34]⟩ ++ BH true (l.map nmJ) (spL l) ++ ⟨#[34]⟩ from by rw [spJ]; simp [ByteArray.append_assoc]]; exact Xj gk hW s m e l a F.c F.h (fun j hj h2 => ⟨OR _ (hk _ (List.getElem_mem hj)) (JA l hfit.1.1 j hj h2), by have := F.nm _ (List.getElem_mem hj); omega⟩) F.jn
  by_cases k5 : k = 5
  ·subst k5
   simp [Ai] at hfit; obtain ⟨x0, x1, rfl⟩ := Cn hfit; rw [show spJ (.mk 5 s m e [x0, x1] a) = Aa [tgB (Av x0) (spJ x0), ⟨#[91]⟩, spJ x1, ⟨#[93]⟩] from by rw [spJ]; simp [spL, Aa, ape, tgJ, tgB, ByteArray.append_assoc]]; exact Xb gk s m e a x0 x1 (F.c x0 (by simp)) (F.h x0 (by simp)) (F.c x1 (by simp)) (F.h x1 (by simp))
  by_cases k6 : k = 6
  ·obtain ⟨hl, ha⟩ := Qd hfit k6
   subst k6; rcases ha with rfl | rfl | rfl
   ·obtain ⟨x0, x1, rfl⟩ := Cn hl
    rw [show spJ (.mk 6 s m e [x0, x1] [A6]) = Aa [tgB (Av x0) (spJ x0), ⟨#[91]⟩, spJ x1, ⟨#[58]⟩, ⟨#[]⟩, ⟨#[93]⟩] from by rw [spJ]; simp [A6, toB, spL, Aa, ape, eap, tgJ, tgB, ByteArray.append_assoc]]; exact WN gk s m e x0 x1 (F.c x0 (by simp)) (F.h x0 (by simp)) (F.c x1 (by simp)) (F.h x1 (by simp))
   ·obtain ⟨x0, x1, rfl⟩ := Cn hl
    rw [show spJ (.mk 6 s m e [x0, x1] [toB]) = Aa [tgB (Av x0) (spJ x0), ⟨#[91]⟩, ⟨#[]⟩, ⟨#[58]⟩, spJ x1, ⟨#[93]⟩] from by rw [spJ]; simp [A6, toB, spL, Aa, ape, eap, tgJ, tgB, ByteArray.append_assoc]]; exact WD gk s m e x0 x1 (F.c x0 (by simp)) (F.h x0 (by simp)) (F.c x1 (by simp)) (F.h x1 (by simp))
   obtain ⟨x0, x1, x2, rfl⟩ := KC hl; rw [show spJ (.mk 6 s m e [x0, x1, x2] [A6, toB]) = Aa [tgB (Av x0) (spJ x0), ⟨#[91]⟩, spJ x1, ⟨#[58]⟩, spJ x2, ⟨#[93]⟩] from by rw [spJ]; simp [A6, toB, spL, Aa, ape, tgJ, tgB, ByteArray.append_assoc]]; exact WH gk s m e x0 x1 x2 (F.c x0 (by simp)) (F.h x0 (by simp)) (F.c x1 (by simp)) (F.h x1 (by simp)) (F.c x2 (by simp)) (F.h x2 (by simp))
  by_cases k7 : k = 7
  ·subst k7
   simp [Ai] at hfit; obtain ⟨x0, rfl⟩ := KG hfit; rw [show spJ (.mk 7 s m e [x0] a) = Aa [tgB (Av x0) (spJ x0), ⟨#[91, 93]⟩] from by rw [spJ]; simp [spL, Aa, ape, tgJ, tgB]]; exact Xo gk s m e a x0 (F.c x0 (by simp)) (F.h x0 (by simp))
  by_cases k8 : k = 8
  ·subst k8
   simp [Ai] at hfit; obtain ⟨x0, x1, rfl⟩ := Cn hfit; rw [show spJ (.mk 8 s m e [x0, x1] a) = Aa [⟨#[40]⟩, spJ x0, ⟨#[32]⟩, AG 8 s, ⟨#[32]⟩, spJ x1, ⟨#[41]⟩] from by rw [spJ]; simp [spL, Aa, ape, AG, ByteArray.append_assoc]]; exact Jg gk s m e a 8 (by have := F.ss; omega) x0 x1 (F.c x0 (by simp)) (F.h x0 (by simp)) (F.c x1 (by simp)) (F.h x1 (by simp)) (by decide)
  by_cases k9 : k = 9
  ·subst k9
   simp [Ai] at hfit; obtain ⟨x0, x1, rfl⟩ := Cn hfit; rw [show spJ (.mk 9 s m e [x0, x1] a) = Aa [⟨#[40]⟩, spJ x0, ⟨#[32]⟩, AG 9 s, ⟨#[32]⟩, spJ x1, ⟨#[41]⟩] from by rw [spJ]; simp [spL, Aa, ape, AG, ByteArray.append_assoc]]; exact Jg gk s m e a 9 (by have := F.ss; omega) x0 x1 (F.c x0 (by simp)) (F.h x0 (by simp)) (F.c x1 (by simp)) (F.h x1 (by simp)) (by decide)
  by_cases k11 : k = 11
  ·subst k11
   simp [Ai] at hfit; obtain ⟨x0, x1, rfl⟩ := Cn hfit; rw [show spJ (.mk 11 s m e [x0, x1] a) = Aa [⟨#[40]⟩, spJ x0, ⟨#[32]⟩, AG 11 s, ⟨#[32]⟩, spJ x1, ⟨#[41]⟩] from by rw [spJ]; simp [spL, Aa, ape, AG, ByteArray.append_assoc]]; exact Jg gk s m e a 11 (by have := F.ss; omega) x0 x1 (F.c x0 (by simp)) (F.h x0 (by simp)) (F.c x1 (by simp)) (F.h x1 (by simp)) (by decide)
  by_cases k12 : k = 12
  ·subst k12
   simp [Ai] at hfit; obtain ⟨x0, x1, rfl⟩ := Cn hfit; rw [show spJ (.mk 12 s m e [x0, x1] a) = Aa [⟨#[40]⟩, spJ x0, ⟨#[32]⟩, AG 12 s, ⟨#[32]⟩, spJ x1, ⟨#[41]⟩] from by rw [spJ]; simp [spL, Aa, ape, AG, ByteArray.append_assoc]]; exact Jg gk s m e a 12 (by have := F.ss; omega) x0 x1 (F.c x0 (by simp)) (F.h x0 (by simp)) (F.c x1 (by simp)) (F.h x1 (by simp)) (by decide)
  by_cases k13 : k = 13
  ·subst k13
   simp [Ai] at hfit; obtain ⟨x0, x1, rfl⟩ := Cn hfit; rw [show spJ (.mk 13 s m e [x0, x1] a) = Aa [⟨#[40]⟩, spJ x0, ⟨#[32]⟩, AG 13 s, ⟨#[32]⟩, spJ x1, ⟨#[41]⟩] from by rw [spJ]; simp [spL, Aa, ape, AG, ByteArray.append_assoc]]; exact Jg gk s m e a 13 (by have := F.ss; omega) x0 x1 (F.c x0 (by simp)) (F.h x0 (by simp)) (F.c x1 (by simp)) (F.h x1 (by simp)) (by decide)
  by_cases k10 : k = 10
  ·subst k10
   simp [Ai] at hfit; obtain ⟨x0, x1, rfl⟩ := Cn hfit.1; rw [show spJ (.mk 10 s m e [x0, x1] a) = Aa [⟨#[40]⟩, spJ x0, ⟨#[32]⟩, AG 10 s, ⟨#[32]⟩, spJ x1, ⟨#[41]⟩] from by rw [spJ]; simp [spL, Aa, ape, AG, ByteArray.append_assoc]]; exact Jg gk s m e a 10 (by have := F.ss; omega) x0 x1 (F.c x0 (by simp)) (F.h x0 (by simp)) (F.c x1 (by simp)) (F.h x1 (by simp)) (by decide)
  by_cases k25 : k = 25
  ·subst k25
   simp [Ai] at hfit; obtain ⟨x0, x1, rfl⟩ := Cn hfit.1; rw [show spJ (.mk 25 s m e [x0, x1] a) = Aa [⟨#[40]⟩, spJ x0, ⟨#[32]⟩, AG 25 s, ⟨#[32]⟩, spJ x1, ⟨#[41]⟩] from by rw [spJ]; simp [spL, Aa, ape, AG, ByteArray.append_assoc]]; exact Jg gk s m e a 25 (by have := F.ss; omega) x0 x1 (F.c x0 (by simp)) (F.h x0 (by simp)) (F.c x1 (by simp)) (F.h x1 (by simp)) (by decide)
  by_cases k14 : k = 14
  ·subst k14
   simp [Ai] at hfit; obtain ⟨x0, rfl⟩ := KG hfit; rw [show spJ (.mk 14 s m e [x0] a) = Aa [⟨#[40, 45]⟩, spJ x0, ⟨#[41]⟩] from by rw [spJ]; simp [spL, Aa, ape, ByteArray.append_assoc]]; exact Wk gk s m e a x0 (F.c x0 (by simp)) (F.h x0 (by simp))
  by_cases k15 : k = 15
  ·subst k15
   simp [Ai] at hfit; have hz2 : (AP ⟨#[]⟩ (l.map spJ)).size ≤ 10000000 := by have := F.sep ⟨#[]⟩ (by decide); omega
   rw [show spJ (.mk 15 s m e l a) = Aa [⟨#[91]⟩, AP ⟨#[]⟩ (l.map spJ), ⟨#[93]⟩] from by exact Qr s m e l a hfit]; exact WM gk s m e l a F.c F.h hz2
  by_cases k16 : k = 16
  ·subst k16
   simp [Ai] at hfit; rw [show spJ (.mk 16 s m e l a) = ⟨#[123]⟩ ++ Cx true (spL l) ++ ⟨#[125]⟩ from by rw [spJ]; simp [ByteArray.append_assoc]]; exact WO gk s m e l a F.c F.h hfit F.ob
  by_cases k17 : k = 17
  ·subst k17
   simp [Ai] at hfit; obtain ⟨x0, x1, x2, rfl⟩ := KC hfit; rw [show spJ (.mk 17 s m e [x0, x1, x2] a) = Aa [⟨#[105, 102, 32]⟩, spJ x0, ⟨#[32, 116, 104, 101, 110, 32]⟩, spJ x1, ⟨#[32, 101, 108, 115, 101, 32]⟩, spJ x2, ⟨#[32, 101, 110, 100]⟩] from by rw [spJ]; simp [spL, Aa, ape, ByteArray.append_assoc]]; exact WY gk s m e a x0 x1 x2 (F.c x0 (by simp)) (F.h x0 (by simp)) (F.c x1 (by simp)) (F.h x1 (by simp)) (F.c x2 (by simp)) (F.h x2 (by simp))
  by_cases k18 : k = 18
  ·subst k18
   simp [Ai] at hfit; rcases hfit with hfit | hfit
   ·obtain ⟨x0, rfl⟩ := KG hfit
    rw [show spJ (.mk 18 s m e [x0] a) = Aa [⟨#[40, 116, 114, 121, 32]⟩, tgB (Av x0) (spJ x0), ⟨#[41]⟩] from by rw [spJ]; simp [spL, Aa, ape, tgJ, tgB, ByteArray.append_assoc]]; exact VH gk s m e a x0 (F.c x0 (by simp)) (F.h x0 (by simp))
   obtain ⟨x0, x1, rfl⟩ := Cn hfit; rw [show spJ (.mk 18 s m e [x0, x1] a) = Aa [⟨#[40, 116, 114, 121, 32]⟩, tgB (Av x0) (spJ x0), ⟨#[32, 99, 97, 116, 99, 104, 32]⟩, tgB (Av x1) (spJ x1), ⟨#[41]⟩] from by rw [spJ]; simp [spL, Aa, ape, tgJ, tgB, ByteArray.append_assoc]]; exact Vv gk s m e a x0 x1 (F.c x0 (by simp)) (F.h x0 (by simp)) (F.c x1 (by simp)) (F.h x1 (by simp))
  by_cases k19 : k = 19
  ·subst k19
   simp [Ai] at hfit; obtain ⟨x0, x1, x2, rfl⟩ := KC hfit.1; have hz2 : (AP ⟨#[59, 32]⟩ ([x1, x2].map spJ)).size ≤ 10000000 := by exact Nat.le_trans (FU ⟨#[59, 32]⟩ x0 [x1, x2]) (by have := F.sep ⟨#[59, 32]⟩ (by decide); omega)
   rw [show spJ (.mk 19 s m e [x0, x1, x2] a) = Aa [⟨#[114, 101, 100, 117, 99, 101, 32]⟩, tgB (Av x0) (spJ x0), ⟨#[32, 97, 115, 32, 36]⟩, s, ⟨#[32, 40]⟩, AP ⟨#[59, 32]⟩ ([x1, x2].map spJ), ⟨#[41]⟩] from by rw [spJ]; simp [spL, Aa, ape, tgJ, tgB, ByteArray.append_assoc]]; exact Wr gk s m e a (by have := F.ss; omega) x0 x1 x2 hz2 (F.c x0 (by simp)) (F.h x0 (by simp)) (F.c x1 (by simp)) (F.h x1 (by simp)) (F.c x2 (by simp)) (F.h x2 (by simp))
  by_cases k20 : k = 20
  ·subst k20
   simp [Ai] at hfit; obtain ⟨x0, x1, x2, x3, rfl⟩ := VN hfit.1; have hz2 : (AP ⟨#[59, 32]⟩ ([x1, x2, x3].map spJ)).size ≤ 10000000 := by exact Nat.le_trans (FU ⟨#[59, 32]⟩ x0 [x1, x2, x3]) (by have := F.sep ⟨#[59, 32]⟩ (by decide); omega)
   rw [show spJ (.mk 20 s m e [x0, x1, x2, x3] a) = Aa [⟨#[102, 111, 114, 101, 97, 99, 104, 32]⟩, tgB (Av x0) (spJ x0), ⟨#[32, 97, 115, 32, 36]⟩, s, ⟨#[32, 40]⟩, AP ⟨#[59, 32]⟩ ([x1, x2, x3].map spJ), ⟨#[41]⟩] from by rw [spJ]; simp [spL, Aa, ape, tgJ, tgB, ByteArray.append_assoc]]; exact WQ gk s m e a (by have := F.ss; omega) x0 x1 x2 x3 hz2 (F.c x0 (by simp)) (F.h x0 (by simp)) (F.c x1 (by simp)) (F.h x1 (by simp)) (F.c x2 (by simp)) (F.h x2 (by simp)) (F.c x3 (by simp)) (F.h x3 (by simp))
  by_cases k21 : k = 21
  ·subst k21
   simp [Ai] at hfit; obtain ⟨x0, x1, rfl⟩ := Cn hfit.1; rw [show spJ (.mk 21 s m e [x0, x1] a) = Aa [⟨#[40]⟩, tgB (Av x0) (spJ x0), ⟨#[32, 97, 115, 32, 36]⟩, s, ⟨#[32, 124, 32]⟩, spJ x1, ⟨#[41]⟩] from by rw [spJ]; simp [spL, Aa, ape, tgJ, tgB, ByteArray.append_assoc]]; exact WB gk s m e a (by have := F.ss; omega) x0 x1 (F.c x0 (by simp)) (F.h x0 (by simp)) (F.c x1 (by simp)) (F.h x1 (by simp))
  by_cases k22 : k = 22
  ·subst k22
   simp [Ai] at hfit; rw [show spJ (.mk 22 s m e l a) = ⟨#[36]⟩ ++ s from by rw [spJ]; simp]; exact WG gk s m e l a (by have := F.ss; omega)
  by_cases k23 : k = 23
  ·subst k23
   by_cases hl : l.length = 0
   ·obtain rfl := List.eq_nil_of_length_eq_zero hl
    rw [show spJ (.mk 23 s m e [] a) = s from by rw [spJ]; simp]; exact V6 gk s m e a
   have hln : ¬ l = [] := fun h => hl (by rw [h]; rfl)
   have hz2 : (AP ⟨#[59, 32]⟩ (l.map spJ)).size ≤ 10000000 := by have := F.sep ⟨#[59, 32]⟩ (by decide); omega
   rw [show spJ (.mk 23 s m e l a) = Aa [s, ⟨#[40]⟩, AP ⟨#[59, 32]⟩ (l.map spJ), ⟨#[41]⟩] from by rw [spJ]; simp [Ij, Aa, ape, hl, ByteArray.append_assoc]]; exact VF gk s m e a l (by omega) (by have := F.ss; omega) F.c F.h hz2
  by_cases k24 : k = 24
  ·subst k24
   simp [Ai] at hfit; obtain ⟨x0, x1, rfl⟩ := Cn hfit.1.1; have hdf : (dfB true a).size ≤ 1000000 := by
    by_cases ha : a.length = 0
    ·obtain rfl := List.eq_nil_of_length_eq_zero ha
     decide
    rw [NO (by omega), ByteArray.size_append, bsz]; have := F.sa; simp only [List.length_cons, List.length_nil]; omega
   rw [show spJ (.mk 24 s m e [x0, x1] a) = Aa [⟨#[40, 100, 101, 102, 32]⟩, s, dfB true a, (if a.length = 0 then ⟨#[]⟩ else ⟨#[41]⟩), ⟨#[58, 32]⟩, spJ x0, ⟨#[59, 32]⟩, spJ x1, ⟨#[41]⟩] from by
    by_cases ha : a.length = 0
    ·obtain rfl := List.eq_nil_of_length_eq_zero ha
     rw [spJ]; simp [spL, Aa, ape, eap, dfB, ByteArray.append_assoc]
    have han : ¬ a = [] := fun h => ha (by rw [h]; rfl)
    rw [spJ, NO (by omega)]; simp [spL, Aa, ape, ByteArray.append_assoc, han]]
   exact Ww gk s m e a (by have := F.ss; omega) (fun x hx => by have := F.ar x hx; omega) hdf x0 x1 (F.c x0 (by simp)) (F.h x0 (by simp)) (F.c x1 (by simp)) (F.h x1 (by simp))
  exfalso; simp [Ai, *] at hfit
end Go.Proofs.YtakncilicoefdaaGreatDoor
