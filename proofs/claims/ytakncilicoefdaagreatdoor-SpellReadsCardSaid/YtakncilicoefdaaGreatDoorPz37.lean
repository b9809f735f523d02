/- Lemmas and contracts. Conditions: those that each lemma names. -/
import Derived.Test.YtakncilicoefdaaGreatDoorPz36
set_option maxRecDepth 100000
set_option maxHeartbeats 4000000
namespace Go.Proofs.YtakncilicoefdaaGreatDoor
open Go Go.RowKit Go.Proofs Th
theorem eap (x : ByteArray) : (⟨#[]⟩ : ByteArray) ++ x = x := ByteArray.empty_append
theorem ape (x : ByteArray) : x ++ (⟨#[]⟩ : ByteArray) = x := ByteArray.append_empty
def Kc (G : World → CS → Prop) : Prop := ∀ s : ByteArray, s.size ≤ 1000000 → Lib.validD s.data.toList = true → ACalls Tryz.prog G 55 none [sI s] (.ret (.tup [sI (Dw s), .v (.int .i64 0)]) [])
def AP (G : World → CS → Prop) (n : NJ) : Prop := ACalls Tryz.prog G 16 none [.agg (Al n)] (.ret (sI (spJ n)) [])
set_option maxRecDepth 8000
attribute [local go_sem] sel
attribute [local go_sem] Ah ByteArray.size_append bsz eap ape
variable {G : World → CS → Prop}
theorem Cf (gk : GK G) (ks : List ByteArray) (hl : (Ah ks).size ≤ 30000000000000) : ACalls Tryz.prog G 30 none [.sl (ks.map fun x => [sI x]) false] (.ret (sI (Ah ks)) []) := by
 have cj := Q8 (G := G) ks ⟨#[]⟩ (by rw [MT]; exact hl); rw [MT] at cj; generalize Ah ks = z at cj hl; generalize (ks.map fun x => [sI x]) = es at cj; refine ACalls.enter Tryz.func30 rfl rfl gk Tryz.ntmps30 fun X F => ?_
 apply Ar F; go_simp; apply Ar F; go_simp; refine ⟨_, cj, ?_⟩; go_simp; apply Au; go_simp
theorem Na (gk : GK G) (hW : Kc G) (s : ByteArray) (hs : s.size ≤ 1000000) (hv : Lib.validD s.data.toList = true) : ACalls Tryz.prog G 28 none [sI s] (.ret (sI (Dw s)) []) := by
 have cw := hW s hs hv; generalize Dw s = z at cw; refine ACalls.enter Tryz.func28 rfl rfl gk Tryz.ntmps28 fun X F => ?_
 apply Ar F; go_simp; apply Ar F; go_simp; refine ⟨_, cw, ?_⟩; go_simp; apply Ar F; go_simp; apply Au; go_simp
theorem Dy (gk : GK G) (n : NJ) (ct : AP G n) (hs : (spJ n).size ≤ 2000000000000) : ACalls Tryz.prog G 31 none [.agg (Al n)] (.ret (sI (tgB (Av n) (spJ n))) []) := by
 unfold AP at ct; obtain ⟨k1, t1, m1, q1, l1, b1⟩ := n; generalize spJ (.mk k1 t1 m1 q1 l1 b1) = u at *; rw [show Av (.mk k1 t1 m1 q1 l1 b1) = k1 from rfl]; have ca := Cf gk [⟨#[40]⟩, u, ⟨#[41]⟩] (by simp only [Ah, ByteArray.size_append, bsz, List.length_cons, List.length_nil]; omega); rw [List.map_cons, List.map_cons, List.map_cons, List.map_nil] at ca; obtain ⟨z, hz⟩ : ∃ z, tgB k1 u = z := ⟨_, rfl⟩
 rw [hz]; refine ACalls.enter Tryz.func31 rfl rfl gk Tryz.ntmps31 fun X F => ?_
 by_cases g1 : k1 = 1
 ·subst g1
  have hz2 : z = u := by rw [← hz]; rfl
  subst hz2; apply Ar F; go_simp; apply Ar F; go_simp; (repeat apply Aq); apply Ab; apply Ar F; go_simp; (repeat apply Aq); refine At (by go_simp) ?_; apply As; go_simp; (repeat apply Aq); refine At (by go_simp) ?_; apply Ar F; go_simp; refine ⟨_, ct, ?_⟩; go_simp; apply Au; go_simp
 by_cases g5 : k1 = 5
 ·subst g5
  have hz2 : z = u := by rw [← hz]; rfl
  subst hz2; apply Ar F; go_simp; apply Ar F; go_simp; (repeat apply Aq); apply Ab; apply Ar F; go_simp; (repeat apply Aq); refine Af (by go_simp) ?_; apply Ar F; go_simp; (repeat apply Aq); refine At (by go_simp) ?_; apply As; go_simp; (repeat apply Aq); refine At (by go_simp) ?_; apply Ar F; go_simp; refine ⟨_, ct, ?_⟩; go_simp; apply Au; go_simp
 by_cases g6 : k1 = 6
 ·subst g6
  have hz2 : z = u := by rw [← hz]; rfl
  subst hz2;apply Ar F;go_simp;apply Ar F;go_simp;(repeat apply Aq);apply Ab;(iterate 2 apply Ar F;go_simp;(repeat apply Aq);refine Af (by go_simp) ?_);apply Ar F;go_simp;(repeat apply Aq);refine At (by go_simp) ?_;apply As;go_simp;(repeat apply Aq);refine At (by go_simp) ?_;apply Ar F;go_simp;refine ⟨_, ct, ?_⟩;go_simp;apply Au;go_simp
 by_cases g7 : k1 = 7
 ·subst g7
  have hz2 : z = u := by rw [← hz]; rfl
  subst hz2;apply Ar F;go_simp;apply Ar F;go_simp;(repeat apply Aq);apply Ab;(iterate 3 apply Ar F;go_simp;(repeat apply Aq);refine Af (by go_simp) ?_);apply Ar F;go_simp;(repeat apply Aq);refine At (by go_simp) ?_;apply As;go_simp;(repeat apply Aq);refine At (by go_simp) ?_;apply Ar F;go_simp;refine ⟨_, ct, ?_⟩;go_simp;apply Au;go_simp
 by_cases g22 : k1 = 22
 ·subst g22
  have hz2 : z = u := by rw [← hz]; rfl
  subst hz2;apply Ar F;go_simp;apply Ar F;go_simp;(repeat apply Aq);apply Ab;(iterate 4 apply Ar F;go_simp;(repeat apply Aq);refine Af (by go_simp) ?_);apply Ar F;go_simp;(repeat apply Aq);refine At (by go_simp) ?_;apply As;go_simp;(repeat apply Aq);refine At (by go_simp) ?_;apply Ar F;go_simp;refine ⟨_, ct, ?_⟩;go_simp;apply Au;go_simp
 by_cases g23 : k1 = 23
 ·subst g23
  have hz2 : z = u := by rw [← hz]; rfl
  subst hz2;apply Ar F;go_simp;apply Ar F;go_simp;(repeat apply Aq);apply Ab;(iterate 5 apply Ar F;go_simp;(repeat apply Aq);refine Af (by go_simp) ?_);apply Ar F;go_simp;(repeat apply Aq);refine At (by go_simp) ?_;apply Ar F;go_simp;refine ⟨_, ct, ?_⟩;go_simp;apply Au;go_simp
 have hz2 : z = Ah [⟨#[40]⟩, u, ⟨#[41]⟩] := by rw [← hz]; unfold tgB; rw [if_neg (by simp [LF, *])]; simp [Ah, DG, ape, ByteArray.append_assoc]
 rw [hz2];apply Ar F;go_simp;apply Ar F;go_simp;(repeat apply Aq);apply Ab;(iterate 6 apply Ar F;go_simp;(repeat apply Aq);refine Af (by go_simp) ?_);apply As;go_simp;apply Ar F;go_simp;refine ⟨_, ct, ?_⟩;go_simp;refine ⟨_, ca, ?_⟩;go_simp;apply Au;go_simp
theorem FC (gk : GK G) (k1 : Int) (t1 : ByteArray) (m1 q1 : Int) (x y : NJ) (b1 : List ByteArray) (g : ByteArray) (cx : AP G x) (cy : AP G y) (hx : (spJ x).size ≤ 2000000000000) (hy : (spJ y).size ≤ 2000000000000) (hg : g.size ≤ 2000000000000) : ACalls Tryz.prog G 33 none [.agg (Al (.mk k1 t1 m1 q1 [x, y] b1)), sI g] (.ret (sI (Ah [⟨#[40]⟩, spJ x, ⟨#[32]⟩, g, ⟨#[32]⟩, spJ y, ⟨#[41]⟩])) []) := by
 unfold AP at cx; generalize spJ x = u at *; obtain ⟨k2, t2, m2, q2, l2, b2⟩ := x; unfold AP at cy; generalize spJ y = v at *; obtain ⟨k3, t3, m3, q3, l3, b3⟩ := y; have ca := Cf gk [⟨#[40]⟩, u, ⟨#[32]⟩, g, ⟨#[32]⟩, v, ⟨#[41]⟩] (by simp only [Ah, ByteArray.size_append, bsz, List.length_cons, List.length_nil]; omega); simp only [List.map_cons, List.map_nil] at ca; generalize Ah [⟨#[40]⟩, u, ⟨#[32]⟩, g, ⟨#[32]⟩, v, ⟨#[41]⟩] = z at ca ⊢; refine ACalls.enter Tryz.func33 rfl rfl gk Tryz.ntmps33 fun X F => ?_
 apply Ar F; go_simp; (repeat apply Aq); refine Ad F [0, 1, 2, 3, 5, 6, 7, 8, 9, 4, 10, 11, 12, 13] [(7, 4), (8, 4), (9, 4)] mixed (by kernel_rfl) ?_; go_simp; refine ⟨_, cx, ?_⟩; go_simp; refine ⟨_, cy, ?_⟩; go_simp; refine ⟨_, ca, ?_⟩; go_simp; apply Au; go_simp
end Go.Proofs.YtakncilicoefdaaGreatDoor
