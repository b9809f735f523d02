/- Lemmas and contracts. Conditions: those that each lemma names. -/
import Derived.Test.YtakncilicoefdaaGreatDoorPt24
set_option maxRecDepth 100000
set_option maxHeartbeats 4000000
namespace Go.Proofs.YtakncilicoefdaaGreatDoor
open Go Go.RowKit Go.Proofs Th
attribute [local go_sem] Hq GJ
variable {G : World → CS → Prop}
def Tq (G : World → CS → Prop) : Prop := ∀ s : ByteArray, s.size ≤ 50000 → s.data.toList.head? ≠ some 45 → ACalls Tryz.prog G 150 none [sI s] (.ret (.tup [.agg [iI (CO s.data.toList).1.1, iI (CO s.data.toList).1.2], iI (CO s.data.toList).2]) [])
theorem R5 (l : List UInt8) : 0 ≤ (CO l).2 := Th.Pr l
theorem SZ (gk : GK G) (f : Nat) (IH : IHP G f) (E : Env) (hE : EB E) (i : Nat) (s : ByteArray) (hi2 : i < E.l.length ∧ (6, s) ∈ Z9) (r : PR NJ) (h : BP (BO f) E (.sign s) i = some r) : ACalls Tryz.prog G 152 (some (A4 E i)) [sI s] (CU E r) := by
 simp only [BP] at h; have hi := hi2.1; have hr := rng ((i : Int) + 1) (by have := hE.len; omega); refine ACalls.enter Tryz.func152 rfl rfl gk Tryz.ntmps152 fun X F => ?_
 by_cases wa : s = ⟨#[46]⟩
 ·exact absurd hi2.2 (by rw [wa]; decide)
 rw [if_neg wa] at h; apply Ar F; go_simp; apply Ar F; go_simp; (repeat apply Aq); apply Ab; apply Ar F; go_simp; (repeat apply Aq); refine Af (by go_simp) ?_; by_cases wc : s = ⟨#[46, 46]⟩
 ·exact absurd hi2.2 (by rw [wc]; decide)
 rw [if_neg wc] at h; apply Ar F; go_simp; (repeat apply Aq); refine Af (by go_simp) ?_; by_cases wd : s = ⟨#[40]⟩
 ·exact absurd hi2.2 (by rw [wd]; decide)
 rw [if_neg wd] at h; apply Ar F; go_simp; (repeat apply Aq); refine Af (by go_simp) ?_; by_cases we : s = ⟨#[91]⟩
 ·exact absurd hi2.2 (by rw [we]; decide)
 rw [if_neg we] at h; apply Ar F; go_simp; (repeat apply Aq); refine Af (by go_simp) ?_; by_cases wf : s = ⟨#[123]⟩
 ·rw [if_pos wf] at h
  apply Ar F; go_simp; (repeat apply Aq); refine At (by go_simp) ?_; apply Ar F; go_simp; apply Ar F; go_simp; have c7 := IH f (Nat.le_refl f) E hE _ _ r h; refine ⟨_, c7, ?_⟩; cases r with
  | bad a7 e7 => go_simp
  | ok n j =>
   obtain ⟨k, s, m, q, l, b⟩ := n; clear c7; go_simp; apply Au; go_simp
 rw [if_neg wf] at h; apply Ar F; go_simp; (repeat apply Aq); refine Af (by go_simp) ?_; apply As; go_simp; obtain rfl := Option.some.inj h; apply Ar F; go_simp; refine ⟨_, Dv gk E hE i 60, ?_⟩; go_simp
theorem QH (gk : GK G) (f : Nat) (IH : IHP G f) (E : Env) (hE : EB E) (i : Nat) (hNum : Tq G) (r : PR NJ) (h : BP (BO f) E (.first) i = some r) : ACalls Tryz.prog G 140 (some (A4 E i)) [] (CU E r) := by
 simp only [BP] at h; refine ACalls.enter Tryz.func140 rfl rfl gk Tryz.ntmps140 fun X F => ?_
 apply Ar F; go_simp; apply Ar F; go_simp; refine ⟨_, D5 gk E i, ?_⟩; go_simp; by_cases wa : (Aj E i).kind = 3
 ·rw [if_pos wa] at h
  have hi : i < E.l.length := DD (by rw [wa]; decide); have hr := rng ((i : Int) + 1) (by have := hE.len; omega); apply Ar F; go_simp; (repeat apply Aq); apply Ab; apply Ar F; go_simp; (repeat apply Aq); refine At (by go_simp) ?_; apply Ar F; go_simp; apply Ar F; go_simp; refine ⟨_, Ju gk _, ?_⟩; go_simp; refine ⟨_, K7 gk Dh (Dp (Aj E i).text), ?_⟩; go_simp; obtain rfl := Option.some.inj h; apply Au; go_simp
 rw [if_neg wa] at h; have va : ¬ ((Aj E i).kind : Int) = 3 := by omega
 apply Ar F; go_simp; (repeat apply Aq); apply Ab; apply Ar F; go_simp; (repeat apply Aq); refine Af (by go_simp) ?_; by_cases wb : (Aj E i).kind = 2
 ·exact (hE.nk (by decide) (by decide) wb).elim
 rw [if_neg wb] at h; have vb : ¬ ((Aj E i).kind : Int) = 2 := by omega
 apply Ar F; go_simp; (repeat apply Aq); refine Af (by go_simp) ?_; by_cases wc : (Aj E i).kind = 5
 ·exact (hE.nk (by decide) (by decide) wc).elim
 rw [if_neg wc] at h; have vc : ¬ ((Aj E i).kind : Int) = 5 := by omega
 apply Ar F; go_simp; (repeat apply Aq); refine Af (by go_simp) ?_; by_cases wd : (Aj E i).kind = 4
 ·rw [if_pos wd] at h
  have hi : i < E.l.length := DD (by rw [wd]; decide); have hr := rng ((i : Int) + 1) (by have := hE.len; omega); apply Ar F; go_simp; (repeat apply Aq); refine At (by go_simp) ?_; have cn := hNum (Aj E i).text (hE.tx _ (Le hi)) (hE.nu _ (Le hi) wd); have hp0 := R5 (Aj E i).text.data.toList; obtain ⟨⟨⟨pm, pe⟩, pc⟩, hpr⟩ : ∃ p, CO (Aj E i).text.data.toList = p := ⟨_, rfl⟩
  rw [hpr] at cn h hp0; dsimp only at cn h hp0; clear hpr; apply Ar F; go_simp; refine ⟨_, cn, ?_⟩; go_simp; by_cases we : pc = 10
  ·rw [if_pos we] at h
   subst we;obtain rfl := Option.some.inj h;(iterate 2 apply Ar F;go_simp;(repeat apply Aq);refine At (by go_simp) ?_);apply Ar F;go_simp;apply Ar F;go_simp;refine ⟨_, Dv gk E hE i 60, ?_⟩;go_simp
  rw [if_neg we] at h; by_cases wg : pc ≠ 0
  ·rw [if_pos wg] at h
   obtain rfl := Option.some.inj h; obtain ⟨pn, rfl⟩ : ∃ pn : Nat, pc = pn := ⟨pc.toNat, by omega⟩
   have w0 : ¬ pn = 0 := by omega
   have w9 : ¬ (pn : Int) = 10 := by omega
   clear we wg; apply Ar F; go_simp; (repeat apply Aq); refine At (by go_simp) ?_; apply Ar F; go_simp; (repeat apply Aq); refine Af (by go_simp) ?_; apply As; go_simp; apply Ar F; go_simp; refine ⟨_, Dv gk E hE i pn, ?_⟩; go_simp
  rw [if_neg wg] at h; obtain rfl : pc = 0 := Decidable.of_not_not wg; apply Ar F; go_simp; (repeat apply Aq); refine Af (by go_simp) ?_; apply As; go_simp; obtain rfl := Option.some.inj h; apply Ar F; go_simp; apply Ar F; go_simp; apply Au; go_simp
 rw [if_neg wd] at h; have vd : ¬ ((Aj E i).kind : Int) = 4 := by omega
 apply Ar F; go_simp; (repeat apply Aq); refine Af (by go_simp) ?_; by_cases wh : (Aj E i).kind = 1
 ·rw [if_pos wh] at h
  have hi : i < E.l.length := DD (by rw [wh]; decide); have hr := rng ((i : Int) + 1) (by have := hE.len; omega); apply Ar F; go_simp; (repeat apply Aq); refine At (by go_simp) ?_; apply Ar F; go_simp; have c2 := IH f (Nat.le_refl f) E hE _ _ r h ⟨hi, by have := hE.in (i := i) (by omega); rwa [wh] at this⟩; refine ⟨_, c2, ?_⟩; cases r with
  | bad a2 e2 => go_simp
  | ok n j =>
   obtain ⟨k, s, m, q, l, b⟩ := n; clear c2; go_simp; apply Au; go_simp
 rw [if_neg wh] at h; have vh : ¬ ((Aj E i).kind : Int) = 1 := by omega
 apply Ar F; go_simp; (repeat apply Aq); refine Af (by go_simp) ?_; by_cases wi : (Aj E i).kind = 6
 ·rw [if_pos wi] at h
  have hi : i < E.l.length := DD (by rw [wi]; decide); have hr := rng ((i : Int) + 1) (by have := hE.len; omega); apply Ar F; go_simp; (repeat apply Aq); refine At (by go_simp) ?_; apply Ar F; go_simp; have c3 := IH f (Nat.le_refl f) E hE _ _ r h ⟨hi, by have := hE.in (i := i) (by omega); rwa [wi] at this⟩; refine ⟨_, c3, ?_⟩; cases r with
  | bad a3 e3 => go_simp
  | ok n j =>
   obtain ⟨k, s, m, q, l, b⟩ := n; clear c3; go_simp; apply Au; go_simp
 rw [if_neg wi] at h; have vi : ¬ ((Aj E i).kind : Int) = 6 := by omega
 apply Ar F; go_simp; (repeat apply Aq); refine Af (by go_simp) ?_; apply As; go_simp; obtain rfl := Option.some.inj h; apply Ar F; go_simp; refine ⟨_, Dv gk E hE i 60, ?_⟩; go_simp
theorem Rt (gk : GK G) (f : Nat) (_IH : IHP G f) (E : Env) (hE : EB E) (i : Nat) (r : PR NJ) (h : BP (BO f) E (.entry) i = some r) : ACalls Tryz.prog G 175 (some (A4 E i)) [] (Hq E r) := by
 simp only [BP] at h; refine ACalls.enter Tryz.func175 rfl rfl gk Tryz.ntmps175 fun X F => ?_
 (iterate 4 apply Ar F;go_simp);refine ⟨_, D5 gk E i, ?_⟩;go_simp;(repeat apply Aq);apply Ab;by_cases wa : (Aj E i).kind = 2
 ·exact (hE.nk (by decide) (by decide) wa).elim
 rw [if_neg wa] at h; have va : ¬ ((Aj E i).kind : Int) = 2 := by omega
 apply Ar F; go_simp; (repeat apply Aq); refine Af (by go_simp) ?_; by_cases wb : (Aj E i).kind = 1
 ·rw [if_pos wb] at h
  have hi : i < E.l.length := DD (by rw [wb]; decide); have hr := rng ((i : Int) + 1) (by have := hE.len; omega); apply Ar F; go_simp; (repeat apply Aq); refine At (by go_simp) ?_; apply Ar F; go_simp; apply Ar F; go_simp; refine ⟨_, Ju gk _, ?_⟩; go_simp; by_cases ww : isT E (i + 1) 6 ⟨#[58]⟩
  ·exact (hE.no (by decide) (by decide) ww).elim
  rw [if_neg ww] at h; apply Ar F; go_simp; refine ⟨_, (decide_eq_false ww ▸ Hi gk E (i + 1) 6 _), ?_⟩; go_simp; (repeat apply Aq); refine At (by go_simp) ?_; (repeat apply Aq); refine Ad F [0, 1, 2, 3, 4, 5] [(0, 3)] mixed (by kernel_rfl) ?_; go_simp; refine ⟨_, K7 gk Dh (Dp (Aj E i).text), ?_⟩; go_simp; obtain rfl := Option.some.inj h; apply Au; go_simp
 rw [if_neg wb] at h; have vb : ¬ ((Aj E i).kind : Int) = 1 := by omega
 apply Ar F; go_simp; (repeat apply Aq); refine Af (by go_simp) ?_; by_cases wc : (Aj E i).kind = 5
 ·exact (hE.nk (by decide) (by decide) wc).elim
 rw [if_neg wc] at h; have vc : ¬ ((Aj E i).kind : Int) = 5 := by omega
 apply Ar F; go_simp; (repeat apply Aq); refine Af (by go_simp) ?_; by_cases w4 : isT E (i) 6 ⟨#[40]⟩
 ·exact (hE.no (by decide) (by decide) w4).elim
 rw [if_neg w4] at h; apply Ar F; go_simp; refine ⟨_, BM gk E (i) 6 _ w4, ?_⟩; go_simp; (repeat apply Aq); refine Af (by go_simp) ?_; obtain rfl := Option.some.inj h; apply Ar F; go_simp; refine ⟨_, Dv gk E hE i 60, ?_⟩; go_simp
open Go Go.RowKit Go.Proofs Th
theorem MZ (p : Nat) (s : ByteArray) (hs : s.size ≤ 1000000) (d : Nat) (k : Int)
  (hQ : ∀ (W : World) (b : Nat), b < s.size → Box W p [.string s, .int .i64 b] → GlobX W → Calls Tryz.prog 72 #[.pointer (some ⟨p, 0, none⟩), .int .i64 k] W fun r w' => Eg W p s (Cu s.data.toList d b) r w')
  (a : Nat) (ha : a ≤ s.size) (w : World) (hB : Box w p [.string s, .int .i64 a]) (hG : GlobX w) :
  Calls Tryz.prog 47 #[.pointer (some ⟨p, 0, none⟩), .int .i64 k] w fun r w' => CW w p s (AQ s.data.toList d a) r w' := by
 obtain ⟨i, hi⟩ : ∃ i, way s.data.toList (Bf s.data.toList a) = i := ⟨_, rfl⟩
 match i, hi with
 | 0, hi => exact Qj p s hs d k hQ a hi ha w hB hG
 | 1, hi => exact PM p s hs d k hQ a hi ha w hB hG
 | 2, hi => exact Pq p s hs d k hQ a hi ha w hB hG
 | i + 3, hi => exact Pn p s hs d k a (by omega) ha w hB hG
end Go.Proofs.YtakncilicoefdaaGreatDoor
