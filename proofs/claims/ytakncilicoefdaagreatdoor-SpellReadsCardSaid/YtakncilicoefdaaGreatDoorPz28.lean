/- Lemmas and contracts. Conditions: those that each lemma names. -/
import Derived.Test.YtakncilicoefdaaGreatDoorPz27
set_option maxRecDepth 100000
set_option maxHeartbeats 4000000
namespace Go.Proofs.YtakncilicoefdaaGreatDoor
open Go Go.RowKit Go.Proofs Th
attribute [local go_sem] JH IP
variable {G : World → CS → Prop}
def Et : List FV := [.im (iI 0), .im (sI ⟨#[]⟩), .im (iI 0), .im (iI 0), .im (.sl [] true), .im (.sl [] true)]
attribute [local go_sem] Et
theorem RF (gk : GK G) (f : Nat) (IH : IHP G f) (E : Env) (hE : EB E) (i : Nat) (least : Nat) (r : PR NJ) (h : Ak (AY f) E (.binary least) i = some r) : ACalls Tryz.prog G 80 (some (A5 E i)) [iI least] (CG E r) := by
 simp only [Ak] at h; refine ACalls.enter Tryz.func80 rfl rfl gk Tryz.ntmps80 fun X F => ?_
 apply Ar F; go_simp; apply Ar F; go_simp; obtain ⟨x1, hx1, h⟩ := Ay h; have c1 := IH f (Nat.le_refl f) E hE _ _ x1 hx1; refine ⟨_, c1, ?_⟩; cases x1 with
 | bad a1 e1 => subst h; go_simp
 | ok n1 j1 =>
  obtain ⟨k1, s1, m1, q1, l1, b1⟩ := n1; dsimp only at h; clear c1 hx1; go_simp; apply Ar F; go_simp; (repeat apply Aq); apply Ab; (repeat apply Aq); refine Cb [0, 1, 4, 5, 6] [1000, 4, 5] (by decide) (fun g s => ∃ (x : NJ) (top j : Nat), s = mkS [(0, .ptr 1000 0), (1, .im (iI least)), (4, .ptr 4 0), (5, .ptr 5 0), (6, .im (iI top))] [(1000, .box ((A5 E j).map .im)), (4, .box Et), (5, .box ((Al x).map .im))] ∧ g ≤ f ∧ top ≤ 8 ∧ AY g E (.binLoop least top x) j = some r) (f) ?_ ?_
  ·refine ⟨(.mk k1 s1 m1 q1 l1 b1), 8, j1, ?_, Nat.le_refl f, by omega, h⟩
   go_simp
  rintro g s ⟨x, top, j, rfl, hg, ht, h⟩; rcases g with _ | g
  ·cases h
  obtain ⟨k1, s1, m1, q1, l1, b1⟩ := x; simp only [AY, Ak] at h; (repeat apply Aq); apply Ab; apply Ar F; go_simp; refine ⟨_, C3 gk E j, ?_⟩; go_simp; apply Ar F; go_simp; refine ⟨_, Jk gk (Aa E j), ?_⟩; go_simp; by_cases a1 : Aj (Aa E j) < least
  ·rw [if_pos (Or.inl a1)] at h
   obtain rfl := Option.some.inj h; apply Ar F; go_simp; (repeat apply Aq); refine At (by go_simp) ?_; apply Ar F; go_simp; apply Au; go_simp
  by_cases a2 : top < Aj (Aa E j)
  ·rw [if_pos (Or.inr (Or.inl a2))] at h
   obtain rfl := Option.some.inj h; apply Ar F; go_simp; (repeat apply Aq); refine At (by go_simp) ?_; apply Ar F; go_simp; apply Au; go_simp
  by_cases a3 : Aj (Aa E j) = 0
  ·rw [if_pos (Or.inr (Or.inr a3))] at h
   rw [a3] at a1 a2; have a2i : ¬ ((top : Nat) : Int) < 0 := by omega
   obtain rfl := Option.some.inj h; apply Ar F; go_simp; (repeat apply Aq); refine At (by go_simp) ?_; apply Ar F; go_simp; apply Au; go_simp
  rw [if_neg (by omega)] at h; have hj := Kw (E := E) (i := j) a3; have hr := rng ((j : Int) + 1) (by have := hE.len; omega); apply Ar F; go_simp; (repeat apply Aq); refine Af (by go_simp) ?_; apply As; go_simp; by_cases b2 : Aj (Aa E j) = 2
  ·rw [if_pos b2] at h
   apply Ar F; go_simp; apply Ar F; go_simp; (repeat apply Aq); apply Ab; apply Ar F; go_simp; (repeat apply Aq); refine At (by go_simp) ?_; (repeat apply Aq); refine Ad F [0, 1, 2, 3, 4, 5] [(0, 3), (1, 3)] mixed (by kernel_rfl) ?_; go_simp; obtain ⟨x2, hx2, h⟩ := Ay h; have c2 := IH g (by omega) E hE _ _ x2 hx2; refine ⟨_, c2, ?_⟩; cases x2 with
   | bad a2 e2 => subst h; go_simp
   | ok n2 j2 =>
    obtain ⟨k2, s2, m2, q2, l2, b2⟩ := n2; dsimp only at h; clear c2 hx2; go_simp; have cj := Gr gk (Aa E j) (.mk k1 s1 m1 q1 l1 b1) (.mk k2 s2 m2 q2 l2 b2); generalize B8 (Aa E j) (.mk k1 s1 m1 q1 l1 b1) (.mk k2 s2 m2 q2 l2 b2) = y at h cj; obtain ⟨ky, sy, my, qy, ly, by_⟩ := y; refine ⟨_, cj, ?_⟩; go_simp; apply Ar F; go_simp; refine ⟨g, by omega, (.mk ky sy my qy ly by_), 1, j2, ?_, by omega, by omega, h⟩; go_simp
  rw [if_neg b2] at h; have b2n : ¬ ((Aj (Aa E j) : Nat) : Int) = 2 := by omega
  apply Ar F; go_simp; apply Ar F; go_simp; (repeat apply Aq); apply Ab; apply Ar F; go_simp; (repeat apply Aq); refine Af (by go_simp) ?_; by_cases b3 : Aj (Aa E j) = 3
  ·rw [if_pos (Or.inl b3), b3] at h
   apply Ar F; go_simp; (repeat apply Aq); refine At (by go_simp) ?_; apply As; go_simp; (repeat apply Aq); refine At (by go_simp) ?_; (repeat apply Aq); refine Ad F [0, 1, 2, 3, 4, 5, 6, 7] [(0, 5), (1, 5)] mixed (by kernel_rfl) ?_; go_simp; obtain ⟨x3, hx3, h⟩ := Ay h; have c3 := IH g (by omega) E hE _ _ x3 hx3; refine ⟨_, c3, ?_⟩; cases x3 with
   | bad a3 e3 => subst h; go_simp
   | ok n2 j2 =>
    obtain ⟨k2, s2, m2, q2, l2, b2⟩ := n2; dsimp only at h; clear c3 hx3; go_simp; have cj := Gr gk (Aa E j) (.mk k1 s1 m1 q1 l1 b1) (.mk k2 s2 m2 q2 l2 b2); generalize B8 (Aa E j) (.mk k1 s1 m1 q1 l1 b1) (.mk k2 s2 m2 q2 l2 b2) = y at h cj; obtain ⟨ky, sy, my, qy, ly, by_⟩ := y; refine ⟨_, cj, ?_⟩; go_simp; apply Ar F; go_simp; refine ⟨g, by omega, (.mk ky sy my qy ly by_), (3 - 1), j2, ?_, by omega, by omega, h⟩; go_simp
  have b3n : ¬ ((Aj (Aa E j) : Nat) : Int) = 3 := by omega
  apply Ar F; go_simp; (repeat apply Aq); refine Af (by go_simp) ?_; by_cases b6 : Aj (Aa E j) = 6
  ·rw [if_pos (Or.inr b6), b6] at h
   apply Ar F; go_simp; (repeat apply Aq); refine At (by go_simp) ?_; (repeat apply Aq); refine Ad F [0, 1, 2, 3, 4, 5, 6, 7] [(0, 5), (1, 5)] mixed (by kernel_rfl) ?_; go_simp; obtain ⟨x4, hx4, h⟩ := Ay h; have c4 := IH g (by omega) E hE _ _ x4 hx4; refine ⟨_, c4, ?_⟩; cases x4 with
   | bad a4 e4 => subst h; go_simp
   | ok n2 j2 =>
    obtain ⟨k2, s2, m2, q2, l2, b2⟩ := n2; dsimp only at h; clear c4 hx4; go_simp; have cj := Gr gk (Aa E j) (.mk k1 s1 m1 q1 l1 b1) (.mk k2 s2 m2 q2 l2 b2); generalize B8 (Aa E j) (.mk k1 s1 m1 q1 l1 b1) (.mk k2 s2 m2 q2 l2 b2) = y at h cj; obtain ⟨ky, sy, my, qy, ly, by_⟩ := y; refine ⟨_, cj, ?_⟩; go_simp; apply Ar F; go_simp; refine ⟨g, by omega, (.mk ky sy my qy ly by_), (6 - 1), j2, ?_, by omega, by omega, h⟩; go_simp
  rw [if_neg (by omega)] at h; have b6n : ¬ ((Aj (Aa E j) : Nat) : Int) = 6 := by omega
  have hr2 := rng (((Aj (Aa E j) : Nat) : Int) + 1) (by omega); apply Ar F; go_simp; (repeat apply Aq); refine Af (by go_simp) ?_; (repeat apply Aq); refine Ad F [0, 1, 2, 3, 4, 5, 6, 7] [(0, 5), (1, 5)] mixed (by kernel_rfl) ?_; go_simp; obtain ⟨x5, hx5, h⟩ := Ay h; have c5 := IH g (by omega) E hE _ _ x5 hx5; refine ⟨_, c5, ?_⟩; cases x5 with
  | bad a5 e5 => subst h; go_simp
  | ok n2 j2 =>
   obtain ⟨k2, s2, m2, q2, l2, b2⟩ := n2; dsimp only at h; clear c5 hx5; go_simp; have cj := Gr gk (Aa E j) (.mk k1 s1 m1 q1 l1 b1) (.mk k2 s2 m2 q2 l2 b2); generalize B8 (Aa E j) (.mk k1 s1 m1 q1 l1 b1) (.mk k2 s2 m2 q2 l2 b2) = y at h cj; obtain ⟨ky, sy, my, qy, ly, by_⟩ := y; refine ⟨_, cj, ?_⟩; go_simp; apply Ar F; go_simp; refine ⟨g, by omega, (.mk ky sy my qy ly by_), (Aj (Aa E j)), j2, ?_, by omega, by omega, h⟩; go_simp
open Go Go.RowKit Go.Proofs Th
theorem Nv (p : Nat) (s : ByteArray) (hs : s.size ≤ 1000000) : ∀ (d : Nat), d ≤ 48 → ∀ (k : Int), k = 48 - (d : Int) → ∀ (W : World) (j : Nat), Box W p [.string s, .int .i64 j] → j ≤ s.size → GlobX W →
  Calls Tryz.prog 47 #[.pointer (some ⟨p, 0, none⟩), .int .i64 k] W fun r w' => DM W p s (AF s.data.toList d j) r w' := by
 intro d; induction d with
 | zero =>
  intro _ k hk W j hB hj hG; obtain rfl : k = 48 := by omega
  exact OY p s hs 0 48 (fun W b hb hB _ => ST p s hs b hb W hB) j hj W hB hG
 | succ d ih =>
  intro hd k hk W j hB hj hG; exact OY p s hs (d + 1) k (fun W b hb hB hG => Up p s hs d k (by omega) (by omega) (fun W j hB hj hG => ih (by omega) (k + 1) (by omega) W j hB hj hG) b hb W hB hG) j hj W hB hG
theorem R9 (s : ByteArray) (hs : s.size ≤ 50000) (w : World) (hG : GlobX w) : Calls Tryz.prog 23 #[.string s] w fun r w' => Pf w (Bp s.data.toList) r w' :=
 WN s hs (fun p W j hB hj hG => Nv p s (by omega) 48 (Nat.le_refl _) 0 (by omega) W j hB hj hG) w hG
theorem SC (p : Nat) (s : ByteArray) (hs : s.size ≤ 1000000) (f n a : Nat) (ha : a ≤ s.size) (hn : s.size + 2 ≤ n + a) (hnn : n ≤ 2000000) (w : World) (hB : Box w p [.string s, .int .i64 a]) (hG : GlobX w) :
  Calls Tryz.prog 103 #[.pointer (some ⟨p, 0, none⟩), .int .i64 0] w fun r w' => N0 w p s 47 f n 0 a r w' :=
 Nl p s hs 47 0 (by omega) (by omega) (fun W j hB hj hG => Nv p s hs 47 (by omega) (0 + 1) (by omega) W j hB hj hG) f n a ha hn hnn w hB hG
end Go.Proofs.YtakncilicoefdaaGreatDoor
