/- Lemmas and contracts. Conditions: those that each lemma names. -/
import Derived.Test.YtakncilicoefdaaGreatDoorPz30
set_option maxRecDepth 100000
set_option maxHeartbeats 4000000
namespace Go.Proofs.YtakncilicoefdaaGreatDoor
open Go Go.RowKit Go.Proofs Th
set_option maxRecDepth 8000
attribute [local go_sem] JH IP Et Ds BI Jo JJ IW List.map_append List.map_cons List.map_nil List.length_map
variable {G : World → CS → Prop}
def toL (b : ByteArray) : List UInt8 := b.data.toList
theorem Ru (l : List (List UInt8)) : ∃ T : List ByteArray, l = T.map toL := ⟨l.map fun x => ⟨x.toArray⟩, by rw [List.map_map]; induction l with | nil => rfl | cons a r ih => rw [List.map_cons, ← ih]; rfl⟩
theorem C2 {α : Type} (l : List α) (i : Nat) (h : l.length ≤ i) : l.drop i = [] := List.drop_eq_nil_of_le h
theorem TD : EL [] = Ag 4 [] := rfl
theorem UA (n : NJ) : EL [n] = n := rfl
theorem U1 (n m : NJ) (r : List NJ) : EL (n :: m :: r) = Ag 4 (n :: m :: r) := rfl
attribute [local go_sem] TD UA U1
theorem PQ (t : ByteArray) : (⟨#[34]⟩ ++ t ++ ⟨#[34]⟩ : ByteArray).size = t.size + 2 := by
 rw [ByteArray.size_append, ByteArray.size_append]; show 1 + t.size + 1 = _; omega
theorem Sf (t : ByteArray) : toL (⟨#[34]⟩ ++ t ++ ⟨#[34]⟩) = DN (toL t) := by
 unfold toL DN; rw [ByteArray.data_append, ByteArray.data_append, Array.toList_append, Array.toList_append]; rfl
theorem C7 (b : ByteArray) : (toL b).length = b.size := rfl
def LO (G : World → CS → Prop) : Prop := ∀ s : ByteArray, s.size ≤ 50000 → ACalls Tryz.prog G 23 none [sI s] (.ret (.tup [.sl ((Bp (toL s)).1.map DO) false, iI (Bp (toL s)).2.1, iI (Bp (toL s)).2.2]) [])
def Qh (G : World → CS → Prop) : Prop := ∀ (s : ByteArray) (T F : List ByteArray) (Pl : List Nat) (e : Nat), s.size ≤ 50000 → BS (toL s) = (⟨T.map toL, F.map toL, Pl⟩, e) → ACalls Tryz.prog G 153 none [sI s] (.ret (.tup [.sl (T.map fun x => [sI x]) false, .sl (F.map fun x => [sI x]) false, .sl (Pl.map fun (n : Nat) => [iI n]) false, iI e]) [])
def O4 (G : World → CS → Prop) : Prop := ∀ s : ByteArray, s.size ≤ 1000000 → ACalls Tryz.prog G 154 none [sI s] (.ret (.tup [sI ⟨(BA (toL s)).1.toArray⟩, iI (BA (toL s)).2.1, iI (BA (toL s)).2.2]) [])
theorem Wz (L : List UInt8) : ∀ t ∈ (Bp L).1, t.kind = 4 → t.text.data.toList.head? ≠ some 45 := by
 have one : ∀ b, (AF L 48 b).1.kind = 4 → (AF L 48 b).1.text.data.toList.head? ≠ some 45 := fun b hk => by
  rw [B9] at hk ⊢; unfold BG at hk ⊢; cases hd : L.drop (AL L b) with
  | nil => rw [hd] at hk; cases hk
  | cons c r =>
   rw [hd] at hk; dsimp only at hk ⊢; by_cases h34 : c = 34
   ·rw [if_pos h34] at hk
    split at hk <;> cases hk
   rw [if_neg h34] at hk ⊢; by_cases h4 : (Bj (c :: r)).1 = 0
   ·rw [if_pos h4] at hk; cases hk
   rw [if_neg h4] at hk ⊢; rcases Eg c r with ⟨h, _⟩ | ⟨k, n, h, h1, h2, h3, h5, h6, h7⟩
   ·rw [h] at h4; exact absurd rfl h4
   rw [h] at hk ⊢; obtain rfl : k = 4 := hk; obtain ⟨m, rfl⟩ : ∃ m, n = m + 1 := ⟨n - 1, by omega⟩
   show ((c :: r).take (m + 1)).head? ≠ some 45
   rw [List.take_succ_cons]; intro hc; injection hc with hc; subst hc; rw [List.take_succ_cons] at h6; generalize r.take m = u at h6; have e1 : Bc (45 :: u) = false := by simp [Bc, Bl]
   have e4 : Cw (45 :: u) = false := by
    cases hq : Cw (45 :: u) with
    | false => rfl
    | true => have := D2 45 u hq; cases this
   unfold Dv at h6; rw [e1, e4, if_neg (by decide), if_neg (fun h => by cases h.1), if_neg (fun h => by cases h.1), if_neg (by decide)] at h6; split at h6 <;> omega
 have go : ∀ (n a : Nat) (acc : List Tf), (∀ t ∈ acc, t.kind = 4 → t.text.data.toList.head? ≠ some 45) → ∀ t ∈ (BJ L n a acc).1, t.kind = 4 → t.text.data.toList.head? ≠ some 45 := by
  intro n; induction n with
  | zero => intro a acc h; exact h
  | succ n ih =>
   intro a acc h; simp only [BJ]; split
   ·intro t ht; cases ht
   split
   ·exact h
   refine ih _ _ fun t ht => ?_
   rcases List.mem_append.1 ht with ht | ht
   ·exact h t ht
   rw [List.mem_singleton.1 ht]; exact one a
 unfold Bp; split
 ·intro t ht; cases ht
 exact go _ _ _ fun t ht => by cases ht
theorem On (s : List UInt8) (b : Nat) (hs : s.length ≤ 50000) (hb : b + s.length ≤ 1000000) : EB (B5 s b) := by
 have h1 := PV s; refine ⟨Nat.le_trans (Te s) (by omega), fun t ht => ?_, hb, fun t ht => ?_, fun t ht _ => h1 t ht, Wz s⟩
 ·have := h1 t ht; omega
 have := h1 t ht; omega
def Vw : PR NJ → ARes
 | .ok n _ => .ret (.agg (Al n)) []
 | .bad a e => .pan (C1 a e)
attribute [local go_sem] Vw
theorem RP (gk : GK G) (hSc : LO G) (f : Nat) (IH : IHP G f) (s : ByteArray) (b : Nat) (hs : s.size ≤ 50000) (hb : b + s.size ≤ 1000000) (g : Nat) (hg : g ≤ f) (r : PR NJ) (h : AY g (B5 (toL s) b) .whole 0 = some r) : ACalls Tryz.prog G 155 none [sI s, iI b] (Vw r) := by
 have cs := hSc s hs; have hE : EB (B5 (toL s) b) := On _ _ hs hb; have cw := IH g hg _ hE _ _ r h; simp only [Con] at cw; unfold A5 at cw; simp only [B5] at cw; rw [C7] at cw; refine ACalls.enter Tryz.func155 rfl rfl gk Tryz.ntmps155 fun X F => ?_
 apply Ar F; go_simp; apply Ar F; go_simp; refine ⟨_, cs, ?_⟩; go_simp; apply Ar F; go_simp; apply Ar F; go_simp; refine ⟨_, cw, ?_⟩; cases r with
 | bad a1 e1 => go_simp
 | ok n1 j1 =>
  obtain ⟨k1, s1, m1, q1, l1, b1⟩ := n1; clear cw; go_simp; apply Au; go_simp
theorem Ht (gk : GK G) (hSc : LO G) (f : Nat) (IH : IHP G f) (s : ByteArray) (a b c : Nat) (hs : s.size ≤ 50000) (hb : a + b + c + s.size ≤ 1000000) (g : Nat) (hg : g ≤ f) (r : PR NJ) (h : AY g (B5 (toL s) (a + b + c)) .whole 0 = some r) : ACalls Tryz.prog G 155 none [sI s, iI ((a : Int) + (b : Int) + (c : Int))] (Vw r) := by
 have := RP gk hSc f IH s (a + b + c) hs hb g hg r h; rw [Int.natCast_add, Int.natCast_add] at this; exact this
theorem R4 (gk : GK G) (f : Nat) (IH : IHP G f) (E : Env) (hE : EB E) (i : Nat) (hSc : LO G) (hPt : Qh G) (hQ : O4 G) (r : PR NJ) (h : Ak (AY f) E (.quoted) i = some r) : ACalls Tryz.prog G 144 (some (A5 E i)) [] (CG E r) := by
 simp only [Ak] at h; refine ACalls.enter Tryz.func144 rfl rfl gk Tryz.ntmps144 fun X F => ?_
 apply Ar F; go_simp; apply Ar F; go_simp; refine ⟨_, C3 gk E i, ?_⟩; go_simp; by_cases w0 : (Aa E i).kind ≠ 5
 ·rw [if_pos w0] at h
  obtain rfl := Option.some.inj h; have v : ¬ ((Aa E i).kind : Int) = 5 := by omega
  apply Ar F; go_simp; (repeat apply Aq); refine At (by go_simp) ?_; apply Ar F; go_simp; refine ⟨_, Cq gk E hE i 60, ?_⟩; go_simp
 rw [if_neg w0] at h; have w5 : (Aa E i).kind = 5 := Decidable.of_not_not w0; have hi := CJ (E := E) (i := i) (by rw [w5]; decide); have hts := hE.tx _ (EY hi); have hqu := hE.qu _ (EY hi) w5; have hbe := hE.be; obtain ⟨⟨⟨T0, F0, Pl⟩, pe⟩, hp⟩ : ∃ p, BS (toL (Aa E i).text) = p := ⟨_, rfl⟩
 have hpo := ND (toL (Aa E i).text); have hsu := Ly (toL (Aa E i).text); rw [show (Aa E i).text.data.toList = toL (Aa E i).text from rfl, hp] at h; rw [hp, C7] at hpo hsu; obtain ⟨T, rfl⟩ := Ru T0; obtain ⟨Fs, rfl⟩ := Ru F0; have cp := hPt (Aa E i).text T Fs Pl pe hts hp; dsimp only at h hsu; rw [List.length_map] at hsu; clear hp; have hT : ∀ t ∈ T, t.size ≤ 50000 := fun t ht => by have := hpo.tx (toL t) (List.mem_map_of_mem ht); rw [C7] at this; omega
 have hPF : Pl.length = Fs.length := by have := hpo.len; simpa only [List.length_map] using this
 have hFs : ∀ (k : Nat) (h1 : k < Fs.length) (h2 : k < Pl.length), Pl[k] + Fs[k].size ≤ (Aa E i).text.size := fun k h1 h2 => by
  obtain ⟨_, h3⟩ := hpo.at_ (k := k) (by simpa only [List.length_map] using h1); simpa only [List.getElem_map, C7] using h3
 have hTl : T.length ≤ 100000 := by omega
 clear hpo hsu w0; apply Ar F; go_simp; (repeat apply Aq); refine Af (by go_simp) ?_; apply As; go_simp; apply Ar F; go_simp; refine ⟨_, cp, ?_⟩; go_simp; apply Ar F; go_simp; apply Ar F; go_simp; (repeat apply Aq); apply Ab; (repeat apply Aq); refine Cb [0, 2, 3, 5, 6, 8, 30, 31, 32] [1000, 2, 3, 8, 61] (by decide) (fun g s => ∃ (k : Nat) (kids : List NJ), s = mkS [(0, .ptr 1000 0), (2, .ptr 2 0), (3, .ptr 3 0), (5, .im (.sl (Fs.map fun x => [sI x]) false)), (6, .im (.sl (Pl.map fun (n : Nat) => [iI n]) false)), (8, .ptr 8 0), (30, .im (.sl (T.map fun x => [sI x]) false)), (31, .im (iI T.length)), (32, .im (iI k))] [(1000, .box ((A5 E i).map .im)), (2, .box Et), (3, .box ((DO (Aa E i)).map .im)), (8, .box [.im (iI 4), .im (sI ⟨#[]⟩), .im (iI 0), .im (iI 0), Jo 61 kids, .im (.sl [] true)]), (61, JJ kids)] ∧ g ≤ f ∧ k ≤ T.length ∧ kids.length ≤ 2 * k ∧ AY g E (.parts ((T.drop k).map toL) ((Fs.drop k).map toL) (Pl.drop k) kids) i = some r) (f) ?_ ?_
 ·refine ⟨0, [], ?_, Nat.le_refl f, Nat.zero_le _, Nat.zero_le _, h⟩
  go_simp
 rintro g s ⟨k, kids, rfl, hg, hk, hl, h⟩; rcases g with _ | g
 ·cases h
 simp only [AY, Ak] at h; rcases kids with _ | ⟨ka, _ | ⟨kb, kids⟩⟩
 ·try (have hk2 : kids.length ≤ 999999997 := by simp only [List.length_cons] at hl; omega)
  try (have hk3 : kids.length ≤ 999999996 := by simp only [List.length_cons] at hl; omega)
  by_cases hkt : k < T.length
  ·rw [List.drop_eq_getElem_cons hkt, List.map_cons] at h
   dsimp only at h; have htk := hT T[k] (List.getElem_mem hkt); have hkI : (k : Int) < (T.length : Int) := by omega
   have cq := hQ (⟨#[34]⟩ ++ T[k] ++ ⟨#[34]⟩) (by rw [PQ]; omega); rw [Sf] at cq; obtain ⟨⟨qs, qn, qe⟩, hq⟩ : ∃ p, BA (DN (toL T[k])) = p := ⟨_, rfl⟩
   rw [hq] at h cq; dsimp only at h cq; rw [C7] at h; clear hq; have z1 : 1 + T[k].size ≤ 9223372036854775807 := by omega
   have z2 : 1 + T[k].size + 1 ≤ 9223372036854775807 := by omega
   have z4 := rng ((T[k].size : Int) + 2) (by omega); have z5 := rng ((k : Int) + 1) (by omega); apply Ar F; go_simp; (repeat apply Aq); refine At (by go_simp) ?_; apply As; go_simp; (repeat apply Aq); apply Ab; apply Ar F; go_simp; apply Ar F; go_simp; refine ⟨_, cq, ?_⟩; go_simp; by_cases w1 : qe ≠ 0 ∨ qn ≠ T[k].size + 2
   ·rw [if_pos w1] at h
    obtain rfl := Option.some.inj h; by_cases w2 : qe = 0
    ·have w3 : ¬ (qn : Int) = (T[k].size : Int) + 2 := by omega
     apply Ar F; go_simp; (repeat apply Aq); refine At (by go_simp) ?_; apply Ar F; go_simp; refine ⟨_, Cq gk E hE i 20, ?_⟩; go_simp
    apply Ar F; go_simp; (repeat apply Aq); refine At (by go_simp) ?_; apply Ar F; go_simp; refine ⟨_, Cq gk E hE i 20, ?_⟩; go_simp
   rw [if_neg w1] at h; obtain ⟨w2, w3⟩ : qe = 0 ∧ qn = T[k].size + 2 := by omega
   subst w2; have w3I : (qn : Int) = (T[k].size : Int) + 2 := by omega
   apply Ar F; go_simp; (repeat apply Aq); refine Af (by go_simp) ?_; apply As; go_simp; (repeat apply Aq); refine Ad F [0, 1, 2, 3, 4, 5, 6, 7] [(1, 3)] mixed (by kernel_rfl) ?_; go_simp; refine ⟨_, EU gk _, ?_⟩; go_simp; by_cases hf : k < Fs.length
   ·have hp : k < Pl.length := by omega
    have hfI : (k : Int) < (Fs.length : Int) := by omega
    have hfs := hFs k hf hp; have hs1 := rng ((E.base : Int) + ((Aa E i).at_ : Int)) (by omega); have hs2 := rng ((E.base : Int) + ((Aa E i).at_ : Int) + (Pl[k] : Int)) (by omega); rw [List.drop_eq_getElem_cons hf, List.map_cons, List.drop_eq_getElem_cons hp] at h; simp only [List.headD_cons, List.tail_cons] at h; apply Ar F; go_simp; (repeat apply Aq); refine At (by go_simp) ?_; (repeat apply Aq); refine Ad F [0, 1, 2, 3, 4, 5, 6, 7, 8, 9, 10, 11, 12, 13, 14, 15, 16, 17, 18, 19, 20, 21, 22] [(1, 18)] mixed (by kernel_rfl) ?_; go_simp; obtain ⟨x1, hx1, h⟩ := Ay h; have c1 := Ht gk hSc f IH Fs[k] E.base (Aa E i).at_ Pl[k] (by omega) (by omega) g (by omega) x1 hx1; refine ⟨_, c1, ?_⟩; cases x1 with
    | bad a1 e1 => subst h; go_simp
    | ok n2 j2 =>
     skip
     obtain ⟨k2, s2, m2, q2, l2, b2⟩ := n2; dsimp only at h; clear c1 hx1; go_simp; apply Ar F; go_simp; simp only [List.map_drop] at h; refine ⟨g, by omega, k + 1, _, ?_, by omega, by omega, by simp only [List.length_append, List.length_cons, List.length_nil] at hl ⊢; omega, h⟩; go_simp
   have hfI : ¬ (k : Int) < (Fs.length : Int) := by omega
   rw [C2 Fs (k) (by omega), List.map_nil, C2 Pl (k) (by omega)] at h; dsimp only at h; apply Ar F; go_simp; (repeat apply Aq); refine Af (by go_simp) ?_; apply As; go_simp; have h' : ∀ ks, AY g E (.parts ((T.drop (k + 1)).map toL) [] [] ks) i = some r → AY g E (.parts ((T.drop (k + 1)).map toL) ((Fs.drop (k + 1)).map toL) (Pl.drop (k + 1)) ks) i = some r := fun ks hh => by rw [C2 Fs (k + 1) (by omega), C2 Pl (k + 1) (by omega)]; exact hh
   apply Ar F; go_simp; have h2 := h' _ h; simp only [List.map_drop] at h2; refine ⟨g, by omega, k + 1, _, ?_, by omega, by omega, by simp only [List.length_append, List.length_cons, List.length_nil] at hl ⊢; omega, h2⟩; go_simp
  have hkI : ¬ (k : Int) < (T.length : Int) := by omega
  have hr := rng ((i : Int) + 1) (by have := hE.len; omega); rw [C2 T (k) (by omega), List.map_nil] at h; dsimp only at h; obtain rfl := Option.some.inj h; clear h; apply Ar F; go_simp; (repeat apply Aq); refine Af (by go_simp) ?_; apply Ae; go_simp; apply Ar F; go_simp; apply Ar F; go_simp; (repeat apply Aq); refine Af (by go_simp) ?_; apply As; go_simp; apply Ar F; go_simp; apply Au; go_simp
 ·try (have hk2 : kids.length ≤ 999999997 := by simp only [List.length_cons] at hl; omega)
  try (have hk3 : kids.length ≤ 999999996 := by simp only [List.length_cons] at hl; omega)
  by_cases hkt : k < T.length
  ·rw [List.drop_eq_getElem_cons hkt, List.map_cons] at h
   dsimp only at h; have htk := hT T[k] (List.getElem_mem hkt); have hkI : (k : Int) < (T.length : Int) := by omega
   have cq := hQ (⟨#[34]⟩ ++ T[k] ++ ⟨#[34]⟩) (by rw [PQ]; omega); rw [Sf] at cq; obtain ⟨⟨qs, qn, qe⟩, hq⟩ : ∃ p, BA (DN (toL T[k])) = p := ⟨_, rfl⟩
   rw [hq] at h cq; dsimp only at h cq; rw [C7] at h; clear hq; have z1 : 1 + T[k].size ≤ 9223372036854775807 := by omega
   have z2 : 1 + T[k].size + 1 ≤ 9223372036854775807 := by omega
   have z4 := rng ((T[k].size : Int) + 2) (by omega); have z5 := rng ((k : Int) + 1) (by omega); apply Ar F; go_simp; (repeat apply Aq); refine At (by go_simp) ?_; apply As; go_simp; (repeat apply Aq); apply Ab; apply Ar F; go_simp; apply Ar F; go_simp; refine ⟨_, cq, ?_⟩; go_simp; by_cases w1 : qe ≠ 0 ∨ qn ≠ T[k].size + 2
   ·rw [if_pos w1] at h
    obtain rfl := Option.some.inj h; by_cases w2 : qe = 0
    ·have w3 : ¬ (qn : Int) = (T[k].size : Int) + 2 := by omega
     apply Ar F; go_simp; (repeat apply Aq); refine At (by go_simp) ?_; apply Ar F; go_simp; refine ⟨_, Cq gk E hE i 20, ?_⟩; go_simp
    apply Ar F; go_simp; (repeat apply Aq); refine At (by go_simp) ?_; apply Ar F; go_simp; refine ⟨_, Cq gk E hE i 20, ?_⟩; go_simp
   rw [if_neg w1] at h; obtain ⟨w2, w3⟩ : qe = 0 ∧ qn = T[k].size + 2 := by omega
   subst w2; have w3I : (qn : Int) = (T[k].size : Int) + 2 := by omega
   apply Ar F; go_simp; (repeat apply Aq); refine Af (by go_simp) ?_; apply As; go_simp; (repeat apply Aq); refine Ad F [0, 1, 2, 3, 4, 5, 6, 7] [(1, 3)] mixed (by kernel_rfl) ?_; go_simp; refine ⟨_, EU gk _, ?_⟩; go_simp; by_cases hf : k < Fs.length
   ·have hp : k < Pl.length := by omega
    have hfI : (k : Int) < (Fs.length : Int) := by omega
    have hfs := hFs k hf hp; have hs1 := rng ((E.base : Int) + ((Aa E i).at_ : Int)) (by omega); have hs2 := rng ((E.base : Int) + ((Aa E i).at_ : Int) + (Pl[k] : Int)) (by omega); rw [List.drop_eq_getElem_cons hf, List.map_cons, List.drop_eq_getElem_cons hp] at h; simp only [List.headD_cons, List.tail_cons] at h; apply Ar F; go_simp; (repeat apply Aq); refine At (by go_simp) ?_; (repeat apply Aq); refine Ad F [0, 1, 2, 3, 4, 5, 6, 7, 8, 9, 10, 11, 12, 13, 14, 15, 16, 17, 18, 19, 20, 21, 22] [(1, 18)] mixed (by kernel_rfl) ?_; go_simp; obtain ⟨x2, hx2, h⟩ := Ay h; have c2 := Ht gk hSc f IH Fs[k] E.base (Aa E i).at_ Pl[k] (by omega) (by omega) g (by omega) x2 hx2; refine ⟨_, c2, ?_⟩; cases x2 with
    | bad a2 e2 => subst h; go_simp
    | ok n2 j2 =>
     skip
     obtain ⟨k2, s2, m2, q2, l2, b2⟩ := n2; dsimp only at h; clear c2 hx2; go_simp; apply Ar F; go_simp; simp only [List.map_drop] at h; refine ⟨g, by omega, k + 1, _, ?_, by omega, by omega, by simp only [List.length_append, List.length_cons, List.length_nil] at hl ⊢; omega, h⟩; go_simp
   have hfI : ¬ (k : Int) < (Fs.length : Int) := by omega
   rw [C2 Fs (k) (by omega), List.map_nil, C2 Pl (k) (by omega)] at h; dsimp only at h; apply Ar F; go_simp; (repeat apply Aq); refine Af (by go_simp) ?_; apply As; go_simp; have h' : ∀ ks, AY g E (.parts ((T.drop (k + 1)).map toL) [] [] ks) i = some r → AY g E (.parts ((T.drop (k + 1)).map toL) ((Fs.drop (k + 1)).map toL) (Pl.drop (k + 1)) ks) i = some r := fun ks hh => by rw [C2 Fs (k + 1) (by omega), C2 Pl (k + 1) (by omega)]; exact hh
   apply Ar F; go_simp; have h2 := h' _ h; simp only [List.map_drop] at h2; refine ⟨g, by omega, k + 1, _, ?_, by omega, by omega, by simp only [List.length_append, List.length_cons, List.length_nil] at hl ⊢; omega, h2⟩; go_simp
  have hkI : ¬ (k : Int) < (T.length : Int) := by omega
  have hr := rng ((i : Int) + 1) (by have := hE.len; omega); rw [C2 T (k) (by omega), List.map_nil] at h; dsimp only at h; obtain rfl := Option.some.inj h; clear h; obtain ⟨k9, s9, m9, q9, l9, b9⟩ := ka; apply Ar F; go_simp; (repeat apply Aq); refine Af (by go_simp) ?_; apply Ae; go_simp; apply Ar F; go_simp; apply Ar F; go_simp; (repeat apply Aq); refine At (by go_simp) ?_; apply Ar F; go_simp; apply Au; go_simp
 try (have hk2 : kids.length ≤ 999999997 := by simp only [List.length_cons] at hl; omega)
 try (have hk3 : kids.length ≤ 999999996 := by simp only [List.length_cons] at hl; omega)
 by_cases hkt : k < T.length
 ·rw [List.drop_eq_getElem_cons hkt, List.map_cons] at h
  dsimp only at h; have htk := hT T[k] (List.getElem_mem hkt); have hkI : (k : Int) < (T.length : Int) := by omega
  have cq := hQ (⟨#[34]⟩ ++ T[k] ++ ⟨#[34]⟩) (by rw [PQ]; omega); rw [Sf] at cq; obtain ⟨⟨qs, qn, qe⟩, hq⟩ : ∃ p, BA (DN (toL T[k])) = p := ⟨_, rfl⟩
  rw [hq] at h cq; dsimp only at h cq; rw [C7] at h; clear hq; have z1 : 1 + T[k].size ≤ 9223372036854775807 := by omega
  have z2 : 1 + T[k].size + 1 ≤ 9223372036854775807 := by omega
  have z4 := rng ((T[k].size : Int) + 2) (by omega); have z5 := rng ((k : Int) + 1) (by omega); apply Ar F; go_simp; (repeat apply Aq); refine At (by go_simp) ?_; apply As; go_simp; (repeat apply Aq); apply Ab; apply Ar F; go_simp; apply Ar F; go_simp; refine ⟨_, cq, ?_⟩; go_simp; by_cases w1 : qe ≠ 0 ∨ qn ≠ T[k].size + 2
  ·rw [if_pos w1] at h
   obtain rfl := Option.some.inj h; by_cases w2 : qe = 0
   ·have w3 : ¬ (qn : Int) = (T[k].size : Int) + 2 := by omega
    apply Ar F; go_simp; (repeat apply Aq); refine At (by go_simp) ?_; apply Ar F; go_simp; refine ⟨_, Cq gk E hE i 20, ?_⟩; go_simp
   apply Ar F; go_simp; (repeat apply Aq); refine At (by go_simp) ?_; apply Ar F; go_simp; refine ⟨_, Cq gk E hE i 20, ?_⟩; go_simp
  rw [if_neg w1] at h; obtain ⟨w2, w3⟩ : qe = 0 ∧ qn = T[k].size + 2 := by omega
  subst w2; have w3I : (qn : Int) = (T[k].size : Int) + 2 := by omega
  apply Ar F; go_simp; (repeat apply Aq); refine Af (by go_simp) ?_; apply As; go_simp; (repeat apply Aq); refine Ad F [0, 1, 2, 3, 4, 5, 6, 7] [(1, 3)] mixed (by kernel_rfl) ?_; go_simp; refine ⟨_, EU gk _, ?_⟩; go_simp; by_cases hf : k < Fs.length
  ·have hp : k < Pl.length := by omega
   have hfI : (k : Int) < (Fs.length : Int) := by omega
   have hfs := hFs k hf hp; have hs1 := rng ((E.base : Int) + ((Aa E i).at_ : Int)) (by omega); have hs2 := rng ((E.base : Int) + ((Aa E i).at_ : Int) + (Pl[k] : Int)) (by omega); rw [List.drop_eq_getElem_cons hf, List.map_cons, List.drop_eq_getElem_cons hp] at h; simp only [List.headD_cons, List.tail_cons] at h; apply Ar F; go_simp; (repeat apply Aq); refine At (by go_simp) ?_; (repeat apply Aq); refine Ad F [0, 1, 2, 3, 4, 5, 6, 7, 8, 9, 10, 11, 12, 13, 14, 15, 16, 17, 18, 19, 20, 21, 22] [(1, 18)] mixed (by kernel_rfl) ?_; go_simp; obtain ⟨x3, hx3, h⟩ := Ay h; have c3 := Ht gk hSc f IH Fs[k] E.base (Aa E i).at_ Pl[k] (by omega) (by omega) g (by omega) x3 hx3; refine ⟨_, c3, ?_⟩; cases x3 with
   | bad a3 e3 => subst h; go_simp
   | ok n2 j2 =>
    skip
    obtain ⟨k2, s2, m2, q2, l2, b2⟩ := n2; dsimp only at h; clear c3 hx3; go_simp; apply Ar F; go_simp; simp only [List.map_drop] at h; refine ⟨g, by omega, k + 1, _, ?_, by omega, by omega, by simp only [List.length_append, List.length_cons, List.length_nil] at hl ⊢; omega, h⟩; go_simp
  have hfI : ¬ (k : Int) < (Fs.length : Int) := by omega
  rw [C2 Fs (k) (by omega), List.map_nil, C2 Pl (k) (by omega)] at h; dsimp only at h; apply Ar F; go_simp; (repeat apply Aq); refine Af (by go_simp) ?_; apply As; go_simp; have h' : ∀ ks, AY g E (.parts ((T.drop (k + 1)).map toL) [] [] ks) i = some r → AY g E (.parts ((T.drop (k + 1)).map toL) ((Fs.drop (k + 1)).map toL) (Pl.drop (k + 1)) ks) i = some r := fun ks hh => by rw [C2 Fs (k + 1) (by omega), C2 Pl (k + 1) (by omega)]; exact hh
  apply Ar F; go_simp; have h2 := h' _ h; simp only [List.map_drop] at h2; refine ⟨g, by omega, k + 1, _, ?_, by omega, by omega, by simp only [List.length_append, List.length_cons, List.length_nil] at hl ⊢; omega, h2⟩; go_simp
 have hkI : ¬ (k : Int) < (T.length : Int) := by omega
 have hr := rng ((i : Int) + 1) (by have := hE.len; omega); rw [C2 T (k) (by omega), List.map_nil] at h; dsimp only at h; obtain rfl := Option.some.inj h; clear h; have hne : ¬ (kids.length : Int) + 1 + 1 = 1 := by omega
 apply Ar F; go_simp; (repeat apply Aq); refine Af (by go_simp) ?_; apply Ae; go_simp; apply Ar F; go_simp; apply Ar F; go_simp; (repeat apply Aq); refine Af (by go_simp) ?_; apply As; go_simp; apply Ar F; go_simp; apply Au; go_simp
end Go.Proofs.YtakncilicoefdaaGreatDoor
