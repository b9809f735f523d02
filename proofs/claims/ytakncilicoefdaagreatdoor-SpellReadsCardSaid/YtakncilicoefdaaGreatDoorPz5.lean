/- Lemmas and contracts. Conditions: those that each lemma names. -/
import Derived.Test.YtakncilicoefdaaGreatDoorPz4
set_option maxRecDepth 100000
set_option maxHeartbeats 4000000
namespace Go.Proofs.YtakncilicoefdaaGreatDoor
open Go Go.RowKit Go.Proofs Th
attribute [local go_sem] Above.cell
def A4 (p : (Int × Int) × Int) : Value := .tuple #[.agg #[.int .i64 p.1.1, .int .i64 p.1.2], .int .i64 p.2]
theorem UY (neg : Bool) (e : Int) (w : World) : Calls Tryz.prog 161 #[.bool neg, .int .u64 0, .int .u64 0, .int .i64 e] w fun r w' => r = .returned (A4 ((0, 0), 0)) ∧ Below w.heap.size w w' := by
 go_enter Tryz.func161, Tryz.ntmps161
 go_wp2_with fail
 refine (Dj _).mono ?_; rintro r w1 ⟨rfl, hb⟩; obtain ⟨hc, hf⟩ := Am hb; go_wp2
 refine bodyPost_ret (v := A4 ((0, 0), 0)) ?_ rfl ⟨rfl, ?_⟩
 ·simp [A4, results, Tryz.results161, go_sem, hc]
 exact (((((Below.refl _ _).alloc (Nat.le_refl _) _).trans (hb.mono (by simp))).setCell (by simp) _).setCell (by simp) _)
theorem H9 {p q : (Int × Int) × Int} (h : p = q) : Ending.returned (A4 p) = .returned (A4 q) := by rw [h]
theorem Ul (neg : Bool) (hi lo e : Int) (V : Nat) (hV : V = CP hi lo) (h0 : 0 ≤ hi) (h1 : hi < 18446744073709551616) (l0 : 0 ≤ lo) (l1 : lo < 18446744073709551616) (hv : V ≠ 0) (e0 : -4611686018427387904 ≤ e) (e1 : e ≤ 4611686018427387904)
  (hz : (hi == 0) = false ∨ (hi = 0 ∧ (lo == 0) = false)) (w : World) (hg : Glob w) : Calls Tryz.prog 161 #[.bool neg, .int .u64 hi, .int .u64 lo, .int .i64 e] w fun r w' =>
  r = .returned (A4 (Ct neg V e)) ∧ Below w.heap.size w w' := by
 have HV := Keep.mk hv; have HL := Keep.mk (Yp hi lo h1 l1); rw [← hV] at HL; have HS := Keep.mk hV; clear hv hV; rcases hz with hz | ⟨rfl, hz⟩
 all_goals
  go_enter Tryz.func161, Tryz.ntmps161
  go_wp2_with fail
  go_loopw [1, 2, 3] (fun a b c wr => ∃ (x y f : Int) (k : Nat), 0 ≤ x ∧ x < 18446744073709551616 ∧ 0 ≤ y ∧ y < 18446744073709551616 ∧ Keep (CP x y ≠ 0) ∧ Keep (CP x y * 10 ^ k = V) ∧ Keep (f = e + k) ∧ a = .int .u64 x ∧ b = .int .u64 y ∧ c = .int .i64 f ∧
   Below (w.alloc (.cells #[.int .i64 0, .int .i64 0] 23)).heap.size (w.alloc (.cells #[.int .i64 0, .int .i64 0] 23)) wr) (fun a b _ _ => CP (intOf a) (intOf b))
  case atStart => exact ⟨_, lo, e, 0, h0, h1, l0, l1, ⟨by rw [← HS.out]; exact HV.out⟩, ⟨by rw [HS.out]; simp⟩, ⟨by simp⟩, rfl, rfl, rfl, Below.refl _ _⟩
  case round =>
   obtain ⟨x, y, f, k, x0, x1, y0, y1, hn, hk, hf, rfl, rfl, rfl, hb⟩ := hrel; have hk39 := Ua k _ V hn.out hk.out HL.out; have f0 : -4611686018427387904 ≤ f := by have := hf.out; omega
   have f1 : f ≤ 4611686018427387944 := by have := hf.out; omega
   clear h0 h1 l0 l1 e0 e1 hz HS; have HM := Keep.mk (Xh x y x0 y0); by_cases hm : CP x y % 10 = 0
   ·have hd : (MY (x % 10) y != 0) = false := by rw [HM.out, hm]; rfl
    have HD := Keep.mk (W8 x y x0 y0); have HB := Keep.mk (X8 x y x0 y0 y1); have HMM := Keep.mk hm; clear hm; go_wp2_with (go_at_call 174; refine (IE _ _ (by omega) (by omega) y0 y1 _).mono ?_; rintro r w1 ⟨rfl, hb1⟩)
    refine ⟨⟨x / 10, Je (x % 10) y, f + 1, k + 1, by omega, by omega, HB.out.1, HB.out.2, ⟨?_⟩, ⟨?_⟩, ⟨?_⟩, rfl, rfl, rfl, hb.trans (hb1.mono hb.size)⟩, ?_⟩
    ·rw [HD.out]; have := HMM.out; have := hn.out; omega
    ·have h2 := HMM.out; have h3 := hk.out; rw [HD.out, Nat.pow_succ, Nat.mul_comm (10 ^ k), ← Nat.mul_assoc, show CP x y / 10 * 10 = CP x y by omega]; exact h3
    ·have := hf.out; omega
    simp only [intOf]; rw [HD.out]; have := HMM.out; have := hn.out; omega
   have hd : (MY (x % 10) y != 0) = true := by rw [HM.out]; simp; omega
   have hfin : Ct neg V e = Ct neg (CP x y) f := by rw [← hk.out, Gb, hf.out]
   have hc18 : wr.cell? ⟨0, 18, none⟩ = some (.int .u64 ((10 ^ 18 : Nat) : Int)) := (hg.below (((Below.refl _ _).alloc (Nat.le_refl _) _).trans (hb.mono (by simp)))).tens 18 (by omega); rcases Sq neg x y f x0 y0 hm with ⟨t0, hr⟩ | ⟨t0, t1, hr⟩ | ⟨t0, t1, t2, hr⟩ | ⟨t0, t1, t2, t3, hr⟩ | ⟨t0, t1, t2, t3, y2, hr⟩
   case inr.inr.inr.inr =>
    have HRR := Keep.mk (hfin.trans hr); clear hr hm hfin; go_wp2_with fail
    refine (IE _ _ (by omega) (by omega) y0 y1 _).mono ?_; rintro r w1 ⟨rfl, hb1⟩; have hb2 := hb.trans (hb1.mono hb.size); have c18 := hb1.cell (p := ⟨0, 18, none⟩) (BX hc18); rw [hc18] at c18; obtain ⟨hc, hf'⟩ := Am hb2; cases neg
    ·go_wp2
     refine bodyPost_ret (v := A4 ((y, f), 0)) ?_ rfl ⟨H9 HRR.out.symm, ?_⟩
     ·simp [A4, results, Tryz.results161, go_sem, hc]
     exact (((((Below.refl _ _).alloc (Nat.le_refl _) _).trans (hb2.mono (by simp))).setCell (by simp) _).setCell (by simp) _)
    go_wp2
    refine bodyPost_ret (v := A4 ((-y, f), 0)) ?_ rfl ⟨H9 HRR.out.symm, ?_⟩
    ·simp [A4, results, Tryz.results161, go_sem, hc]
    exact (((((Below.refl _ _).alloc (Nat.le_refl _) _).trans (hb2.mono (by simp))).setCell (by simp) _).setCell (by simp) _)
   all_goals
    have HRR := Keep.mk (hfin.trans hr); clear hr hm hfin; go_wp2_with fail
    refine (IE _ _ (by omega) (by omega) y0 y1 _).mono ?_; rintro r w1 ⟨rfl, hb1⟩; have hb2 := hb.trans (hb1.mono hb.size); have c18 := hb1.cell (p := ⟨0, 18, none⟩) (BX hc18); rw [hc18] at c18; obtain ⟨hc, hf'⟩ := Am hb2; go_wp2_with (go_at_call 81; refine (Dj _).mono ?_; rintro r w2 ⟨rfl, hb3⟩; have hb4 := hb2.trans (hb3.mono hb2.size); obtain ⟨hc2, hf2⟩ := Am hb4)
    refine bodyPost_ret (v := A4 ((0, 0), 11)) ?_ rfl ⟨H9 HRR.out.symm, ?_⟩
    ·simp [A4, results, Tryz.results161, go_sem, hc2]
    exact (((((Below.refl _ _).alloc (Nat.le_refl _) _).trans (hb4.mono (by simp))).setCell (by simp) _).setCell (by simp) _)
theorem Ow (neg : Bool) (hi lo e : Int) (h0 : 0 ≤ hi) (h1 : hi < 18446744073709551616) (l0 : 0 ≤ lo) (l1 : lo < 18446744073709551616) (e0 : -4611686018427387904 ≤ e) (e1 : e ≤ 4611686018427387904) (w : World) (hg : Glob w) :
  Calls Tryz.prog 161 #[.bool neg, .int .u64 hi, .int .u64 lo, .int .i64 e] w fun r w' => r = .returned (A4 (Ct neg (CP hi lo) e)) ∧ Below w.heap.size w w' := by
 by_cases hv : CP hi lo = 0
 ·have a : hi = 0 ∧ lo = 0 := by unfold CP at hv; omega
  obtain ⟨rfl, rfl⟩ := a; exact UY neg e w
 refine Ul neg hi lo e _ rfl h0 h1 l0 l1 hv e0 e1 ?_ w hg; by_cases hz : hi = 0
 ·right; refine ⟨hz, ?_⟩; simp; intro h; subst hz; subst h; exact hv rfl
 left; simpa using hz
end Go.Proofs.YtakncilicoefdaaGreatDoor
namespace Th
open Go Go.Lib
def Bl (c : UInt8) : Bool := decide (97 ≤ c.toNat ∧ c.toNat ≤ 122) || decide (65 ≤ c.toNat ∧ c.toNat ≤ 90) || decide (c.toNat = 95)
def Bz (c : UInt8) : Bool := Bl c || Bs c
def AM : List UInt8 → Nat
 | [] => 0
 | c :: r => if Bl c = true then Bi Bz r + 1 else 0
def Bq (l : List UInt8) : Nat := Bi Bs l
def D4 (l : List UInt8) (n : Nat) : Nat := if l[n]? = some 46 ∧ 0 < Bq (l.drop (n + 1)) then n + 1 + Bq (l.drop (n + 1)) else n
def BW (l : List UInt8) (n : Nat) : Nat := if l[n + 1]? = some 43 ∨ l[n + 1]? = some 45 then n + 2 else n + 1
def EP (l : List UInt8) (n : Nat) : Nat := if (l[n]? = some 101 ∨ l[n]? = some 69) ∧ 0 < Bq (l.drop (BW l n)) then BW l n + Bq (l.drop (BW l n)) else n
def Dc (l : List UInt8) : Nat := if Bq l = 0 then 0 else EP l (D4 l (Bq l))
def DY : List (List UInt8) := [[124, 61], [43, 61], [45, 61], [42, 61], [47, 61], [61, 61], [33, 61], [60, 61], [62, 61], [47, 47], [46, 46]]
def oneL : List UInt8 := [124, 44, 46, 91, 93, 40, 41, 123, 125, 58, 59, 61, 60, 62, 43, 45, 42, 47, 37, 63]
def Be (l : List UInt8) : Nat := if l.take 3 = [47, 47, 61] then 3 else if l.take 2 ∈ DY then 2 else match l with | c :: _ => if c ∈ oneL then 1 else 0 | [] => 0
def Bj : List UInt8 → Nat × Nat × Nat
 | [] => (0, 0, 0)
 | c :: r => if Bl c = true then (1, 0, AM (c :: r)) else if c = 36 ∧ 0 < AM r then (2, 1, 1 + AM r) else if c = 46 ∧ 0 < AM r then (3, 1, 1 + AM r)
  else if Bs c = true then (4, 0, Dc (c :: r)) else if Be (c :: r) = 0 then (0, 0, 0) else (6, 0, Be (c :: r))
/-! the document's -/
def Bc : List UInt8 → Bool
 | [] => false
 | c :: r => Bl c && r.all Bz
def B3 (t : List UInt8) : Bool := !t.isEmpty && t.all Bs
def Fg (c : UInt8) : Bool := !(decide (c = 101) || decide (c = 69))
def Dk (c : UInt8) : Bool := !decide (c = 46)
def En : List UInt8 → List UInt8
 | [] => []
 | c :: r => if c = 43 ∨ c = 45 then r else c :: r
def Cj (t : List UInt8) : List UInt8 := t.take (Bi Fg t)
def Cw (t : List UInt8) : Bool :=
 (decide (Bi Fg t = t.length) || B3 (En (t.drop (Bi Fg t + 1)))) &&
 (B3 ((Cj t).take (Bi Dk (Cj t))) && (decide (Bi Dk (Cj t) = (Cj t).length) || B3 ((Cj t).drop (Bi Dk (Cj t) + 1))))
def Ee (t : List UInt8) : Bool := decide (t ∈ DY) || decide (t ∈ oneL.map fun c => [c]) || decide (t = [47, 47, 61])
def Dv (t : List UInt8) : Nat :=
 if Bc t = true then 1 else if t.head? = some 36 ∧ Bc t.tail = true then 2 else if t.head? = some 46 ∧ Bc t.tail = true then 3 else if Cw t = true then 4 else if Ee t = true then 6 else 0
def EI (c : UInt8) : Bool := Bl c || Bs c || decide (c = 46) || decide (c = 43) || decide (c = 45) || decide (c = 61) || decide (c = 47)
def Xo : List UInt8 → Nat
 | [] => 0
 | _ :: r => 1 + Bi EI r
/-! lemmas on runs -/
theorem G6 (p : UInt8 → Bool) : ∀ (a b : List UInt8), a.all p = true → Bi p (a ++ b) = a.length + Bi p b
 | [], b, _ => by simp
 | c :: a, b, h => by
  simp only [List.all_cons, Bool.and_eq_true] at h; show Bi p (c :: (a ++ b)) = _
  simp only [Bi, if_pos h.1, List.length_cons]; rw [G6 p a b h.2]; omega
theorem Hg (p : UInt8 → Bool) : ∀ (l : List UInt8) (m : Nat), (l.take m).all p = true ↔ min m l.length ≤ Bi p l
 | [], m => by simp
 | c :: r, 0 => by simp
 | c :: r, m + 1 => by
  rw [List.take_succ_cons, List.all_cons, Bool.and_eq_true, Hg p r m, List.length_cons]; simp only [Bi]; split
  ·rename_i h; simp only [h, true_and]; omega
  rename_i h; simp only [h, false_and, false_iff, Bool.false_eq_true]; omega
theorem IA (a b : List UInt8) (h : a.all Bs = true) : Bq (a ++ b) = a.length + Bq b := G6 _ a b h
theorem NN (c : UInt8) (r : List UInt8) (h : Bs c = false) : Bq (c :: r) = 0 := by simp [Bq, Bi, h]
theorem Cd (t : List UInt8) : B3 t = true ↔ 0 < t.length ∧ t.all Bs = true := by
 unfold B3; cases t <;> simp
theorem DL (l : List UInt8) : AM l ≤ l.length := by
 cases l with
 | nil => exact Nat.le_refl _
 | cons c r => have := H6 Bz r; simp only [AM, List.length_cons]; split <;> omega
theorem Hv (t : List UInt8) (m : Nat) (h1 : 1 ≤ m) (h2 : m ≤ t.length) : Bc (t.take m) = true ↔ m ≤ AM t := by
 obtain ⟨k, rfl⟩ : ∃ k, m = k + 1 := ⟨m - 1, by omega⟩
 cases t with
 | nil => simp at h2
 | cons c r =>
  rw [List.take_succ_cons]; simp only [Bc, AM, Bool.and_eq_true, Hg]; rw [List.length_cons] at h2; split
  ·rename_i h; simp only [h, true_and]; omega
  rename_i h; simp only [h, false_and, false_iff, Bool.false_eq_true]; omega
structure NumForm (u D F E : List UInt8) : Prop where
 cat : u = D ++ (F ++ E)
 d : B3 D = true
 f : F = [] ∨ ∃ x, F = 46 :: x ∧ B3 x = true
 e : E = [] ∨ ∃ c x, E = c :: x ∧ (c = 101 ∨ c = 69) ∧ B3 (En x) = true
theorem Nk (D : List UInt8) (h : D.all Bs = true) : D.all Fg = true := by
 rw [List.all_eq_true] at h ⊢; intro c hc; have := h c hc; unfold Fg; by_cases h1 : c = 101
 ·subst h1; cases this
 by_cases h2 : c = 69
 ·subst h2; cases this
 simp [h1, h2]
theorem QK (D : List UInt8) (h : D.all Bs = true) : D.all Dk = true := by
 rw [List.all_eq_true] at h ⊢; intro c hc; have := h c hc; unfold Dk; by_cases h1 : c = 46
 ·subst h1; cases this
 simp [h1]
theorem I2 {u D F E : List UInt8} (h : NumForm u D F E) : Cw u = true := by
 obtain ⟨rfl, hd, hf, he⟩ := h; obtain ⟨hd1, hd2⟩ := (Cd D).1 hd; have hDF : (D ++ F).all Fg = true := by
  rw [List.all_append, Bool.and_eq_true]; refine ⟨Nk D hd2, ?_⟩; rcases hf with rfl | ⟨x, rfl, hx⟩
  ·rfl
  rw [List.all_cons, Bool.and_eq_true]; exact ⟨rfl, Nk x ((Cd x).1 hx).2⟩
 have hr : Bi Fg (D ++ (F ++ E)) = (D ++ F).length := by
  rw [← List.append_assoc, G6 _ _ _ hDF]; rcases he with rfl | ⟨c, x, rfl, hc, _⟩
  ·rfl
  have : Fg c = false := by rcases hc with rfl | rfl <;> rfl
  simp [Bi, this]
 have hh : Cj (D ++ (F ++ E)) = D ++ F := by
  unfold Cj; rw [hr, ← List.append_assoc, List.take_left]
 have hr2 : Bi Dk (D ++ F) = D.length := by
  rw [G6 _ _ _ (QK D hd2)]; rcases hf with rfl | ⟨x, rfl, hx⟩
  ·rfl
  simp [Bi, Dk]
 unfold Cw; rw [hh, hr, hr2, List.take_left, hd]; simp only [Bool.and_eq_true, Bool.or_eq_true, decide_eq_true_eq, Bool.true_and]; refine ⟨?_, ?_⟩
 ·rcases he with rfl | ⟨c, x, rfl, hc, hx⟩
  ·left; simp
  right
  rw [← List.append_assoc, ← List.drop_drop, List.drop_left]; exact hx
 rcases hf with rfl | ⟨x, rfl, hx⟩
 ·left; simp
 right
 rw [← List.drop_drop, List.drop_left]; exact hx
theorem Gh (u : List UInt8) (h : Cw u = true) : ∃ D F E, NumForm u D F E := by
 unfold Cw at h; simp only [Bool.and_eq_true, Bool.or_eq_true, decide_eq_true_eq] at h; obtain ⟨h1, h2, h3⟩ := h; have hu : u = Cj u ++ u.drop (Bi Fg u) := (List.take_append_drop _ _).symm; have hh : Cj u = (Cj u).take (Bi Dk (Cj u)) ++ (Cj u).drop (Bi Dk (Cj u)) := (List.take_append_drop _ _).symm; refine ⟨(Cj u).take (Bi Dk (Cj u)), (Cj u).drop (Bi Dk (Cj u)), u.drop (Bi Fg u), ?_, h2, ?_, ?_⟩
 ·rw [← List.append_assoc, ← hh, ← hu]
 ·rcases h3 with h3 | h3
  ·left; rw [h3, List.drop_length]
  right
  have hl : Bi Dk (Cj u) < (Cj u).length := by
   rcases Nat.lt_or_ge (Bi Dk (Cj u)) (Cj u).length with h4 | h4
   ·exact h4
   rw [List.drop_eq_nil_of_le (by omega)] at h3; cases h3
  refine ⟨_, ?_, h3⟩; rw [List.drop_eq_getElem_cons hl]; have := Kb Dk (Cj u) hl; have e : (Cj u)[Bi Dk (Cj u)] = 46 := by simpa [Dk] using this
  rw [e]
 rcases h1 with h1 | h1
 ·left; rw [h1, List.drop_length]
 right
 have hl : Bi Fg u < u.length := by
  rcases Nat.lt_or_ge (Bi Fg u) u.length with h4 | h4
  ·exact h4
  rw [List.drop_eq_nil_of_le (by omega)] at h1; cases h1
 refine ⟨_, _, List.drop_eq_getElem_cons hl, ?_, h1⟩; have := Kb Fg u hl; exact Decidable.or_iff_not_imp_left.2 (by simpa [Fg] using this)
theorem GI (x : List UInt8) (h : B3 (En x) = true) : (∃ c y, x = c :: y ∧ (c = 43 ∨ c = 45) ∧ B3 y = true) ∨ (∃ c y, x = c :: y ∧ Bs c = true ∧ B3 x = true) := by
 cases x with
 | nil => cases h
 | cons c y =>
  simp only [En] at h; split at h
  ·exact Or.inl ⟨c, y, rfl, by assumption, h⟩
  refine Or.inr ⟨c, y, rfl, ?_, h⟩; have := ((Cd _).1 h).2; rw [List.all_cons, Bool.and_eq_true] at this; exact this.1
theorem Kj (l : List UInt8) (n : Nat) : n ≤ EP l n := by
 unfold EP BW; split <;> (try split) <;> omega
theorem QS (l : List UInt8) (n : Nat) : n ≤ D4 l n := by
 unfold D4; split <;> omega
theorem Q5 (a E r : List UInt8) (he : E = [] ∨ ∃ c x, E = c :: x ∧ (c = 101 ∨ c = 69) ∧ B3 (En x) = true) : (a ++ E).length ≤ EP (a ++ E ++ r) a.length := by
 rcases he with rfl | ⟨c, x, rfl, hc, hx⟩
 ·have := Kj (a ++ [] ++ r) a.length; simpa using this
 have h0 : (a ++ c :: x ++ r)[a.length]? = some c := by simp
 have hx' := GI x hx; have key : ∃ k, BW (a ++ c :: x ++ r) a.length = k ∧ (a ++ c :: x).length ≤ k + Bq ((a ++ c :: x ++ r).drop k) ∧ 0 < Bq ((a ++ c :: x ++ r).drop k) := by
  rcases hx' with ⟨c2, y, rfl, hc2, hy⟩ | ⟨c2, y, rfl, hc2, hy⟩
  ·refine ⟨a.length + 2, ?_, ?_⟩
   ·unfold BW
    have h1 : (a ++ c :: c2 :: y ++ r)[a.length + 1]? = some c2 := by simp
    rw [h1, if_pos]; simpa using hc2
   have h2 : (a ++ c :: c2 :: y ++ r).drop (a.length + 2) = y ++ r := by simp
   obtain ⟨h3, h4⟩ := (Cd y).1 hy; rw [h2, IA _ _ h4]; simp only [List.length_append, List.length_cons]; omega
  refine ⟨a.length + 1, ?_, ?_⟩
  ·unfold BW
   have h1 : (a ++ c :: c2 :: y ++ r)[a.length + 1]? = some c2 := by simp
   rw [h1, if_neg]; intro h; rcases h with h | h <;> (injection h with h; subst h; cases hc2)
  have h2 : (a ++ c :: c2 :: y ++ r).drop (a.length + 1) = c2 :: y ++ r := by simp
  obtain ⟨h3, h4⟩ := (Cd _).1 hy; rw [h2, IA _ _ h4]; simp only [List.length_append, List.length_cons]; omega
 obtain ⟨k, hk, h1, h2⟩ := key; unfold EP; rw [hk, h0, if_pos ⟨by simpa using hc, h2⟩]; exact h1
theorem Mo {E r : List UInt8} (he : E ≠ []) (h : E = [] ∨ ∃ c x, E = c :: x ∧ (c = 101 ∨ c = 69) ∧ B3 (En x) = true) : Bq (E ++ r) = 0 ∧ (E ++ r)[0]? ≠ some 46 := by
 rcases h with h | ⟨c, x, rfl, hc, _⟩
 ·exact absurd h he
 refine ⟨NN _ _ ?_, ?_⟩
 ·rcases hc with rfl | rfl <;> rfl
 rcases hc with rfl | rfl <;> simp
theorem Rm (u r : List UInt8) (h : Cw u = true) : u.length ≤ Dc (u ++ r) := by
 obtain ⟨D, F, E, rfl, hd, hf, he⟩ := Gh u h; obtain ⟨h1, h2⟩ := (Cd D).1 hd; have hdig : Bq (D ++ (F ++ E) ++ r) = D.length + Bq (F ++ E ++ r) := by rw [List.append_assoc]; exact IA _ _ h2
 unfold Dc; rw [if_neg (by omega), hdig]; rcases hf with rfl | ⟨x, rfl, hx⟩
 ·by_cases hE : E = []
  ·subst hE
   have h3 := QS (D ++ ([] ++ []) ++ r) (D.length + Bq ([] ++ [] ++ r)); have h4 := Kj (D ++ ([] ++ []) ++ r) (D4 (D ++ ([] ++ []) ++ r) (D.length + Bq ([] ++ [] ++ r))); simp only [List.append_nil] at h3 h4 ⊢; omega
  obtain ⟨h3, h4⟩ := Mo (r := r) hE he; rw [List.nil_append, h3, Nat.add_zero]; have h5 : D4 (D ++ E ++ r) D.length = D.length := by
   unfold D4; rw [if_neg]; rintro ⟨h6, _⟩; rw [List.append_assoc, List.getElem?_append_right (Nat.le_refl _), Nat.sub_self] at h6; exact h4 h6
  rw [h5]; exact Q5 D E r he
 obtain ⟨h3, h4⟩ := (Cd x).1 hx; have h5 : Bq (46 :: x ++ E ++ r) = 0 := NN _ _ rfl; rw [h5, Nat.add_zero]; have h6 : (D ++ (46 :: x ++ E) ++ r)[D.length]? = some 46 := by simp
 have h7 : (D ++ (46 :: x ++ E) ++ r).drop (D.length + 1) = x ++ (E ++ r) := by simp
 have h8 : D4 (D ++ (46 :: x ++ E) ++ r) D.length = D.length + 1 + (x.length + Bq (E ++ r)) := by
  unfold D4; rw [h7, IA _ _ h4, if_pos ⟨h6, by omega⟩]
 rw [h8]; by_cases hE : E = []
 ·subst hE
  have := Kj (D ++ (46 :: x ++ []) ++ r) (D.length + 1 + (x.length + Bq ([] ++ r))); simp only [List.append_nil, List.length_append, List.length_cons] at this ⊢; omega
 rw [(Mo (r := r) hE he).1, Nat.add_zero]; have := Q5 (D ++ 46 :: x) E r he; have e1 : (D ++ 46 :: x).length = D.length + 1 + x.length := by simp only [List.length_append, List.length_cons]; omega
 rw [e1] at this; have e2 : D ++ 46 :: x ++ E = D ++ (46 :: x ++ E) := List.append_assoc _ _ _; rw [e2] at this; exact this
theorem Hi (p : UInt8 → Bool) (l : List UInt8) : (l.take (Bi p l)).all p = true := (Hg p l _).2 (by have := H6 p l; omega)
theorem GC (l : List UInt8) : Bq l ≤ l.length := H6 _ l
theorem PI (t : List UInt8) (h : 0 < Bq t) : Cw (t.take (Dc t)) = true ∧ Dc t ≤ t.length := by
 have hD : B3 (t.take (Bq t)) = true := (Cd _).2 ⟨by rw [List.length_take]; have := GC t; omega, Hi Bs t⟩; have hle := GC t; have hF : ∃ F, (F = [] ∨ ∃ x, F = 46 :: x ∧ B3 x = true) ∧ t.take (D4 t (Bq t)) = t.take (Bq t) ++ F ∧ D4 t (Bq t) ≤ t.length := by
  unfold D4; split
  ·rename_i hp
   have hl := GC (t.drop (Bq t + 1)); rw [List.length_drop] at hl; refine ⟨46 :: (t.drop (Bq t + 1)).take (Bq (t.drop (Bq t + 1))), Or.inr ⟨_, rfl, (Cd _).2 ⟨?_, Hi Bs _⟩⟩, ?_, ?_⟩
   ·rw [List.length_take, List.length_drop]; omega
   ·rw [Nat.add_assoc, List.take_add]
    congr 1
    obtain ⟨hl1, he1⟩ := List.getElem?_eq_some_iff.1 hp.1; rw [List.drop_eq_getElem_cons hl1, he1, Nat.add_comm 1, List.take_succ_cons]
   omega
  exact ⟨[], Or.inl rfl, by simp, hle⟩
 obtain ⟨F, hF1, hF2, hF3⟩ := hF; have hE : ∀ n, n ≤ t.length → ∃ E, (E = [] ∨ ∃ c x, E = c :: x ∧ (c = 101 ∨ c = 69) ∧ B3 (En x) = true) ∧ t.take (EP t n) = t.take n ++ E ∧ EP t n ≤ t.length := by
  intro n hn; unfold EP; split
  ·rename_i hp
   have hlt := GC (t.drop (BW t n)); rw [List.length_drop] at hlt; have hc : ∃ c, t[n]? = some c ∧ (c = 101 ∨ c = 69) := by rcases hp.1 with h | h <;> exact ⟨_, h, by simp⟩
   obtain ⟨c, hc1, hc2⟩ := hc; obtain ⟨hl1, he1⟩ := List.getElem?_eq_some_iff.1 hc1; have hD3 : B3 ((t.drop (BW t n)).take (Bq (t.drop (BW t n)))) = true := (Cd _).2 ⟨by rw [List.length_take, List.length_drop]; omega, Hi Bs _⟩; refine ⟨(t.drop n).take (BW t n - n + Bq (t.drop (BW t n))), Or.inr ?_, ?_, by omega⟩
   ·refine ⟨c, (t.drop (n + 1)).take (BW t n - n - 1 + Bq (t.drop (BW t n))), ?_, hc2, ?_⟩
    ·rw [List.drop_eq_getElem_cons hl1, he1]
     have : BW t n - n + Bq (t.drop (BW t n)) = (BW t n - n - 1 + Bq (t.drop (BW t n))) + 1 := by
      have : n + 1 ≤ BW t n := by unfold BW; split <;> omega
      omega
     rw [this, List.take_succ_cons]
    generalize hk : Bq (t.drop (BW t n)) = k at hD3 hp hlt; by_cases hs : t[n + 1]? = some 43 ∨ t[n + 1]? = some 45
    ·have hx : BW t n = n + 2 := by unfold BW; rw [if_pos hs]
     rw [hx] at hD3 ⊢; have hc' : ∃ d, t[n + 1]? = some d ∧ (d = 43 ∨ d = 45) := by rcases hs with h | h <;> exact ⟨_, h, by simp⟩
     obtain ⟨d, hd1, hd2⟩ := hc'; obtain ⟨hl2, he2⟩ := List.getElem?_eq_some_iff.1 hd1; rw [List.drop_eq_getElem_cons hl2, he2, show n + 2 - n - 1 + k = k + 1 from by omega, List.take_succ_cons]; simp only [En, if_pos hd2]; exact hD3
    have hx : BW t n = n + 1 := by unfold BW; rw [if_neg hs]
    rw [hx] at hD3 ⊢; rw [show n + 1 - n - 1 + k = k from by omega]; have : ∀ z : List UInt8, z.head? = t[n + 1]? ∨ z = [] → En z = z := by
     intro z hz; cases z with
     | nil => rfl
     | cons a z =>
      rcases hz with hz | hz
      ·simp only [En]
       rw [if_neg]; intro ha; apply hs; rw [← hz]; simpa using ha
      cases hz
    rw [this]
    ·exact hD3
    cases k with
    | zero => right; simp
    | succ k => left; rw [List.head?_take, if_neg (by omega), List.head?_drop]
   rw [← List.take_add]; congr 1
   have : n ≤ BW t n := by unfold BW; split <;> omega
   omega
  exact ⟨[], Or.inl rfl, by simp, hn⟩
 obtain ⟨E, hE1, hE2, hE3⟩ := hE _ hF3; unfold Dc; rw [if_neg (by omega)]; refine ⟨I2 (D := t.take (Bq t)) (F := F) (E := E) ⟨?_, hD, hF1, hE1⟩, hE3⟩; rw [hE2, hF2, List.append_assoc]
/-! the longest piece -/
theorem D2 (c : UInt8) (x : List UInt8) (h : Cw (c :: x) = true) : Bs c = true := by
 obtain ⟨D, F, E, hc, hd, _, _⟩ := Gh _ h; obtain ⟨h1, h2⟩ := (Cd D).1 hd; cases D with
 | nil => simp at h1
 | cons d D =>
  rw [List.cons_append] at hc; injection hc with h3 h4; rw [List.all_cons, Bool.and_eq_true] at h2; rw [h3]; exact h2.1
def Oh : List UInt8 := 33 :: oneL
theorem ID : ∀ l ∈ DY, l.length = 2 ∧ ∃ c ∈ Oh, l.head? = some c := by decide
theorem Jr (c : UInt8) (x : List UInt8) (h : Ee (c :: x) = true) : c ∈ Oh := by
 unfold Ee at h; simp only [Bool.or_eq_true, decide_eq_true_eq] at h; rcases h with (h | h) | h
 ·obtain ⟨_, d, hd, h2⟩ := ID _ h
  rw [List.head?_cons] at h2; injection h2 with h2; rw [h2]; exact hd
 ·obtain ⟨d, hd, h2⟩ := List.mem_map.1 h
  injection h2 with h2; rw [← h2]; exact List.mem_cons_of_mem _ hd
 injection h with h1 _; rw [h1]; decide
theorem KG : ∀ c ∈ Oh, Bl c = false ∧ Bs c = false ∧ c ≠ 36 := by decide
theorem KR (t : List UInt8) (m : Nat) (_h1 : 1 ≤ m) (h2 : m ≤ t.length) (h : Ee (t.take m) = true) : m ≤ Be t := by
 have hl : (t.take m).length = m := by rw [List.length_take]; omega
 unfold Ee at h; simp only [Bool.or_eq_true, decide_eq_true_eq] at h; rcases h with (h | h) | h
 ·have h3 := (ID _ h).1
  rw [hl] at h3; subst h3; unfold Be; split
  ·omega
  first | omega | (rw [if_pos h]; omega)
 ·obtain ⟨d, hd, h3⟩ := List.mem_map.1 h
  rw [← h3] at hl; have hm : m = 1 := by simpa using hl.symm
  subst hm; cases t with
  | nil => simp at h2
  | cons c r =>
   simp only [List.take_succ_cons, List.take_zero] at h3; injection h3 with h3; subst h3; unfold Be; split
   ·omega
   split
   ·omega
   show 1 ≤ if d ∈ oneL then 1 else 0
   rw [if_pos hd]; omega
 have hm : m = 3 := by rw [h] at hl; exact hl.symm
 subst hm; unfold Be; rw [if_pos h]; omega
theorem QR (t : List UInt8) (h : 0 < Be t) : Ee (t.take (Be t)) = true ∧ Be t ≤ t.length ∧ (t.take (Be t)).tail.all EI = true := by
 unfold Be at h ⊢; split
 ·rename_i h3
  have : (t.take 3).length = 3 := by rw [h3]; rfl
  rw [List.length_take] at this; rw [h3]; exact ⟨by decide, by omega, by decide⟩
 rename_i h3
 rw [if_neg h3] at h; split
 ·rename_i h2
  have hl := (ID _ h2).1; rw [List.length_take] at hl; refine ⟨?_, by omega, ?_⟩
  ·unfold Ee; rw [decide_eq_true h2]; rfl
  have : ∀ l ∈ DY, l.tail.all EI = true := by decide
  exact this _ h2
 rename_i h2
 rw [if_neg h2] at h; cases t with
 | nil => exact absurd h (by simp)
 | cons c r =>
  by_cases hc : c ∈ oneL
  ·simp only [if_pos hc]
   refine ⟨?_, by simp, rfl⟩; unfold Ee; rw [show decide (List.take 1 (c :: r) ∈ oneL.map fun c => [c]) = true from decide_eq_true (List.mem_map.2 ⟨c, hc, rfl⟩)]; simp
  simp only [if_neg hc] at h; omega
theorem EW (c : UInt8) (h : Bz c = true) : EI c = true := by
 unfold Bz at h; unfold EI; rw [h]; rfl
theorem GP (t : List UInt8) (n : Nat) (h1 : 1 ≤ n) (h2 : n ≤ t.length) (h : (t.take n).tail.all EI = true) : n ≤ Xo t := by
 obtain ⟨k, rfl⟩ : ∃ k, n = k + 1 := ⟨n - 1, by omega⟩
 cases t with
 | nil => simp at h2
 | cons c r =>
  rw [List.take_succ_cons, List.tail_cons, Hg] at h; rw [List.length_cons] at h2; show k + 1 ≤ 1 + Bi EI r
  omega
theorem IB {p q : UInt8 → Bool} (h : ∀ c, p c = true → q c = true) (l : List UInt8) (hl : l.all p = true) : l.all q = true := by
 rw [List.all_eq_true] at hl ⊢; exact fun c hc => h c (hl c hc)
theorem Wq (c : UInt8) (h : Bs c = true) : EI c = true := EW c (by unfold Bz; rw [h, Bool.or_true])
theorem Wr (u : List UInt8) (h : Cw u = true) : u.all EI = true := by
 obtain ⟨D, F, E, rfl, hd, hf, he⟩ := Gh u h; have hD : ∀ x, B3 x = true → x.all EI = true := fun x hx => IB Wq x ((Cd x).1 hx).2
 rw [List.all_append, List.all_append, Bool.and_eq_true, Bool.and_eq_true]; refine ⟨hD D hd, ?_, ?_⟩
 ·rcases hf with rfl | ⟨x, rfl, hx⟩
  ·rfl
  rw [List.all_cons, hD x hx]; rfl
 rcases he with rfl | ⟨c, x, rfl, hc, hx⟩
 ·rfl
 have h1 : EI c = true := by rcases hc with rfl | rfl <;> rfl
 rw [List.all_cons, h1, Bool.true_and]; rcases GI x hx with ⟨d, y, rfl, h2, h3⟩ | ⟨d, y, rfl, h2, h3⟩
 ·have h4 : EI d = true := by rcases h2 with rfl | rfl <;> rfl
  rw [List.all_cons, h4, hD y h3]; rfl
 exact hD _ h3
theorem Lx (t : List UInt8) (h1 : Bc t = false) (h2 : t.head? = some 36 → Bc t.tail = false) (h3 : t.head? = some 46 → Bc t.tail = false) : Dv t = if Cw t = true then 4 else if Ee t = true then 6 else 0 := by
 unfold Dv; rw [h1, if_neg (by decide), if_neg (fun h => by rw [h2 h.1] at h; cases h.2), if_neg (fun h => by rw [h3 h.1] at h; cases h.2)]
theorem Dp (r : List UInt8) (m : Nat) (h2 : m ≤ r.length) : Bc (r.take m) = true ↔ 1 ≤ m ∧ m ≤ AM r := by
 rcases Nat.eq_zero_or_pos m with rfl | h
 ·simp [Bc]
 rw [Hv r m h h2]; omega
theorem Eg (c : UInt8) (r : List UInt8) :
  (Bj (c :: r) = (0, 0, 0) ∧ ∀ m, 1 ≤ m → m ≤ (c :: r).length → Dv ((c :: r).take m) = 0) ∨
  ∃ k n, Bj (c :: r) = (k, if k = 2 ∨ k = 3 then 1 else 0, n) ∧ k ≠ 0 ∧ 1 ≤ n ∧ n ≤ Xo (c :: r) ∧ n ≤ (c :: r).length ∧ Dv ((c :: r).take n) = k ∧ ∀ m, n < m → m ≤ (c :: r).length → Dv ((c :: r).take m) = 0 := by
 have hcut : ∀ m, 1 ≤ m → (c :: r).take m = c :: r.take (m - 1) := fun m hm => by
  obtain ⟨k, rfl⟩ : ∃ k, m = k + 1 := ⟨m - 1, by omega⟩
  rfl
 by_cases hL : Bl c = true
 ·have h36 : c ≠ 36 := by rintro rfl; cases hL
  have h46 : c ≠ 46 := by rintro rfl; cases hL
  have hdg : Bs c = false := by
   cases h : Bs c with
   | false => rfl
   | true =>
    exfalso; unfold Bs at h; unfold Bl at hL; simp only [Bool.and_eq_true, Bool.or_eq_true, decide_eq_true_eq] at h hL; omega
  have hn : AM (c :: r) = Bi Bz r + 1 := by simp only [AM]; rw [if_pos hL]
  have hle := DL (c :: r); refine Or.inr ⟨1, AM (c :: r), ?_, by decide, by omega, ?_, hle, ?_, fun m h1 h2 => ?_⟩
  ·simp only [Bj]; rw [if_pos hL]; rfl
  ·refine GP _ _ (by omega) hle ?_
   rw [hn, List.take_succ_cons, List.tail_cons]; exact IB EW _ (Hi Bz r)
  ·unfold Dv
   rw [if_pos ((Hv _ _ (by omega) hle).2 (Nat.le_refl _))]
  have hx : Bc ((c :: r).take m) = false := by
   cases h : Bc ((c :: r).take m) with
   | false => rfl
   | true => have := (Hv _ _ (by omega) h2).1 h; omega
  rw [Lx _ hx (fun h => by rw [hcut m (by omega)] at h; injection h with h; exact absurd h h36) (fun h => by rw [hcut m (by omega)] at h; injection h with h; exact absurd h h46)]; rw [hcut m (by omega), if_neg (fun h => by rw [D2 _ _ h] at hdg; cases hdg), if_neg (fun h => by rw [(KG _ (Jr _ _ h)).1] at hL; cases hL)]
 have hL' : Bl c = false := by simpa using hL
 have hnm : ∀ m, 1 ≤ m → Bc ((c :: r).take m) = false := fun m hm => by rw [hcut m hm]; simp only [Bc, hL', Bool.false_and]
 have htl : ∀ m, 1 ≤ m → ((c :: r).take m).tail = r.take (m - 1) := fun m hm => by rw [hcut m hm]; rfl
 have hhd : ∀ m, 1 ≤ m → ((c :: r).take m).head? = some c := fun m hm => by rw [hcut m hm]; rfl
 by_cases h36 : c = 36 ∧ 0 < AM r
 ·obtain ⟨rfl, hp⟩ := h36
  have hle := DL r; have hnz : ∀ m, 1 ≤ m → Dv ((36 :: r).take m) = if Bc (r.take (m - 1)) = true then 2 else 0 := fun m hm => by
   unfold Dv; rw [hnm m hm, if_neg (by decide), htl m hm, hhd m hm]; split
   ·rename_i h; rw [if_pos h.2]
   rename_i h
   rw [if_neg (by rintro ⟨h, _⟩; injection h with h; revert h; decide), hcut m hm, if_neg (fun h => by have := D2 _ _ h; revert this; decide), if_neg (fun h => by have := Jr _ _ h; revert this; decide), if_neg (fun h2 => h (by first | exact ⟨rfl, h2⟩ | exact ⟨trivial, h2⟩))]
  refine Or.inr ⟨2, 1 + AM r, ?_, by decide, by omega, ?_, by rw [List.length_cons]; omega, ?_, fun m h1 h2 => ?_⟩
  ·simp only [Bj]; rw [if_neg (by decide), if_pos (by first | exact ⟨rfl, hp⟩ | exact ⟨trivial, hp⟩)]; rfl
  ·refine GP _ _ (by omega) (by rw [List.length_cons]; omega) ?_
   rw [Nat.add_comm, List.take_succ_cons, List.tail_cons]; have := (Dp r (AM r) hle).2 ⟨hp, Nat.le_refl _⟩; cases hr : r.take (AM r) with
   | nil => rfl
   | cons d x =>
    rw [hr] at this; simp only [Bc, Bool.and_eq_true] at this; rw [List.all_cons, EW d (by unfold Bz; rw [this.1]; rfl), IB EW x this.2]; rfl
  ·rw [hnz _ (by omega), if_pos]
   rw [show 1 + AM r - 1 = AM r from by omega]; exact (Dp r _ hle).2 ⟨hp, Nat.le_refl _⟩
  rw [List.length_cons] at h2; rw [hnz _ (by omega), if_neg]; intro h; have := (Dp r (m - 1) (by omega)).1 h; omega
 by_cases h46 : c = 46 ∧ 0 < AM r
 ·obtain ⟨rfl, hp⟩ := h46
  have hle := DL r; have hr : ∃ d x, r = d :: x ∧ Bl d = true := by
   cases r with
   | nil => cases hp
   | cons d x =>
    refine ⟨d, x, rfl, ?_⟩; simp only [AM] at hp; split at hp
    ·assumption
    omega
  have hs : Be (46 :: r) ≤ 1 := by
   obtain ⟨d, x, rfl, hd⟩ := hr; unfold Be; rw [if_neg (by intro h; injection h with h; revert h; decide), if_neg]
   ·show (if (46 : UInt8) ∈ oneL then 1 else 0) ≤ 1
    split <;> omega
   intro h; have : ∀ l ∈ DY, l.head? = some 46 → l = [46, 46] := by decide
   have := this _ h rfl; injection this with _ this; injection this with this; subst this; cases hd
  have hnz : ∀ m, 2 ≤ m → m ≤ (46 :: r).length → Dv ((46 :: r).take m) = if Bc (r.take (m - 1)) = true then 3 else 0 := fun m hm hm2 => by
   unfold Dv; rw [hnm m (by omega), if_neg (by decide), htl m (by omega), hhd m (by omega), if_neg (by rintro ⟨h, _⟩; injection h with h; revert h; decide)]; split
   ·rename_i h; rw [if_pos h.2]
   rename_i h
   rw [if_neg (fun h => by rw [hcut m (by omega)] at h; have := D2 _ _ h; revert this; decide), if_neg (fun h => by have := KR _ m (by omega) hm2 h; omega), if_neg (fun h2 => h (by first | exact ⟨rfl, h2⟩ | exact ⟨trivial, h2⟩))]
  refine Or.inr ⟨3, 1 + AM r, ?_, by decide, by omega, ?_, by rw [List.length_cons]; omega, ?_, fun m h1 h2 => ?_⟩
  ·simp only [Bj]; rw [if_neg (by decide), if_neg (by rintro ⟨h, _⟩; revert h; decide), if_pos (by first | exact ⟨rfl, hp⟩ | exact ⟨trivial, hp⟩)]; rfl
  ·refine GP _ _ (by omega) (by rw [List.length_cons]; omega) ?_
   rw [Nat.add_comm, List.take_succ_cons, List.tail_cons]; have := (Dp r (AM r) hle).2 ⟨hp, Nat.le_refl _⟩; cases hr : r.take (AM r) with
   | nil => rfl
   | cons d x =>
    rw [hr] at this; simp only [Bc, Bool.and_eq_true] at this; rw [List.all_cons, EW d (by unfold Bz; rw [this.1]; rfl), IB EW x this.2]; rfl
  ·rw [hnz _ (by omega) (by rw [List.length_cons]; omega), if_pos]
   rw [show 1 + AM r - 1 = AM r from by omega]; exact (Dp r _ hle).2 ⟨hp, Nat.le_refl _⟩
  rw [hnz _ (by omega) h2, if_neg]; rw [List.length_cons] at h2; intro h; have := (Dp r (m - 1) (by omega)).1 h; omega
 have hrest : ∀ m, 1 ≤ m → m ≤ (c :: r).length → Dv ((c :: r).take m) = if Cw ((c :: r).take m) = true then 4 else if Ee ((c :: r).take m) = true then 6 else 0 := fun m hm hm2 => by
  rw [List.length_cons] at hm2; refine Lx _ (hnm m hm) (fun h => ?_) (fun h => ?_)
  ·rw [hhd m hm] at h; injection h with h
   rw [htl m hm]; cases hb : Bc (r.take (m - 1)) with
   | false => rfl
   | true => have := (Dp r (m - 1) (by omega)).1 hb; exact absurd ⟨h, by omega⟩ h36
  rw [hhd m hm] at h; injection h with h; rw [htl m hm]; cases hb : Bc (r.take (m - 1)) with
  | false => rfl
  | true => have := (Dp r (m - 1) (by omega)).1 hb; exact absurd ⟨h, by omega⟩ h46
 by_cases hdg : Bs c = true
 ·have hpos : 0 < Bq (c :: r) := by simp [Bq, Bi, hdg]
  obtain ⟨h1, h2⟩ := PI (c :: r) hpos; have hn1 : 1 ≤ Dc (c :: r) := by
   have h3 := QS (c :: r) (Bq (c :: r)); have h4 := Kj (c :: r) (D4 (c :: r) (Bq (c :: r))); unfold Dc; rw [if_neg (by omega)]; omega
  refine Or.inr ⟨4, Dc (c :: r), ?_, by decide, hn1, ?_, h2, ?_, fun m h3 h4 => ?_⟩
  ·simp only [Bj]; rw [if_neg hL, if_neg h36, if_neg h46, if_pos hdg]; rfl
  ·refine GP _ _ hn1 h2 ?_
   have := Wr _ h1; rw [hcut _ hn1] at this ⊢; rw [List.all_cons, Bool.and_eq_true] at this; exact this.2
  ·rw [hrest _ hn1 h2, if_pos h1]
  rw [hrest m (by omega) h4, if_neg, if_neg]
  ·intro h
   rw [hcut m (by omega)] at h; rw [(KG _ (Jr _ _ h)).2.1] at hdg; cases hdg
  intro h; have := Rm _ ((c :: r).drop m) h; rw [List.take_append_drop, List.length_take] at this; omega
 have hnn : ∀ m, 1 ≤ m → ¬ Cw ((c :: r).take m) = true := fun m hm h => by rw [hcut m hm] at h; exact hdg (D2 _ _ h)
 by_cases hs : Be (c :: r) = 0
 ·refine Or.inl ⟨?_, fun m h1 h2 => ?_⟩
  ·simp only [Bj]; rw [if_neg hL, if_neg h36, if_neg h46, if_neg hdg, if_pos hs]
  rw [hrest m h1 h2, if_neg (hnn m h1), if_neg (fun h => by have := KR _ m h1 h2 h; omega)]
 obtain ⟨h1, h2, h3⟩ := QR (c :: r) (by omega); refine Or.inr ⟨6, Be (c :: r), ?_, by decide, by omega, GP _ _ (by omega) h2 h3, h2, ?_, fun m h4 h5 => ?_⟩
 ·simp only [Bj]; rw [if_neg hL, if_neg h36, if_neg h46, if_neg hdg, if_neg hs]; rfl
 ·rw [hrest _ (by omega) h2, if_neg (hnn _ (by omega)), if_pos h1]
 rw [hrest m (by omega) h5, if_neg (hnn m (by omega)), if_neg (fun h => by have := KR _ m (by omega) h5 h; omega)]
end Th
