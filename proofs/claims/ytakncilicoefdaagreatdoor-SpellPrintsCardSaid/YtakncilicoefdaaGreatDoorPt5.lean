/- Lemmas and contracts. Conditions: those that each lemma names. -/
import Derived.Test.YtakncilicoefdaaGreatDoorPt4
set_option maxRecDepth 100000
set_option maxHeartbeats 4000000
namespace Go.Proofs.YtakncilicoefdaaGreatDoor
open Go Go.RowKit Go.Proofs Th
attribute [local go_sem] Above.cell Above.frozen
def AA (p : (Int × Int) × Int) : Value := .tuple #[.agg #[.int .i64 p.1.1, .int .i64 p.1.2], .int .i64 p.2]
theorem QY (neg : Bool) (e : Int) (w : World) : Calls Tryz.prog 161 #[.bool neg, .int .u64 0, .int .u64 0, .int .i64 e] w fun r w' => r = .returned (AA ((0, 0), 0)) ∧ Below w.heap.size w w' := by
 go_enter Tryz.func161, Tryz.ntmps161
 go_wp2_with fail
 refine (Cr _).mono ?_; rintro r w1 ⟨rfl, hb⟩; obtain ⟨hc, hf⟩ := An hb; go_wp2
 refine bodyPost_ret (v := AA ((0, 0), 0)) ?_ rfl ⟨rfl, ?_⟩
 ·simp [AA, results, Tryz.results161, go_sem, hc]
 exact (((((Below.refl _ _).alloc (Nat.le_refl _) _).trans (hb.mono (by simp))).setCell (by simp) _).setCell (by simp) _)
theorem Dn {p q : (Int × Int) × Int} (h : p = q) : Ending.returned (AA p) = .returned (AA q) := by rw [h]
theorem Rc (neg : Bool) (hi lo e : Int) (V : Nat) (hV : V = Ca hi lo) (h0 : 0 ≤ hi) (h1 : hi < 18446744073709551616) (l0 : 0 ≤ lo) (l1 : lo < 18446744073709551616) (hv : V ≠ 0) (e0 : -4611686018427387904 ≤ e) (e1 : e ≤ 4611686018427387904)
  (hz : (hi == 0) = false ∨ (hi = 0 ∧ (lo == 0) = false)) (w : World) (hg : Glob w) : Calls Tryz.prog 161 #[.bool neg, .int .u64 hi, .int .u64 lo, .int .i64 e] w fun r w' =>
  r = .returned (AA (Bq neg V e)) ∧ Below w.heap.size w w' := by
 have HV := Keep.mk hv; have HL := Keep.mk (U9 hi lo h1 l1); rw [← hV] at HL; have HS := Keep.mk hV; clear hv hV; rcases hz with hz | ⟨rfl, hz⟩
 all_goals
  go_enter Tryz.func161, Tryz.ntmps161
  go_wp2_with fail
  go_loopw [1, 2, 3] (fun a b c wr => ∃ (x y f : Int) (k : Nat), 0 ≤ x ∧ x < 18446744073709551616 ∧ 0 ≤ y ∧ y < 18446744073709551616 ∧ Keep (Ca x y ≠ 0) ∧ Keep (Ca x y * 10 ^ k = V) ∧ Keep (f = e + k) ∧ a = .int .u64 x ∧ b = .int .u64 y ∧ c = .int .i64 f ∧
   Below (w.alloc (.cells #[.int .i64 0, .int .i64 0] 23)).heap.size (w.alloc (.cells #[.int .i64 0, .int .i64 0] 23)) wr) (fun a b _ _ => Ca (intOf a) (intOf b))
  case atStart => exact ⟨_, lo, e, 0, h0, h1, l0, l1, ⟨by rw [← HS.out]; exact HV.out⟩, ⟨by rw [HS.out]; simp⟩, ⟨by simp⟩, rfl, rfl, rfl, Below.refl _ _⟩
  case round =>
   obtain ⟨x, y, f, k, x0, x1, y0, y1, hn, hk, hf, rfl, rfl, rfl, hb⟩ := hrel; have hk39 := RN k _ V hn.out hk.out HL.out; have f0 : -4611686018427387904 ≤ f := by have := hf.out; omega
   have f1 : f ≤ 4611686018427387944 := by have := hf.out; omega
   clear h0 h1 l0 l1 e0 e1 hz HS; have HM := Keep.mk (TD x y x0 y0); by_cases hm : Ca x y % 10 = 0
   ·have hd : (KB (x % 10) y != 0) = false := by rw [HM.out, hm]; rfl
    have HD := Keep.mk (TN x y x0 y0); have HB := Keep.mk (UX x y x0 y0 y1); have HMM := Keep.mk hm; clear hm; go_wp2_with (go_at_call 174; refine (G3 _ _ (by omega) (by omega) y0 y1 _).mono ?_; rintro r w1 ⟨rfl, hb1⟩)
    refine ⟨⟨x / 10, HY (x % 10) y, f + 1, k + 1, by omega, by omega, HB.out.1, HB.out.2, ⟨?_⟩, ⟨?_⟩, ⟨?_⟩, rfl, rfl, rfl, hb.trans (hb1.mono hb.size)⟩, ?_⟩
    ·rw [HD.out]; have := HMM.out; have := hn.out; omega
    ·have h2 := HMM.out; have h3 := hk.out; rw [HD.out, Nat.pow_succ, Nat.mul_comm (10 ^ k), ← Nat.mul_assoc, show Ca x y / 10 * 10 = Ca x y by omega]; exact h3
    ·have := hf.out; omega
    simp only [intOf]; rw [HD.out]; have := HMM.out; have := hn.out; omega
   have hd : (KB (x % 10) y != 0) = true := by rw [HM.out]; simp; omega
   have hfin : Bq neg V e = Bq neg (Ca x y) f := by rw [← hk.out, E9, hf.out]
   have hc18 : wr.cell? ⟨0, 18, none⟩ = some (.int .u64 ((10 ^ 18 : Nat) : Int)) := (hg.below (((Below.refl _ _).alloc (Nat.le_refl _) _).trans (hb.mono (by simp)))).tens 18 (by omega); rcases Pw neg x y f x0 y0 hm with ⟨t0, hr⟩ | ⟨t0, t1, hr⟩ | ⟨t0, t1, t2, hr⟩ | ⟨t0, t1, t2, t3, hr⟩ | ⟨t0, t1, t2, t3, y2, hr⟩
   case inr.inr.inr.inr =>
    have HRR := Keep.mk (hfin.trans hr); clear hr hm hfin; go_wp2_with fail
    refine (G3 _ _ (by omega) (by omega) y0 y1 _).mono ?_; rintro r w1 ⟨rfl, hb1⟩; have hb2 := hb.trans (hb1.mono hb.size); have c18 := hb1.cell (p := ⟨0, 18, none⟩) (Bm hc18); rw [hc18] at c18; obtain ⟨hc, hf'⟩ := An hb2; cases neg
    ·go_wp2
     refine bodyPost_ret (v := AA ((y, f), 0)) ?_ rfl ⟨Dn HRR.out.symm, ?_⟩
     ·simp [AA, results, Tryz.results161, go_sem, hc]
     exact (((((Below.refl _ _).alloc (Nat.le_refl _) _).trans (hb2.mono (by simp))).setCell (by simp) _).setCell (by simp) _)
    go_wp2
    refine bodyPost_ret (v := AA ((-y, f), 0)) ?_ rfl ⟨Dn HRR.out.symm, ?_⟩
    ·simp [AA, results, Tryz.results161, go_sem, hc]
    exact (((((Below.refl _ _).alloc (Nat.le_refl _) _).trans (hb2.mono (by simp))).setCell (by simp) _).setCell (by simp) _)
   all_goals
    have HRR := Keep.mk (hfin.trans hr); clear hr hm hfin; go_wp2_with fail
    refine (G3 _ _ (by omega) (by omega) y0 y1 _).mono ?_; rintro r w1 ⟨rfl, hb1⟩; have hb2 := hb.trans (hb1.mono hb.size); have c18 := hb1.cell (p := ⟨0, 18, none⟩) (Bm hc18); rw [hc18] at c18; obtain ⟨hc, hf'⟩ := An hb2; go_wp2_with (go_at_call 81; refine (Cr _).mono ?_; rintro r w2 ⟨rfl, hb3⟩; have hb4 := hb2.trans (hb3.mono hb2.size); obtain ⟨hc2, hf2⟩ := An hb4)
    refine bodyPost_ret (v := AA ((0, 0), 11)) ?_ rfl ⟨Dn HRR.out.symm, ?_⟩
    ·simp [AA, results, Tryz.results161, go_sem, hc2]
    exact (((((Below.refl _ _).alloc (Nat.le_refl _) _).trans (hb4.mono (by simp))).setCell (by simp) _).setCell (by simp) _)
theorem Ny (neg : Bool) (hi lo e : Int) (h0 : 0 ≤ hi) (h1 : hi < 18446744073709551616) (l0 : 0 ≤ lo) (l1 : lo < 18446744073709551616) (e0 : -4611686018427387904 ≤ e) (e1 : e ≤ 4611686018427387904) (w : World) (hg : Glob w) :
  Calls Tryz.prog 161 #[.bool neg, .int .u64 hi, .int .u64 lo, .int .i64 e] w fun r w' => r = .returned (AA (Bq neg (Ca hi lo) e)) ∧ Below w.heap.size w w' := by
 by_cases hv : Ca hi lo = 0
 ·have a : hi = 0 ∧ lo = 0 := by unfold Ca at hv; omega
  obtain ⟨rfl, rfl⟩ := a; exact QY neg e w
 refine Rc neg hi lo e _ rfl h0 h1 l0 l1 hv e0 e1 ?_ w hg; by_cases hz : hi = 0
 ·right; refine ⟨hz, ?_⟩; simp; intro h; subst hz; subst h; exact hv rfl
 left; simpa using hz
end Go.Proofs.YtakncilicoefdaaGreatDoor
namespace Th
open Go Go.Lib
def Ba (c : UInt8) : Bool := decide (97 ≤ c.toNat ∧ c.toNat ≤ 122) || decide (65 ≤ c.toNat ∧ c.toNat ≤ 90) || decide (c.toNat = 95)
def Bg (c : UInt8) : Bool := Ba c || Bo c
def AH : List UInt8 → Nat
 | [] => 0
 | c :: r => if Ba c = true then A8 Bg r + 1 else 0
def A7 (l : List UInt8) : Nat := A8 Bo l
def C9 (l : List UInt8) (n : Nat) : Nat := if l[n]? = some 46 ∧ 0 < A7 (l.drop (n + 1)) then n + 1 + A7 (l.drop (n + 1)) else n
def Bu (l : List UInt8) (n : Nat) : Nat := if l[n + 1]? = some 43 ∨ l[n + 1]? = some 45 then n + 2 else n + 1
def Ea (l : List UInt8) (n : Nat) : Nat := if (l[n]? = some 101 ∨ l[n]? = some 69) ∧ 0 < A7 (l.drop (Bu l n)) then Bu l n + A7 (l.drop (Bu l n)) else n
def CT (l : List UInt8) : Nat := if A7 l = 0 then 0 else Ea l (C9 l (A7 l))
def Ev : List (List UInt8) := [[124, 61], [43, 61], [45, 61], [42, 61], [47, 61], [61, 61], [33, 61], [60, 61], [62, 61], [47, 47], [46, 46]]
def oneL : List UInt8 := [124, 44, 46, 91, 93, 40, 41, 123, 125, 58, 59, 61, 60, 62, 43, 45, 42, 47, 37, 63]
def AY (l : List UInt8) : Nat := if l.take 3 = [47, 47, 61] then 3 else if l.take 2 ∈ Ev then 2 else match l with | c :: _ => if c ∈ oneL then 1 else 0 | [] => 0
def BA : List UInt8 → Nat × Nat × Nat
 | [] => (0, 0, 0)
 | c :: r => if Ba c = true then (1, 0, AH (c :: r)) else if c = 36 ∧ 0 < AH r then (2, 1, 1 + AH r) else if c = 46 ∧ 0 < AH r then (3, 1, 1 + AH r)
  else if Bo c = true then (4, 0, CT (c :: r)) else if AY (c :: r) = 0 then (0, 0, 0) else (6, 0, AY (c :: r))
/-! the document's -/
def AU : List UInt8 → Bool
 | [] => false
 | c :: r => Ba c && r.all Bg
def Ck (t : List UInt8) : Bool := !t.isEmpty && t.all Bo
def Em (c : UInt8) : Bool := !(decide (c = 101) || decide (c = 69))
def Cs (c : UInt8) : Bool := !decide (c = 46)
def DR : List UInt8 → List UInt8
 | [] => []
 | c :: r => if c = 43 ∨ c = 45 then r else c :: r
def BW (t : List UInt8) : List UInt8 := t.take (A8 Em t)
def Dt (t : List UInt8) : Bool :=
 (decide (A8 Em t = t.length) || Ck (DR (t.drop (A8 Em t + 1)))) &&
 (Ck ((BW t).take (A8 Cs (BW t))) && (decide (A8 Cs (BW t) = (BW t).length) || Ck ((BW t).drop (A8 Cs (BW t) + 1))))
def Dl (t : List UInt8) : Bool := decide (t ∈ Ev) || decide (t ∈ oneL.map fun c => [c]) || decide (t = [47, 47, 61])
def CR (t : List UInt8) : Nat :=
 if AU t = true then 1 else if t.head? = some 36 ∧ AU t.tail = true then 2 else if t.head? = some 46 ∧ AU t.tail = true then 3 else if Dt t = true then 4 else if Dl t = true then 6 else 0
def DZ (c : UInt8) : Bool := Ba c || Bo c || decide (c = 46) || decide (c = 43) || decide (c = 45) || decide (c = 61) || decide (c = 47)
def Uj : List UInt8 → Nat
 | [] => 0
 | _ :: r => 1 + A8 DZ r
/-! lemmas on runs -/
theorem Gz (p : UInt8 → Bool) : ∀ (a b : List UInt8), a.all p = true → A8 p (a ++ b) = a.length + A8 p b
 | [], b, _ => by simp
 | c :: a, b, h => by
  simp only [List.all_cons, Bool.and_eq_true] at h; show A8 p (c :: (a ++ b)) = _
  simp only [A8, if_pos h.1, List.length_cons]; rw [Gz p a b h.2]; omega
theorem FG (p : UInt8 → Bool) : ∀ (l : List UInt8) (m : Nat), (l.take m).all p = true ↔ min m l.length ≤ A8 p l
 | [], m => by simp
 | c :: r, 0 => by simp
 | c :: r, m + 1 => by
  rw [List.take_succ_cons, List.all_cons, Bool.and_eq_true, FG p r m, List.length_cons]; simp only [A8]; split
  ·rename_i h; simp only [h, true_and]; omega
  rename_i h; simp only [h, false_and, false_iff, Bool.false_eq_true]; omega
theorem GQ (a b : List UInt8) (h : a.all Bo = true) : A7 (a ++ b) = a.length + A7 b := Gz _ a b h
theorem L3 (c : UInt8) (r : List UInt8) (h : Bo c = false) : A7 (c :: r) = 0 := by simp [A7, A8, h]
theorem BV (t : List UInt8) : Ck t = true ↔ 0 < t.length ∧ t.all Bo = true := by
 unfold Ck; cases t <;> simp
theorem CZ (l : List UInt8) : AH l ≤ l.length := by
 cases l with
 | nil => exact Nat.le_refl _
 | cons c r => have := F5 Bg r; simp only [AH, List.length_cons]; split <;> omega
theorem F1 (t : List UInt8) (m : Nat) (h1 : 1 ≤ m) (h2 : m ≤ t.length) : AU (t.take m) = true ↔ m ≤ AH t := by
 obtain ⟨k, rfl⟩ : ∃ k, m = k + 1 := ⟨m - 1, by omega⟩
 cases t with
 | nil => simp at h2
 | cons c r =>
  rw [List.take_succ_cons]; simp only [AU, AH, Bool.and_eq_true, FG]; rw [List.length_cons] at h2; split
  ·rename_i h; simp only [h, true_and]; omega
  rename_i h; simp only [h, false_and, false_iff, Bool.false_eq_true]; omega
structure NumForm (u D F E : List UInt8) : Prop where
 cat : u = D ++ (F ++ E)
 d : Ck D = true
 f : F = [] ∨ ∃ x, F = 46 :: x ∧ Ck x = true
 e : E = [] ∨ ∃ c x, E = c :: x ∧ (c = 101 ∨ c = 69) ∧ Ck (DR x) = true
theorem LW (D : List UInt8) (h : D.all Bo = true) : D.all Em = true := by
 rw [List.all_eq_true] at h ⊢; intro c hc; have := h c hc; unfold Em; by_cases h1 : c = 101
 ·subst h1; cases this
 by_cases h2 : c = 69
 ·subst h2; cases this
 simp [h1, h2]
theorem Ob (D : List UInt8) (h : D.all Bo = true) : D.all Cs = true := by
 rw [List.all_eq_true] at h ⊢; intro c hc; have := h c hc; unfold Cs; by_cases h1 : c = 46
 ·subst h1; cases this
 simp [h1]
theorem Sd {u D F E : List UInt8} (h : NumForm u D F E) : Dt u = true := by
 obtain ⟨rfl, hd, hf, he⟩ := h; obtain ⟨hd1, hd2⟩ := (BV D).1 hd; have hDF : (D ++ F).all Em = true := by
  rw [List.all_append, Bool.and_eq_true]; refine ⟨LW D hd2, ?_⟩; rcases hf with rfl | ⟨x, rfl, hx⟩
  ·rfl
  rw [List.all_cons, Bool.and_eq_true]; exact ⟨rfl, LW x ((BV x).1 hx).2⟩
 have hr : A8 Em (D ++ (F ++ E)) = (D ++ F).length := by
  rw [← List.append_assoc, Gz _ _ _ hDF]; rcases he with rfl | ⟨c, x, rfl, hc, _⟩
  ·rfl
  have : Em c = false := by rcases hc with rfl | rfl <;> rfl
  simp [A8, this]
 have hh : BW (D ++ (F ++ E)) = D ++ F := by
  unfold BW; rw [hr, ← List.append_assoc, List.take_left]
 have hr2 : A8 Cs (D ++ F) = D.length := by
  rw [Gz _ _ _ (Ob D hd2)]; rcases hf with rfl | ⟨x, rfl, hx⟩
  ·rfl
  simp [A8, Cs]
 unfold Dt; rw [hh, hr, hr2, List.take_left, hd]; simp only [Bool.and_eq_true, Bool.or_eq_true, decide_eq_true_eq, Bool.true_and]; refine ⟨?_, ?_⟩
 ·rcases he with rfl | ⟨c, x, rfl, hc, hx⟩
  ·left; simp
  right
  rw [← List.append_assoc, ← List.drop_drop, List.drop_left]; exact hx
 rcases hf with rfl | ⟨x, rfl, hx⟩
 ·left; simp
 right
 rw [← List.drop_drop, List.drop_left]; exact hx
theorem GC (u : List UInt8) (h : Dt u = true) : ∃ D F E, NumForm u D F E := by
 unfold Dt at h; simp only [Bool.and_eq_true, Bool.or_eq_true, decide_eq_true_eq] at h; obtain ⟨h1, h2, h3⟩ := h; have hu : u = BW u ++ u.drop (A8 Em u) := (List.take_append_drop _ _).symm; have hh : BW u = (BW u).take (A8 Cs (BW u)) ++ (BW u).drop (A8 Cs (BW u)) := (List.take_append_drop _ _).symm; refine ⟨(BW u).take (A8 Cs (BW u)), (BW u).drop (A8 Cs (BW u)), u.drop (A8 Em u), ?_, h2, ?_, ?_⟩
 ·rw [← List.append_assoc, ← hh, ← hu]
 ·rcases h3 with h3 | h3
  ·left; rw [h3, List.drop_length]
  right
  have hl : A8 Cs (BW u) < (BW u).length := by
   rcases Nat.lt_or_ge (A8 Cs (BW u)) (BW u).length with h4 | h4
   ·exact h4
   rw [List.drop_eq_nil_of_le (by omega)] at h3; cases h3
  refine ⟨_, ?_, h3⟩; rw [List.drop_eq_getElem_cons hl]; have := Is Cs (BW u) hl; have e : (BW u)[A8 Cs (BW u)] = 46 := by simpa [Cs] using this
  rw [e]
 rcases h1 with h1 | h1
 ·left; rw [h1, List.drop_length]
 right
 have hl : A8 Em u < u.length := by
  rcases Nat.lt_or_ge (A8 Em u) u.length with h4 | h4
  ·exact h4
  rw [List.drop_eq_nil_of_le (by omega)] at h1; cases h1
 refine ⟨_, _, List.drop_eq_getElem_cons hl, ?_, h1⟩; have := Is Em u hl; exact Decidable.or_iff_not_imp_left.2 (by simpa [Em] using this)
theorem He (x : List UInt8) (h : Ck (DR x) = true) : (∃ c y, x = c :: y ∧ (c = 43 ∨ c = 45) ∧ Ck y = true) ∨ (∃ c y, x = c :: y ∧ Bo c = true ∧ Ck x = true) := by
 cases x with
 | nil => cases h
 | cons c y =>
  simp only [DR] at h; split at h
  ·exact Or.inl ⟨c, y, rfl, by assumption, h⟩
  refine Or.inr ⟨c, y, rfl, ?_, h⟩; have := ((BV _).1 h).2; rw [List.all_cons, Bool.and_eq_true] at this; exact this.1
theorem Ie (l : List UInt8) (n : Nat) : n ≤ Ea l n := by
 unfold Ea Bu; split <;> (try split) <;> omega
theorem O6 (l : List UInt8) (n : Nat) : n ≤ C9 l n := by
 unfold C9; split <;> omega
theorem ON (a E r : List UInt8) (he : E = [] ∨ ∃ c x, E = c :: x ∧ (c = 101 ∨ c = 69) ∧ Ck (DR x) = true) : (a ++ E).length ≤ Ea (a ++ E ++ r) a.length := by
 rcases he with rfl | ⟨c, x, rfl, hc, hx⟩
 ·have := Ie (a ++ [] ++ r) a.length; simpa using this
 have h0 : (a ++ c :: x ++ r)[a.length]? = some c := by simp
 have hx' := He x hx; have key : ∃ k, Bu (a ++ c :: x ++ r) a.length = k ∧ (a ++ c :: x).length ≤ k + A7 ((a ++ c :: x ++ r).drop k) ∧ 0 < A7 ((a ++ c :: x ++ r).drop k) := by
  rcases hx' with ⟨c2, y, rfl, hc2, hy⟩ | ⟨c2, y, rfl, hc2, hy⟩
  ·refine ⟨a.length + 2, ?_, ?_⟩
   ·unfold Bu
    have h1 : (a ++ c :: c2 :: y ++ r)[a.length + 1]? = some c2 := by simp
    rw [h1, if_pos]; simpa using hc2
   have h2 : (a ++ c :: c2 :: y ++ r).drop (a.length + 2) = y ++ r := by simp
   obtain ⟨h3, h4⟩ := (BV y).1 hy; rw [h2, GQ _ _ h4]; simp only [List.length_append, List.length_cons]; omega
  refine ⟨a.length + 1, ?_, ?_⟩
  ·unfold Bu
   have h1 : (a ++ c :: c2 :: y ++ r)[a.length + 1]? = some c2 := by simp
   rw [h1, if_neg]; intro h; rcases h with h | h <;> (injection h with h; subst h; cases hc2)
  have h2 : (a ++ c :: c2 :: y ++ r).drop (a.length + 1) = c2 :: y ++ r := by simp
  obtain ⟨h3, h4⟩ := (BV _).1 hy; rw [h2, GQ _ _ h4]; simp only [List.length_append, List.length_cons]; omega
 obtain ⟨k, hk, h1, h2⟩ := key; unfold Ea; rw [hk, h0, if_pos ⟨by simpa using hc, h2⟩]; exact h1
theorem Ko {E r : List UInt8} (he : E ≠ []) (h : E = [] ∨ ∃ c x, E = c :: x ∧ (c = 101 ∨ c = 69) ∧ Ck (DR x) = true) : A7 (E ++ r) = 0 ∧ (E ++ r)[0]? ≠ some 46 := by
 rcases h with h | ⟨c, x, rfl, hc, _⟩
 ·exact absurd h he
 refine ⟨L3 _ _ ?_, ?_⟩
 ·rcases hc with rfl | rfl <;> rfl
 rcases hc with rfl | rfl <;> simp
theorem Uy (u r : List UInt8) (h : Dt u = true) : u.length ≤ CT (u ++ r) := by
 obtain ⟨D, F, E, rfl, hd, hf, he⟩ := GC u h; obtain ⟨h1, h2⟩ := (BV D).1 hd; have hdig : A7 (D ++ (F ++ E) ++ r) = D.length + A7 (F ++ E ++ r) := by rw [List.append_assoc]; exact GQ _ _ h2
 unfold CT; rw [if_neg (by omega), hdig]; rcases hf with rfl | ⟨x, rfl, hx⟩
 ·by_cases hE : E = []
  ·subst hE
   have h3 := O6 (D ++ ([] ++ []) ++ r) (D.length + A7 ([] ++ [] ++ r)); have h4 := Ie (D ++ ([] ++ []) ++ r) (C9 (D ++ ([] ++ []) ++ r) (D.length + A7 ([] ++ [] ++ r))); simp only [List.append_nil] at h3 h4 ⊢; omega
  obtain ⟨h3, h4⟩ := Ko (r := r) hE he; rw [List.nil_append, h3, Nat.add_zero]; have h5 : C9 (D ++ E ++ r) D.length = D.length := by
   unfold C9; rw [if_neg]; rintro ⟨h6, _⟩; rw [List.append_assoc, List.getElem?_append_right (Nat.le_refl _), Nat.sub_self] at h6; exact h4 h6
  rw [h5]; exact ON D E r he
 obtain ⟨h3, h4⟩ := (BV x).1 hx; have h5 : A7 (46 :: x ++ E ++ r) = 0 := L3 _ _ rfl; rw [h5, Nat.add_zero]; have h6 : (D ++ (46 :: x ++ E) ++ r)[D.length]? = some 46 := by simp
 have h7 : (D ++ (46 :: x ++ E) ++ r).drop (D.length + 1) = x ++ (E ++ r) := by simp
 have h8 : C9 (D ++ (46 :: x ++ E) ++ r) D.length = D.length + 1 + (x.length + A7 (E ++ r)) := by
  unfold C9; rw [h7, GQ _ _ h4, if_pos ⟨h6, by omega⟩]
 rw [h8]; by_cases hE : E = []
 ·subst hE
  have := Ie (D ++ (46 :: x ++ []) ++ r) (D.length + 1 + (x.length + A7 ([] ++ r))); simp only [List.append_nil, List.length_append, List.length_cons] at this ⊢; omega
 rw [(Ko (r := r) hE he).1, Nat.add_zero]; have := ON (D ++ 46 :: x) E r he; have e1 : (D ++ 46 :: x).length = D.length + 1 + x.length := by simp only [List.length_append, List.length_cons]; omega
 rw [e1] at this; have e2 : D ++ 46 :: x ++ E = D ++ (46 :: x ++ E) := List.append_assoc _ _ _; rw [e2] at this; exact this
theorem FK (p : UInt8 → Bool) (l : List UInt8) : (l.take (A8 p l)).all p = true := (FG p l _).2 (by have := F5 p l; omega)
theorem Fg (l : List UInt8) : A7 l ≤ l.length := F5 _ l
theorem QX (t : List UInt8) (h : 0 < A7 t) : Dt (t.take (CT t)) = true ∧ CT t ≤ t.length := by
 have hD : Ck (t.take (A7 t)) = true := (BV _).2 ⟨by rw [List.length_take]; have := Fg t; omega, FK Bo t⟩; have hle := Fg t; have hF : ∃ F, (F = [] ∨ ∃ x, F = 46 :: x ∧ Ck x = true) ∧ t.take (C9 t (A7 t)) = t.take (A7 t) ++ F ∧ C9 t (A7 t) ≤ t.length := by
  unfold C9; split
  ·rename_i hp
   have hl := Fg (t.drop (A7 t + 1)); rw [List.length_drop] at hl; refine ⟨46 :: (t.drop (A7 t + 1)).take (A7 (t.drop (A7 t + 1))), Or.inr ⟨_, rfl, (BV _).2 ⟨?_, FK Bo _⟩⟩, ?_, ?_⟩
   ·rw [List.length_take, List.length_drop]; omega
   ·rw [Nat.add_assoc, List.take_add]
    congr 1
    obtain ⟨hl1, he1⟩ := List.getElem?_eq_some_iff.1 hp.1; rw [List.drop_eq_getElem_cons hl1, he1, Nat.add_comm 1, List.take_succ_cons]
   omega
  exact ⟨[], Or.inl rfl, by simp, hle⟩
 obtain ⟨F, hF1, hF2, hF3⟩ := hF; have hE : ∀ n, n ≤ t.length → ∃ E, (E = [] ∨ ∃ c x, E = c :: x ∧ (c = 101 ∨ c = 69) ∧ Ck (DR x) = true) ∧ t.take (Ea t n) = t.take n ++ E ∧ Ea t n ≤ t.length := by
  intro n hn; unfold Ea; split
  ·rename_i hp
   have hlt := Fg (t.drop (Bu t n)); rw [List.length_drop] at hlt; have hc : ∃ c, t[n]? = some c ∧ (c = 101 ∨ c = 69) := by rcases hp.1 with h | h <;> exact ⟨_, h, by simp⟩
   obtain ⟨c, hc1, hc2⟩ := hc; obtain ⟨hl1, he1⟩ := List.getElem?_eq_some_iff.1 hc1; have hD3 : Ck ((t.drop (Bu t n)).take (A7 (t.drop (Bu t n)))) = true := (BV _).2 ⟨by rw [List.length_take, List.length_drop]; omega, FK Bo _⟩; refine ⟨(t.drop n).take (Bu t n - n + A7 (t.drop (Bu t n))), Or.inr ?_, ?_, by omega⟩
   ·refine ⟨c, (t.drop (n + 1)).take (Bu t n - n - 1 + A7 (t.drop (Bu t n))), ?_, hc2, ?_⟩
    ·rw [List.drop_eq_getElem_cons hl1, he1]
     have : Bu t n - n + A7 (t.drop (Bu t n)) = (Bu t n - n - 1 + A7 (t.drop (Bu t n))) + 1 := by
      have : n + 1 ≤ Bu t n := by unfold Bu; split <;> omega
      omega
     rw [this, List.take_succ_cons]
    generalize hk : A7 (t.drop (Bu t n)) = k at hD3 hp hlt; by_cases hs : t[n + 1]? = some 43 ∨ t[n + 1]? = some 45
    ·have hx : Bu t n = n + 2 := by unfold Bu; rw [if_pos hs]
     rw [hx] at hD3 ⊢; have hc' : ∃ d, t[n + 1]? = some d ∧ (d = 43 ∨ d = 45) := by rcases hs with h | h <;> exact ⟨_, h, by simp⟩
     obtain ⟨d, hd1, hd2⟩ := hc'; obtain ⟨hl2, he2⟩ := List.getElem?_eq_some_iff.1 hd1; rw [List.drop_eq_getElem_cons hl2, he2, show n + 2 - n - 1 + k = k + 1 from by omega, List.take_succ_cons]; simp only [DR, if_pos hd2]; exact hD3
    have hx : Bu t n = n + 1 := by unfold Bu; rw [if_neg hs]
    rw [hx] at hD3 ⊢; rw [show n + 1 - n - 1 + k = k from by omega]; have : ∀ z : List UInt8, z.head? = t[n + 1]? ∨ z = [] → DR z = z := by
     intro z hz; cases z with
     | nil => rfl
     | cons a z =>
      rcases hz with hz | hz
      ·simp only [DR]
       rw [if_neg]; intro ha; apply hs; rw [← hz]; simpa using ha
      cases hz
    rw [this]
    ·exact hD3
    cases k with
    | zero => right; simp
    | succ k => left; rw [List.head?_take, if_neg (by omega), List.head?_drop]
   rw [← List.take_add]; congr 1
   have : n ≤ Bu t n := by unfold Bu; split <;> omega
   omega
  exact ⟨[], Or.inl rfl, by simp, hn⟩
 obtain ⟨E, hE1, hE2, hE3⟩ := hE _ hF3; unfold CT; rw [if_neg (by omega)]; refine ⟨Sd (D := t.take (A7 t)) (F := F) (E := E) ⟨?_, hD, hF1, hE1⟩, hE3⟩; rw [hE2, hF2, List.append_assoc]
/-! the longest piece -/
theorem Fr (c : UInt8) (x : List UInt8) (h : Dt (c :: x) = true) : Bo c = true := by
 obtain ⟨D, F, E, hc, hd, _, _⟩ := GC _ h; obtain ⟨h1, h2⟩ := (BV D).1 hd; cases D with
 | nil => simp at h1
 | cons d D =>
  rw [List.cons_append] at hc; injection hc with h3 h4; rw [List.all_cons, Bool.and_eq_true] at h2; rw [h3]; exact h2.1
def C8 : List UInt8 := 33 :: oneL
theorem GB : ∀ l ∈ Ev, l.length = 2 ∧ ∃ c ∈ C8, l.head? = some c := by decide
theorem H6 (c : UInt8) (x : List UInt8) (h : Dl (c :: x) = true) : c ∈ C8 := by
 unfold Dl at h; simp only [Bool.or_eq_true, decide_eq_true_eq] at h; rcases h with (h | h) | h
 ·obtain ⟨_, d, hd, h2⟩ := GB _ h
  rw [List.head?_cons] at h2; injection h2 with h2; rw [h2]; exact hd
 ·obtain ⟨d, hd, h2⟩ := List.mem_map.1 h
  injection h2 with h2; rw [← h2]; exact List.mem_cons_of_mem _ hd
 injection h with h1 _; rw [h1]; decide
theorem I2 : ∀ c ∈ C8, Ba c = false ∧ Bo c = false ∧ c ≠ 36 := by decide
theorem Jj (t : List UInt8) (m : Nat) (_h1 : 1 ≤ m) (h2 : m ≤ t.length) (h : Dl (t.take m) = true) : m ≤ AY t := by
 have hl : (t.take m).length = m := by rw [List.length_take]; omega
 unfold Dl at h; simp only [Bool.or_eq_true, decide_eq_true_eq] at h; rcases h with (h | h) | h
 ·have h3 := (GB _ h).1
  rw [hl] at h3; subst h3; unfold AY; split
  ·omega
  first | omega | (rw [if_pos h]; omega)
 ·obtain ⟨d, hd, h3⟩ := List.mem_map.1 h
  rw [← h3] at hl; have hm : m = 1 := by simpa using hl.symm
  subst hm; cases t with
  | nil => simp at h2
  | cons c r =>
   simp only [List.take_succ_cons, List.take_zero] at h3; injection h3 with h3; subst h3; unfold AY; split
   ·omega
   split
   ·omega
   show 1 ≤ if d ∈ oneL then 1 else 0
   rw [if_pos hd]; omega
 have hm : m = 3 := by rw [h] at hl; exact hl.symm
 subst hm; unfold AY; rw [if_pos h]; omega
theorem OO (t : List UInt8) (h : 0 < AY t) : Dl (t.take (AY t)) = true ∧ AY t ≤ t.length ∧ (t.take (AY t)).tail.all DZ = true := by
 unfold AY at h ⊢; split
 ·rename_i h3
  have : (t.take 3).length = 3 := by rw [h3]; rfl
  rw [List.length_take] at this; rw [h3]; exact ⟨by decide, by omega, by decide⟩
 rename_i h3
 rw [if_neg h3] at h; split
 ·rename_i h2
  have hl := (GB _ h2).1; rw [List.length_take] at hl; refine ⟨?_, by omega, ?_⟩
  ·unfold Dl; rw [decide_eq_true h2]; rfl
  have : ∀ l ∈ Ev, l.tail.all DZ = true := by decide
  exact this _ h2
 rename_i h2
 rw [if_neg h2] at h; cases t with
 | nil => exact absurd h (by simp)
 | cons c r =>
  by_cases hc : c ∈ oneL
  ·simp only [if_pos hc]
   refine ⟨?_, by simp, rfl⟩; unfold Dl; rw [show decide (List.take 1 (c :: r) ∈ oneL.map fun c => [c]) = true from decide_eq_true (List.mem_map.2 ⟨c, hc, rfl⟩)]; simp
  simp only [if_neg hc] at h; omega
theorem Eb (c : UInt8) (h : Bg c = true) : DZ c = true := by
 unfold Bg at h; unfold DZ; rw [h]; rfl
theorem Fy (t : List UInt8) (n : Nat) (h1 : 1 ≤ n) (h2 : n ≤ t.length) (h : (t.take n).tail.all DZ = true) : n ≤ Uj t := by
 obtain ⟨k, rfl⟩ : ∃ k, n = k + 1 := ⟨n - 1, by omega⟩
 cases t with
 | nil => simp at h2
 | cons c r =>
  rw [List.take_succ_cons, List.tail_cons, FG] at h; rw [List.length_cons] at h2; show k + 1 ≤ 1 + A8 DZ r
  omega
theorem GM {p q : UInt8 → Bool} (h : ∀ c, p c = true → q c = true) (l : List UInt8) (hl : l.all p = true) : l.all q = true := by
 rw [List.all_eq_true] at hl ⊢; exact fun c hc => h c (hl c hc)
theorem Te (c : UInt8) (h : Bo c = true) : DZ c = true := Eb c (by unfold Bg; rw [h, Bool.or_true])
theorem TY (u : List UInt8) (h : Dt u = true) : u.all DZ = true := by
 obtain ⟨D, F, E, rfl, hd, hf, he⟩ := GC u h; have hD : ∀ x, Ck x = true → x.all DZ = true := fun x hx => GM Te x ((BV x).1 hx).2
 rw [List.all_append, List.all_append, Bool.and_eq_true, Bool.and_eq_true]; refine ⟨hD D hd, ?_, ?_⟩
 ·rcases hf with rfl | ⟨x, rfl, hx⟩
  ·rfl
  rw [List.all_cons, hD x hx]; rfl
 rcases he with rfl | ⟨c, x, rfl, hc, hx⟩
 ·rfl
 have h1 : DZ c = true := by rcases hc with rfl | rfl <;> rfl
 rw [List.all_cons, h1, Bool.true_and]; rcases He x hx with ⟨d, y, rfl, h2, h3⟩ | ⟨d, y, rfl, h2, h3⟩
 ·have h4 : DZ d = true := by rcases h2 with rfl | rfl <;> rfl
  rw [List.all_cons, h4, hD y h3]; rfl
 exact hD _ h3
theorem J2 (t : List UInt8) (h1 : AU t = false) (h2 : t.head? = some 36 → AU t.tail = false) (h3 : t.head? = some 46 → AU t.tail = false) : CR t = if Dt t = true then 4 else if Dl t = true then 6 else 0 := by
 unfold CR; rw [h1, if_neg (by decide), if_neg (fun h => by rw [h2 h.1] at h; cases h.2), if_neg (fun h => by rw [h3 h.1] at h; cases h.2)]
theorem CC (r : List UInt8) (m : Nat) (h2 : m ≤ r.length) : AU (r.take m) = true ↔ 1 ≤ m ∧ m ≤ AH r := by
 rcases Nat.eq_zero_or_pos m with rfl | h
 ·simp [AU]
 rw [F1 r m h h2]; omega
theorem FZ (c : UInt8) (r : List UInt8) :
  (BA (c :: r) = (0, 0, 0) ∧ ∀ m, 1 ≤ m → m ≤ (c :: r).length → CR ((c :: r).take m) = 0) ∨
  ∃ k n, BA (c :: r) = (k, if k = 2 ∨ k = 3 then 1 else 0, n) ∧ k ≠ 0 ∧ 1 ≤ n ∧ n ≤ Uj (c :: r) ∧ n ≤ (c :: r).length ∧ CR ((c :: r).take n) = k ∧ ∀ m, n < m → m ≤ (c :: r).length → CR ((c :: r).take m) = 0 := by
 have hcut : ∀ m, 1 ≤ m → (c :: r).take m = c :: r.take (m - 1) := fun m hm => by
  obtain ⟨k, rfl⟩ : ∃ k, m = k + 1 := ⟨m - 1, by omega⟩
  rfl
 by_cases hL : Ba c = true
 ·have h36 : c ≠ 36 := by rintro rfl; cases hL
  have h46 : c ≠ 46 := by rintro rfl; cases hL
  have hdg : Bo c = false := by
   cases h : Bo c with
   | false => rfl
   | true =>
    exfalso; unfold Bo at h; unfold Ba at hL; simp only [Bool.and_eq_true, Bool.or_eq_true, decide_eq_true_eq] at h hL; omega
  have hn : AH (c :: r) = A8 Bg r + 1 := by simp only [AH]; rw [if_pos hL]
  have hle := CZ (c :: r); refine Or.inr ⟨1, AH (c :: r), ?_, by decide, by omega, ?_, hle, ?_, fun m h1 h2 => ?_⟩
  ·simp only [BA]; rw [if_pos hL]; rfl
  ·refine Fy _ _ (by omega) hle ?_
   rw [hn, List.take_succ_cons, List.tail_cons]; exact GM Eb _ (FK Bg r)
  ·unfold CR
   rw [if_pos ((F1 _ _ (by omega) hle).2 (Nat.le_refl _))]
  have hx : AU ((c :: r).take m) = false := by
   cases h : AU ((c :: r).take m) with
   | false => rfl
   | true => have := (F1 _ _ (by omega) h2).1 h; omega
  rw [J2 _ hx (fun h => by rw [hcut m (by omega)] at h; injection h with h; exact absurd h h36) (fun h => by rw [hcut m (by omega)] at h; injection h with h; exact absurd h h46)]; rw [hcut m (by omega), if_neg (fun h => by rw [Fr _ _ h] at hdg; cases hdg), if_neg (fun h => by rw [(I2 _ (H6 _ _ h)).1] at hL; cases hL)]
 have hL' : Ba c = false := by simpa using hL
 have hnm : ∀ m, 1 ≤ m → AU ((c :: r).take m) = false := fun m hm => by rw [hcut m hm]; simp only [AU, hL', Bool.false_and]
 have htl : ∀ m, 1 ≤ m → ((c :: r).take m).tail = r.take (m - 1) := fun m hm => by rw [hcut m hm]; rfl
 have hhd : ∀ m, 1 ≤ m → ((c :: r).take m).head? = some c := fun m hm => by rw [hcut m hm]; rfl
 by_cases h36 : c = 36 ∧ 0 < AH r
 ·obtain ⟨rfl, hp⟩ := h36
  have hle := CZ r; have hnz : ∀ m, 1 ≤ m → CR ((36 :: r).take m) = if AU (r.take (m - 1)) = true then 2 else 0 := fun m hm => by
   unfold CR; rw [hnm m hm, if_neg (by decide), htl m hm, hhd m hm]; split
   ·rename_i h; rw [if_pos h.2]
   rename_i h
   rw [if_neg (by rintro ⟨h, _⟩; injection h with h; revert h; decide), hcut m hm, if_neg (fun h => by have := Fr _ _ h; revert this; decide), if_neg (fun h => by have := H6 _ _ h; revert this; decide), if_neg (fun h2 => h (by first | exact ⟨rfl, h2⟩ | exact ⟨trivial, h2⟩))]
  refine Or.inr ⟨2, 1 + AH r, ?_, by decide, by omega, ?_, by rw [List.length_cons]; omega, ?_, fun m h1 h2 => ?_⟩
  ·simp only [BA]; rw [if_neg (by decide), if_pos (by first | exact ⟨rfl, hp⟩ | exact ⟨trivial, hp⟩)]; rfl
  ·refine Fy _ _ (by omega) (by rw [List.length_cons]; omega) ?_
   rw [Nat.add_comm, List.take_succ_cons, List.tail_cons]; have := (CC r (AH r) hle).2 ⟨hp, Nat.le_refl _⟩; cases hr : r.take (AH r) with
   | nil => rfl
   | cons d x =>
    rw [hr] at this; simp only [AU, Bool.and_eq_true] at this; rw [List.all_cons, Eb d (by unfold Bg; rw [this.1]; rfl), GM Eb x this.2]; rfl
  ·rw [hnz _ (by omega), if_pos]
   rw [show 1 + AH r - 1 = AH r from by omega]; exact (CC r _ hle).2 ⟨hp, Nat.le_refl _⟩
  rw [List.length_cons] at h2; rw [hnz _ (by omega), if_neg]; intro h; have := (CC r (m - 1) (by omega)).1 h; omega
 by_cases h46 : c = 46 ∧ 0 < AH r
 ·obtain ⟨rfl, hp⟩ := h46
  have hle := CZ r; have hr : ∃ d x, r = d :: x ∧ Ba d = true := by
   cases r with
   | nil => cases hp
   | cons d x =>
    refine ⟨d, x, rfl, ?_⟩; simp only [AH] at hp; split at hp
    ·assumption
    omega
  have hs : AY (46 :: r) ≤ 1 := by
   obtain ⟨d, x, rfl, hd⟩ := hr; unfold AY; rw [if_neg (by intro h; injection h with h; revert h; decide), if_neg]
   ·show (if (46 : UInt8) ∈ oneL then 1 else 0) ≤ 1
    split <;> omega
   intro h; have : ∀ l ∈ Ev, l.head? = some 46 → l = [46, 46] := by decide
   have := this _ h rfl; injection this with _ this; injection this with this; subst this; cases hd
  have hnz : ∀ m, 2 ≤ m → m ≤ (46 :: r).length → CR ((46 :: r).take m) = if AU (r.take (m - 1)) = true then 3 else 0 := fun m hm hm2 => by
   unfold CR; rw [hnm m (by omega), if_neg (by decide), htl m (by omega), hhd m (by omega), if_neg (by rintro ⟨h, _⟩; injection h with h; revert h; decide)]; split
   ·rename_i h; rw [if_pos h.2]
   rename_i h
   rw [if_neg (fun h => by rw [hcut m (by omega)] at h; have := Fr _ _ h; revert this; decide), if_neg (fun h => by have := Jj _ m (by omega) hm2 h; omega), if_neg (fun h2 => h (by first | exact ⟨rfl, h2⟩ | exact ⟨trivial, h2⟩))]
  refine Or.inr ⟨3, 1 + AH r, ?_, by decide, by omega, ?_, by rw [List.length_cons]; omega, ?_, fun m h1 h2 => ?_⟩
  ·simp only [BA]; rw [if_neg (by decide), if_neg (by rintro ⟨h, _⟩; revert h; decide), if_pos (by first | exact ⟨rfl, hp⟩ | exact ⟨trivial, hp⟩)]; rfl
  ·refine Fy _ _ (by omega) (by rw [List.length_cons]; omega) ?_
   rw [Nat.add_comm, List.take_succ_cons, List.tail_cons]; have := (CC r (AH r) hle).2 ⟨hp, Nat.le_refl _⟩; cases hr : r.take (AH r) with
   | nil => rfl
   | cons d x =>
    rw [hr] at this; simp only [AU, Bool.and_eq_true] at this; rw [List.all_cons, Eb d (by unfold Bg; rw [this.1]; rfl), GM Eb x this.2]; rfl
  ·rw [hnz _ (by omega) (by rw [List.length_cons]; omega), if_pos]
   rw [show 1 + AH r - 1 = AH r from by omega]; exact (CC r _ hle).2 ⟨hp, Nat.le_refl _⟩
  rw [hnz _ (by omega) h2, if_neg]; rw [List.length_cons] at h2; intro h; have := (CC r (m - 1) (by omega)).1 h; omega
 have hrest : ∀ m, 1 ≤ m → m ≤ (c :: r).length → CR ((c :: r).take m) = if Dt ((c :: r).take m) = true then 4 else if Dl ((c :: r).take m) = true then 6 else 0 := fun m hm hm2 => by
  rw [List.length_cons] at hm2; refine J2 _ (hnm m hm) (fun h => ?_) (fun h => ?_)
  ·rw [hhd m hm] at h; injection h with h
   rw [htl m hm]; cases hb : AU (r.take (m - 1)) with
   | false => rfl
   | true => have := (CC r (m - 1) (by omega)).1 hb; exact absurd ⟨h, by omega⟩ h36
  rw [hhd m hm] at h; injection h with h; rw [htl m hm]; cases hb : AU (r.take (m - 1)) with
  | false => rfl
  | true => have := (CC r (m - 1) (by omega)).1 hb; exact absurd ⟨h, by omega⟩ h46
 by_cases hdg : Bo c = true
 ·have hpos : 0 < A7 (c :: r) := by simp [A7, A8, hdg]
  obtain ⟨h1, h2⟩ := QX (c :: r) hpos; have hn1 : 1 ≤ CT (c :: r) := by
   have h3 := O6 (c :: r) (A7 (c :: r)); have h4 := Ie (c :: r) (C9 (c :: r) (A7 (c :: r))); unfold CT; rw [if_neg (by omega)]; omega
  refine Or.inr ⟨4, CT (c :: r), ?_, by decide, hn1, ?_, h2, ?_, fun m h3 h4 => ?_⟩
  ·simp only [BA]; rw [if_neg hL, if_neg h36, if_neg h46, if_pos hdg]; rfl
  ·refine Fy _ _ hn1 h2 ?_
   have := TY _ h1; rw [hcut _ hn1] at this ⊢; rw [List.all_cons, Bool.and_eq_true] at this; exact this.2
  ·rw [hrest _ hn1 h2, if_pos h1]
  rw [hrest m (by omega) h4, if_neg, if_neg]
  ·intro h
   rw [hcut m (by omega)] at h; rw [(I2 _ (H6 _ _ h)).2.1] at hdg; cases hdg
  intro h; have := Uy _ ((c :: r).drop m) h; rw [List.take_append_drop, List.length_take] at this; omega
 have hnn : ∀ m, 1 ≤ m → ¬ Dt ((c :: r).take m) = true := fun m hm h => by rw [hcut m hm] at h; exact hdg (Fr _ _ h)
 by_cases hs : AY (c :: r) = 0
 ·refine Or.inl ⟨?_, fun m h1 h2 => ?_⟩
  ·simp only [BA]; rw [if_neg hL, if_neg h36, if_neg h46, if_neg hdg, if_pos hs]
  rw [hrest m h1 h2, if_neg (hnn m h1), if_neg (fun h => by have := Jj _ m h1 h2 h; omega)]
 obtain ⟨h1, h2, h3⟩ := OO (c :: r) (by omega); refine Or.inr ⟨6, AY (c :: r), ?_, by decide, by omega, Fy _ _ (by omega) h2 h3, h2, ?_, fun m h4 h5 => ?_⟩
 ·simp only [BA]; rw [if_neg hL, if_neg h36, if_neg h46, if_neg hdg, if_neg hs]; rfl
 ·rw [hrest _ (by omega) h2, if_neg (hnn _ (by omega)), if_pos h1]
 rw [hrest m (by omega) h5, if_neg (hnn m (by omega)), if_neg (fun h => by have := Jj _ m (by omega) h5 h; omega)]
end Th
