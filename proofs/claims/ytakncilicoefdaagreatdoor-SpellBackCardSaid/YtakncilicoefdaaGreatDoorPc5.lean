/- Lemmas and contracts. Conditions: those that each lemma names. -/
import Derived.Test.YtakncilicoefdaaGreatDoorPc4
import Derived.Test.YtakncilicoefdaaGreatDoorPc2
set_option maxRecDepth 100000
set_option maxHeartbeats 4000000
namespace Go.Proofs.YtakncilicoefdaaGreatDoor
open Go Go.RowKit Go.Proofs Th
attribute [local go_sem] Above.cell
def numRes (p : (Int × Int) × Int) : Value := .tuple #[.agg #[.int .i64 p.1.1, .int .i64 p.1.2], .int .i64 p.2]
theorem made_zero (neg : Bool) (e : Int) (w : World) : Calls Tryz.prog 161 #[.bool neg, .int .u64 0, .int .u64 0, .int .i64 e] w fun r w' => r = .returned (numRes ((0, 0), 0)) ∧ Below w.heap.size w w' := by
 go_enter Tryz.func161, Tryz.ntmps161
 go_wp2_with fail
 refine (num_zero _).mono ?_; rintro r w1 ⟨rfl, hb⟩; obtain ⟨hc, hf⟩ := bcell hb; go_wp2
 refine bodyPost_ret (v := numRes ((0, 0), 0)) ?_ rfl ⟨rfl, ?_⟩
 ·simp [numRes, results, Tryz.results161, go_sem, hc]
 exact (((((Below.refl _ _).alloc (Nat.le_refl _) _).trans (hb.mono (by simp))).setCell (by simp) _).setCell (by simp) _)
theorem num_res {p q : (Int × Int) × Int} (h : p = q) : Ending.returned (numRes p) = .returned (numRes q) := by rw [h]
theorem made_some (neg : Bool) (hi lo e : Int) (V : Nat) (hV : V = wide hi lo) (h0 : 0 ≤ hi) (h1 : hi < 18446744073709551616) (l0 : 0 ≤ lo) (l1 : lo < 18446744073709551616) (hv : V ≠ 0) (e0 : -4611686018427387904 ≤ e) (e1 : e ≤ 4611686018427387904)
  (hz : (hi == 0) = false ∨ (hi = 0 ∧ (lo == 0) = false)) (w : World) (hg : Glob w) : Calls Tryz.prog 161 #[.bool neg, .int .u64 hi, .int .u64 lo, .int .i64 e] w fun r w' =>
  r = .returned (numRes (norm neg V e)) ∧ Below w.heap.size w w' := by
 have HV := Keep.mk hv; have HL := Keep.mk (wide_lt hi lo h1 l1); rw [← hV] at HL; have HS := Keep.mk hV; clear hv hV; rcases hz with hz | ⟨rfl, hz⟩
 all_goals
  go_enter Tryz.func161, Tryz.ntmps161
  go_wp2_with fail
  go_loopw [1, 2, 3] (fun a b c wr => ∃ (x y f : Int) (k : Nat), 0 ≤ x ∧ x < 18446744073709551616 ∧ 0 ≤ y ∧ y < 18446744073709551616 ∧ Keep (wide x y ≠ 0) ∧ Keep (wide x y * 10 ^ k = V) ∧ Keep (f = e + k) ∧ a = .int .u64 x ∧ b = .int .u64 y ∧ c = .int .i64 f ∧
   Below (w.alloc (.cells #[.int .i64 0, .int .i64 0] 23)).heap.size (w.alloc (.cells #[.int .i64 0, .int .i64 0] 23)) wr) (fun a b _ _ => wide (intOf a) (intOf b))
  case atStart => exact ⟨_, lo, e, 0, h0, h1, l0, l1, ⟨by rw [← HS.out]; exact HV.out⟩, ⟨by rw [HS.out]; simp⟩, ⟨by simp⟩, rfl, rfl, rfl, Below.refl _ _⟩
  case round =>
   obtain ⟨x, y, f, k, x0, x1, y0, y1, hn, hk, hf, rfl, rfl, rfl, hb⟩ := hrel; have hk39 := pow_small k _ V hn.out hk.out HL.out; have f0 : -4611686018427387904 ≤ f := by have := hf.out; omega
   have f1 : f ≤ 4611686018427387944 := by have := hf.out; omega
   clear h0 h1 l0 l1 e0 e1 hz HS; have HM := Keep.mk (wide_mod x y x0 y0); by_cases hm : wide x y % 10 = 0
   ·have hd : (dm10 (x % 10) y != 0) = false := by rw [HM.out, hm]; rfl
    have HD := Keep.mk (wide_div x y x0 y0); have HB := Keep.mk (dq10_bd x y x0 y0 y1); have HMM := Keep.mk hm; clear hm; go_wp2_with (go_at_call 174; refine (div64_ten' _ _ (by omega) (by omega) y0 y1 _).mono ?_; rintro r w1 ⟨rfl, hb1⟩)
    refine ⟨⟨x / 10, dq10 (x % 10) y, f + 1, k + 1, by omega, by omega, HB.out.1, HB.out.2, ⟨?_⟩, ⟨?_⟩, ⟨?_⟩, rfl, rfl, rfl, hb.trans (hb1.mono hb.size)⟩, ?_⟩
    ·rw [HD.out]; have := HMM.out; have := hn.out; omega
    ·have h2 := HMM.out; have h3 := hk.out; rw [HD.out, Nat.pow_succ, Nat.mul_comm (10 ^ k), ← Nat.mul_assoc, show wide x y / 10 * 10 = wide x y by omega]; exact h3
    ·have := hf.out; omega
    simp only [intOf]; rw [HD.out]; have := HMM.out; have := hn.out; omega
   have hd : (dm10 (x % 10) y != 0) = true := by rw [HM.out]; simp; omega
   have hfin : norm neg V e = norm neg (wide x y) f := by rw [← hk.out, norm_shift, hf.out]
   have hc18 : wr.cell? ⟨0, 18, none⟩ = some (.int .u64 ((10 ^ 18 : Nat) : Int)) := (hg.below (((Below.refl _ _).alloc (Nat.le_refl _) _).trans (hb.mono (by simp)))).tens 18 (by omega); rcases made_cases neg x y f x0 y0 hm with ⟨t0, hr⟩ | ⟨t0, t1, hr⟩ | ⟨t0, t1, t2, hr⟩ | ⟨t0, t1, t2, t3, hr⟩ | ⟨t0, t1, t2, t3, y2, hr⟩
   case inr.inr.inr.inr =>
    have HRR := Keep.mk (hfin.trans hr); clear hr hm hfin; go_wp2_with fail
    refine (div64_ten' _ _ (by omega) (by omega) y0 y1 _).mono ?_; rintro r w1 ⟨rfl, hb1⟩; have hb2 := hb.trans (hb1.mono hb.size); have c18 := hb1.cell (p := ⟨0, 18, none⟩) (lt_of_cell hc18); rw [hc18] at c18; obtain ⟨hc, hf'⟩ := bcell hb2; cases neg
    ·go_wp2
     refine bodyPost_ret (v := numRes ((y, f), 0)) ?_ rfl ⟨num_res HRR.out.symm, ?_⟩
     ·simp [numRes, results, Tryz.results161, go_sem, hc]
     exact (((((Below.refl _ _).alloc (Nat.le_refl _) _).trans (hb2.mono (by simp))).setCell (by simp) _).setCell (by simp) _)
    go_wp2
    refine bodyPost_ret (v := numRes ((-y, f), 0)) ?_ rfl ⟨num_res HRR.out.symm, ?_⟩
    ·simp [numRes, results, Tryz.results161, go_sem, hc]
    exact (((((Below.refl _ _).alloc (Nat.le_refl _) _).trans (hb2.mono (by simp))).setCell (by simp) _).setCell (by simp) _)
   all_goals
    have HRR := Keep.mk (hfin.trans hr); clear hr hm hfin; go_wp2_with fail
    refine (div64_ten' _ _ (by omega) (by omega) y0 y1 _).mono ?_; rintro r w1 ⟨rfl, hb1⟩; have hb2 := hb.trans (hb1.mono hb.size); have c18 := hb1.cell (p := ⟨0, 18, none⟩) (lt_of_cell hc18); rw [hc18] at c18; obtain ⟨hc, hf'⟩ := bcell hb2; go_wp2_with (go_at_call 81; refine (num_zero _).mono ?_; rintro r w2 ⟨rfl, hb3⟩; have hb4 := hb2.trans (hb3.mono hb2.size); obtain ⟨hc2, hf2⟩ := bcell hb4)
    refine bodyPost_ret (v := numRes ((0, 0), 11)) ?_ rfl ⟨num_res HRR.out.symm, ?_⟩
    ·simp [numRes, results, Tryz.results161, go_sem, hc2]
    exact (((((Below.refl _ _).alloc (Nat.le_refl _) _).trans (hb4.mono (by simp))).setCell (by simp) _).setCell (by simp) _)
theorem num_made (neg : Bool) (hi lo e : Int) (h0 : 0 ≤ hi) (h1 : hi < 18446744073709551616) (l0 : 0 ≤ lo) (l1 : lo < 18446744073709551616) (e0 : -4611686018427387904 ≤ e) (e1 : e ≤ 4611686018427387904) (w : World) (hg : Glob w) :
  Calls Tryz.prog 161 #[.bool neg, .int .u64 hi, .int .u64 lo, .int .i64 e] w fun r w' => r = .returned (numRes (norm neg (wide hi lo) e)) ∧ Below w.heap.size w w' := by
 by_cases hv : wide hi lo = 0
 ·have a : hi = 0 ∧ lo = 0 := by unfold wide at hv; omega
  obtain ⟨rfl, rfl⟩ := a; exact made_zero neg e w
 refine made_some neg hi lo e _ rfl h0 h1 l0 l1 hv e0 e1 ?_ w hg; by_cases hz : hi = 0
 ·right; refine ⟨hz, ?_⟩; simp; intro h; subst hz; subst h; exact hv rfl
 left; simpa using hz
end Go.Proofs.YtakncilicoefdaaGreatDoor
namespace Th
open Go Go.Lib
def letF (c : UInt8) : Bool := decide (97 ≤ c.toNat ∧ c.toNat ≤ 122) || decide (65 ≤ c.toNat ∧ c.toNat ≤ 90) || decide (c.toNat = 95)
def nameC (c : UInt8) : Bool := letF c || isDg c
def nameN : List UInt8 → Nat
 | [] => 0
 | c :: r => if letF c = true then runB nameC r + 1 else 0
def digN (l : List UInt8) : Nat := runB isDg l
def dotN (l : List UInt8) (n : Nat) : Nat := if l[n]? = some 46 ∧ 0 < digN (l.drop (n + 1)) then n + 1 + digN (l.drop (n + 1)) else n
def expAt (l : List UInt8) (n : Nat) : Nat := if l[n + 1]? = some 43 ∨ l[n + 1]? = some 45 then n + 2 else n + 1
def expN (l : List UInt8) (n : Nat) : Nat := if (l[n]? = some 101 ∨ l[n]? = some 69) ∧ 0 < digN (l.drop (expAt l n)) then expAt l n + digN (l.drop (expAt l n)) else n
def numN (l : List UInt8) : Nat := if digN l = 0 then 0 else expN l (dotN l (digN l))
def twoL : List (List UInt8) := [[124, 61], [43, 61], [45, 61], [42, 61], [47, 61], [61, 61], [33, 61], [60, 61], [62, 61], [47, 47], [46, 46]]
def oneL : List UInt8 := [124, 44, 46, 91, 93, 40, 41, 123, 125, 58, 59, 61, 60, 62, 43, 45, 42, 47, 37, 63]
def signN (l : List UInt8) : Nat := if l.take 3 = [47, 47, 61] then 3 else if l.take 2 ∈ twoL then 2 else match l with | c :: _ => if c ∈ oneL then 1 else 0 | [] => 0
def tokP : List UInt8 → Nat × Nat × Nat
 | [] => (0, 0, 0)
 | c :: r => if letF c = true then (1, 0, nameN (c :: r)) else if c = 36 ∧ 0 < nameN r then (2, 1, 1 + nameN r) else if c = 46 ∧ 0 < nameN r then (3, 1, 1 + nameN r)
  else if isDg c = true then (4, 0, numN (c :: r)) else if signN (c :: r) = 0 then (0, 0, 0) else (6, 0, signN (c :: r))
/-! the document's -/
def isName : List UInt8 → Bool
 | [] => false
 | c :: r => letF c && r.all nameC
def isDigs (t : List UInt8) : Bool := !t.isEmpty && t.all isDg
def notE (c : UInt8) : Bool := !(decide (c = 101) || decide (c = 69))
def notDot (c : UInt8) : Bool := !decide (c = 46)
def unsign : List UInt8 → List UInt8
 | [] => []
 | c :: r => if c = 43 ∨ c = 45 then r else c :: r
def headE (t : List UInt8) : List UInt8 := t.take (runB notE t)
def isNum (t : List UInt8) : Bool :=
 (decide (runB notE t = t.length) || isDigs (unsign (t.drop (runB notE t + 1)))) &&
 (isDigs ((headE t).take (runB notDot (headE t))) && (decide (runB notDot (headE t) = (headE t).length) || isDigs ((headE t).drop (runB notDot (headE t) + 1))))
def isSignT (t : List UInt8) : Bool := decide (t ∈ twoL) || decide (t ∈ oneL.map fun c => [c]) || decide (t = [47, 47, 61])
def plainF (t : List UInt8) : Nat :=
 if isName t = true then 1 else if t.head? = some 36 ∧ isName t.tail = true then 2 else if t.head? = some 46 ∧ isName t.tail = true then 3 else if isNum t = true then 4 else if isSignT t = true then 6 else 0
def longC (c : UInt8) : Bool := letF c || isDg c || decide (c = 46) || decide (c = 43) || decide (c = 45) || decide (c = 61) || decide (c = 47)
def longF : List UInt8 → Nat
 | [] => 0
 | _ :: r => 1 + runB longC r
/-! lemmas on runs -/
theorem runB_all (p : UInt8 → Bool) : ∀ (a b : List UInt8), a.all p = true → runB p (a ++ b) = a.length + runB p b
 | [], b, _ => by simp
 | c :: a, b, h => by
  simp only [List.all_cons, Bool.and_eq_true] at h; show runB p (c :: (a ++ b)) = _
  simp only [runB, if_pos h.1, List.length_cons]; rw [runB_all p a b h.2]; omega
theorem runB_take (p : UInt8 → Bool) : ∀ (l : List UInt8) (m : Nat), (l.take m).all p = true ↔ min m l.length ≤ runB p l
 | [], m => by simp
 | c :: r, 0 => by simp
 | c :: r, m + 1 => by
  rw [List.take_succ_cons, List.all_cons, Bool.and_eq_true, runB_take p r m, List.length_cons]; simp only [runB]; split
  ·rename_i h; simp only [h, true_and]; omega
  rename_i h; simp only [h, false_and, false_iff, Bool.false_eq_true]; omega
theorem digN_all (a b : List UInt8) (h : a.all isDg = true) : digN (a ++ b) = a.length + digN b := runB_all _ a b h
theorem digN_stop (c : UInt8) (r : List UInt8) (h : isDg c = false) : digN (c :: r) = 0 := by simp [digN, runB, h]
theorem isDigs_iff (t : List UInt8) : isDigs t = true ↔ 0 < t.length ∧ t.all isDg = true := by
 unfold isDigs; cases t <;> simp
theorem nameN_le (l : List UInt8) : nameN l ≤ l.length := by
 cases l with
 | nil => exact Nat.le_refl _
 | cons c r => have := runB_le nameC r; simp only [nameN, List.length_cons]; split <;> omega
theorem isName_take (t : List UInt8) (m : Nat) (h1 : 1 ≤ m) (h2 : m ≤ t.length) : isName (t.take m) = true ↔ m ≤ nameN t := by
 obtain ⟨k, rfl⟩ : ∃ k, m = k + 1 := ⟨m - 1, by omega⟩
 cases t with
 | nil => simp at h2
 | cons c r =>
  rw [List.take_succ_cons]; simp only [isName, nameN, Bool.and_eq_true, runB_take]; rw [List.length_cons] at h2; split
  ·rename_i h; simp only [h, true_and]; omega
  rename_i h; simp only [h, false_and, false_iff, Bool.false_eq_true]; omega
structure NumForm (u D F E : List UInt8) : Prop where
 cat : u = D ++ (F ++ E)
 d : isDigs D = true
 f : F = [] ∨ ∃ x, F = 46 :: x ∧ isDigs x = true
 e : E = [] ∨ ∃ c x, E = c :: x ∧ (c = 101 ∨ c = 69) ∧ isDigs (unsign x) = true
theorem notE_digs (D : List UInt8) (h : D.all isDg = true) : D.all notE = true := by
 rw [List.all_eq_true] at h ⊢; intro c hc; have := h c hc; unfold notE; by_cases h1 : c = 101
 ·subst h1; cases this
 by_cases h2 : c = 69
 ·subst h2; cases this
 simp [h1, h2]
theorem notDot_digs (D : List UInt8) (h : D.all isDg = true) : D.all notDot = true := by
 rw [List.all_eq_true] at h ⊢; intro c hc; have := h c hc; unfold notDot; by_cases h1 : c = 46
 ·subst h1; cases this
 simp [h1]
theorem isNum_of {u D F E : List UInt8} (h : NumForm u D F E) : isNum u = true := by
 obtain ⟨rfl, hd, hf, he⟩ := h; obtain ⟨hd1, hd2⟩ := (isDigs_iff D).1 hd; have hDF : (D ++ F).all notE = true := by
  rw [List.all_append, Bool.and_eq_true]; refine ⟨notE_digs D hd2, ?_⟩; rcases hf with rfl | ⟨x, rfl, hx⟩
  ·rfl
  rw [List.all_cons, Bool.and_eq_true]; exact ⟨rfl, notE_digs x ((isDigs_iff x).1 hx).2⟩
 have hr : runB notE (D ++ (F ++ E)) = (D ++ F).length := by
  rw [← List.append_assoc, runB_all _ _ _ hDF]; rcases he with rfl | ⟨c, x, rfl, hc, _⟩
  ·rfl
  have : notE c = false := by rcases hc with rfl | rfl <;> rfl
  simp [runB, this]
 have hh : headE (D ++ (F ++ E)) = D ++ F := by
  unfold headE; rw [hr, ← List.append_assoc, List.take_left]
 have hr2 : runB notDot (D ++ F) = D.length := by
  rw [runB_all _ _ _ (notDot_digs D hd2)]; rcases hf with rfl | ⟨x, rfl, hx⟩
  ·rfl
  simp [runB, notDot]
 unfold isNum; rw [hh, hr, hr2, List.take_left, hd]; simp only [Bool.and_eq_true, Bool.or_eq_true, decide_eq_true_eq, Bool.true_and]; refine ⟨?_, ?_⟩
 ·rcases he with rfl | ⟨c, x, rfl, hc, hx⟩
  ·left; simp
  right
  rw [← List.append_assoc, ← List.drop_drop, List.drop_left]; exact hx
 rcases hf with rfl | ⟨x, rfl, hx⟩
 ·left; simp
 right
 rw [← List.drop_drop, List.drop_left]; exact hx
theorem isNum_form (u : List UInt8) (h : isNum u = true) : ∃ D F E, NumForm u D F E := by
 unfold isNum at h; simp only [Bool.and_eq_true, Bool.or_eq_true, decide_eq_true_eq] at h; obtain ⟨h1, h2, h3⟩ := h; have hu : u = headE u ++ u.drop (runB notE u) := (List.take_append_drop _ _).symm; have hh : headE u = (headE u).take (runB notDot (headE u)) ++ (headE u).drop (runB notDot (headE u)) := (List.take_append_drop _ _).symm; refine ⟨(headE u).take (runB notDot (headE u)), (headE u).drop (runB notDot (headE u)), u.drop (runB notE u), ?_, h2, ?_, ?_⟩
 ·rw [← List.append_assoc, ← hh, ← hu]
 ·rcases h3 with h3 | h3
  ·left; rw [h3, List.drop_length]
  right
  have hl : runB notDot (headE u) < (headE u).length := by
   rcases Nat.lt_or_ge (runB notDot (headE u)) (headE u).length with h4 | h4
   ·exact h4
   rw [List.drop_eq_nil_of_le (by omega)] at h3; cases h3
  refine ⟨_, ?_, h3⟩; rw [List.drop_eq_getElem_cons hl]; have := runB_at notDot (headE u) hl; have e : (headE u)[runB notDot (headE u)] = 46 := by simpa [notDot] using this
  rw [e]
 rcases h1 with h1 | h1
 ·left; rw [h1, List.drop_length]
 right
 have hl : runB notE u < u.length := by
  rcases Nat.lt_or_ge (runB notE u) u.length with h4 | h4
  ·exact h4
  rw [List.drop_eq_nil_of_le (by omega)] at h1; cases h1
 refine ⟨_, _, List.drop_eq_getElem_cons hl, ?_, h1⟩; have := runB_at notE u hl; exact Decidable.or_iff_not_imp_left.2 (by simpa [notE] using this)
theorem unsign_cases (x : List UInt8) (h : isDigs (unsign x) = true) : (∃ c y, x = c :: y ∧ (c = 43 ∨ c = 45) ∧ isDigs y = true) ∨ (∃ c y, x = c :: y ∧ isDg c = true ∧ isDigs x = true) := by
 cases x with
 | nil => cases h
 | cons c y =>
  simp only [unsign] at h; split at h
  ·exact Or.inl ⟨c, y, rfl, by assumption, h⟩
  refine Or.inr ⟨c, y, rfl, ?_, h⟩; have := ((isDigs_iff _).1 h).2; rw [List.all_cons, Bool.and_eq_true] at this; exact this.1
theorem expN_ge (l : List UInt8) (n : Nat) : n ≤ expN l n := by
 unfold expN expAt; split <;> (try split) <;> omega
theorem dotN_ge (l : List UInt8) (n : Nat) : n ≤ dotN l n := by
 unfold dotN; split <;> omega
theorem expN_of (a E r : List UInt8) (he : E = [] ∨ ∃ c x, E = c :: x ∧ (c = 101 ∨ c = 69) ∧ isDigs (unsign x) = true) : (a ++ E).length ≤ expN (a ++ E ++ r) a.length := by
 rcases he with rfl | ⟨c, x, rfl, hc, hx⟩
 ·have := expN_ge (a ++ [] ++ r) a.length; simpa using this
 have h0 : (a ++ c :: x ++ r)[a.length]? = some c := by simp
 have hx' := unsign_cases x hx; have key : ∃ k, expAt (a ++ c :: x ++ r) a.length = k ∧ (a ++ c :: x).length ≤ k + digN ((a ++ c :: x ++ r).drop k) ∧ 0 < digN ((a ++ c :: x ++ r).drop k) := by
  rcases hx' with ⟨c2, y, rfl, hc2, hy⟩ | ⟨c2, y, rfl, hc2, hy⟩
  ·refine ⟨a.length + 2, ?_, ?_⟩
   ·unfold expAt
    have h1 : (a ++ c :: c2 :: y ++ r)[a.length + 1]? = some c2 := by simp
    rw [h1, if_pos]; simpa using hc2
   have h2 : (a ++ c :: c2 :: y ++ r).drop (a.length + 2) = y ++ r := by simp
   obtain ⟨h3, h4⟩ := (isDigs_iff y).1 hy; rw [h2, digN_all _ _ h4]; simp only [List.length_append, List.length_cons]; omega
  refine ⟨a.length + 1, ?_, ?_⟩
  ·unfold expAt
   have h1 : (a ++ c :: c2 :: y ++ r)[a.length + 1]? = some c2 := by simp
   rw [h1, if_neg]; intro h; rcases h with h | h <;> (injection h with h; subst h; cases hc2)
  have h2 : (a ++ c :: c2 :: y ++ r).drop (a.length + 1) = c2 :: y ++ r := by simp
  obtain ⟨h3, h4⟩ := (isDigs_iff _).1 hy; rw [h2, digN_all _ _ h4]; simp only [List.length_append, List.length_cons]; omega
 obtain ⟨k, hk, h1, h2⟩ := key; unfold expN; rw [hk, h0, if_pos ⟨by simpa using hc, h2⟩]; exact h1
theorem dig_stop_E {E r : List UInt8} (he : E ≠ []) (h : E = [] ∨ ∃ c x, E = c :: x ∧ (c = 101 ∨ c = 69) ∧ isDigs (unsign x) = true) : digN (E ++ r) = 0 ∧ (E ++ r)[0]? ≠ some 46 := by
 rcases h with h | ⟨c, x, rfl, hc, _⟩
 ·exact absurd h he
 refine ⟨digN_stop _ _ ?_, ?_⟩
 ·rcases hc with rfl | rfl <;> rfl
 rcases hc with rfl | rfl <;> simp
theorem num_max (u r : List UInt8) (h : isNum u = true) : u.length ≤ numN (u ++ r) := by
 obtain ⟨D, F, E, rfl, hd, hf, he⟩ := isNum_form u h; obtain ⟨h1, h2⟩ := (isDigs_iff D).1 hd; have hdig : digN (D ++ (F ++ E) ++ r) = D.length + digN (F ++ E ++ r) := by rw [List.append_assoc]; exact digN_all _ _ h2
 unfold numN; rw [if_neg (by omega), hdig]; rcases hf with rfl | ⟨x, rfl, hx⟩
 ·by_cases hE : E = []
  ·subst hE
   have h3 := dotN_ge (D ++ ([] ++ []) ++ r) (D.length + digN ([] ++ [] ++ r)); have h4 := expN_ge (D ++ ([] ++ []) ++ r) (dotN (D ++ ([] ++ []) ++ r) (D.length + digN ([] ++ [] ++ r))); simp only [List.append_nil] at h3 h4 ⊢; omega
  obtain ⟨h3, h4⟩ := dig_stop_E (r := r) hE he; rw [List.nil_append, h3, Nat.add_zero]; have h5 : dotN (D ++ E ++ r) D.length = D.length := by
   unfold dotN; rw [if_neg]; rintro ⟨h6, _⟩; rw [List.append_assoc, List.getElem?_append_right (Nat.le_refl _), Nat.sub_self] at h6; exact h4 h6
  rw [h5]; exact expN_of D E r he
 obtain ⟨h3, h4⟩ := (isDigs_iff x).1 hx; have h5 : digN (46 :: x ++ E ++ r) = 0 := digN_stop _ _ rfl; rw [h5, Nat.add_zero]; have h6 : (D ++ (46 :: x ++ E) ++ r)[D.length]? = some 46 := by simp
 have h7 : (D ++ (46 :: x ++ E) ++ r).drop (D.length + 1) = x ++ (E ++ r) := by simp
 have h8 : dotN (D ++ (46 :: x ++ E) ++ r) D.length = D.length + 1 + (x.length + digN (E ++ r)) := by
  unfold dotN; rw [h7, digN_all _ _ h4, if_pos ⟨h6, by omega⟩]
 rw [h8]; by_cases hE : E = []
 ·subst hE
  have := expN_ge (D ++ (46 :: x ++ []) ++ r) (D.length + 1 + (x.length + digN ([] ++ r))); simp only [List.append_nil, List.length_append, List.length_cons] at this ⊢; omega
 rw [(dig_stop_E (r := r) hE he).1, Nat.add_zero]; have := expN_of (D ++ 46 :: x) E r he; have e1 : (D ++ 46 :: x).length = D.length + 1 + x.length := by simp only [List.length_append, List.length_cons]; omega
 rw [e1] at this; have e2 : D ++ 46 :: x ++ E = D ++ (46 :: x ++ E) := List.append_assoc _ _ _; rw [e2] at this; exact this
theorem take_runB (p : UInt8 → Bool) (l : List UInt8) : (l.take (runB p l)).all p = true := (runB_take p l _).2 (by have := runB_le p l; omega)
theorem digN_le (l : List UInt8) : digN l ≤ l.length := runB_le _ l
theorem num_is (t : List UInt8) (h : 0 < digN t) : isNum (t.take (numN t)) = true ∧ numN t ≤ t.length := by
 have hD : isDigs (t.take (digN t)) = true := (isDigs_iff _).2 ⟨by rw [List.length_take]; have := digN_le t; omega, take_runB isDg t⟩; have hle := digN_le t; have hF : ∃ F, (F = [] ∨ ∃ x, F = 46 :: x ∧ isDigs x = true) ∧ t.take (dotN t (digN t)) = t.take (digN t) ++ F ∧ dotN t (digN t) ≤ t.length := by
  unfold dotN; split
  ·rename_i hp
   have hl := digN_le (t.drop (digN t + 1)); rw [List.length_drop] at hl; refine ⟨46 :: (t.drop (digN t + 1)).take (digN (t.drop (digN t + 1))), Or.inr ⟨_, rfl, (isDigs_iff _).2 ⟨?_, take_runB isDg _⟩⟩, ?_, ?_⟩
   ·rw [List.length_take, List.length_drop]; omega
   ·rw [Nat.add_assoc, List.take_add]
    congr 1
    obtain ⟨hl1, he1⟩ := List.getElem?_eq_some_iff.1 hp.1; rw [List.drop_eq_getElem_cons hl1, he1, Nat.add_comm 1, List.take_succ_cons]
   omega
  exact ⟨[], Or.inl rfl, by simp, hle⟩
 obtain ⟨F, hF1, hF2, hF3⟩ := hF; have hE : ∀ n, n ≤ t.length → ∃ E, (E = [] ∨ ∃ c x, E = c :: x ∧ (c = 101 ∨ c = 69) ∧ isDigs (unsign x) = true) ∧ t.take (expN t n) = t.take n ++ E ∧ expN t n ≤ t.length := by
  intro n hn; unfold expN; split
  ·rename_i hp
   have hlt := digN_le (t.drop (expAt t n)); rw [List.length_drop] at hlt; have hc : ∃ c, t[n]? = some c ∧ (c = 101 ∨ c = 69) := by rcases hp.1 with h | h <;> exact ⟨_, h, by simp⟩
   obtain ⟨c, hc1, hc2⟩ := hc; obtain ⟨hl1, he1⟩ := List.getElem?_eq_some_iff.1 hc1; have hD3 : isDigs ((t.drop (expAt t n)).take (digN (t.drop (expAt t n)))) = true := (isDigs_iff _).2 ⟨by rw [List.length_take, List.length_drop]; omega, take_runB isDg _⟩; refine ⟨(t.drop n).take (expAt t n - n + digN (t.drop (expAt t n))), Or.inr ?_, ?_, by omega⟩
   ·refine ⟨c, (t.drop (n + 1)).take (expAt t n - n - 1 + digN (t.drop (expAt t n))), ?_, hc2, ?_⟩
    ·rw [List.drop_eq_getElem_cons hl1, he1]
     have : expAt t n - n + digN (t.drop (expAt t n)) = (expAt t n - n - 1 + digN (t.drop (expAt t n))) + 1 := by
      have : n + 1 ≤ expAt t n := by unfold expAt; split <;> omega
      omega
     rw [this, List.take_succ_cons]
    generalize hk : digN (t.drop (expAt t n)) = k at hD3 hp hlt; by_cases hs : t[n + 1]? = some 43 ∨ t[n + 1]? = some 45
    ·have hx : expAt t n = n + 2 := by unfold expAt; rw [if_pos hs]
     rw [hx] at hD3 ⊢; have hc' : ∃ d, t[n + 1]? = some d ∧ (d = 43 ∨ d = 45) := by rcases hs with h | h <;> exact ⟨_, h, by simp⟩
     obtain ⟨d, hd1, hd2⟩ := hc'; obtain ⟨hl2, he2⟩ := List.getElem?_eq_some_iff.1 hd1; rw [List.drop_eq_getElem_cons hl2, he2, show n + 2 - n - 1 + k = k + 1 from by omega, List.take_succ_cons]; simp only [unsign, if_pos hd2]; exact hD3
    have hx : expAt t n = n + 1 := by unfold expAt; rw [if_neg hs]
    rw [hx] at hD3 ⊢; rw [show n + 1 - n - 1 + k = k from by omega]; have : ∀ z : List UInt8, z.head? = t[n + 1]? ∨ z = [] → unsign z = z := by
     intro z hz; cases z with
     | nil => rfl
     | cons a z =>
      rcases hz with hz | hz
      ·simp only [unsign]
       rw [if_neg]; intro ha; apply hs; rw [← hz]; simpa using ha
      cases hz
    rw [this]
    ·exact hD3
    cases k with
    | zero => right; simp
    | succ k => left; rw [List.head?_take, if_neg (by omega), List.head?_drop]
   rw [← List.take_add]; congr 1
   have : n ≤ expAt t n := by unfold expAt; split <;> omega
   omega
  exact ⟨[], Or.inl rfl, by simp, hn⟩
 obtain ⟨E, hE1, hE2, hE3⟩ := hE _ hF3; unfold numN; rw [if_neg (by omega)]; refine ⟨isNum_of (D := t.take (digN t)) (F := F) (E := E) ⟨?_, hD, hF1, hE1⟩, hE3⟩; rw [hE2, hF2, List.append_assoc]
/-! the longest piece -/
theorem num_head (c : UInt8) (x : List UInt8) (h : isNum (c :: x) = true) : isDg c = true := by
 obtain ⟨D, F, E, hc, hd, _, _⟩ := isNum_form _ h; obtain ⟨h1, h2⟩ := (isDigs_iff D).1 hd; cases D with
 | nil => simp at h1
 | cons d D =>
  rw [List.cons_append] at hc; injection hc with h3 h4; rw [List.all_cons, Bool.and_eq_true] at h2; rw [h3]; exact h2.1
def headS : List UInt8 := 33 :: oneL
theorem two_head : ∀ l ∈ twoL, l.length = 2 ∧ ∃ c ∈ headS, l.head? = some c := by decide
theorem sign_head (c : UInt8) (x : List UInt8) (h : isSignT (c :: x) = true) : c ∈ headS := by
 unfold isSignT at h; simp only [Bool.or_eq_true, decide_eq_true_eq] at h; rcases h with (h | h) | h
 ·obtain ⟨_, d, hd, h2⟩ := two_head _ h
  rw [List.head?_cons] at h2; injection h2 with h2; rw [h2]; exact hd
 ·obtain ⟨d, hd, h2⟩ := List.mem_map.1 h
  injection h2 with h2; rw [← h2]; exact List.mem_cons_of_mem _ hd
 injection h with h1 _; rw [h1]; decide
theorem head_letter : ∀ c ∈ headS, letF c = false ∧ isDg c = false ∧ c ≠ 36 := by decide
theorem sign_max (t : List UInt8) (m : Nat) (_h1 : 1 ≤ m) (h2 : m ≤ t.length) (h : isSignT (t.take m) = true) : m ≤ signN t := by
 have hl : (t.take m).length = m := by rw [List.length_take]; omega
 unfold isSignT at h; simp only [Bool.or_eq_true, decide_eq_true_eq] at h; rcases h with (h | h) | h
 ·have h3 := (two_head _ h).1
  rw [hl] at h3; subst h3; unfold signN; split
  ·omega
  first | omega | (rw [if_pos h]; omega)
 ·obtain ⟨d, hd, h3⟩ := List.mem_map.1 h
  rw [← h3] at hl; have hm : m = 1 := by simpa using hl.symm
  subst hm; cases t with
  | nil => simp at h2
  | cons c r =>
   simp only [List.take_succ_cons, List.take_zero] at h3; injection h3 with h3; subst h3; unfold signN; split
   ·omega
   split
   ·omega
   show 1 ≤ if d ∈ oneL then 1 else 0
   rw [if_pos hd]; omega
 have hm : m = 3 := by rw [h] at hl; exact hl.symm
 subst hm; unfold signN; rw [if_pos h]; omega
theorem sign_is (t : List UInt8) (h : 0 < signN t) : isSignT (t.take (signN t)) = true ∧ signN t ≤ t.length ∧ (t.take (signN t)).tail.all longC = true := by
 unfold signN at h ⊢; split
 ·rename_i h3
  have : (t.take 3).length = 3 := by rw [h3]; rfl
  rw [List.length_take] at this; rw [h3]; exact ⟨by decide, by omega, by decide⟩
 rename_i h3
 rw [if_neg h3] at h; split
 ·rename_i h2
  have hl := (two_head _ h2).1; rw [List.length_take] at hl; refine ⟨?_, by omega, ?_⟩
  ·unfold isSignT; rw [decide_eq_true h2]; rfl
  have : ∀ l ∈ twoL, l.tail.all longC = true := by decide
  exact this _ h2
 rename_i h2
 rw [if_neg h2] at h; cases t with
 | nil => exact absurd h (by simp)
 | cons c r =>
  by_cases hc : c ∈ oneL
  ·simp only [if_pos hc]
   refine ⟨?_, by simp, rfl⟩; unfold isSignT; rw [show decide (List.take 1 (c :: r) ∈ oneL.map fun c => [c]) = true from decide_eq_true (List.mem_map.2 ⟨c, hc, rfl⟩)]; simp
  simp only [if_neg hc] at h; omega
theorem name_long (c : UInt8) (h : nameC c = true) : longC c = true := by
 unfold nameC at h; unfold longC; rw [h]; rfl
theorem longF_of (t : List UInt8) (n : Nat) (h1 : 1 ≤ n) (h2 : n ≤ t.length) (h : (t.take n).tail.all longC = true) : n ≤ longF t := by
 obtain ⟨k, rfl⟩ : ∃ k, n = k + 1 := ⟨n - 1, by omega⟩
 cases t with
 | nil => simp at h2
 | cons c r =>
  rw [List.take_succ_cons, List.tail_cons, runB_take] at h; rw [List.length_cons] at h2; show k + 1 ≤ 1 + runB longC r
  omega
theorem all_mono {p q : UInt8 → Bool} (h : ∀ c, p c = true → q c = true) (l : List UInt8) (hl : l.all p = true) : l.all q = true := by
 rw [List.all_eq_true] at hl ⊢; exact fun c hc => h c (hl c hc)
theorem dig_long (c : UInt8) (h : isDg c = true) : longC c = true := name_long c (by unfold nameC; rw [h, Bool.or_true])
theorem num_long (u : List UInt8) (h : isNum u = true) : u.all longC = true := by
 obtain ⟨D, F, E, rfl, hd, hf, he⟩ := isNum_form u h; have hD : ∀ x, isDigs x = true → x.all longC = true := fun x hx => all_mono dig_long x ((isDigs_iff x).1 hx).2
 rw [List.all_append, List.all_append, Bool.and_eq_true, Bool.and_eq_true]; refine ⟨hD D hd, ?_, ?_⟩
 ·rcases hf with rfl | ⟨x, rfl, hx⟩
  ·rfl
  rw [List.all_cons, hD x hx]; rfl
 rcases he with rfl | ⟨c, x, rfl, hc, hx⟩
 ·rfl
 have h1 : longC c = true := by rcases hc with rfl | rfl <;> rfl
 rw [List.all_cons, h1, Bool.true_and]; rcases unsign_cases x hx with ⟨d, y, rfl, h2, h3⟩ | ⟨d, y, rfl, h2, h3⟩
 ·have h4 : longC d = true := by rcases h2 with rfl | rfl <;> rfl
  rw [List.all_cons, h4, hD y h3]; rfl
 exact hD _ h3
theorem plain_rest (t : List UInt8) (h1 : isName t = false) (h2 : t.head? = some 36 → isName t.tail = false) (h3 : t.head? = some 46 → isName t.tail = false) : plainF t = if isNum t = true then 4 else if isSignT t = true then 6 else 0 := by
 unfold plainF; rw [h1, if_neg (by decide), if_neg (fun h => by rw [h2 h.1] at h; cases h.2), if_neg (fun h => by rw [h3 h.1] at h; cases h.2)]
theorem isName_tail (r : List UInt8) (m : Nat) (h2 : m ≤ r.length) : isName (r.take m) = true ↔ 1 ≤ m ∧ m ≤ nameN r := by
 rcases Nat.eq_zero_or_pos m with rfl | h
 ·simp [isName]
 rw [isName_take r m h h2]; omega
theorem tok_longest (c : UInt8) (r : List UInt8) :
  (tokP (c :: r) = (0, 0, 0) ∧ ∀ m, 1 ≤ m → m ≤ (c :: r).length → plainF ((c :: r).take m) = 0) ∨
  ∃ k n, tokP (c :: r) = (k, if k = 2 ∨ k = 3 then 1 else 0, n) ∧ k ≠ 0 ∧ 1 ≤ n ∧ n ≤ longF (c :: r) ∧ n ≤ (c :: r).length ∧ plainF ((c :: r).take n) = k ∧ ∀ m, n < m → m ≤ (c :: r).length → plainF ((c :: r).take m) = 0 := by
 have hcut : ∀ m, 1 ≤ m → (c :: r).take m = c :: r.take (m - 1) := fun m hm => by
  obtain ⟨k, rfl⟩ : ∃ k, m = k + 1 := ⟨m - 1, by omega⟩
  rfl
 by_cases hL : letF c = true
 ·have h36 : c ≠ 36 := by rintro rfl; cases hL
  have h46 : c ≠ 46 := by rintro rfl; cases hL
  have hdg : isDg c = false := by
   cases h : isDg c with
   | false => rfl
   | true =>
    exfalso; unfold isDg at h; unfold letF at hL; simp only [Bool.and_eq_true, Bool.or_eq_true, decide_eq_true_eq] at h hL; omega
  have hn : nameN (c :: r) = runB nameC r + 1 := by simp only [nameN]; rw [if_pos hL]
  have hle := nameN_le (c :: r); refine Or.inr ⟨1, nameN (c :: r), ?_, by decide, by omega, ?_, hle, ?_, fun m h1 h2 => ?_⟩
  ·simp only [tokP]; rw [if_pos hL]; rfl
  ·refine longF_of _ _ (by omega) hle ?_
   rw [hn, List.take_succ_cons, List.tail_cons]; exact all_mono name_long _ (take_runB nameC r)
  ·unfold plainF
   rw [if_pos ((isName_take _ _ (by omega) hle).2 (Nat.le_refl _))]
  have hx : isName ((c :: r).take m) = false := by
   cases h : isName ((c :: r).take m) with
   | false => rfl
   | true => have := (isName_take _ _ (by omega) h2).1 h; omega
  rw [plain_rest _ hx (fun h => by rw [hcut m (by omega)] at h; injection h with h; exact absurd h h36) (fun h => by rw [hcut m (by omega)] at h; injection h with h; exact absurd h h46)]; rw [hcut m (by omega), if_neg (fun h => by rw [num_head _ _ h] at hdg; cases hdg), if_neg (fun h => by rw [(head_letter _ (sign_head _ _ h)).1] at hL; cases hL)]
 have hL' : letF c = false := by simpa using hL
 have hnm : ∀ m, 1 ≤ m → isName ((c :: r).take m) = false := fun m hm => by rw [hcut m hm]; simp only [isName, hL', Bool.false_and]
 have htl : ∀ m, 1 ≤ m → ((c :: r).take m).tail = r.take (m - 1) := fun m hm => by rw [hcut m hm]; rfl
 have hhd : ∀ m, 1 ≤ m → ((c :: r).take m).head? = some c := fun m hm => by rw [hcut m hm]; rfl
 by_cases h36 : c = 36 ∧ 0 < nameN r
 ·obtain ⟨rfl, hp⟩ := h36
  have hle := nameN_le r; have hnz : ∀ m, 1 ≤ m → plainF ((36 :: r).take m) = if isName (r.take (m - 1)) = true then 2 else 0 := fun m hm => by
   unfold plainF; rw [hnm m hm, if_neg (by decide), htl m hm, hhd m hm]; split
   ·rename_i h; rw [if_pos h.2]
   rename_i h
   rw [if_neg (by rintro ⟨h, _⟩; injection h with h; revert h; decide), hcut m hm, if_neg (fun h => by have := num_head _ _ h; revert this; decide), if_neg (fun h => by have := sign_head _ _ h; revert this; decide), if_neg (fun h2 => h (by first | exact ⟨rfl, h2⟩ | exact ⟨trivial, h2⟩))]
  refine Or.inr ⟨2, 1 + nameN r, ?_, by decide, by omega, ?_, by rw [List.length_cons]; omega, ?_, fun m h1 h2 => ?_⟩
  ·simp only [tokP]; rw [if_neg (by decide), if_pos (by first | exact ⟨rfl, hp⟩ | exact ⟨trivial, hp⟩)]; rfl
  ·refine longF_of _ _ (by omega) (by rw [List.length_cons]; omega) ?_
   rw [Nat.add_comm, List.take_succ_cons, List.tail_cons]; have := (isName_tail r (nameN r) hle).2 ⟨hp, Nat.le_refl _⟩; cases hr : r.take (nameN r) with
   | nil => rfl
   | cons d x =>
    rw [hr] at this; simp only [isName, Bool.and_eq_true] at this; rw [List.all_cons, name_long d (by unfold nameC; rw [this.1]; rfl), all_mono name_long x this.2]; rfl
  ·rw [hnz _ (by omega), if_pos]
   rw [show 1 + nameN r - 1 = nameN r from by omega]; exact (isName_tail r _ hle).2 ⟨hp, Nat.le_refl _⟩
  rw [List.length_cons] at h2; rw [hnz _ (by omega), if_neg]; intro h; have := (isName_tail r (m - 1) (by omega)).1 h; omega
 by_cases h46 : c = 46 ∧ 0 < nameN r
 ·obtain ⟨rfl, hp⟩ := h46
  have hle := nameN_le r; have hr : ∃ d x, r = d :: x ∧ letF d = true := by
   cases r with
   | nil => cases hp
   | cons d x =>
    refine ⟨d, x, rfl, ?_⟩; simp only [nameN] at hp; split at hp
    ·assumption
    omega
  have hs : signN (46 :: r) ≤ 1 := by
   obtain ⟨d, x, rfl, hd⟩ := hr; unfold signN; rw [if_neg (by intro h; injection h with h; revert h; decide), if_neg]
   ·show (if (46 : UInt8) ∈ oneL then 1 else 0) ≤ 1
    split <;> omega
   intro h; have : ∀ l ∈ twoL, l.head? = some 46 → l = [46, 46] := by decide
   have := this _ h rfl; injection this with _ this; injection this with this; subst this; cases hd
  have hnz : ∀ m, 2 ≤ m → m ≤ (46 :: r).length → plainF ((46 :: r).take m) = if isName (r.take (m - 1)) = true then 3 else 0 := fun m hm hm2 => by
   unfold plainF; rw [hnm m (by omega), if_neg (by decide), htl m (by omega), hhd m (by omega), if_neg (by rintro ⟨h, _⟩; injection h with h; revert h; decide)]; split
   ·rename_i h; rw [if_pos h.2]
   rename_i h
   rw [if_neg (fun h => by rw [hcut m (by omega)] at h; have := num_head _ _ h; revert this; decide), if_neg (fun h => by have := sign_max _ m (by omega) hm2 h; omega), if_neg (fun h2 => h (by first | exact ⟨rfl, h2⟩ | exact ⟨trivial, h2⟩))]
  refine Or.inr ⟨3, 1 + nameN r, ?_, by decide, by omega, ?_, by rw [List.length_cons]; omega, ?_, fun m h1 h2 => ?_⟩
  ·simp only [tokP]; rw [if_neg (by decide), if_neg (by rintro ⟨h, _⟩; revert h; decide), if_pos (by first | exact ⟨rfl, hp⟩ | exact ⟨trivial, hp⟩)]; rfl
  ·refine longF_of _ _ (by omega) (by rw [List.length_cons]; omega) ?_
   rw [Nat.add_comm, List.take_succ_cons, List.tail_cons]; have := (isName_tail r (nameN r) hle).2 ⟨hp, Nat.le_refl _⟩; cases hr : r.take (nameN r) with
   | nil => rfl
   | cons d x =>
    rw [hr] at this; simp only [isName, Bool.and_eq_true] at this; rw [List.all_cons, name_long d (by unfold nameC; rw [this.1]; rfl), all_mono name_long x this.2]; rfl
  ·rw [hnz _ (by omega) (by rw [List.length_cons]; omega), if_pos]
   rw [show 1 + nameN r - 1 = nameN r from by omega]; exact (isName_tail r _ hle).2 ⟨hp, Nat.le_refl _⟩
  rw [hnz _ (by omega) h2, if_neg]; rw [List.length_cons] at h2; intro h; have := (isName_tail r (m - 1) (by omega)).1 h; omega
 have hrest : ∀ m, 1 ≤ m → m ≤ (c :: r).length → plainF ((c :: r).take m) = if isNum ((c :: r).take m) = true then 4 else if isSignT ((c :: r).take m) = true then 6 else 0 := fun m hm hm2 => by
  rw [List.length_cons] at hm2; refine plain_rest _ (hnm m hm) (fun h => ?_) (fun h => ?_)
  ·rw [hhd m hm] at h; injection h with h
   rw [htl m hm]; cases hb : isName (r.take (m - 1)) with
   | false => rfl
   | true => have := (isName_tail r (m - 1) (by omega)).1 hb; exact absurd ⟨h, by omega⟩ h36
  rw [hhd m hm] at h; injection h with h; rw [htl m hm]; cases hb : isName (r.take (m - 1)) with
  | false => rfl
  | true => have := (isName_tail r (m - 1) (by omega)).1 hb; exact absurd ⟨h, by omega⟩ h46
 by_cases hdg : isDg c = true
 ·have hpos : 0 < digN (c :: r) := by simp [digN, runB, hdg]
  obtain ⟨h1, h2⟩ := num_is (c :: r) hpos; have hn1 : 1 ≤ numN (c :: r) := by
   have h3 := dotN_ge (c :: r) (digN (c :: r)); have h4 := expN_ge (c :: r) (dotN (c :: r) (digN (c :: r))); unfold numN; rw [if_neg (by omega)]; omega
  refine Or.inr ⟨4, numN (c :: r), ?_, by decide, hn1, ?_, h2, ?_, fun m h3 h4 => ?_⟩
  ·simp only [tokP]; rw [if_neg hL, if_neg h36, if_neg h46, if_pos hdg]; rfl
  ·refine longF_of _ _ hn1 h2 ?_
   have := num_long _ h1; rw [hcut _ hn1] at this ⊢; rw [List.all_cons, Bool.and_eq_true] at this; exact this.2
  ·rw [hrest _ hn1 h2, if_pos h1]
  rw [hrest m (by omega) h4, if_neg, if_neg]
  ·intro h
   rw [hcut m (by omega)] at h; rw [(head_letter _ (sign_head _ _ h)).2.1] at hdg; cases hdg
  intro h; have := num_max _ ((c :: r).drop m) h; rw [List.take_append_drop, List.length_take] at this; omega
 have hnn : ∀ m, 1 ≤ m → ¬ isNum ((c :: r).take m) = true := fun m hm h => by rw [hcut m hm] at h; exact hdg (num_head _ _ h)
 by_cases hs : signN (c :: r) = 0
 ·refine Or.inl ⟨?_, fun m h1 h2 => ?_⟩
  ·simp only [tokP]; rw [if_neg hL, if_neg h36, if_neg h46, if_neg hdg, if_pos hs]
  rw [hrest m h1 h2, if_neg (hnn m h1), if_neg (fun h => by have := sign_max _ m h1 h2 h; omega)]
 obtain ⟨h1, h2, h3⟩ := sign_is (c :: r) (by omega); refine Or.inr ⟨6, signN (c :: r), ?_, by decide, by omega, longF_of _ _ (by omega) h2 h3, h2, ?_, fun m h4 h5 => ?_⟩
 ·simp only [tokP]; rw [if_neg hL, if_neg h36, if_neg h46, if_neg hdg, if_neg hs]; rfl
 ·rw [hrest _ (by omega) h2, if_neg (hnn _ (by omega)), if_pos h1]
 rw [hrest m (by omega) h5, if_neg (hnn m (by omega)), if_neg (fun h => by have := sign_max _ m (by omega) h5 h; omega)]
end Th
