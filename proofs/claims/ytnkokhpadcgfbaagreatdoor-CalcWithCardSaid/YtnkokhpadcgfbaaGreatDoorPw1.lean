/- Lemmas and contracts for the laws CalcWith, part 1 of 50: NumMath, Base. Conditions: those that each lemma names. -/
import Derived.Lib.TrimByte
import Derived.WalkKit
import Derived.WalkSpells
import Derived.BigQuiet
import Derived.Deep.QuietTactic
namespace Th
def val (ds : List Nat) : Nat := ds.foldl (fun a d => a * 10 + d) 0
theorem foldl_val (ds : List Nat) (a : Nat) : ds.foldl (fun a d => a * 10 + d) a = a * 10 ^ ds.length + val ds := by
  unfold val
  induction ds generalizing a with
  | nil => simp
  | cons d ds ih =>
    simp only [List.foldl_cons, List.length_cons]
    rw [ih (a * 10 + d), ih (0 * 10 + d)]
    simp only [Nat.zero_mul, Nat.zero_add, Nat.pow_succ, Nat.add_mul]
    rw [Nat.mul_assoc, Nat.mul_comm 10]
    omega
@[simp] theorem val_nil : val [] = 0 := rfl
theorem val_cons (d : Nat) (ds : List Nat) : val (d :: ds) = d * 10 ^ ds.length + val ds := by
  show (d :: ds).foldl _ 0 = _
  rw [List.foldl_cons, foldl_val]; simp
theorem val_snoc (ds : List Nat) (d : Nat) : val (ds ++ [d]) = val ds * 10 + d := by
  unfold val; rw [List.foldl_append]; rfl
def Digs (ds : List Nat) : Prop := ∀ d ∈ ds, d ≤ 9
theorem val_lt (ds : List Nat) (h : Digs ds) : val ds < 10 ^ ds.length := by
  induction ds with
  | nil => simp
  | cons d ds ih =>
    rw [val_cons, List.length_cons, Nat.pow_succ]
    have h1 := ih (fun x hx => h x (List.mem_cons_of_mem _ hx))
    have h2 : d ≤ 9 := h d (List.mem_cons_self ..)
    have h3 : d * 10 ^ ds.length ≤ 9 * 10 ^ ds.length := Nat.mul_le_mul_right _ h2
    omega
theorem val_ge (d : Nat) (ds : List Nat) (h : 1 ≤ d) : 10 ^ ds.length ≤ val (d :: ds) := by
  rw [val_cons]
  have : 1 * 10 ^ ds.length ≤ d * 10 ^ ds.length := Nat.mul_le_mul_right _ h
  omega
def fin (neg : Bool) (m : Nat) (e : Int) : (Int × Int) × Int :=
  if 1000000000000000000 ≤ m ∨ e < -64 ∨ 64 < e then ((0, 0), 11) else ((if neg then -(m : Int) else m, e), 0)
def strip : Nat → Nat → Int → Nat × Int
  | 0, m, e => (m, e)
  | f + 1, m, e => if m % 10 = 0 then strip f (m / 10) (e + 1) else (m, e)
def norm (neg : Bool) (m : Nat) (e : Int) : (Int × Int) × Int :=
  if m = 0 then ((0, 0), 0) else fin neg (strip m m e).1 (strip m m e).2
theorem strip_of (k : Nat) : ∀ (f m : Nat) (e : Int), m % 10 ≠ 0 → k ≤ f → strip f (m * 10 ^ k) e = (m, e + k) := by
  induction k with
  | zero =>
    intro f m e hm _
    cases f with
    | zero => simp [strip]
    | succ f => simp [strip, hm]
  | succ k ih =>
    intro f m e hm hf
    obtain ⟨f, rfl⟩ : ∃ g, f = g + 1 := ⟨f - 1, by omega⟩
    have h1 : m * 10 ^ (k + 1) = (m * 10 ^ k) * 10 := by rw [Nat.pow_succ, Nat.mul_assoc]
    rw [h1]
    simp only [strip, Nat.mul_mod_left, ↓reduceIte]
    rw [Nat.mul_div_cancel _ (by omega), ih f m (e + 1) hm (by omega)]
    congr 1
    omega
theorem lt_pow_ten (k : Nat) : k < 10 ^ k := by
  induction k with
  | zero => simp
  | succ k ih => rw [Nat.pow_succ]; omega
theorem norm_zero (neg : Bool) (e : Int) : norm neg 0 e = ((0, 0), 0) := rfl
theorem norm_of (neg : Bool) (m k : Nat) (e : Int) (hm : m % 10 ≠ 0) : norm neg (m * 10 ^ k) e = fin neg m (e + k) := by
  have h0 : m ≠ 0 := by intro h; subst h; simp at hm
  have hk := lt_pow_ten k
  have h1 : 1 * 10 ^ k ≤ m * 10 ^ k := Nat.mul_le_mul_right _ (by omega)
  unfold norm
  rw [if_neg (by omega), strip_of k _ m e hm (by omega)]
theorem norm_fin (neg : Bool) (m : Nat) (e : Int) (hm : m % 10 ≠ 0) : norm neg m e = fin neg m e := by
  have := norm_of neg m 0 e hm
  simpa using this
theorem exists_form (m : Nat) (_h : m ≠ 0) : ∃ a k, a % 10 ≠ 0 ∧ m = a * 10 ^ k := by
  induction m using Nat.strongRecOn with
  | _ m ih =>
    by_cases hm : m % 10 = 0
    · obtain ⟨a, k, ha, hk⟩ := ih (m / 10) (by omega) (by omega)
      refine ⟨a, k + 1, ha, ?_⟩
      rw [Nat.pow_succ, ← Nat.mul_assoc, ← hk]
      omega
    · exact ⟨m, 0, hm, by simp⟩
theorem norm_shift (neg : Bool) (m k : Nat) (e : Int) : norm neg (m * 10 ^ k) e = norm neg m (e + k) := by
  by_cases h : m = 0
  · subst h; simp [norm_zero]
  · obtain ⟨a, j, ha, rfl⟩ := exists_form m h
    rw [Nat.mul_assoc, ← Nat.pow_add, norm_of _ _ _ _ ha, norm_of _ _ _ _ ha]
    congr 1
    omega
theorem norm_step (neg : Bool) (m : Nat) (e : Int) : norm neg (m * 10) e = norm neg m (e + 1) := by
  have := norm_shift neg m 1 e
  simpa using this
def digs (n : Nat) : List Nat := if _h : n = 0 then [] else digs (n / 10) ++ [n % 10]
termination_by n
decreasing_by omega
theorem digs_zero : digs 0 = [] := by rw [digs]; simp
theorem digs_pos (n : Nat) (h : n ≠ 0) : digs n = digs (n / 10) ++ [n % 10] := by rw [digs]; simp [h]
theorem val_digs (n : Nat) : val (digs n) = n := by
  induction n using Nat.strongRecOn with
  | _ n ih =>
    by_cases h : n = 0
    · subst h; simp [digs_zero]
    · rw [digs_pos n h, val_snoc, ih _ (by omega)]; omega
theorem digs_digs (n : Nat) : Digs (digs n) := by
  induction n using Nat.strongRecOn with
  | _ n ih =>
    by_cases h : n = 0
    · subst h; simp [digs_zero, Digs]
    · rw [digs_pos n h]
      intro d hd
      simp only [List.mem_append, List.mem_singleton] at hd
      rcases hd with hd | hd
      · exact ih _ (by omega) d hd
      · omega
theorem digs_head (n : Nat) : ∀ d ds, digs n = d :: ds → 1 ≤ d := by
  induction n using Nat.strongRecOn with
  | _ n ih =>
    intro d ds hd
    by_cases h : n = 0
    · subst h; simp [digs_zero] at hd
    · rw [digs_pos n h] at hd
      cases hx : digs (n / 10) with
      | nil =>
        rw [hx] at hd
        simp at hd
        have : n / 10 = 0 := by
          have := val_digs (n / 10); rw [hx] at this; simpa using this.symm
        omega
      | cons a b =>
        rw [hx] at hd
        simp at hd
        rw [← hd.1]
        exact ih _ (by omega) a b hx
theorem length_digs_le (n k : Nat) (h : n < 10 ^ k) : (digs n).length ≤ k := by
  cases hx : digs n with
  | nil => simp
  | cons a b =>
    have h1 := val_ge a b (digs_head n a b hx)
    rw [← hx, val_digs] at h1
    have : 10 ^ b.length < 10 ^ k := by omega
    have := (Nat.pow_lt_pow_iff_right (by omega : 1 < 10)).1 this
    simp; omega
def right (m e : Int) : Bool := if m = 0 then e == 0 else decide (m.natAbs < 1000000000000000000) && decide (m.natAbs % 10 ≠ 0) && decide (-64 ≤ e) && decide (e ≤ 64)
theorem tmod_ten (m : Int) : m.tmod 10 = 0 ↔ m.natAbs % 10 = 0 := by
  rw [← Int.dvd_iff_tmod_eq_zero]; omega
theorem right_cases (m e : Int) (hm : m ≠ 0) :
    (decide ((m.natAbs : Int) < 1000000000000000000) = false ∧ right m e = false) ∨
    (decide ((m.natAbs : Int) < 1000000000000000000) = true ∧ (m.tmod 10 != 0) = false ∧ right m e = false) ∨
    (decide ((m.natAbs : Int) < 1000000000000000000) = true ∧ (m.tmod 10 != 0) = true ∧ decide (-64 ≤ e) = false ∧ right m e = false) ∨
    (decide ((m.natAbs : Int) < 1000000000000000000) = true ∧ (m.tmod 10 != 0) = true ∧ decide (-64 ≤ e) = true ∧ right m e = decide (e ≤ 64)) := by
  have h1 : right m e = (decide (m.natAbs < 1000000000000000000) && decide (m.natAbs % 10 ≠ 0) && decide (-64 ≤ e) && decide (e ≤ 64)) := by unfold right; rw [if_neg hm]
  have h2 : decide ((m.natAbs : Int) < 1000000000000000000) = decide (m.natAbs < 1000000000000000000) := by rw [decide_eq_decide]; omega
  have h3 : (m.tmod 10 != 0) = decide (m.natAbs % 10 ≠ 0) := by
    rw [Bool.eq_iff_iff]; simp only [bne_iff_ne, ne_eq, decide_eq_true_eq, tmod_ten]
  rw [h1, h2, h3]
  cases decide (m.natAbs < 1000000000000000000) <;> cases decide (m.natAbs % 10 ≠ 0) <;> cases decide (-64 ≤ e) <;> simp
end Th
namespace Th
def normZ (S e : Int) : (Int × Int) × Int := norm (decide (S < 0)) S.natAbs e
theorem normZ_shift (S : Int) (k : Nat) (e : Int) : normZ (S * (10 ^ k : Nat)) e = normZ S (e + k) := by
  unfold normZ
  have hp : (0 : Int) < ((10 ^ k : Nat) : Int) := by have := Nat.pow_pos (n := k) (show 0 < 10 by omega); omega
  have h1 : (S * (10 ^ k : Nat)).natAbs = S.natAbs * 10 ^ k := by rw [Int.natAbs_mul]; rfl
  have h2 : decide (S * ((10 ^ k : Nat) : Int) < 0) = decide (S < 0) := by
    rw [decide_eq_decide]
    constructor
    · intro h
      by_cases h' : S < 0
      · exact h'
      · have := Int.mul_nonneg (show 0 ≤ S by omega) (Int.le_of_lt hp); omega
    · intro h; exact Int.mul_neg_of_neg_of_pos h hp
  rw [h1, h2, norm_shift]
theorem right_spec {m e : Int} (h : right m e = true) (hm : m ≠ 0) : m.natAbs < 1000000000000000000 ∧ m.natAbs % 10 ≠ 0 ∧ -64 ≤ e ∧ e ≤ 64 := by
  unfold right at h
  rw [if_neg hm] at h
  simp only [Bool.and_eq_true, decide_eq_true_eq] at h
  exact ⟨h.1.1.1, h.1.1.2, h.1.2, h.2⟩
theorem right_exp {m e : Int} (h : right m e = true) : -64 ≤ e ∧ e ≤ 64 := by
  by_cases hm : m = 0
  · subst hm; simp [right] at h; omega
  · exact (right_spec h hm).2.2
theorem right_size {m e : Int} (h : right m e = true) : m.natAbs < 1000000000000000000 := by
  by_cases hm : m = 0
  · subst hm; decide
  · exact (right_spec h hm).1
theorem normZ_right {m e : Int} (h : right m e = true) : normZ m e = ((m, e), 0) := by
  by_cases hm : m = 0
  · subst hm
    have : e = 0 := by simpa [right] using h
    subst this
    rfl
  · obtain ⟨h1, h2, h3, h4⟩ := right_spec h hm
    unfold normZ
    rw [norm_fin _ _ _ h2]
    unfold fin
    rw [if_neg (by omega)]
    by_cases hn : m < 0
    · simp only [hn, decide_true, ↓reduceIte]; congr 2; omega
    · simp only [hn, decide_false, Bool.false_eq_true, ↓reduceIte]; congr 2; omega
end Th
namespace Th
def nDig : List UInt8 → Nat
  | [] => 0
  | c :: l => if 48 ≤ c.toNat ∧ c.toNat ≤ 57 then nDig l + 1 else 0
theorem nDig_get (l : List UInt8) : ∀ (k : Nat) (h : k < l.length), k < nDig l → 48 ≤ l[k].toNat ∧ l[k].toNat ≤ 57 := by
  induction l with
  | nil => intro k h; simp at h
  | cons c l ih =>
    intro k h hk
    simp only [nDig] at hk
    split at hk
    · rename_i hc
      cases k with
      | zero => exact hc
      | succ k => exact ih k (by simpa using h) (by omega)
    · omega
def dg (c : UInt8) : Nat := c.toNat - 48
def dgs (l : List UInt8) : List Nat := l.map dg
theorem dgs_digs (l : List UInt8) (h : nDig l = l.length) : Digs (dgs l) := by
  intro d hd
  obtain ⟨c, hc, rfl⟩ := List.mem_map.1 hd
  obtain ⟨k, hk, rfl⟩ := List.getElem_of_mem hc
  have := nDig_get l k hk (by omega)
  unfold dg; omega
def clampN (l : List UInt8) : Nat := l.foldl (fun a c => min (a * 10 + dg c) 1099511627776) 0
def chkE (neg : Bool) (u : List UInt8) : Option (Bool × List UInt8) := if nDig u = 0 ∨ nDig u < u.length then none else some (neg, u)
def expoP (l : List UInt8) : Option (Bool × List UInt8) :=
  if l = [] then some (false, []) else
  if l.head? = some 101 ∨ l.head? = some 69 then
    (if (l.drop 1).head? = some 45 then chkE true (l.drop 2) else if (l.drop 1).head? = some 43 then chkE false (l.drop 2) else chkE false (l.drop 1))
  else none
def sg (neg : Bool) (n : Int) : Int := if neg then -n else n
end Th
namespace Th
open Go
def AllDig (l : List UInt8) : Prop := ∀ c ∈ l, 48 ≤ c.toNat ∧ c.toNat ≤ 57
theorem allDig_append {a b : List UInt8} (ha : AllDig a) (hb : AllDig b) : AllDig (a ++ b) := by
  intro c hc
  rcases List.mem_append.1 hc with h | h
  · exact ha c h
  · exact hb c h
theorem nDig_all (l : List UInt8) (h : AllDig l) : nDig l = l.length := by
  induction l with
  | nil => rfl
  | cons c l ih => rw [nDig, if_pos (h c (by simp)), ih (fun d hd => h d (by simp [hd]))]; rfl
theorem dgs_all (l : List UInt8) (h : AllDig l) : Digs (dgs l) := dgs_digs l (nDig_all l h)
theorem dgs_append (a b : List UInt8) : dgs (a ++ b) = dgs a ++ dgs b := List.map_append
theorem dgs_length (a : List UInt8) : (dgs a).length = a.length := by simp [dgs]
def fracP (r : List UInt8) : Option (List UInt8 × List UInt8) :=
  if r.head? = some 46 then (if nDig (r.drop 1) = 0 then none else some ((r.drop 1).take (nDig (r.drop 1)), (r.drop 1).drop (nDig (r.drop 1)))) else some ([], r)
def coreP (u : List UInt8) : Option (List UInt8 × Int) :=
  if nDig u = 0 ∨ (1 < nDig u ∧ u.head? = some 48) then none else
  match fracP (u.drop (nDig u)) with
  | none => none
  | some (f, r) => match expoP r with
    | none => none
    | some (en, x) => some (u.take (nDig u) ++ f, sg en (clampN x) - f.length)
def coreN (neg : Bool) (u : List UInt8) : (Int × Int) × Int := match coreP u with
  | none => ((0, 0), 10)
  | some (ds, e) => norm neg (val (dgs ds)) e
def parseN (l : List UInt8) : (Int × Int) × Int := if l.head? = some 45 then coreN true (l.drop 1) else coreN false l
end Th
namespace Th
end Th
namespace Th
open Go Go.RowKit
structure Keep (p : Prop) : Prop where
  out : p
def Above (W : World) : Type := { w' : World // Below W.heap.size W w' }
theorem lt_of_cell {W : World} {a : Addr} {v : Value} (h : W.cell? a = some v) : a.block < W.heap.size := World.block_lt_of_cell? W a h
theorem Above.cell {W : World} (x : Above W) {a : Addr} (h : a.block < W.heap.size) : x.val.cell? a = W.cell? a := x.property.cell h
instance (W : World) : Nonempty (Above W) := ⟨⟨W, Below.refl _ _⟩⟩
theorem below_drawn (W : World) : Below W.heap.size W { W with drawn := W.drawn + 1 } := ⟨rfl, rfl, rfl, Nat.le_refl _, fun _ _ => rfl⟩
theorem wp_region_above {P : Program} {id : Nat} {Q : Exit → Act → World → Prop} {a : Act} {w : World} {l : List Oper} (hm : P.follows .mixedOrders = true) (hB : Region.lexB .any l.toArray = true)
    (h : wpQuiet P l.toArray (fun w' => ∃ x : Above w, w' = x.val) (fun a' => ∀ w', (∃ x : Above w, w' = x.val) → Q .normal a' w') l a) : (Code.region id l.toArray true).wp P Q a w :=
  wp_region_quiet (C := fun w' => ∃ x : Above w, w' = x.val) hm hB ⟨⟨_, below_drawn w⟩, rfl⟩ (by simpa using h)
theorem calls_above {P : Program} {f : FuncId} {args : Array Value} {W : World} {x : Above W} {v : Value} (h : Calls P f args x.val fun e w' => e = .returned v ∧ Below x.val.heap.size x.val w') :
    Calls P f args x.val fun e w'' => e = .returned v ∧ ∃ y : Above W, w'' = y.val :=
  h.mono fun _ w' ⟨he, hb⟩ => ⟨he, ⟨w', x.property.trans (hb.mono x.property.size)⟩, rfl⟩
theorem bcell {W w1 : World} (hb : Below W.heap.size W w1) : (∀ b o, b < W.heap.size → w1.cell? ⟨b, o, none⟩ = W.cell? ⟨b, o, none⟩) ∧ (∀ b o, b < W.heap.size → w1.frozen? ⟨b, o, none⟩ = W.frozen? ⟨b, o, none⟩) :=
  ⟨fun b o h => hb.cell (p := ⟨b, o, none⟩) h, fun b o h => hb.frozen (p := ⟨b, o, none⟩) h⟩
theorem wp_region_from {P : Program} {W0 : World} {id : Nat} {Q : Exit → Act → World → Prop} {a : Act} {w : World} {l : List Oper} (hb : Below W0.heap.size W0 w) (hm : P.follows .mixedOrders = true) (hB : Region.lexB .any l.toArray = true)
    (h : wpQuiet P l.toArray (fun w' => ∃ x : Above W0, w' = x.val) (fun a' => ∀ w', (∃ x : Above W0, w' = x.val) → Q .normal a' w') l a) : (Code.region id l.toArray true).wp P Q a w :=
  wp_region_quiet (C := fun w' => ∃ x : Above W0, w' = x.val) hm hB ⟨⟨_, hb.trans ((below_drawn w).mono hb.size)⟩, rfl⟩ (by simpa using h)
theorem calls_same {P : Program} {f : FuncId} {args : Array Value} {w : World} {v : Value} (h : Calls P f args w fun e w' => e = .returned v ∧ w' = w) : Calls P f args w fun e w' => e = .returned v ∧ Below w.heap.size w w' :=
  h.mono fun _ _ ⟨he, hw⟩ => ⟨he, by rw [hw]; exact Below.refl _ _⟩
theorem wp_world {P : Program} {c : Code} {Q : Exit → Act → World → Prop} {a : Act} {w : World} (F : World → Prop) (h : F w) (k : ∀ W, F W → c.wp P Q a W) : c.wp P Q a w := k w h
theorem up {w W0 w1 : World} (h : Below w.heap.size w W0) (hb : Below W0.heap.size W0 w1) : Below w.heap.size w w1 := h.trans (hb.mono h.size)
theorem al1 (w : World) (o : Obj) : Below w.heap.size w (w.alloc o) := (Below.refl _ _).alloc (Nat.le_refl _) _
theorem al2 (w : World) (o p : Obj) : Below w.heap.size w ((w.alloc o).alloc p) := up (al1 w o) (al1 _ p)
theorem al3 (w : World) (o p q : Obj) : Below w.heap.size w (((w.alloc o).alloc p).alloc q) := up (al2 w o p) (al1 _ q)
theorem st1 {w W : World} (h : Below w.heap.size w W) (b o : Nat) (v : Value) (hb : w.heap.size ≤ b) : Below w.heap.size w (W.setCell ⟨b, o, none⟩ v) := h.setCell hb v
end Th
