/- Plain arithmetic for the references: rows of digits, digit by digit. No conditions: it imports no program. -/
import Derived.Test.YtohhnkmfgfgpjaaGreatDoorNumMath
namespace Th

/-- how a row of digits without noughts at its ends becomes a number -/
theorem short_cases (neg : Bool) (ds : List Nat) (e : Int) (hd : Digs ds) (d : Nat) (t : List Nat) (h0 : ds = d :: t) (hh : d ≠ 0) (hl : val ds % 10 ≠ 0) :
    (18 < ds.length ∧ norm neg (val ds) e = ((0, 0), 11)) ∨
    (ds.length ≤ 18 ∧ (e < -64 ∨ 64 < e) ∧ norm neg (val ds) e = ((0, 0), 11)) ∨
    (ds.length ≤ 18 ∧ -64 ≤ e ∧ e ≤ 64 ∧ val ds < 1000000000000000000 ∧ norm neg (val ds) e = ((if neg then -(val ds : Int) else val ds, e), 0)) := by
  rw [norm_fin _ _ _ hl]
  unfold fin
  have h1 := val_ge d t (by omega)
  rw [← h0] at h1
  have h2 := val_lt ds hd
  have h3 : ds.length = t.length + 1 := by rw [h0]; rfl
  by_cases h : 18 < ds.length
  · left
    have : (10 : Nat) ^ 18 ≤ 10 ^ t.length := Nat.pow_le_pow_right (by omega) (by omega)
    exact ⟨h, by rw [if_pos (by left; omega)]⟩
  · right
    have : 10 ^ ds.length ≤ (10 : Nat) ^ 18 := Nat.pow_le_pow_right (by omega) (by omega)
    by_cases hx : e < -64 ∨ 64 < e
    · left; exact ⟨by omega, hx, by rw [if_pos (by omega)]⟩
    · right; exact ⟨by omega, by omega, by omega, by omega, by rw [if_neg (by omega)]⟩
theorem val_zero_cons (ds : List Nat) : val (0 :: ds) = val ds := by rw [val_cons]; simp
theorem val_zeros (k : Nat) (ds : List Nat) : val (List.replicate k 0 ++ ds) = val ds := by
  induction k with
  | zero => rfl
  | succ k ih => rw [List.replicate_succ, List.cons_append, val_zero_cons, ih]
theorem val_behind (k : Nat) (ds : List Nat) : val (ds ++ List.replicate k 0) = val ds * 10 ^ k := by
  have h : val (List.replicate k 0) = 0 := by
    have := val_zeros k []
    simpa using this
  rw [val_append, h, List.length_replicate]; rfl
theorem Digs.append {a b : List Nat} (ha : Digs a) (hb : Digs b) : Digs (a ++ b) := by
  intro d hd
  rcases List.mem_append.1 hd with h | h
  · exact ha d h
  · exact hb d h
theorem Digs.cons {a : Nat} {b : List Nat} (ha : a ≤ 9) (hb : Digs b) : Digs (a :: b) := by
  intro d hd
  rcases List.mem_cons.1 hd with h | h
  · omega
  · exact hb d h
theorem Digs.tail {a : Nat} {b : List Nat} (h : Digs (a :: b)) : Digs b := fun d hd => h d (List.mem_cons_of_mem _ hd)
theorem Digs.take {a : List Nat} (h : Digs a) (k : Nat) : Digs (a.take k) := fun d hd => h d (List.mem_of_mem_take hd)
theorem Digs.drop {a : List Nat} (h : Digs a) (k : Nat) : Digs (a.drop k) := fun d hd => h d (List.mem_of_mem_drop hd)
theorem Digs.zeros (k : Nat) : Digs (List.replicate k 0) := fun d hd => by have := (List.mem_replicate.1 hd).2; omega
theorem Digs.nil : Digs [] := fun d hd => by cases hd

/-- digits with noughts behind, and ahead, so that they are so many -/
def wideL (ds : List Nat) (k many : Nat) : List Nat := List.replicate (many - (ds.length + k)) 0 ++ (ds ++ List.replicate k 0)
theorem val_wideL (ds : List Nat) (k many : Nat) : val (wideL ds k many) = val ds * 10 ^ k := by unfold wideL; rw [val_zeros, val_behind]
theorem digs_wideL {ds : List Nat} (h : Digs ds) (k many : Nat) : Digs (wideL ds k many) := (Digs.zeros _).append (h.append (Digs.zeros _))
theorem length_wideL (ds : List Nat) (k many : Nat) (h : ds.length + k ≤ many) : (wideL ds k many).length = many := by unfold wideL; simp; omega

/-- is the first row above the second one? -/
def gtL : List Nat → List Nat → Bool
  | a :: as, b :: bs => if a ≠ b then decide (b < a) else gtL as bs
  | _, _ => false
theorem gtL_iff : ∀ (a b : List Nat), Digs a → Digs b → a.length = b.length → (gtL a b = true ↔ val b < val a)
  | [], [], _, _, _ => by simp [gtL]
  | [], _ :: _, _, _, h => by simp at h
  | _ :: _, [], _, _, h => by simp at h
  | x :: a, y :: b, ha, hb, h => by
    have hl : a.length = b.length := by simpa using h
    have ih := gtL_iff a b ha.tail hb.tail hl
    have h1 := val_lt a ha.tail
    have h2 := val_lt b hb.tail
    rw [val_cons, val_cons, ← hl]
    rw [← hl] at h2
    unfold gtL
    by_cases hxy : x = y
    · subst hxy
      rw [if_neg (by simp), ih]
      omega
    · rw [if_pos hxy]
      generalize 10 ^ a.length = P at *
      simp only [decide_eq_true_eq]
      constructor
      · intro hlt
        have : (y + 1) * P ≤ x * P := Nat.mul_le_mul_right _ hlt
        rw [Nat.add_mul] at this
        omega
      · intro hlt
        rcases Nat.lt_or_ge y x with h3 | h3
        · exact h3
        · have : (x + 1) * P ≤ y * P := Nat.mul_le_mul_right _ (by omega)
          rw [Nat.add_mul] at this
          omega

/-- what holds of a sum of two rows, digit by digit from behind; s is 1, or -1 for a difference -/
structure TotInv (a b : List Nat) (s : Int) (k : Nat) (os : List Nat) (c : Int) : Prop where
  dig : Digs os
  len : os.length + k = a.length
  c0 : -1 ≤ c
  c1 : c ≤ 1
  sum : (val os : Int) + c * (10 ^ os.length : Nat) = val (a.drop k) + s * val (b.drop k)

theorem TotInv.start (a b : List Nat) (s : Int) (hl : a.length = b.length) : TotInv a b s a.length [] 0 :=
  ⟨Digs.nil, by simp, by omega, by omega, by rw [List.drop_length, hl, List.drop_length]; simp⟩
theorem TotInv.step {a b : List Nat} {s : Int} {k : Nat} {os : List Nat} {c : Int} (h : TotInv a b s (k + 1) os c) (hl : a.length = b.length) (ha : k < a.length) (hb : k < b.length) (d : Nat) (c' : Int) (hd : d ≤ 9) (hc : -1 ≤ c' ∧ c' ≤ 1)
    (he : (d : Int) + 10 * c' = a[k] + s * b[k] + c) : TotInv a b s k (d :: os) c' := by
  refine ⟨h.dig.cons hd, by have := h.len; simp; omega, hc.1, hc.2, ?_⟩
  have h1 := h.sum
  have e1 : a.drop k = a[k] :: a.drop (k + 1) := List.drop_eq_getElem_cons ha
  have e2 : b.drop k = b[k] :: b.drop (k + 1) := List.drop_eq_getElem_cons hb
  have hla : (a.drop (k + 1)).length = os.length := by have := h.len; simp; omega
  have hlb : (b.drop (k + 1)).length = os.length := by have := h.len; simp; omega
  rw [e1, e2, val_cons, val_cons, val_cons, hla, hlb, List.length_cons, Nat.pow_succ]
  generalize val (a.drop (k + 1)) = A at *
  generalize val (b.drop (k + 1)) = B at *
  generalize 10 ^ os.length = P at *
  generalize a[k] = x at *
  generalize b[k] = y at *
  have h2 : ((d : Int) + 10 * c') * P = (x + s * y + c) * P := by rw [he]
  simp only [Int.add_mul] at h2
  push_cast
  rw [Int.mul_add, ← Int.mul_assoc s, show c' * ((P : Int) * 10) = 10 * c' * P by rw [← Int.mul_assoc, Int.mul_comm, ← Int.mul_assoc]]
  omega
theorem TotInv.done {a b : List Nat} {s : Int} {os : List Nat} {c : Int} (h : TotInv a b s 0 os c) (h0 : 0 ≤ (val a : Int) + s * val b) (h1 : (val a : Int) + s * val b < (10 ^ a.length : Nat)) : os.length = a.length ∧ Digs os ∧ (val os : Int) = val a + s * val b := by
  have e := h.sum
  have hl := h.len
  have hv := val_lt os h.dig
  rw [Nat.add_zero] at hl
  rw [hl] at e hv
  simp only [List.drop_zero] at e
  refine ⟨hl, h.dig, ?_⟩
  have hc0 := h.c0
  have hc1 := h.c1
  generalize 10 ^ a.length = P at *
  have hc : c = 0 ∨ c = 1 ∨ c = -1 := by omega
  rcases hc with rfl | rfl | rfl <;> omega

/-- a place of a row set -/
theorem val_set : ∀ (l : List Nat) (i : Nat) (h : i < l.length) (v : Nat), val (l.set i v) + l[i] * 10 ^ (l.length - 1 - i) = val l + v * 10 ^ (l.length - 1 - i)
  | [], i, h, _ => by simp at h
  | x :: l, 0, _, v => by
    simp only [List.set_cons_zero, List.getElem_cons_zero, List.length_cons, val_cons, Nat.add_sub_cancel, Nat.sub_zero]
    omega
  | x :: l, i + 1, h, v => by
    have ih := val_set l i (by simpa using h) v
    simp only [List.set_cons_succ, List.getElem_cons_succ, List.length_cons, val_cons, List.length_set]
    rw [show l.length + 1 - 1 - (i + 1) = l.length - 1 - i by omega]
    omega
theorem sum_set : ∀ (l : List Nat) (i : Nat) (h : i < l.length) (v : Nat), (l.set i v).sum + l[i] = l.sum + v
  | [], i, h, _ => by simp at h
  | x :: l, 0, _, v => by simp; omega
  | x :: l, i + 1, h, v => by
    have ih := sum_set l i (by simpa using h) v
    simp only [List.set_cons_succ, List.getElem_cons_succ, List.sum_cons]
    omega
theorem le_sum : ∀ (l : List Nat) (i : Nat) (h : i < l.length), l[i] ≤ l.sum
  | [], i, h => by simp at h
  | x :: l, 0, _ => by simp
  | x :: l, i + 1, h => by
    have ih := le_sum l i (by simpa using h)
    simp only [List.getElem_cons_succ, List.sum_cons]
    omega
/-- something added at place p + 1, what is above ten carried to place p -/
def carry (o : List Nat) (p t : Nat) : List Nat := (o.set p (o.getD p 0 + (o.getD (p + 1) 0 + t) / 10)).set (p + 1) ((o.getD (p + 1) 0 + t) % 10)
theorem length_carry (o : List Nat) (p t : Nat) : (carry o p t).length = o.length := by unfold carry; simp
theorem getD_lt (o : List Nat) (i : Nat) (h : i < o.length) : o.getD i 0 = o[i] := by simp [h]
theorem getD_le_sum (o : List Nat) (i : Nat) : o.getD i 0 ≤ o.sum := by
  by_cases h : i < o.length
  · rw [getD_lt _ _ h]; exact le_sum o i h
  · simp [Nat.le_of_not_lt h]
theorem val_carry (o : List Nat) (p t : Nat) (h : p + 1 < o.length) : val (carry o p t) = val o + t * 10 ^ (o.length - 2 - p) := by
  unfold carry
  rw [getD_lt _ _ h, getD_lt _ _ (by omega : p < o.length)]
  generalize hx : o[p + 1] = x
  generalize hy : o[p] = y
  have h1 := val_set o p (by omega) (y + (x + t) / 10)
  have h2 := val_set (o.set p (y + (x + t) / 10)) (p + 1) (by simpa using h) ((x + t) % 10)
  rw [List.getElem_set_ne (by omega), hx] at h2
  simp only [List.length_set] at h2
  rw [hy] at h1
  rw [show o.length - 1 - (p + 1) = o.length - 2 - p by omega] at h2
  rw [show o.length - 1 - p = (o.length - 2 - p) + 1 by omega, Nat.pow_succ] at h1
  generalize 10 ^ (o.length - 2 - p) = P at *
  have e : (x + t) = (x + t) / 10 * 10 + (x + t) % 10 := by omega
  generalize (x + t) / 10 = q at *
  generalize (x + t) % 10 = r at *
  have h3 : (x + t) * P = (q * 10 + r) * P := by rw [← e]
  rw [Nat.add_mul, Nat.add_mul] at h3
  rw [Nat.add_mul] at h1
  rw [show q * (P * 10) = q * 10 * P by rw [Nat.mul_comm P, Nat.mul_assoc]] at h1
  omega
theorem sum_carry (o : List Nat) (p t : Nat) (h : p + 1 < o.length) : (carry o p t).sum ≤ o.sum + t := by
  unfold carry
  rw [getD_lt _ _ h, getD_lt _ _ (by omega : p < o.length)]
  have h1 := sum_set o p (by omega) (o[p] + (o[p + 1] + t) / 10)
  have h2 := sum_set (o.set p (o[p] + (o[p + 1] + t) / 10)) (p + 1) (by simpa using h) ((o[p + 1] + t) % 10)
  rw [List.getElem_set_ne (by omega)] at h2
  omega
theorem getD_carry_behind (o : List Nat) (p t : Nat) (_h : p + 1 < o.length) (j : Nat) (hj : p + 1 < j) : (carry o p t).getD j 0 = o.getD j 0 := by
  unfold carry
  simp only [List.getD_eq_getElem?_getD]
  rw [List.getElem?_set_ne (by omega), List.getElem?_set_ne (by omega)]
theorem getD_carry_at (o : List Nat) (p t : Nat) (h : p + 1 < o.length) : (carry o p t).getD (p + 1) 0 ≤ 9 := by
  unfold carry
  simp only [List.getD_eq_getElem?_getD]
  rw [List.getElem?_set_self (by simpa using h)]
  simp only [Option.getD_some]
  omega
/-- the end of a product: digits alone -/
theorem digs_of_small (o : List Nat) (h0 : 0 < o.length) (h : ∀ j, 1 ≤ j → o.getD j 0 ≤ 9) (hv : val o < 10 ^ (o.length - 1)) : Digs o := by
  cases o with
  | nil => simp at h0
  | cons x l =>
    rw [val_cons] at hv
    simp only [List.length_cons, Nat.add_sub_cancel] at hv
    have hx : x = 0 := by
      rcases Nat.eq_zero_or_pos x with h1 | h1
      · exact h1
      · have : 1 * 10 ^ l.length ≤ x * 10 ^ l.length := Nat.mul_le_mul_right _ h1
        omega
    subst hx
    refine Digs.cons (by omega) fun d hd => ?_
    obtain ⟨k, hk, rfl⟩ := List.getElem_of_mem hd
    have := h (k + 1) (by omega)
    simpa [hk] using this

/-- a step of a long division -/
theorem div_step (v y d : Nat) (hy : 0 < y) (hd : d ≤ 9) : (v * 10 + d) / y = v / y * 10 + (v % y * 10 + d) / y ∧ (v * 10 + d) % y = (v % y * 10 + d) % y ∧ (v % y * 10 + d) / y ≤ 9 := by
  have h1 := Nat.div_add_mod v y
  have h2 := Nat.mod_lt v hy
  generalize v / y = q at *
  generalize v % y = r at *
  have e : v * 10 + d = r * 10 + d + y * (q * 10) := by rw [← h1, Nat.add_mul, Nat.mul_assoc]; omega
  refine ⟨?_, ?_, ?_⟩
  · rw [e, Nat.add_mul_div_left _ _ hy]; omega
  · rw [e, Nat.add_mul_mod_self_left]
  · have : r * 10 + d < y * 10 := by omega
    have := (Nat.div_lt_iff_lt_mul hy).2 (by rw [Nat.mul_comm]; exact this)
    omega
theorem divR_fin (a y n : Nat) (neg : Bool) (e : Int) (hy : 0 < y) (hn : n ≤ 100) (h : a * 10 ^ n % y = 0) : divR a y neg e = norm neg (a * 10 ^ n / y) (e - n) := by
  unfold divR
  have h2 : a * 10 ^ 100 = a * 10 ^ n * 10 ^ (100 - n) := by rw [Nat.mul_assoc, ← Nat.pow_add, show n + (100 - n) = 100 by omega]
  obtain ⟨q, hq⟩ : ∃ q, a * 10 ^ n = y * q := Nat.dvd_of_mod_eq_zero h
  rw [h2, hq, Nat.mul_assoc, if_pos (Nat.dvd_mul_right _ _), Nat.mul_div_cancel_left _ hy, Nat.mul_div_cancel_left _ hy, norm_shift]
  congr 1
  omega
theorem divR_bad (a y : Nat) (neg : Bool) (e : Int) (h : a * 10 ^ 100 % y ≠ 0) : divR a y neg e = ((0, 0), 11) := by
  unfold divR
  rw [if_neg (fun hd => h (Nat.mod_eq_zero_of_dvd hd))]

/-- a number that may be, and one that may not -/
theorem right_of_norm {m e : Int} (h : norm (decide (m < 0)) m.natAbs e = ((m, e), 0)) : right m e = true := by
  by_cases hm : m = 0
  · subst hm
    have : ((0, 0), 0) = ((((0 : Int), e), (0 : Int))) := h
    injection this with h1 _
    injection h1 with _ h2
    subst h2
    rfl
  · obtain ⟨a, k, ha, hk⟩ := exists_form m.natAbs (by omega)
    rw [hk, norm_of _ _ _ _ ha] at h
    unfold fin at h
    split at h
    · injection h with h1 h2
      exact absurd h2 (by decide)
    · rename_i hb
      injection h with h1 h2
      injection h1 with h3 h4
      have hk0 : k = 0 := by omega
      subst hk0
      rw [Nat.pow_zero, Nat.mul_one] at hk
      unfold right
      rw [if_neg hm]
      simp only [Bool.and_eq_true, decide_eq_true_eq]
      omega
theorem norm_err (neg : Bool) (m : Nat) (e : Int) : (norm neg m e).2 = 0 ∨ (norm neg m e) = ((0, 0), 11) := by
  unfold norm fin
  split
  · left; rfl
  · split
    · right; rfl
    · left; rfl
end Th
