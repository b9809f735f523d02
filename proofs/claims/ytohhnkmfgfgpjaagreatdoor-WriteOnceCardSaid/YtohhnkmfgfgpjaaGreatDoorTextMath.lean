/- Plain law on the texts of numbers: what is printed is parsed; what is parsed may be. No conditions: it imports no program. -/
import Derived.Test.YtohhnkmfgfgpjaaGreatDoorNumMath
import Derived.Test.YtohhnkmfgfgpjaaGreatDoorBase
import Derived.Lib.ItoaNum
import Derived.Lib.Bytealg
namespace Go.Proofs.YtohhnkmfgfgpjaaGreatDoor
open Go Go.RowKit Go.Proofs Th

/-- how many digits -/
def nd (m : Int) : Nat := Lib.nDigits m.natAbs
theorem lt_pow_nd (u : Nat) : u < 10 ^ Lib.nDigits u := Lib.lt_pow_nDigits u
theorem nd_pos (m : Int) : 1 ≤ nd m := by
  unfold nd
  by_cases h : m.natAbs < 10
  · rw [Lib.nDigits_small h]; omega
  · rw [Lib.nDigits_big h]; omega
def sgn (m : Int) : List UInt8 := if m < 0 then [45] else []
def pad (m e : Int) : List UInt8 := if (nd m : Int) ≤ -e then List.replicate (1 - e - nd m).toNat 48 ++ Lib.decDigits m.natAbs else Lib.decDigits m.natAbs
def textN (m e : Int) : List UInt8 :=
  if 0 ≤ e ∧ (nd m : Int) + e ≤ 21 then sgn m ++ Lib.decDigits m.natAbs ++ List.replicate e.toNat 48
  else if e < 0 ∧ -20 ≤ e then sgn m ++ (pad m e).take ((pad m e).length + e).toNat ++ [46] ++ (pad m e).drop ((pad m e).length + e).toNat
  else sgn m ++ Lib.decDigits m.natAbs ++ [101] ++ Lib.itoa e
theorem itoa_len (e : Int) (h0 : -64 ≤ e) (h1 : e ≤ 64) : (Lib.itoa e).length ≤ 1000 := by
  have key : ∀ u : Nat, u ≤ 64 → (Lib.decDigits u).length ≤ 2 := by
    intro u hu
    rw [Lib.decDigits_length]
    by_cases h : u < 10
    · rw [Lib.nDigits_small h]; omega
    · rw [Lib.nDigits_big h, Lib.nDigits_small (by omega)]; omega
  unfold Lib.itoa
  split
  · have := key e.natAbs (by omega); simp; omega
  · have := key e.toNat (by omega); omega
/-- what a number that there is is worth -/
theorem normZ_ok {S e m f : Int} (h : normZ S e = ((m, f), 0)) : right m f = true ∧ ((S = 0 ∧ m = 0 ∧ f = 0) ∨ (m ≠ 0 ∧ ∃ k : Nat, S = m * (10 ^ k : Nat) ∧ f = e + k)) := by
  unfold normZ at h
  by_cases hS : S = 0
  · subst hS
    have h2 : (((0 : Int), (0 : Int)), (0 : Int)) = ((m, f), 0) := h
    simp only [Prod.mk.injEq] at h2
    obtain ⟨⟨rfl, rfl⟩, _⟩ := h2
    exact ⟨by decide, .inl ⟨rfl, rfl, rfl⟩⟩
  · obtain ⟨a, k, ha, hk⟩ := exists_form S.natAbs (by omega)
    rw [hk, norm_of _ _ _ _ ha] at h
    unfold fin at h
    split at h
    · simp at h
    · rename_i hn
      simp only [Prod.mk.injEq] at h
      obtain ⟨⟨h1, h2⟩, _⟩ := h
      have hma : m.natAbs = a := by rw [← h1]; split <;> omega
      have hm0 : m ≠ 0 := by intro h0; subst h0; simp at hma; omega
      refine ⟨?_, .inr ⟨hm0, k, ?_, h2.symm⟩⟩
      · unfold right
        rw [if_neg hm0, hma]
        simp only [Bool.and_eq_true, decide_eq_true_eq]
        omega
      · rw [← h1]
        by_cases hneg : S < 0
        · simp only [hneg, decide_true, ↓reduceIte]
          rw [Int.neg_mul, ← Int.natCast_mul, ← hk]; omega
        · simp only [hneg, decide_false, Bool.false_eq_true, ↓reduceIte]
          rw [← Int.natCast_mul, ← hk]; omega

theorem dec_all (u : Nat) : AllDig (Lib.decDigits u) ∧ val (dgs (Lib.decDigits u)) = u := by
  induction u using Nat.strongRecOn with
  | ind u ih =>
    rw [Lib.decDigits]
    split
    · rename_i h
      have e : (UInt8.ofNat (48 + u)).toNat = 48 + u := by rw [UInt8.toNat_ofNat']; omega
      refine ⟨fun c hc => ?_, ?_⟩
      · rw [List.mem_singleton] at hc; subst hc; omega
      · show val [dg (UInt8.ofNat (48 + u))] = u
        unfold dg; rw [e]; simp [val]
    · rename_i h
      obtain ⟨h1, h2⟩ := ih (u / 10) (by omega)
      have e : (UInt8.ofNat (48 + u % 10)).toNat = 48 + u % 10 := by rw [UInt8.toNat_ofNat']; omega
      refine ⟨fun c hc => ?_, ?_⟩
      · rcases List.mem_append.1 hc with hc | hc
        · exact h1 c hc
        · rw [List.mem_singleton] at hc; subst hc; omega
      · rw [dgs_append, show dgs [UInt8.ofNat (48 + u % 10)] = [dg (UInt8.ofNat (48 + u % 10))] from rfl, val_snoc, h2]
        unfold dg; rw [e]; omega
theorem nDigits_ge (u : Nat) (h : u ≠ 0) : 10 ^ (Lib.nDigits u - 1) ≤ u := by
  induction u using Nat.strongRecOn with
  | ind u ih =>
    rw [Lib.nDigits]
    split
    · simp; omega
    · have := ih (u / 10) (by omega) (by omega)
      have hp : 1 ≤ Lib.nDigits (u / 10) := by
        rw [Lib.nDigits]; split <;> omega
      rw [show Lib.nDigits (u / 10) + 1 - 1 = (Lib.nDigits (u / 10) - 1) + 1 by omega, Nat.pow_succ]
      omega
theorem nDigits_one (u : Nat) : 1 ≤ Lib.nDigits u := by rw [Lib.nDigits]; split <;> omega

theorem nDig_stop (a : List UInt8) (c : UInt8) (r : List UInt8) (h : AllDig a) (hc : ¬ (48 ≤ c.toNat ∧ c.toNat ≤ 57)) : nDig (a ++ c :: r) = a.length := by
  induction a with
  | nil => simp [nDig, hc]
  | cons x a ih => rw [List.cons_append, nDig, if_pos (h x (by simp)), ih (fun y hy => h y (by simp [hy]))]; rfl
theorem dec_nil (u : Nat) : Lib.decDigits u ≠ [] := by
  intro h
  have := congrArg List.length h
  rw [Lib.decDigits_length] at this
  have h1 := nDigits_one u
  rw [List.length_nil] at this; omega
theorem dec_head (u : Nat) (h : u ≠ 0) : ∃ c t, Lib.decDigits u = c :: t ∧ 49 ≤ c.toNat ∧ c.toNat ≤ 57 := by
  cases hd : Lib.decDigits u with
  | nil => exact absurd hd (dec_nil u)
  | cons c t =>
    refine ⟨c, t, rfl, ?_⟩
    have h1 := (dec_all u).1 c (by rw [hd]; simp)
    have h2 := (dec_all u).2
    have h3 := nDigits_ge u h
    have h4 := Lib.decDigits_length u
    rw [hd] at h2 h4
    rw [show dgs (c :: t) = dg c :: dgs t from rfl, val_cons, dgs_length] at h2
    have ht : AllDig t := fun x hx => (dec_all u).1 x (by rw [hd]; simp [hx])
    have h5 := val_lt _ (dgs_all t ht)
    rw [dgs_length] at h5
    simp only [List.length_cons] at h4
    rw [← h4, show t.length + 1 - 1 = t.length by omega] at h3
    refine ⟨?_, h1.2⟩
    have : dg c ≠ 0 := by
      intro h0
      rw [h0] at h2; omega
    unfold dg at this; omega
theorem all_zeros (n : Nat) : AllDig (List.replicate n 48) := by
  intro c hc
  rw [List.eq_of_mem_replicate hc]; decide
theorem val_zeros (n : Nat) : val (dgs (List.replicate n 48)) = 0 := by
  induction n with
  | zero => rfl
  | succ n ih => rw [List.replicate_succ, show dgs (48 :: List.replicate n 48) = 0 :: dgs (List.replicate n 48) from rfl, val_cons, ih]; simp
theorem fracP_nil : fracP [] = some ([], []) := by unfold fracP; simp
theorem expoP_nil : expoP [] = some (false, []) := by unfold expoP; simp
theorem head_append {a b : List UInt8} {c : UInt8} {t : List UInt8} (h : a = c :: t) : (a ++ b).head? = some c := by rw [h]; rfl

theorem core_whole (neg : Bool) (T : List UInt8) (hd : AllDig T) (h0 : T ≠ []) (h1 : T.head? ≠ some 48) : coreN neg T = norm neg (val (dgs T)) 0 := by
  have hn := nDig_all T hd
  have hl : T.length ≠ 0 := by simpa using h0
  rw [core_good neg T [] [] [] false (by rw [hn]; rintro (h | h); exact hl h; exact h1 h.2) (by rw [hn, List.drop_length]; exact fracP_nil) expoP_nil, hn, List.take_length]
  simp [sg, clampN]
theorem core_point (neg : Bool) (A B : List UInt8) (ha : AllDig A) (hb : AllDig B) (h0 : A ≠ []) (hb0 : B ≠ []) (h1 : ¬ (1 < A.length ∧ A.head? = some 48)) : coreN neg (A ++ 46 :: B) = norm neg (val (dgs (A ++ B))) (-B.length) := by
  have hn := nDig_stop A 46 B ha (by decide)
  have hl : A.length ≠ 0 := by simpa using h0
  have hlb : B.length ≠ 0 := by simpa using hb0
  have hh : (A ++ 46 :: B).head? = A.head? := by cases A with | nil => exact absurd rfl h0 | cons _ _ => rfl
  have hd : (A ++ 46 :: B).drop A.length = 46 :: B := List.drop_left
  have ht : (A ++ 46 :: B).take A.length = A := List.take_left
  have hf : fracP (46 :: B) = some (B, []) := by
    unfold fracP
    have := nDig_all B hb
    simp only [List.head?_cons, ↓reduceIte, List.drop_succ_cons, List.drop_zero, this, List.take_length, List.drop_length]
    rw [if_neg hlb]
  rw [core_good neg _ B [] [] false (by rw [hn, hh]; rintro (h | h); exact hl h; exact h1 h) (by rw [hn, hd]; exact hf) expoP_nil, hn, ht]
  congr 1; simp [sg, clampN]
theorem expo_itoa (e : Int) (h : e.natAbs ≤ 64) : ∃ en x, expoP (101 :: Lib.itoa e) = some (en, x) ∧ sg en (clampN x) = e := by
  have hd := dec_all e.natAbs
  have hn := nDig_all _ hd.1
  have hl : (Lib.decDigits e.natAbs).length ≠ 0 := by have := dec_nil e.natAbs; simpa using this
  have hc : clampN (Lib.decDigits e.natAbs) = e.natAbs := by rw [clampN_eq, hd.2]; omega
  have chk : ∀ en, chkE en (Lib.decDigits e.natAbs) = some (en, Lib.decDigits e.natAbs) := by
    intro en; unfold chkE; rw [hn, if_neg (by omega)]
  by_cases h0 : e < 0
  · refine ⟨true, _, ?_, by rw [hc]; simp [sg]; omega⟩
    have : Lib.itoa e = 45 :: Lib.decDigits e.natAbs := by unfold Lib.itoa; rw [if_pos h0]
    rw [this]; unfold expoP; simp [chk]
  · refine ⟨false, _, ?_, by rw [hc]; simp [sg]; omega⟩
    have : Lib.itoa e = Lib.decDigits e.natAbs := by unfold Lib.itoa; rw [if_neg h0]; congr 1; omega
    rw [this]
    obtain ⟨c, t, hct⟩ : ∃ c t, Lib.decDigits e.natAbs = c :: t := by
      cases hx : Lib.decDigits e.natAbs with
      | nil => exact absurd hx (dec_nil _)
      | cons c t => exact ⟨c, t, rfl⟩
    have hr := hd.1 c (by rw [hct]; simp)
    have n45 : c ≠ 45 := by intro h; subst h; exact absurd hr.1 (by decide)
    have n43 : c ≠ 43 := by intro h; subst h; exact absurd hr.1 (by decide)
    have := chk false
    rw [hct] at this
    unfold expoP
    simp [hct, n45, n43, this]
theorem core_e (neg : Bool) (A : List UInt8) (e : Int) (ha : AllDig A) (h0 : A ≠ []) (h1 : A.head? ≠ some 48) (he : e.natAbs ≤ 64) : coreN neg (A ++ 101 :: Lib.itoa e) = norm neg (val (dgs A)) e := by
  obtain ⟨en, x, hx, hs⟩ := expo_itoa e he
  have hn := nDig_stop A 101 (Lib.itoa e) ha (by decide)
  have hl : A.length ≠ 0 := by simpa using h0
  have hh : (A ++ 101 :: Lib.itoa e).head? = A.head? := by cases A with | nil => exact absurd rfl h0 | cons _ _ => rfl
  have hd : (A ++ 101 :: Lib.itoa e).drop A.length = 101 :: Lib.itoa e := List.drop_left
  have ht : (A ++ 101 :: Lib.itoa e).take A.length = A := List.take_left
  have hf : fracP (101 :: Lib.itoa e) = some ([], 101 :: Lib.itoa e) := by unfold fracP; simp
  rw [core_good neg _ [] _ x en (by rw [hn, hh]; rintro (h | h); exact hl h; exact h1 h.2) (by rw [hn, hd]; exact hf) hx, hn, ht, hs]
  simp

/-- the text of a number without its sign -/
def bareN (m e : Int) : List UInt8 :=
  if 0 ≤ e ∧ (nd m : Int) + e ≤ 21 then Lib.decDigits m.natAbs ++ List.replicate e.toNat 48
  else if e < 0 ∧ -20 ≤ e then (pad m e).take ((pad m e).length + e).toNat ++ 46 :: (pad m e).drop ((pad m e).length + e).toNat
  else Lib.decDigits m.natAbs ++ 101 :: Lib.itoa e
theorem text_bare (m e : Int) : textN m e = sgn m ++ bareN m e := by
  unfold textN bareN
  split
  · rw [List.append_assoc]
  · split
    · simp
    · simp
theorem bare_head (m e : Int) (hm : m ≠ 0) : (bareN m e).head? ≠ some 45 := by
  obtain ⟨c, t, hc, h1, _⟩ := dec_head m.natAbs (by omega)
  have n45 : c ≠ 45 := by intro h; subst h; exact absurd h1 (by decide)
  unfold bareN
  split
  · rw [head_append hc]; simpa using n45
  · split
    · rename_i h
      have hn := nDigits_one m.natAbs
      unfold pad nd at *
      split
      · rename_i hp
        obtain ⟨k, hk⟩ : ∃ k, (1 - e - (Lib.nDigits m.natAbs : Int)).toNat = k + 1 := ⟨(1 - e - (Lib.nDigits m.natAbs : Int)).toNat - 1, by omega⟩
        rw [hk, List.replicate_succ, List.length_append, List.length_cons, List.length_replicate, Lib.decDigits_length]
        rw [show ((((k + 1 + Lib.nDigits m.natAbs : Nat) : Int)) + e).toNat = 0 + 1 by omega]
        simp
      · rename_i hp
        rw [Lib.decDigits_length]
        obtain ⟨k, hk⟩ : ∃ k, ((Lib.nDigits m.natAbs : Int) + e).toNat = k + 1 := ⟨((Lib.nDigits m.natAbs : Int) + e).toNat - 1, by omega⟩
        rw [hk, hc]
        simpa using n45
    · rw [head_append hc]; simpa using n45

theorem core_bare (neg : Bool) (m e : Int) (hm : m ≠ 0) (he0 : -64 ≤ e) (he1 : e ≤ 64) : coreN neg (bareN m e) = norm neg m.natAbs e := by
  have hd := dec_all m.natAbs
  obtain ⟨c, t, hc, h1, _⟩ := dec_head m.natAbs (by omega)
  have n48 : c ≠ 48 := by intro h; subst h; exact absurd h1 (by decide)
  have hh : (Lib.decDigits m.natAbs).head? ≠ some 48 := by rw [hc]; simpa using n48
  unfold bareN
  split
  · rename_i h
    rw [core_whole neg _ (allDig_append hd.1 (all_zeros _)) (by have := dec_nil m.natAbs; simp [this]) (by rw [head_append hc]; simpa using n48)]
    rw [dgs_append, val_append, val_zeros, hd.2, dgs_length, List.length_replicate, Nat.add_zero, norm_shift]
    congr 1; omega
  · split
    · rename_i h
      have hn := nDigits_one m.natAbs
      have hpd : AllDig (pad m e) ∧ val (dgs (pad m e)) = m.natAbs ∧ (1 - e) ≤ ((pad m e).length : Int) ∧ (1 < ((pad m e).length : Int) + e → (pad m e).head? ≠ some 48) := by
        unfold pad nd at *
        split
        · rename_i hp
          refine ⟨allDig_append (all_zeros _) hd.1, by rw [dgs_append, val_append, val_zeros, hd.2]; simp, ?_, ?_⟩
          · rw [List.length_append, List.length_replicate, Lib.decDigits_length]; omega
          · rw [List.length_append, List.length_replicate, Lib.decDigits_length]; omega
        · rename_i hp
          refine ⟨hd.1, hd.2, ?_, fun _ => hh⟩
          rw [Lib.decDigits_length]; omega
      obtain ⟨p1, p2, p3, p4⟩ := hpd
      generalize pad m e = P at *
      have hk : ((P.length : Int) + e).toNat ≤ P.length := by omega
      have hA : (P.take ((P.length : Int) + e).toNat).length = ((P.length : Int) + e).toNat := by rw [List.length_take]; omega
      have hB : (P.drop ((P.length : Int) + e).toNat).length = (-e).toNat := by rw [List.length_drop]; omega
      have q1 : AllDig (P.take ((P.length : Int) + e).toNat) := fun x hx => p1 x (List.mem_of_mem_take hx)
      have q2 : AllDig (P.drop ((P.length : Int) + e).toNat) := fun x hx => p1 x (List.mem_of_mem_drop hx)
      rw [core_point neg _ _ q1 q2 (by intro h0; rw [h0] at hA; simp at hA; omega) (by intro h0; rw [h0] at hB; simp at hB; omega) ?_, List.take_append_drop, p2, hB]
      · congr 1; omega
      · rw [hA]
        rintro ⟨g1, g2⟩
        apply p4 (by omega)
        cases hP : P with
        | nil => rw [hP] at g2; simp at g2
        | cons x l =>
          rw [hP] at g2
          obtain ⟨k, hk⟩ : ∃ k, (((x :: l).length : Int) + e).toNat = k + 1 := ⟨(((x :: l).length : Int) + e).toNat - 1, by rw [← hP]; omega⟩
          rw [hk] at g2
          simpa using g2
    · rename_i h
      rw [core_e neg _ e hd.1 (dec_nil _) hh (by omega), hd.2]

/-- what is printed is parsed -/
theorem parse_text (m e : Int) (h : right m e = true) : parseN (textN m e) = ((m, e), 0) := by
  by_cases hm : m = 0
  · subst hm
    have he : e = 0 := by simpa [right] using h
    subst he
    have : textN 0 0 = [48] := by
      unfold textN
      rw [if_pos (by unfold nd; rw [show (0 : Int).natAbs = 0 by rfl, Lib.nDigits_small (by omega)]; decide), show (0 : Int).natAbs = 0 by rfl, Lib.decDigits_one (by omega)]
      rfl
    rw [this]; decide
  · have hx := right_exp h
    rw [text_bare, ← normZ_right h]
    unfold parseN sgn normZ
    by_cases hn : m < 0
    · rw [if_pos hn]
      simp only [List.cons_append, List.nil_append, List.head?_cons, ↓reduceIte, List.drop_succ_cons, List.drop_zero, hn, decide_true]
      exact core_bare true m e hm hx.1 hx.2
    · rw [if_neg hn]
      simp only [List.nil_append, hn, decide_false]
      rw [if_neg (bare_head m e hm)]
      exact core_bare false m e hm hx.1 hx.2

theorem norm_ok {neg : Bool} {v : Nat} {e m f : Int} (h : norm neg v e = ((m, f), 0)) : right m f = true := by
  have : norm neg v e = normZ (if neg then -(v : Int) else v) e := by
    apply norm_eq
    · cases neg <;> simp
    · intro h0; cases neg <;> simp <;> omega
  rw [this] at h
  exact (normZ_ok h).1
theorem norm_bad {neg : Bool} {v : Nat} {e : Int} {p : Int × Int} {c : Int} (h : norm neg v e = (p, c)) (hc : c ≠ 0) : p = (0, 0) := by
  unfold norm fin at h
  split at h
  · simp only [Prod.mk.injEq] at h; exact absurd h.2.symm hc
  · split at h
    · simp only [Prod.mk.injEq] at h; obtain ⟨⟨rfl, rfl⟩, _⟩ := h; rfl
    · simp only [Prod.mk.injEq] at h; exact absurd h.2.symm hc
theorem core_ok {neg : Bool} {u : List UInt8} {m f : Int} (h : coreN neg u = ((m, f), 0)) : right m f = true := by
  unfold coreN at h
  split at h
  · simp at h
  · exact norm_ok h
theorem core_wrong {neg : Bool} {u : List UInt8} {p : Int × Int} {c : Int} (h : coreN neg u = (p, c)) (hc : c ≠ 0) : p = (0, 0) := by
  unfold coreN at h
  split at h
  · simp only [Prod.mk.injEq] at h; exact h.1.symm
  · exact norm_bad h hc
theorem parse_ok {l : List UInt8} {m f : Int} (h : parseN l = ((m, f), 0)) : right m f = true := by
  unfold parseN at h
  split at h <;> exact core_ok h
theorem parse_wrong {l : List UInt8} {p : Int × Int} {c : Int} (h : parseN l = (p, c)) (hc : c ≠ 0) : p = (0, 0) := by
  unfold parseN at h
  split at h <;> exact core_wrong h hc
theorem nd_small {m e : Int} (h : right m e = true) : nd m ≤ 18 := by
  unfold nd
  have hs := right_size h
  by_cases h0 : m.natAbs = 0
  · rw [h0, Lib.nDigits_small (by omega)]; omega
  · have h1 := nDigits_ge m.natAbs h0
    have h2 : (10 : Nat) ^ (Lib.nDigits m.natAbs - 1) < 10 ^ 18 := by omega
    have := (Nat.pow_lt_pow_iff_right (a := 10) (by omega)).1 h2
    omega
theorem text_short {m e : Int} (h : right m e = true) : (textN m e).length ≤ 3000 := by
  have h1 := nd_small h
  have hx := right_exp h
  have hi := itoa_len e hx.1 hx.2
  have hd : (Lib.decDigits m.natAbs).length ≤ 18 := by rw [Lib.decDigits_length]; exact h1
  have hs : (sgn m).length ≤ 1 := by unfold sgn; split <;> simp
  have hp : (pad m e).length ≤ 100 := by
    unfold pad; split
    · rw [List.length_append, List.length_replicate]; omega
    · omega
  unfold textN
  split
  · simp only [List.length_append, List.length_replicate]; omega
  · split
    · simp only [List.length_append, List.length_take, List.length_drop, List.length_cons, List.length_nil]; omega
    · simp only [List.length_append, List.length_cons, List.length_nil]; omega
end Go.Proofs.YtohhnkmfgfgpjaaGreatDoor
