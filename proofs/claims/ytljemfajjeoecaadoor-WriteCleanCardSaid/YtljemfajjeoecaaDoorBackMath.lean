/- Plain law of NumBack: what is printed is parsed. No conditions. -/
import Derived.Test.YtljemfajjeoecaaDoorOrdMath
import Derived.Test.YtljemfajjeoecaaDoorPrint
import Derived.Test.YtljemfajjeoecaaDoorParseC
namespace Go.Proofs.YtljemfajjeoecaaDoor
open Go Go.RowKit Go.Proofs Th

theorem nDig_stop (a : List UInt8) (c : UInt8) (r : List UInt8) (h : AllDig a) (hc : ¬ (48 ≤ c.toNat ∧ c.toNat ≤ 57)) : nDig (a ++ c :: r) = a.length := by
  induction a with
  | nil => simp [nDig, hc]
  | cons x a ih => rw [List.cons_append, nDig, if_pos (h x (by simp)), ih (fun y hy => h y (by simp [hy]))]; rfl
theorem dec_nil (u : Nat) : Lib.decDigits u ≠ [] := by
  intro h
  have := congrArg List.length h
  rw [Lib.decDigits_length] at this
  have h1 := nDigits_one u
  rw [List.length_nil] at this; omega
theorem dec_head (u : Nat) (h : u ≠ 0) : ∃ c t, Lib.decDigits u = c :: t ∧ 49 ≤ c.toNat ∧ c.toNat ≤ 57 := by
  cases hd : Lib.decDigits u with
  | nil => exact absurd hd (dec_nil u)
  | cons c t =>
    refine ⟨c, t, rfl, ?_⟩
    have h1 := (dec_all u).1 c (by rw [hd]; simp)
    have h2 := (dec_all u).2
    have h3 := nDigits_ge u h
    have h4 := Lib.decDigits_length u
    rw [hd] at h2 h4
    rw [show dgs (c :: t) = dg c :: dgs t from rfl, val_cons, dgs_length] at h2
    have ht : AllDig t := fun x hx => (dec_all u).1 x (by rw [hd]; simp [hx])
    have h5 := val_lt _ (dgs_all t ht)
    rw [dgs_length] at h5
    simp only [List.length_cons] at h4
    rw [← h4, show t.length + 1 - 1 = t.length by omega] at h3
    refine ⟨?_, h1.2⟩
    have : dg c ≠ 0 := by
      intro h0
      rw [h0] at h2; omega
    unfold dg at this; omega
theorem all_zeros (n : Nat) : AllDig (List.replicate n 48) := by
  intro c hc
  rw [List.eq_of_mem_replicate hc]; decide
theorem val_zeros (n : Nat) : val (dgs (List.replicate n 48)) = 0 := by
  induction n with
  | zero => rfl
  | succ n ih => rw [List.replicate_succ, show dgs (48 :: List.replicate n 48) = 0 :: dgs (List.replicate n 48) from rfl, val_cons, ih]; simp
theorem fracP_nil : fracP [] = some ([], []) := by unfold fracP; simp
theorem expoP_nil : expoP [] = some (false, []) := by unfold expoP; simp
theorem head_append {a b : List UInt8} {c : UInt8} {t : List UInt8} (h : a = c :: t) : (a ++ b).head? = some c := by rw [h]; rfl

theorem core_whole (neg : Bool) (T : List UInt8) (hd : AllDig T) (h0 : T ≠ []) (h1 : T.head? ≠ some 48) : coreN neg T = norm neg (val (dgs T)) 0 := by
  have hn := nDig_all T hd
  have hl : T.length ≠ 0 := by simpa using h0
  rw [core_good neg T [] [] [] false (by rw [hn]; rintro (h | h); exact hl h; exact h1 h.2) (by rw [hn, List.drop_length]; exact fracP_nil) expoP_nil, hn, List.take_length]
  simp [sg, clampN]
theorem core_point (neg : Bool) (A B : List UInt8) (ha : AllDig A) (hb : AllDig B) (h0 : A ≠ []) (hb0 : B ≠ []) (h1 : ¬ (1 < A.length ∧ A.head? = some 48)) : coreN neg (A ++ 46 :: B) = norm neg (val (dgs (A ++ B))) (-B.length) := by
  have hn := nDig_stop A 46 B ha (by decide)
  have hl : A.length ≠ 0 := by simpa using h0
  have hlb : B.length ≠ 0 := by simpa using hb0
  have hh : (A ++ 46 :: B).head? = A.head? := by cases A with | nil => exact absurd rfl h0 | cons _ _ => rfl
  have hd : (A ++ 46 :: B).drop A.length = 46 :: B := List.drop_left
  have ht : (A ++ 46 :: B).take A.length = A := List.take_left
  have hf : fracP (46 :: B) = some (B, []) := by
    unfold fracP
    have := nDig_all B hb
    simp only [List.head?_cons, ↓reduceIte, List.drop_succ_cons, List.drop_zero, this, List.take_length, List.drop_length]
    rw [if_neg hlb]
  rw [core_good neg _ B [] [] false (by rw [hn, hh]; rintro (h | h); exact hl h; exact h1 h) (by rw [hn, hd]; exact hf) expoP_nil, hn, ht]
  congr 1; simp [sg, clampN]
theorem expo_itoa (e : Int) (h : e.natAbs ≤ 64) : ∃ en x, expoP (101 :: Lib.itoa e) = some (en, x) ∧ sg en (clampN x) = e := by
  have hd := dec_all e.natAbs
  have hn := nDig_all _ hd.1
  have hl : (Lib.decDigits e.natAbs).length ≠ 0 := by have := dec_nil e.natAbs; simpa using this
  have hc : clampN (Lib.decDigits e.natAbs) = e.natAbs := by rw [clampN_eq, hd.2]; omega
  have chk : ∀ en, chkE en (Lib.decDigits e.natAbs) = some (en, Lib.decDigits e.natAbs) := by
    intro en; unfold chkE; rw [hn, if_neg (by omega)]
  by_cases h0 : e < 0
  · refine ⟨true, _, ?_, by rw [hc]; simp [sg]; omega⟩
    have : Lib.itoa e = 45 :: Lib.decDigits e.natAbs := by unfold Lib.itoa; rw [if_pos h0]
    rw [this]; unfold expoP; simp [chk]
  · refine ⟨false, _, ?_, by rw [hc]; simp [sg]; omega⟩
    have : Lib.itoa e = Lib.decDigits e.natAbs := by unfold Lib.itoa; rw [if_neg h0]; congr 1; omega
    rw [this]
    obtain ⟨c, t, hct⟩ : ∃ c t, Lib.decDigits e.natAbs = c :: t := by
      cases hx : Lib.decDigits e.natAbs with
      | nil => exact absurd hx (dec_nil _)
      | cons c t => exact ⟨c, t, rfl⟩
    have hr := hd.1 c (by rw [hct]; simp)
    have n45 : c ≠ 45 := by intro h; subst h; exact absurd hr.1 (by decide)
    have n43 : c ≠ 43 := by intro h; subst h; exact absurd hr.1 (by decide)
    have := chk false
    rw [hct] at this
    unfold expoP
    simp [hct, n45, n43, this]
theorem core_e (neg : Bool) (A : List UInt8) (e : Int) (ha : AllDig A) (h0 : A ≠ []) (h1 : A.head? ≠ some 48) (he : e.natAbs ≤ 64) : coreN neg (A ++ 101 :: Lib.itoa e) = norm neg (val (dgs A)) e := by
  obtain ⟨en, x, hx, hs⟩ := expo_itoa e he
  have hn := nDig_stop A 101 (Lib.itoa e) ha (by decide)
  have hl : A.length ≠ 0 := by simpa using h0
  have hh : (A ++ 101 :: Lib.itoa e).head? = A.head? := by cases A with | nil => exact absurd rfl h0 | cons _ _ => rfl
  have hd : (A ++ 101 :: Lib.itoa e).drop A.length = 101 :: Lib.itoa e := List.drop_left
  have ht : (A ++ 101 :: Lib.itoa e).take A.length = A := List.take_left
  have hf : fracP (101 :: Lib.itoa e) = some ([], 101 :: Lib.itoa e) := by unfold fracP; simp
  rw [core_good neg _ [] _ x en (by rw [hn, hh]; rintro (h | h); exact hl h; exact h1 h.2) (by rw [hn, hd]; exact hf) hx, hn, ht, hs]
  simp

/-- the text of a number without its sign -/
def bareN (m e : Int) : List UInt8 :=
  if 0 ≤ e ∧ (nd m : Int) + e ≤ 21 then Lib.decDigits m.natAbs ++ List.replicate e.toNat 48
  else if e < 0 ∧ -20 ≤ e then (pad m e).take ((pad m e).length + e).toNat ++ 46 :: (pad m e).drop ((pad m e).length + e).toNat
  else Lib.decDigits m.natAbs ++ 101 :: Lib.itoa e
theorem text_bare (m e : Int) : textN m e = sgn m ++ bareN m e := by
  unfold textN bareN
  split
  · rw [List.append_assoc]
  · split
    · simp
    · simp
theorem bare_head (m e : Int) (hm : m ≠ 0) : (bareN m e).head? ≠ some 45 := by
  obtain ⟨c, t, hc, h1, _⟩ := dec_head m.natAbs (by omega)
  have n45 : c ≠ 45 := by intro h; subst h; exact absurd h1 (by decide)
  unfold bareN
  split
  · rw [head_append hc]; simpa using n45
  · split
    · rename_i h
      have hn := nDigits_one m.natAbs
      unfold pad nd at *
      split
      · rename_i hp
        obtain ⟨k, hk⟩ : ∃ k, (1 - e - (Lib.nDigits m.natAbs : Int)).toNat = k + 1 := ⟨(1 - e - (Lib.nDigits m.natAbs : Int)).toNat - 1, by omega⟩
        rw [hk, List.replicate_succ, List.length_append, List.length_cons, List.length_replicate, Lib.decDigits_length]
        rw [show ((((k + 1 + Lib.nDigits m.natAbs : Nat) : Int)) + e).toNat = 0 + 1 by omega]
        simp
      · rename_i hp
        rw [Lib.decDigits_length]
        obtain ⟨k, hk⟩ : ∃ k, ((Lib.nDigits m.natAbs : Int) + e).toNat = k + 1 := ⟨((Lib.nDigits m.natAbs : Int) + e).toNat - 1, by omega⟩
        rw [hk, hc]
        simpa using n45
    · rw [head_append hc]; simpa using n45

theorem core_bare (neg : Bool) (m e : Int) (hm : m ≠ 0) (he0 : -64 ≤ e) (he1 : e ≤ 64) : coreN neg (bareN m e) = norm neg m.natAbs e := by
  have hd := dec_all m.natAbs
  obtain ⟨c, t, hc, h1, _⟩ := dec_head m.natAbs (by omega)
  have n48 : c ≠ 48 := by intro h; subst h; exact absurd h1 (by decide)
  have hh : (Lib.decDigits m.natAbs).head? ≠ some 48 := by rw [hc]; simpa using n48
  unfold bareN
  split
  · rename_i h
    rw [core_whole neg _ (allDig_append hd.1 (all_zeros _)) (by have := dec_nil m.natAbs; simp [this]) (by rw [head_append hc]; simpa using n48)]
    rw [dgs_append, val_append, val_zeros, hd.2, dgs_length, List.length_replicate, Nat.add_zero, norm_shift]
    congr 1; omega
  · split
    · rename_i h
      have hn := nDigits_one m.natAbs
      have hpd : AllDig (pad m e) ∧ val (dgs (pad m e)) = m.natAbs ∧ (1 - e) ≤ ((pad m e).length : Int) ∧ (1 < ((pad m e).length : Int) + e → (pad m e).head? ≠ some 48) := by
        unfold pad nd at *
        split
        · rename_i hp
          refine ⟨allDig_append (all_zeros _) hd.1, by rw [dgs_append, val_append, val_zeros, hd.2]; simp, ?_, ?_⟩
          · rw [List.length_append, List.length_replicate, Lib.decDigits_length]; omega
          · rw [List.length_append, List.length_replicate, Lib.decDigits_length]; omega
        · rename_i hp
          refine ⟨hd.1, hd.2, ?_, fun _ => hh⟩
          rw [Lib.decDigits_length]; omega
      obtain ⟨p1, p2, p3, p4⟩ := hpd
      generalize pad m e = P at *
      have hk : ((P.length : Int) + e).toNat ≤ P.length := by omega
      have hA : (P.take ((P.length : Int) + e).toNat).length = ((P.length : Int) + e).toNat := by rw [List.length_take]; omega
      have hB : (P.drop ((P.length : Int) + e).toNat).length = (-e).toNat := by rw [List.length_drop]; omega
      have q1 : AllDig (P.take ((P.length : Int) + e).toNat) := fun x hx => p1 x (List.mem_of_mem_take hx)
      have q2 : AllDig (P.drop ((P.length : Int) + e).toNat) := fun x hx => p1 x (List.mem_of_mem_drop hx)
      rw [core_point neg _ _ q1 q2 (by intro h0; rw [h0] at hA; simp at hA; omega) (by intro h0; rw [h0] at hB; simp at hB; omega) ?_, List.take_append_drop, p2, hB]
      · congr 1; omega
      · rw [hA]
        rintro ⟨g1, g2⟩
        apply p4 (by omega)
        cases hP : P with
        | nil => rw [hP] at g2; simp at g2
        | cons x l =>
          rw [hP] at g2
          obtain ⟨k, hk⟩ : ∃ k, (((x :: l).length : Int) + e).toNat = k + 1 := ⟨(((x :: l).length : Int) + e).toNat - 1, by rw [← hP]; omega⟩
          rw [hk] at g2
          simpa using g2
    · rename_i h
      rw [core_e neg _ e hd.1 (dec_nil _) hh (by omega), hd.2]

/-- what is printed is parsed -/
theorem parse_text (m e : Int) (h : right m e = true) : parseN (textN m e) = ((m, e), 0) := by
  by_cases hm : m = 0
  · subst hm
    have he : e = 0 := by simpa [right] using h
    subst he
    have : textN 0 0 = [48] := by
      unfold textN
      rw [if_pos (by unfold nd; rw [show (0 : Int).natAbs = 0 by rfl, Lib.nDigits_small (by omega)]; decide), show (0 : Int).natAbs = 0 by rfl, Lib.decDigits_one (by omega)]
      rfl
    rw [this]; decide
  · have hx := right_exp h
    rw [text_bare, ← normZ_right h]
    unfold parseN sgn normZ
    by_cases hn : m < 0
    · rw [if_pos hn]
      simp only [List.cons_append, List.nil_append, List.head?_cons, ↓reduceIte, List.drop_succ_cons, List.drop_zero, hn, decide_true]
      exact core_bare true m e hm hx.1 hx.2
    · rw [if_neg hn]
      simp only [List.nil_append, hn, decide_false]
      rw [if_neg (bare_head m e hm)]
      exact core_bare false m e hm hx.1 hx.2

theorem norm_ok {neg : Bool} {v : Nat} {e m f : Int} (h : norm neg v e = ((m, f), 0)) : right m f = true := by
  have : norm neg v e = normZ (if neg then -(v : Int) else v) e := by
    apply norm_eq
    · cases neg <;> simp
    · intro h0; cases neg <;> simp <;> omega
  rw [this] at h
  exact (normZ_ok h).1
theorem norm_bad {neg : Bool} {v : Nat} {e : Int} {p : Int × Int} {c : Int} (h : norm neg v e = (p, c)) (hc : c ≠ 0) : p = (0, 0) := by
  unfold norm fin at h
  split at h
  · simp only [Prod.mk.injEq] at h; exact absurd h.2.symm hc
  · split at h
    · simp only [Prod.mk.injEq] at h; obtain ⟨⟨rfl, rfl⟩, _⟩ := h; rfl
    · simp only [Prod.mk.injEq] at h; exact absurd h.2.symm hc
theorem core_ok {neg : Bool} {u : List UInt8} {m f : Int} (h : coreN neg u = ((m, f), 0)) : right m f = true := by
  unfold coreN at h
  split at h
  · simp at h
  · exact norm_ok h
theorem core_wrong {neg : Bool} {u : List UInt8} {p : Int × Int} {c : Int} (h : coreN neg u = (p, c)) (hc : c ≠ 0) : p = (0, 0) := by
  unfold coreN at h
  split at h
  · simp only [Prod.mk.injEq] at h; exact h.1.symm
  · exact norm_bad h hc
theorem parse_ok {l : List UInt8} {m f : Int} (h : parseN l = ((m, f), 0)) : right m f = true := by
  unfold parseN at h
  split at h <;> exact core_ok h
theorem parse_wrong {l : List UInt8} {p : Int × Int} {c : Int} (h : parseN l = (p, c)) (hc : c ≠ 0) : p = (0, 0) := by
  unfold parseN at h
  split at h <;> exact core_wrong h hc
end Go.Proofs.YtljemfajjeoecaaDoor
