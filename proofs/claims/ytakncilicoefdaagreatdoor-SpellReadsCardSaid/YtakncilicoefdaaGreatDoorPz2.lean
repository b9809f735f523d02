/- Lemmas and contracts. Conditions: those that each lemma names. -/
import Derived.Test.YtakncilicoefdaaGreatDoorPz1
import Derived.Shelf.Spec.BitsCarry
set_option maxRecDepth 100000
set_option maxHeartbeats 4000000
namespace Go.Proofs.YtakncilicoefdaaGreatDoor
open Go Go.RowKit Go.Proofs Th
theorem O2 (a b c d : Int) (w : World) : (Op.equalIn 10000 23 (.agg #[.int .i64 a, .int .i64 b]) (.agg #[.int .i64 c, .int .i64 d])).run Tryz.prog w = .ok (a == c && b == d) w := by
 have u3 := Tryz.underlying3; have a3 := Tryz.isAgg3; have z3 := Tryz.sizeOf3; have u2 := Tryz.underlying2; have a2 := Tryz.isAgg2; have z2 := Tryz.sizeOf2; have hS : Tryz.prog.underlying 23 = some (.struct (Tryz.prog.fieldsOf 23)) := by kernel_rfl
 have hp : Tryz.prog.stoodInHeld 23 = false := by kernel_rfl
 rw [show (10000 : Nat) = 9999 + 1 from rfl, run_equalIn_agg w 9999 23 _ _ hS hp]; simp only [Program.fieldsOf, Tryz.underlying23]; go_simp; by_cases h1 : a = c <;> by_cases h2 : b = d <;> simp [h1, h2]
@[go_sem ↓] theorem eql_num (a b c d : Int) (w : World) : (binOp .eql 23 (.agg #[.int .i64 a, .int .i64 b]) (.agg #[.int .i64 c, .int .i64 d])).run Tryz.prog w = .ok (.bool (a == c && b == d)) w := by
 rw [run_eql_struct, O2]; rfl
@[go_sem ↓] theorem neq_num (a b c d : Int) (w : World) : (binOp .neq 23 (.agg #[.int .i64 a, .int .i64 b]) (.agg #[.int .i64 c, .int .i64 d])).run Tryz.prog w = .ok (.bool (!(a == c && b == d))) w := by
 rw [run_neq_struct, O2]; rfl
end Go.Proofs.YtakncilicoefdaaGreatDoor
namespace Th
open Go Go.Lib
theorem Ai (s : ByteArray) : s.data.toList.length = s.size := by simp
def CV (l : List UInt8) : Prop := (decodeL l).1 = 65533 ∧ (decodeL l).2 = 1
instance (l : List UInt8) : Decidable (CV l) := by unfold CV; infer_instance
/-! texts, character by character -/
theorem I7 : ∀ (n m : Nat) (l : List UInt8), l.length ≤ n → l.length ≤ m → validGoD n l = validGoD m l
 | 0, m, l, hn, _ => by
  have : l = [] := List.eq_nil_of_length_eq_zero (by omega); subst this; cases m <;> simp [validGoD]
 | n + 1, 0, l, _, hm => by
  have : l = [] := List.eq_nil_of_length_eq_zero (by omega); subst this; simp [validGoD]
 | n + 1, m + 1, l, hn, hm => by
  by_cases hne : l = []
  ·subst hne; simp [validGoD]
  have hw := decodeL_width l; have hl : 0 < l.length := List.length_pos_iff.2 hne; simp only [validGoD, if_neg hne]; rw [I7 n m _ (by rw [List.length_drop]; omega) (by rw [List.length_drop]; omega)]
theorem CM (l : List UInt8) (hne : l ≠ []) : validD l = if CV l then false else validD (l.drop (decodeL l).2) := by
 have hw := decodeL_width l; have hl : 0 < l.length := List.length_pos_iff.2 hne; unfold validD CV; obtain ⟨n, hn⟩ : ∃ n, l.length = n + 1 := ⟨l.length - 1, by omega⟩
 rw [hn]; simp only [validGoD, if_neg hne]; rw [I7 n _ _ (by rw [List.length_drop]; omega) (Nat.le_refl _)]
def DB (n : Nat) : UInt8 := if n < 10 then UInt8.ofNat (48 + n) else UInt8.ofNat (87 + n)
def CA (c : Nat) : List UInt8 :=
 if c = 34 ∨ c = 92 then [92, UInt8.ofNat c]
 else if c = 8 then [92, 98] else if c = 9 then [92, 116] else if c = 10 then [92, 110] else if c = 12 then [92, 102] else if c = 13 then [92, 114]
 else if c < 32 then [92, 117, 48, 48, DB (c / 16), DB (c % 16)]
 else encodeRune c
def DC : Nat → List UInt8 → List UInt8
 | 0, _ => []
 | n + 1, l => if l = [] then [] else CA (decodeL l).1 ++ DC n (l.drop (decodeL l).2)
def Bk (l : List UInt8) : List UInt8 := DC l.length l
theorem JP : ∀ (n m : Nat) (l : List UInt8), l.length ≤ n → l.length ≤ m → DC n l = DC m l
 | 0, m, l, hn, _ => by
  have : l = [] := List.eq_nil_of_length_eq_zero (by omega); subst this; cases m <;> simp [DC]
 | n + 1, 0, l, _, hm => by
  have : l = [] := List.eq_nil_of_length_eq_zero (by omega); subst this; simp [DC]
 | n + 1, m + 1, l, hn, hm => by
  by_cases hne : l = []
  ·subst hne; simp [DC]
  have hw := decodeL_width l; have hl : 0 < l.length := List.length_pos_iff.2 hne; simp only [DC, if_neg hne]; rw [JP n m _ (by rw [List.length_drop]; omega) (by rw [List.length_drop]; omega)]
theorem JE : Bk [] = [] := rfl
theorem Fo (l : List UInt8) (hne : l ≠ []) : Bk l = CA (decodeL l).1 ++ Bk (l.drop (decodeL l).2) := by
 have hw := decodeL_width l; have hl : 0 < l.length := List.length_pos_iff.2 hne; unfold Bk; obtain ⟨n, hn⟩ : ∃ n, l.length = n + 1 := ⟨l.length - 1, by omega⟩
 rw [hn]; simp only [DC, if_neg hne]; rw [JP n _ _ (by rw [List.length_drop]; omega) (Nat.le_refl _)]
theorem F8 (r : Int) : (encodeRune r).length ≤ 4 := by
 unfold encodeRune encodeRuneZ; rw [List.length_map]; repeat' split
 all_goals simp
theorem QX (c : Nat) : (CA c).length ≤ 6 := by
 unfold CA; have := F8 (c : Int); repeat' split
 all_goals first | (simp; done) | omega
theorem K1 (l : List UInt8) : (Bk l).length ≤ 6 * l.length := by
 suffices ∀ n (l : List UInt8), (DC n l).length ≤ 6 * l.length by exact this _ _
 intro n; induction n with
 | zero => intro l; simp [DC]
 | succ n ih =>
  intro l; unfold DC; split
  ·simp
  rename_i hne
  have hw := decodeL_width l; have hl : 0 < l.length := List.length_pos_iff.2 hne; have h1 := ih (l.drop (decodeL l).2); have h2 := QX (decodeL l).1; have h3 := decodeL_le l hne; rw [List.length_append]; rw [List.length_drop] at h1; omega
def D8 (l : List UInt8) : List UInt8 := 34 :: Bk l ++ [34]
end Th
namespace Th
open Go Go.Lib
inductive JV where
 | mk (k m e : Int) (s : ByteArray) (l : List JV) (ks : List ByteArray)
mutual
def C9 : JV → JV → Bool
 | .mk k m e s l ks, .mk k' m' e' s' l' ks' => decide (k = k') && decide (m = m') && decide (e = e') && decide (s = s') && decide (ks = ks') && CF l l'
def CF : List JV → List JV → Bool
 | [], [] => true
 | v :: r, v' :: r' => C9 v v' && CF r r'
 | _, _ => false
end
section
variable (T : Int → Int → List UInt8)
end
end Th
namespace Th
open Go Go.Lib
section
variable (T : Int → Int → List UInt8)
end
end Th
namespace Th
open Go Go.Lib
theorem Ox (n n' b0 b1 b2 b3 c1 c2 c3 : Nat) (hn : n ≤ n') (h1 : 1 < n → c1 = b1) (h2 : 2 < n → c2 = b2) (h3 : 3 < n → c3 = b3) (hb : decodeN n b0 b1 b2 b3 ≠ (65533, 1)) : decodeN n' b0 c1 c2 c3 = decodeN n b0 b1 b2 b3 := by
 rcases decodeN_shape n b0 b1 b2 b3 with ⟨c, e⟩ | ⟨d1, d2, d3, cv, e⟩ | ⟨d1, d2, d3, d4, cv, cs, e⟩ | ⟨d1, d2, d3, d4, d5, cv, cw, e⟩ | e
 ·rw [e]; unfold decodeN; rw [if_pos c]
 ·rw [e]; obtain rfl := h1 d2; unfold decodeN
  rw [if_neg (by omega), if_pos ⟨d1, by omega, d3⟩, if_pos (by omega)]
 ·rw [e]; obtain rfl := h1 (by omega); obtain rfl := h2 d2; unfold decodeN
  rw [if_neg (by omega), if_neg (by omega), if_pos ⟨d1, ⟨by omega, d3⟩, by omega, d4⟩, if_pos (by omega)]
 ·rw [e]; obtain rfl := h1 (by omega); obtain rfl := h2 (by omega); obtain rfl := h3 d2; unfold decodeN
  rw [if_neg (by omega), if_neg (by omega), if_neg (by omega), if_pos ⟨d1, ⟨by omega, d3⟩, ⟨by omega, d4⟩, by omega, d5⟩, if_pos (by omega)]
 exact absurd e hb
theorem Fj (a b : List UInt8) (k : Nat) (h : k < a.length) : (a ++ b).getD k 0 = a.getD k 0 := by simp [List.getD, List.getElem?_append_left h]
theorem EN (a b : List UInt8) (hne : a ≠ []) (hb : ¬ CV a) : decodeL (a ++ b) = decodeL a := by
 have hl : 0 < a.length := List.length_pos_iff.2 hne; unfold CV at hb; rw [decodeL_N] at hb; rw [decodeL_N, decodeL_N, Fj a b 0 hl]; refine Ox _ _ _ _ _ _ _ _ _ (by simp) (fun h => by rw [Fj a b 1 h]) (fun h => by rw [Fj a b 2 h]) (fun h => by rw [Fj a b 3 h]) (fun h => hb ?_); rw [h]; exact ⟨rfl, rfl⟩
theorem PL : ∀ (n : Nat) (a b : List UInt8), a.length ≤ n → validD a = true → validD (a ++ b) = validD b := by
 intro n; induction n with
 | zero => intro a b h _; obtain rfl : a = [] := List.eq_nil_of_length_eq_zero (by omega); rfl
 | succ n ih =>
  intro a b h hv; by_cases hne : a = []
  ·subst hne; rfl
  rw [CM a hne] at hv; by_cases hb : CV a
  ·rw [if_pos hb] at hv; cases hv
  rw [if_neg hb] at hv; have hd := EN a b hne hb; have hle := decodeL_le a hne; have hw := decodeL_width a; rw [CM (a ++ b) (by simp [hne]), if_neg (by unfold CV at *; rw [hd]; exact hb), hd, List.drop_append_of_le_length hle]; exact ih _ b (by rw [List.length_drop]; omega) hv
theorem Ga {a b : List UInt8} (ha : validD a = true) (hb : validD b = true) : validD (a ++ b) = true := by rw [PL _ a b (Nat.le_refl _) ha, hb]
theorem Mm (c : UInt8) (h : c.toNat < 128) : decodeL [c] = (c.toNat, 1) := by
 rw [decodeL_N]; unfold decodeN; rw [if_pos (by simpa using h)]; rfl
theorem NW (c : UInt8) (h : c.toNat < 128) : validD [c] = true := by
 rw [CM _ (by simp), Mm c h, if_neg]
 ·rfl
 unfold CV; rw [Mm c h]; intro h2; have := h2.1; dsimp only at this; omega
theorem KK : ∀ (l : List UInt8), (∀ c ∈ l, c.toNat < 128) → validD l = true
 | [], _ => rfl
 | c :: r, h => by
  have := Ga (NW c (h c (by simp))) (KK r (fun d hd => h d (by simp [hd]))); simpa using this
theorem Fa {z : Int} (h0 : 0 ≤ z) (h1 : z < 256) : ((z.toNat.toUInt8).toNat : Int) = z := by
 have : z.toNat.toUInt8.toNat = z.toNat := by
  show (UInt8.ofNat z.toNat).toNat = z.toNat
  simp; omega
 rw [this]; omega
theorem Hw (l : List UInt8) (hne : l ≠ []) (hb : ¬ CV l) (hw : (decodeL l).2 = l.length) : validD l = true := by
 rw [CM l hne, if_neg hb, hw, List.drop_length]; rfl
theorem IR (c : Int) : validD (encodeRune c) = true := by
 have hcs : (0 ≤ c ∧ c < 128) ∨ (128 ≤ c ∧ c < 2048) ∨ (2048 ≤ c ∧ c < 65536 ∧ (c < 55296 ∨ 57343 < c)) ∨ (65536 ≤ c ∧ c ≤ 1114111) ∨ (c < 0 ∨ (55296 ≤ c ∧ c ≤ 57343) ∨ 1114111 < c) := by omega
 unfold encodeRune; rcases hcs with ⟨ha, hb⟩ | ⟨ha, hb⟩ | ⟨ha, hb, hc⟩ | ⟨ha, hb⟩ | h
 ·rw [encodeRuneZ_one ha (by omega)]
  show validD [c.toNat.toUInt8] = true
  exact NW _ (by have := Fa ha (show c < 256 by omega); omega)
 ·rw [encodeRuneZ_two ha (by omega)]
  have e0 := Fa (z := 192 + c / 64) (by omega) (by omega); have e1 := Fa (z := 128 + c % 64) (by omega) (by omega); simp only [List.map_cons, List.map_nil]; generalize (192 + c / 64).toNat.toUInt8 = x0 at *; generalize (128 + c % 64).toNat.toUInt8 = x1 at *; have hd : decodeL [x0, x1] = (x0.toNat % 32 * 64 + x1.toNat % 64, 2) := by
   rw [decodeL_N]; unfold decodeN; simp only [List.length_cons, List.length_nil, List.getD_cons_zero, List.getD_cons_succ]; rw [if_neg (by omega), if_pos ⟨by omega, by omega, by omega⟩, if_pos (by omega)]
  exact Hw _ (by simp) (by unfold CV; rw [hd]; intro h; cases h.2) (by rw [hd]; rfl)
 ·rw [encodeRuneZ_three (by omega)]
  have e0 := Fa (z := 224 + c / 4096) (by omega) (by omega); have e1 := Fa (z := 128 + c / 64 % 64) (by omega) (by omega); have e2 := Fa (z := 128 + c % 64) (by omega) (by omega); simp only [List.map_cons, List.map_nil]; generalize (224 + c / 4096).toNat.toUInt8 = x0 at *; generalize (128 + c / 64 % 64).toNat.toUInt8 = x1 at *; generalize (128 + c % 64).toNat.toUInt8 = x2 at *; have hd : decodeL [x0, x1, x2] = (x0.toNat % 16 * 4096 + x1.toNat % 64 * 64 + x2.toNat % 64, 3) := by
   rw [decodeL_N]; unfold decodeN; simp only [List.length_cons, List.length_nil, List.getD_cons_zero, List.getD_cons_succ]; rw [if_neg (by omega), if_neg (by omega), if_pos ⟨by omega, ⟨by omega, by omega⟩, by omega, by omega⟩, if_pos (by omega)]
  exact Hw _ (by simp) (by unfold CV; rw [hd]; intro h; cases h.2) (by rw [hd]; rfl)
 ·rw [encodeRuneZ_four ha hb]
  have e0 := Fa (z := 240 + c / 262144) (by omega) (by omega); have e1 := Fa (z := 128 + c / 4096 % 64) (by omega) (by omega); have e2 := Fa (z := 128 + c / 64 % 64) (by omega) (by omega); have e3 := Fa (z := 128 + c % 64) (by omega) (by omega); simp only [List.map_cons, List.map_nil]; generalize (240 + c / 262144).toNat.toUInt8 = x0 at *; generalize (128 + c / 4096 % 64).toNat.toUInt8 = x1 at *; generalize (128 + c / 64 % 64).toNat.toUInt8 = x2 at *; generalize (128 + c % 64).toNat.toUInt8 = x3 at *; have hd : decodeL [x0, x1, x2, x3] = (x0.toNat % 8 * 262144 + x1.toNat % 64 * 4096 + x2.toNat % 64 * 64 + x3.toNat % 64, 4) := by
   rw [decodeL_N]; unfold decodeN; simp only [List.length_cons, List.length_nil, List.getD_cons_zero, List.getD_cons_succ]; rw [if_neg (by omega), if_neg (by omega), if_neg (by omega), if_pos ⟨by omega, ⟨by omega, by omega⟩, ⟨by omega, by omega⟩, by omega, by omega⟩, if_pos (by omega)]
  exact Hw _ (by simp) (by unfold CV; rw [hd]; intro h; cases h.2) (by rw [hd]; rfl)
 rw [encodeRuneZ_bad h]; decide
/-! the law's own CW at a text, byte by byte: in quotes?, behind a backslash? -/
theorem J0 (c : Nat) (h : 32 ≤ c) (h1 : c ≠ 34) (h2 : c ≠ 92) : ∀ x ∈ encodeRune (c : Int), 32 ≤ x.toNat ∧ x.toNat ≠ 34 ∧ x.toNat ≠ 92 := by
 intro x hx; unfold encodeRune at hx; obtain ⟨z, hz, rfl⟩ := List.mem_map.1 hx; unfold encodeRuneZ at hz; have key : ∀ z : Int, 0 ≤ z → z < 256 → (128 ≤ z ∨ z = c) → 32 ≤ (z.toNat.toUInt8).toNat ∧ (z.toNat.toUInt8).toNat ≠ 34 ∧ (z.toNat.toUInt8).toNat ≠ 92 := by
  intro z h0 h1 h3; have := Fa h0 h1; omega
 repeat' split at hz
 all_goals simp only [List.mem_cons, List.not_mem_nil, or_false] at hz
 ·subst hz; exact key _ (by omega) (by omega) (Or.inr rfl)
 ·rcases hz with rfl | rfl <;> exact key _ (by omega) (by omega) (Or.inl (by omega))
 ·rcases hz with rfl | rfl | rfl <;> exact key _ (by omega) (by omega) (Or.inl (by omega))
 ·rcases hz with rfl | rfl | rfl | rfl <;> exact key _ (by omega) (by omega) (Or.inl (by omega))
 rcases hz with rfl | rfl | rfl <;> exact key _ (by omega) (by omega) (Or.inl (by omega))
section
variable (T : Int → Int → List UInt8)
end
end Th
namespace Go.Proofs.YtakncilicoefdaaGreatDoor
open Go Go.RowKit Go.Proofs Th
theorem hasPrefix (s p : ByteArray) (w : World) : Calls Tryz.prog 84 #[.string s, .string p] w fun r w' => r = .returned (.bool (Lib.hasPrefix s.data.toList p.data.toList)) ∧ Below w.heap.size w w' :=
 Fk (Tryz.strings_HasPrefix s p w)
theorem Fw (s : ByteArray) (w : World) : Calls Tryz.prog 159 #[.string s, .string ⟨#[48]⟩] w fun r w' => r = .returned (.string ⟨(Lib.trimLeftB s.data.toList 48).toArray⟩) ∧ Below w.heap.size w w' :=
 Fk (Tryz.strings_TrimLeft_one s 48 (by decide) w)
theorem E6 (s : ByteArray) (hs : s.size ≤ 9223372036854775807) (w : World) : Calls Tryz.prog 160 #[.string s, .string ⟨#[48]⟩] w fun r w' => r = .returned (.string ⟨(Lib.trimRightB s.data.toList 48).toArray⟩) ∧ Below w.heap.size w w' :=
 Fk (Tryz.strings_TrimRight_one s 48 (by decide) w hs)
end Go.Proofs.YtakncilicoefdaaGreatDoor
namespace Th
theorem N9 (ds : List Nat) : val (0 :: ds) = val ds := by rw [FG]; simp
theorem JF (k : Nat) (ds : List Nat) : val (List.replicate k 0 ++ ds) = val ds := by
 induction k with
 | zero => rfl
 | succ k ih => rw [List.replicate_succ, List.cons_append, N9, ih]
end Th
namespace Th
def Bs (c : UInt8) : Bool := decide (48 ≤ c.toNat) && decide (c.toNat ≤ 57)
end Th
namespace Go.Proofs.YtakncilicoefdaaGreatDoor
open Go Go.RowKit Go.Proofs Th
def nd (m : Int) : Nat := Lib.nDigits m.natAbs
theorem GT (m : Int) : 1 ≤ nd m := by
 unfold nd; by_cases h : m.natAbs < 10
 ·rw [Lib.nDigits_small h]; omega
 rw [Lib.nDigits_big h]; omega
def sgn (m : Int) : List UInt8 := if m < 0 then [45] else []
def pad (m e : Int) : List UInt8 := if (nd m : Int) ≤ -e then List.replicate (1 - e - nd m).toNat 48 ++ Lib.decDigits m.natAbs else Lib.decDigits m.natAbs
def BF (m e : Int) : List UInt8 :=
 if 0 ≤ e ∧ (nd m : Int) + e ≤ 21 then sgn m ++ Lib.decDigits m.natAbs ++ List.replicate e.toNat 48
 else if e < 0 ∧ -20 ≤ e then sgn m ++ (pad m e).take ((pad m e).length + e).toNat ++ [46] ++ (pad m e).drop ((pad m e).length + e).toNat
 else sgn m ++ Lib.decDigits m.natAbs ++ [101] ++ Lib.itoa e
theorem Pd (e : Int) (h0 : -64 ≤ e) (h1 : e ≤ 64) : (Lib.itoa e).length ≤ 1000 := by
 have key : ∀ u : Nat, u ≤ 64 → (Lib.decDigits u).length ≤ 2 := by
  intro u hu; rw [Lib.decDigits_length]; by_cases h : u < 10
  ·rw [Lib.nDigits_small h]; omega
  rw [Lib.nDigits_big h, Lib.nDigits_small (by omega)]; omega
 unfold Lib.itoa; split
 ·have := key e.natAbs (by omega); simp; omega
 have := key e.toNat (by omega); omega
theorem Xf {S e m f : Int} (h : Hb S e = ((m, f), 0)) : right m f = true ∧ ((S = 0 ∧ m = 0 ∧ f = 0) ∨ (m ≠ 0 ∧ ∃ k : Nat, S = m * (10 ^ k : Nat) ∧ f = e + k)) := by
 unfold Hb at h; by_cases hS : S = 0
 ·subst hS
  have h2 : (((0 : Int), (0 : Int)), (0 : Int)) = ((m, f), 0) := h; simp only [Prod.mk.injEq] at h2; obtain ⟨⟨rfl, rfl⟩, _⟩ := h2; exact ⟨by decide, .inl ⟨rfl, rfl, rfl⟩⟩
 obtain ⟨a, k, ha, hk⟩ := Kv S.natAbs (by omega); rw [hk, Kg _ _ _ _ ha] at h; unfold fin at h; split at h
 ·simp at h
 rename_i hn
 simp only [Prod.mk.injEq] at h; obtain ⟨⟨h1, h2⟩, _⟩ := h; have hma : m.natAbs = a := by rw [← h1]; split <;> omega
 have hm0 : m ≠ 0 := by intro h0; subst h0; simp at hma; omega
 refine ⟨?_, .inr ⟨hm0, k, ?_, h2.symm⟩⟩
 ·unfold right
  rw [if_neg hm0, hma]; simp only [Bool.and_eq_true, decide_eq_true_eq]; omega
 rw [← h1]; by_cases hneg : S < 0
 ·simp only [hneg, decide_true, ↓reduceIte]
  rw [Int.neg_mul, ← Int.natCast_mul, ← hk]; omega
 simp only [hneg, decide_false, Bool.false_eq_true, ↓reduceIte]; rw [← Int.natCast_mul, ← hk]; omega
theorem E3 (u : Nat) : BP (Lib.decDigits u) ∧ val (dgs (Lib.decDigits u)) = u := by
 induction u using Nat.strongRecOn with
 | ind u ih =>
  rw [Lib.decDigits]; split
  ·rename_i h
   have e : (UInt8.ofNat (48 + u)).toNat = 48 + u := by rw [UInt8.toNat_ofNat']; omega
   refine ⟨fun c hc => ?_, ?_⟩
   ·rw [List.mem_singleton] at hc; subst hc; omega
   show val [dg (UInt8.ofNat (48 + u))] = u
   unfold dg; rw [e]; simp [val]
  rename_i h
  obtain ⟨h1, h2⟩ := ih (u / 10) (by omega); have e : (UInt8.ofNat (48 + u % 10)).toNat = 48 + u % 10 := by rw [UInt8.toNat_ofNat']; omega
  refine ⟨fun c hc => ?_, ?_⟩
  ·rcases List.mem_append.1 hc with hc | hc
   ·exact h1 c hc
   rw [List.mem_singleton] at hc; subst hc; omega
  rw [Fi, show dgs [UInt8.ofNat (48 + u % 10)] = [dg (UInt8.ofNat (48 + u % 10))] from rfl, I0, h2]; unfold dg; rw [e]; omega
theorem Md (u : Nat) (h : u ≠ 0) : 10 ^ (Lib.nDigits u - 1) ≤ u := by
 induction u using Nat.strongRecOn with
 | ind u ih =>
  rw [Lib.nDigits]; split
  ·simp; omega
  have := ih (u / 10) (by omega) (by omega); have hp : 1 ≤ Lib.nDigits (u / 10) := by
   rw [Lib.nDigits]; split <;> omega
  rw [show Lib.nDigits (u / 10) + 1 - 1 = (Lib.nDigits (u / 10) - 1) + 1 by omega, Nat.pow_succ]; omega
theorem Hq (u : Nat) : 1 ≤ Lib.nDigits u := by rw [Lib.nDigits]; split <;> omega
theorem Nt (a : List UInt8) (c : UInt8) (r : List UInt8) (h : BP a) (hc : ¬ (48 ≤ c.toNat ∧ c.toNat ≤ 57)) : AK (a ++ c :: r) = a.length := by
 induction a with
 | nil => simp [AK, hc]
 | cons x a ih => rw [List.cons_append, AK, if_pos (h x (by simp)), ih (fun y hy => h y (by simp [hy]))]; rfl
theorem E0 (u : Nat) : Lib.decDigits u ≠ [] := by
 intro h; have := congrArg List.length h; rw [Lib.decDigits_length] at this; have h1 := Hq u; rw [List.length_nil] at this; omega
theorem PM (u : Nat) (h : u ≠ 0) : ∃ c t, Lib.decDigits u = c :: t ∧ 49 ≤ c.toNat ∧ c.toNat ≤ 57 := by
 cases hd : Lib.decDigits u with
 | nil => exact absurd hd (E0 u)
 | cons c t =>
  refine ⟨c, t, rfl, ?_⟩; have h1 := (E3 u).1 c (by rw [hd]; simp); have h2 := (E3 u).2; have h3 := Md u h; have h4 := Lib.decDigits_length u; rw [hd] at h2 h4; rw [show dgs (c :: t) = dg c :: dgs t from rfl, FG, Gl] at h2; have ht : BP t := fun x hx => (E3 u).1 x (by rw [hd]; simp [hx])
  have h5 := Om _ (XU t ht); rw [Gl] at h5; simp only [List.length_cons] at h4; rw [← h4, show t.length + 1 - 1 = t.length by omega] at h3; refine ⟨?_, h1.2⟩; have : dg c ≠ 0 := by
   intro h0; rw [h0] at h2; omega
  unfold dg at this; omega
theorem Hj (n : Nat) : BP (List.replicate n 48) := by
 intro c hc; rw [List.eq_of_mem_replicate hc]; decide
theorem JF (n : Nat) : val (dgs (List.replicate n 48)) = 0 := by
 induction n with
 | zero => rfl
 | succ n ih => rw [List.replicate_succ, show dgs (48 :: List.replicate n 48) = 0 :: dgs (List.replicate n 48) from rfl, FG, ih]; simp
theorem To : DP [] = some ([], []) := by unfold DP; simp
theorem NV : DH [] = some (false, []) := by unfold DH; simp
theorem Hu {a b : List UInt8} {c : UInt8} {t : List UInt8} (h : a = c :: t) : (a ++ b).head? = some c := by rw [h]; rfl
theorem R3 (neg : Bool) (T : List UInt8) (hd : BP T) (h0 : T ≠ []) (h1 : T.head? ≠ some 48) : Dh neg T = Ct neg (val (dgs T)) 0 := by
 have hn := IU T hd; have hl : T.length ≠ 0 := by simpa using h0
 rw [FX neg T [] [] [] false (by rw [hn]; rintro (h | h); exact hl h; exact h1 h.2) (by rw [hn, List.drop_length]; exact To) NV, hn, List.take_length]; simp [sg, BD]
theorem Sa (neg : Bool) (A B : List UInt8) (ha : BP A) (hb : BP B) (h0 : A ≠ []) (hb0 : B ≠ []) (h1 : ¬ (1 < A.length ∧ A.head? = some 48)) : Dh neg (A ++ 46 :: B) = Ct neg (val (dgs (A ++ B))) (-B.length) := by
 have hn := Nt A 46 B ha (by decide); have hl : A.length ≠ 0 := by simpa using h0
 have hlb : B.length ≠ 0 := by simpa using hb0
 have hh : (A ++ 46 :: B).head? = A.head? := by cases A with | nil => exact absurd rfl h0 | cons _ _ => rfl
 have hd : (A ++ 46 :: B).drop A.length = 46 :: B := List.drop_left; have ht : (A ++ 46 :: B).take A.length = A := List.take_left; have hf : DP (46 :: B) = some (B, []) := by
  unfold DP; have := IU B hb; simp only [List.head?_cons, ↓reduceIte, List.drop_succ_cons, List.drop_zero, this, List.take_length, List.drop_length]; rw [if_neg hlb]
 rw [FX neg _ B [] [] false (by rw [hn, hh]; rintro (h | h); exact hl h; exact h1 h) (by rw [hn, hd]; exact hf) NV, hn, ht]; congr 1; simp [sg, BD]
theorem Uj (e : Int) (h : e.natAbs ≤ 64) : ∃ en x, DH (101 :: Lib.itoa e) = some (en, x) ∧ sg en (BD x) = e := by
 have hd := E3 e.natAbs; have hn := IU _ hd.1; have hl : (Lib.decDigits e.natAbs).length ≠ 0 := by have := E0 e.natAbs; simpa using this
 have hc : BD (Lib.decDigits e.natAbs) = e.natAbs := by rw [NB, hd.2]; omega
 have chk : ∀ en, Lr en (Lib.decDigits e.natAbs) = some (en, Lib.decDigits e.natAbs) := by
  intro en; unfold Lr; rw [hn, if_neg (by omega)]
 by_cases h0 : e < 0
 ·refine ⟨true, _, ?_, by rw [hc]; simp [sg]; omega⟩
  have : Lib.itoa e = 45 :: Lib.decDigits e.natAbs := by unfold Lib.itoa; rw [if_pos h0]
  rw [this]; unfold DH; simp [chk]
 refine ⟨false, _, ?_, by rw [hc]; simp [sg]; omega⟩; have : Lib.itoa e = Lib.decDigits e.natAbs := by unfold Lib.itoa; rw [if_neg h0]; congr 1; omega
 rw [this]; obtain ⟨c, t, hct⟩ : ∃ c t, Lib.decDigits e.natAbs = c :: t := by
  cases hx : Lib.decDigits e.natAbs with
  | nil => exact absurd hx (E0 _)
  | cons c t => exact ⟨c, t, rfl⟩
 have hr := hd.1 c (by rw [hct]; simp); have n45 : c ≠ 45 := by intro h; subst h; exact absurd hr.1 (by decide)
 have n43 : c ≠ 43 := by intro h; subst h; exact absurd hr.1 (by decide)
 have := chk false; rw [hct] at this; unfold DH; simp [hct, n45, n43, this]
theorem Zm (neg : Bool) (A : List UInt8) (e : Int) (ha : BP A) (h0 : A ≠ []) (h1 : A.head? ≠ some 48) (he : e.natAbs ≤ 64) : Dh neg (A ++ 101 :: Lib.itoa e) = Ct neg (val (dgs A)) e := by
 obtain ⟨en, x, hx, hs⟩ := Uj e he; have hn := Nt A 101 (Lib.itoa e) ha (by decide); have hl : A.length ≠ 0 := by simpa using h0
 have hh : (A ++ 101 :: Lib.itoa e).head? = A.head? := by cases A with | nil => exact absurd rfl h0 | cons _ _ => rfl
 have hd : (A ++ 101 :: Lib.itoa e).drop A.length = 101 :: Lib.itoa e := List.drop_left; have ht : (A ++ 101 :: Lib.itoa e).take A.length = A := List.take_left; have hf : DP (101 :: Lib.itoa e) = some ([], 101 :: Lib.itoa e) := by unfold DP; simp
 rw [FX neg _ [] _ x en (by rw [hn, hh]; rintro (h | h); exact hl h; exact h1 h.2) (by rw [hn, hd]; exact hf) hx, hn, ht, hs]; simp
def J9 (m e : Int) : List UInt8 :=
 if 0 ≤ e ∧ (nd m : Int) + e ≤ 21 then Lib.decDigits m.natAbs ++ List.replicate e.toNat 48
 else if e < 0 ∧ -20 ≤ e then (pad m e).take ((pad m e).length + e).toNat ++ 46 :: (pad m e).drop ((pad m e).length + e).toNat
 else Lib.decDigits m.natAbs ++ 101 :: Lib.itoa e
theorem S3 (m e : Int) : BF m e = sgn m ++ J9 m e := by
 unfold BF J9; split
 ·rw [List.append_assoc]
 split
 ·simp
 simp
theorem TZ (m e : Int) (hm : m ≠ 0) : (J9 m e).head? ≠ some 45 := by
 obtain ⟨c, t, hc, h1, _⟩ := PM m.natAbs (by omega); have n45 : c ≠ 45 := by intro h; subst h; exact absurd h1 (by decide)
 unfold J9; split
 ·rw [Hu hc]; simpa using n45
 split
 ·rename_i h
  have hn := Hq m.natAbs; unfold pad nd at *; split
  ·rename_i hp
   obtain ⟨k, hk⟩ : ∃ k, (1 - e - (Lib.nDigits m.natAbs : Int)).toNat = k + 1 := ⟨(1 - e - (Lib.nDigits m.natAbs : Int)).toNat - 1, by omega⟩
   rw [hk, List.replicate_succ, List.length_append, List.length_cons, List.length_replicate, Lib.decDigits_length]; rw [show ((((k + 1 + Lib.nDigits m.natAbs : Nat) : Int)) + e).toNat = 0 + 1 by omega]; simp
  rename_i hp
  rw [Lib.decDigits_length]; obtain ⟨k, hk⟩ : ∃ k, ((Lib.nDigits m.natAbs : Int) + e).toNat = k + 1 := ⟨((Lib.nDigits m.natAbs : Int) + e).toNat - 1, by omega⟩
  rw [hk, hc]; simpa using n45
 rw [Hu hc]; simpa using n45
theorem Nj (neg : Bool) (m e : Int) (hm : m ≠ 0) (he0 : -64 ≤ e) (he1 : e ≤ 64) : Dh neg (J9 m e) = Ct neg m.natAbs e := by
 have hd := E3 m.natAbs; obtain ⟨c, t, hc, h1, _⟩ := PM m.natAbs (by omega); have n48 : c ≠ 48 := by intro h; subst h; exact absurd h1 (by decide)
 have hh : (Lib.decDigits m.natAbs).head? ≠ some 48 := by rw [hc]; simpa using n48
 unfold J9; split
 ·rename_i h
  rw [R3 neg _ (Ea hd.1 (Hj _)) (by have := E0 m.natAbs; simp [this]) (by rw [Hu hc]; simpa using n48)]; rw [Fi, Gi, JF, hd.2, Gl, List.length_replicate, Nat.add_zero, Gb]; congr 1; omega
 split
 ·rename_i h
  have hn := Hq m.natAbs; have hpd : BP (pad m e) ∧ val (dgs (pad m e)) = m.natAbs ∧ (1 - e) ≤ ((pad m e).length : Int) ∧ (1 < ((pad m e).length : Int) + e → (pad m e).head? ≠ some 48) := by
   unfold pad nd at *; split
   ·rename_i hp
    refine ⟨Ea (Hj _) hd.1, by rw [Fi, Gi, JF, hd.2]; simp, ?_, ?_⟩
    ·rw [List.length_append, List.length_replicate, Lib.decDigits_length]; omega
    rw [List.length_append, List.length_replicate, Lib.decDigits_length]; omega
   rename_i hp
   refine ⟨hd.1, hd.2, ?_, fun _ => hh⟩; rw [Lib.decDigits_length]; omega
  obtain ⟨p1, p2, p3, p4⟩ := hpd; generalize pad m e = P at *; have hk : ((P.length : Int) + e).toNat ≤ P.length := by omega
  have hA : (P.take ((P.length : Int) + e).toNat).length = ((P.length : Int) + e).toNat := by rw [List.length_take]; omega
  have hB : (P.drop ((P.length : Int) + e).toNat).length = (-e).toNat := by rw [List.length_drop]; omega
  have q1 : BP (P.take ((P.length : Int) + e).toNat) := fun x hx => p1 x (List.mem_of_mem_take hx)
  have q2 : BP (P.drop ((P.length : Int) + e).toNat) := fun x hx => p1 x (List.mem_of_mem_drop hx)
  rw [Sa neg _ _ q1 q2 (by intro h0; rw [h0] at hA; simp at hA; omega) (by intro h0; rw [h0] at hB; simp at hB; omega) ?_, List.take_append_drop, p2, hB]
  ·congr 1; omega
  rw [hA]; rintro ⟨g1, g2⟩; apply p4 (by omega); cases hP : P with
  | nil => rw [hP] at g2; simp at g2
  | cons x l =>
   rw [hP] at g2; obtain ⟨k, hk⟩ : ∃ k, (((x :: l).length : Int) + e).toNat = k + 1 := ⟨(((x :: l).length : Int) + e).toNat - 1, by rw [← hP]; omega⟩
   rw [hk] at g2; simpa using g2
 rename_i h
 rw [Zm neg _ e hd.1 (E0 _) hh (by omega), hd.2]
theorem RY (m e : Int) (h : right m e = true) : BT (BF m e) = ((m, e), 0) := by
 by_cases hm : m = 0
 ·subst hm
  have he : e = 0 := by simpa [right] using h
  subst he; have : BF 0 0 = [48] := by
   unfold BF; rw [if_pos (by unfold nd; rw [show (0 : Int).natAbs = 0 by rfl, Lib.nDigits_small (by omega)]; decide), show (0 : Int).natAbs = 0 by rfl, Lib.decDigits_one (by omega)]; rfl
  rw [this]; decide
 have hx := DX h; rw [S3, ← Qv h]; unfold BT sgn Hb; by_cases hn : m < 0
 ·rw [if_pos hn]
  simp only [List.cons_append, List.nil_append, List.head?_cons, ↓reduceIte, List.drop_succ_cons, List.drop_zero, hn, decide_true]; exact Nj true m e hm hx.1 hx.2
 rw [if_neg hn]; simp only [List.nil_append, hn, decide_false]; rw [if_neg (TZ m e hm)]; exact Nj false m e hm hx.1 hx.2
theorem YE {neg : Bool} {v : Nat} {e m f : Int} (h : Ct neg v e = ((m, f), 0)) : right m f = true := by
 have : Ct neg v e = Hb (if neg then -(v : Int) else v) e := by
  apply Yw
  ·cases neg <;> simp
  intro h0; cases neg <;> simp <;> omega
 rw [this] at h; exact (Xf h).1
theorem Yc {neg : Bool} {u : List UInt8} {m f : Int} (h : Dh neg u = ((m, f), 0)) : right m f = true := by
 unfold Dh at h; split at h
 ·simp at h
 exact YE h
theorem Vh {l : List UInt8} {m f : Int} (h : BT l = ((m, f), 0)) : right m f = true := by
 unfold BT at h; split at h <;> exact Yc h
theorem VN {m e : Int} (h : right m e = true) : nd m ≤ 18 := by
 unfold nd; have hs := Gd h; by_cases h0 : m.natAbs = 0
 ·rw [h0, Lib.nDigits_small (by omega)]; omega
 have h1 := Md m.natAbs h0; have h2 : (10 : Nat) ^ (Lib.nDigits m.natAbs - 1) < 10 ^ 18 := by omega
 have := (Nat.pow_lt_pow_iff_right (a := 10) (by omega)).1 h2; omega
end Go.Proofs.YtakncilicoefdaaGreatDoor
