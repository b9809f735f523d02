/- Lemmas and contracts. Conditions: those that each lemma names. -/
import Derived.Test.YtakncilicoefdaaGreatDoorPt1
import Derived.Shelf.Spec.BitsCarry
import Derived.StillTail
import Derived.Deep.RegionLawGrows
set_option maxRecDepth 100000
set_option maxHeartbeats 4000000
namespace Go.Proofs.YtakncilicoefdaaGreatDoor
open Go Go.RowKit Go.Proofs Th
theorem Nw (a b c d : Int) (w : World) : (Op.equalIn 10000 23 (.agg #[.int .i64 a, .int .i64 b]) (.agg #[.int .i64 c, .int .i64 d])).run Tryz.prog w = .ok (a == c && b == d) w := by
 have u3 := Tryz.underlying3; have a3 := Tryz.isAgg3; have z3 := Tryz.sizeOf3; have u2 := Tryz.underlying2; have a2 := Tryz.isAgg2; have z2 := Tryz.sizeOf2; have hS : Tryz.prog.underlying 23 = some (.struct (Tryz.prog.fieldsOf 23)) := by kernel_rfl
 have hp : Tryz.prog.stoodInHeld 23 = false := by kernel_rfl
 rw [show (10000 : Nat) = 9999 + 1 from rfl, run_equalIn_agg w 9999 23 _ _ hS hp]; simp only [Program.fieldsOf, Tryz.underlying23]; go_simp; by_cases h1 : a = c <;> by_cases h2 : b = d <;> simp [h1, h2]
@[go_sem ↓] theorem eql_num (a b c d : Int) (w : World) : (binOp .eql 23 (.agg #[.int .i64 a, .int .i64 b]) (.agg #[.int .i64 c, .int .i64 d])).run Tryz.prog w = .ok (.bool (a == c && b == d)) w := by
 rw [run_eql_struct, Nw]; rfl
@[go_sem ↓] theorem neq_num (a b c d : Int) (w : World) : (binOp .neq 23 (.agg #[.int .i64 a, .int .i64 b]) (.agg #[.int .i64 c, .int .i64 d])).run Tryz.prog w = .ok (.bool (!(a == c && b == d))) w := by
 rw [run_neq_struct, Nw]; rfl
end Go.Proofs.YtakncilicoefdaaGreatDoor
namespace Th
open Go Go.Lib
theorem Al (s : ByteArray) : s.data.toList.length = s.size := by simp
def BF (c : Int) : List UInt8 := if c < 0 ∨ 1114111 < c ∨ (55296 ≤ c ∧ c ≤ 57343) then [] else encodeRune c
theorem LX {c : Int} (h : c < 0 ∨ 1114111 < c ∨ (55296 ≤ c ∧ c ≤ 57343)) : BF c = [] := by unfold BF; rw [if_pos h]
theorem LC {c : Int} (h0 : 0 ≤ c) (h1 : c < 128) : BF c = [c.toNat.toUInt8] := by
 unfold BF encodeRune; rw [if_neg (by omega), encodeRuneZ_one h0 (by omega)]; rfl
theorem Lp {c : Int} (h0 : 128 ≤ c) (h1 : c < 2048) : BF c = [(192 + c / 64).toNat.toUInt8, (128 + c % 64).toNat.toUInt8] := by
 unfold BF encodeRune; rw [if_neg (by omega), encodeRuneZ_two h0 (by omega)]; rfl
theorem IX {c : Int} (h0 : 2048 ≤ c) (h1 : c < 65536) (h2 : c < 55296 ∨ 57343 < c) : BF c = [(224 + c / 4096).toNat.toUInt8, (128 + c / 64 % 64).toNat.toUInt8, (128 + c % 64).toNat.toUInt8] := by
 unfold BF encodeRune; rw [if_neg (by omega), encodeRuneZ_three (by omega)]; rfl
theorem Ka {c : Int} (h0 : 65536 ≤ c) (h1 : c ≤ 1114111) : BF c = [(240 + c / 262144).toNat.toUInt8, (128 + c / 4096 % 64).toNat.toUInt8, (128 + c / 64 % 64).toNat.toUInt8, (128 + c % 64).toNat.toUInt8] := by
 unfold BF encodeRune; rw [if_neg (by omega), encodeRuneZ_four h0 h1]; rfl
def De (l : List UInt8) : Prop := (decodeL l).1 = 65533 ∧ (decodeL l).2 = 1
instance (l : List UInt8) : Decidable (De l) := by unfold De; infer_instance
def Cj (l : List UInt8) : Nat × Nat := if l = [] ∨ De l then (0, 0) else decodeL l
def AV (l : List UInt8) (n : Nat) : Int :=
 match n with
 | 1 => (l.getD 0 0).toNat
 | 2 => ((l.getD 0 0).toNat - 192) * 64 + (l.getD 1 0).toNat - 128
 | 3 => (((l.getD 0 0).toNat - 224) * 64 + (l.getD 1 0).toNat - 128) * 64 + (l.getD 2 0).toNat - 128
 | _ => ((((l.getD 0 0).toNat - 240) * 64 + (l.getD 1 0).toNat - 128) * 64 + (l.getD 2 0).toNat - 128) * 64 + (l.getD 3 0).toNat - 128
theorem EP {z : Int} (h0 : 0 ≤ z) (h1 : z < 256) {x : UInt8} (h : z.toNat.toUInt8 = x) : z = (x.toNat : Int) := by
 subst h; have : z.toNat.toUInt8.toNat = z.toNat := by
  show (UInt8.ofNat z.toNat).toNat = z.toNat
  simp; omega
 rw [this]; omega
theorem Nn (l : List UInt8) (n : Nat) (h1 : 1 ≤ n) (h4 : n ≤ 4) (hl : n ≤ l.length) : BF (AV l n) = l.take n ↔ (¬ De l ∧ (decodeL l).2 = n) := by
 have k0 := (l.getD 0 0).toNat_lt; have k1 := (l.getD 1 0).toNat_lt; have k2 := (l.getD 2 0).toNat_lt; have k3 := (l.getD 3 0).toNat_lt; have hne : l ≠ [] := by rintro rfl; simp at hl; omega
 constructor
 ·intro h
  unfold De; rw [decodeL_N]; have hn : n = 1 ∨ n = 2 ∨ n = 3 ∨ n = 4 := by omega
  have hcs : (AV l n < 0 ∨ 1114111 < AV l n ∨ (55296 ≤ AV l n ∧ AV l n ≤ 57343)) ∨ (0 ≤ AV l n ∧ AV l n < 128) ∨ (128 ≤ AV l n ∧ AV l n < 2048) ∨ (2048 ≤ AV l n ∧ AV l n < 65536 ∧ (AV l n < 55296 ∨ 57343 < AV l n)) ∨ (65536 ≤ AV l n ∧ AV l n ≤ 1114111) := by omega
  have hlen : (BF (AV l n)).length = n := by rw [h, List.length_take]; omega
  rcases hcs with hc | ⟨ha, hb⟩ | ⟨ha, hb⟩ | ⟨ha, hb, hc⟩ | ⟨ha, hb⟩
  ·rw [LX hc] at hlen; simp at hlen; omega
  ·rw [LC ha hb] at hlen h
   obtain rfl : n = 1 := by simpa using hlen.symm
   rw [takeA l (by omega)] at h; injection h with e0; have e0 := EP ha (by omega) e0; have : (l.getD 0 0).toNat < 128 := by omega
   rw [show decodeN l.length (l.getD 0 0).toNat (l.getD 1 0).toNat (l.getD 2 0).toNat (l.getD 3 0).toNat = ((l.getD 0 0).toNat, 1) by unfold decodeN; rw [if_pos this]]; exact ⟨fun h => by have := h.1; dsimp only at this; omega, rfl⟩
  ·rw [Lp ha hb] at hlen h
   obtain rfl : n = 2 := by simpa using hlen.symm
   rw [takeB l (by omega)] at h; injection h with e0 h; injection h with e1 h; have e0 := EP (by omega) (by omega) e0; have e1 := EP (by omega) (by omega) e1; simp only [AV] at e0 e1 ha hb; rcases decodeN_shape l.length (l.getD 0 0).toNat (l.getD 1 0).toNat (l.getD 2 0).toNat (l.getD 3 0).toNat with ⟨c, e⟩ | ⟨c1, c2, c3, cv, e⟩ | ⟨c1, c2, c3, c4, cv, cs, e⟩ | ⟨c1, c2, c3, c4, c5, cv, cw, e⟩ | e
   ·omega
   ·rw [e]; exact ⟨fun h => by have := h.2; dsimp only at this; omega, rfl⟩
   ·omega
   ·omega
   exfalso; unfold decodeN at e; rw [if_neg (by omega), if_pos (by omega), if_pos (by omega)] at e; injection e with e e2; omega
  ·rw [IX ha hb hc] at hlen h
   obtain rfl : n = 3 := by simpa using hlen.symm
   rw [takeC l (by omega)] at h; injection h with e0 h; injection h with e1 h; injection h with e2 h; have e0 := EP (by omega) (by omega) e0; have e1 := EP (by omega) (by omega) e1; have e2 := EP (by omega) (by omega) e2; simp only [AV] at e0 e1 e2 ha hb hc; rcases decodeN_shape l.length (l.getD 0 0).toNat (l.getD 1 0).toNat (l.getD 2 0).toNat (l.getD 3 0).toNat with ⟨c, e⟩ | ⟨c1, c2, c3, cv, e⟩ | ⟨c1, c2, c3, c4, cv, cs, e⟩ | ⟨c1, c2, c3, c4, c5, cv, cw, e⟩ | e
   ·omega
   ·omega
   ·rw [e]; exact ⟨fun h => by have := h.2; dsimp only at this; omega, rfl⟩
   ·omega
   exfalso; unfold decodeN at e; rw [if_neg (by omega), if_neg (by omega), if_pos (by omega), if_pos (by omega)] at e; injection e with e e2; omega
  rw [Ka ha hb] at hlen h; obtain rfl : n = 4 := by simpa using hlen.symm
  rw [takeD l (by omega)] at h; injection h with e0 h; injection h with e1 h; injection h with e2 h; injection h with e3 h; have e0 := EP (by omega) (by omega) e0; have e1 := EP (by omega) (by omega) e1; have e2 := EP (by omega) (by omega) e2; have e3 := EP (by omega) (by omega) e3; simp only [AV] at e0 e1 e2 e3 ha hb; rcases decodeN_shape l.length (l.getD 0 0).toNat (l.getD 1 0).toNat (l.getD 2 0).toNat (l.getD 3 0).toNat with ⟨c, e⟩ | ⟨c1, c2, c3, cv, e⟩ | ⟨c1, c2, c3, c4, cv, cs, e⟩ | ⟨c1, c2, c3, c4, c5, cv, cw, e⟩ | e
  ·omega
  ·omega
  ·omega
  ·rw [e]; exact ⟨fun h => by have := h.2; dsimp only at this; omega, rfl⟩
  exfalso; unfold decodeN at e; rw [if_neg (by omega), if_neg (by omega), if_neg (by omega), if_pos (by omega), if_pos (by omega)] at e; injection e with e e2; omega
 rintro ⟨hb, hn⟩; have he := encode_decode l hne hb; have key : AV l n = ((decodeL l).1 : Int) ∧ ¬ (((decodeL l).1 : Int) < 0 ∨ 1114111 < ((decodeL l).1 : Int) ∨ (55296 ≤ ((decodeL l).1 : Int) ∧ ((decodeL l).1 : Int) ≤ 57343)) := by
  unfold De at hb; rw [decodeL_N] at hb hn ⊢; rcases decodeN_shape l.length (l.getD 0 0).toNat (l.getD 1 0).toNat (l.getD 2 0).toNat (l.getD 3 0).toNat with ⟨c, e⟩ | ⟨c1, c2, c3, cv, e⟩ | ⟨c1, c2, c3, c4, cv, cs, e⟩ | ⟨c1, c2, c3, c4, c5, cv, cw, e⟩ | e
  all_goals (rw [e] at hb hn ⊢; dsimp only at hb hn ⊢; subst hn)
  ·exact ⟨rfl, by omega⟩
  ·simp only [AV]; omega
  ·simp only [AV]; omega
  ·simp only [AV]; omega
  exact absurd ⟨rfl, rfl⟩ hb
 rw [key.1]; unfold BF; rw [if_neg key.2, he, hn]
theorem S6 (l : List UInt8) (n : Nat) (hn : (decodeL l).2 = n) (hb : ¬ De l) : AV l n = ((decodeL l).1 : Int) := by
 have k0 := (l.getD 0 0).toNat_lt; have k1 := (l.getD 1 0).toNat_lt; have k2 := (l.getD 2 0).toNat_lt; have k3 := (l.getD 3 0).toNat_lt; unfold De at hb; rw [decodeL_N] at hb hn ⊢; rcases decodeN_shape l.length (l.getD 0 0).toNat (l.getD 1 0).toNat (l.getD 2 0).toNat (l.getD 3 0).toNat with ⟨c, e⟩ | ⟨c1, c2, c3, cv, e⟩ | ⟨c1, c2, c3, c4, cv, cs, e⟩ | ⟨c1, c2, c3, c4, c5, cv, cw, e⟩ | e
 all_goals (rw [e] at hb hn ⊢; dsimp only at hb hn ⊢; subst hn)
 ·rfl
 ·simp only [AV]; omega
 ·simp only [AV]; omega
 ·simp only [AV]; omega
 exact absurd ⟨rfl, rfl⟩ hb
theorem Qc (l : List UInt8) : (decodeL l).2 ≤ 4 := by
 rw [decodeL_N]; rcases decodeN_shape l.length (l.getD 0 0).toNat (l.getD 1 0).toNat (l.getD 2 0).toNat (l.getD 3 0).toNat with ⟨c, e⟩ | ⟨c1, c2, c3, cv, e⟩ | ⟨c1, c2, c3, c4, cv, cs, e⟩ | ⟨c1, c2, c3, c4, c5, cv, cw, e⟩ | e
 all_goals (rw [e]; dsimp only; omega)
/-! texts, character by character -/
theorem G4 : ∀ (n m : Nat) (l : List UInt8), l.length ≤ n → l.length ≤ m → validGoD n l = validGoD m l
 | 0, m, l, hn, _ => by
  have : l = [] := List.eq_nil_of_length_eq_zero (by omega); subst this; cases m <;> simp [validGoD]
 | n + 1, 0, l, _, hm => by
  have : l = [] := List.eq_nil_of_length_eq_zero (by omega); subst this; simp [validGoD]
 | n + 1, m + 1, l, hn, hm => by
  by_cases hne : l = []
  ·subst hne; simp [validGoD]
  have hw := decodeL_width l; have hl : 0 < l.length := List.length_pos_iff.2 hne; simp only [validGoD, if_neg hne]; rw [G4 n m _ (by rw [List.length_drop]; omega) (by rw [List.length_drop]; omega)]
theorem DV (l : List UInt8) (hne : l ≠ []) : validD l = if De l then false else validD (l.drop (decodeL l).2) := by
 have hw := decodeL_width l; have hl : 0 < l.length := List.length_pos_iff.2 hne; unfold validD De; obtain ⟨n, hn⟩ : ∃ n, l.length = n + 1 := ⟨l.length - 1, by omega⟩
 rw [hn]; simp only [validGoD, if_neg hne]; rw [G4 n _ _ (by rw [List.length_drop]; omega) (Nat.le_refl _)]
def EZ (n : Nat) : UInt8 := if n < 10 then UInt8.ofNat (48 + n) else UInt8.ofNat (87 + n)
def B6 (c : Nat) : List UInt8 :=
 if c = 34 ∨ c = 92 then [92, UInt8.ofNat c]
 else if c = 8 then [92, 98] else if c = 9 then [92, 116] else if c = 10 then [92, 110] else if c = 12 then [92, 102] else if c = 13 then [92, 114]
 else if c < 32 then [92, 117, 48, 48, EZ (c / 16), EZ (c % 16)]
 else encodeRune c
def CL : Nat → List UInt8 → List UInt8
 | 0, _ => []
 | n + 1, l => if l = [] then [] else B6 (decodeL l).1 ++ CL n (l.drop (decodeL l).2)
def BN (l : List UInt8) : List UInt8 := CL l.length l
theorem Hg : ∀ (n m : Nat) (l : List UInt8), l.length ≤ n → l.length ≤ m → CL n l = CL m l
 | 0, m, l, hn, _ => by
  have : l = [] := List.eq_nil_of_length_eq_zero (by omega); subst this; cases m <;> simp [CL]
 | n + 1, 0, l, _, hm => by
  have : l = [] := List.eq_nil_of_length_eq_zero (by omega); subst this; simp [CL]
 | n + 1, m + 1, l, hn, hm => by
  by_cases hne : l = []
  ·subst hne; simp [CL]
  have hw := decodeL_width l; have hl : 0 < l.length := List.length_pos_iff.2 hne; simp only [CL, if_neg hne]; rw [Hg n m _ (by rw [List.length_drop]; omega) (by rw [List.length_drop]; omega)]
theorem Ln : BN [] = [] := rfl
theorem Ke (l : List UInt8) (hne : l ≠ []) : BN l = B6 (decodeL l).1 ++ BN (l.drop (decodeL l).2) := by
 have hw := decodeL_width l; have hl : 0 < l.length := List.length_pos_iff.2 hne; unfold BN; obtain ⟨n, hn⟩ : ∃ n, l.length = n + 1 := ⟨l.length - 1, by omega⟩
 rw [hn]; simp only [CL, if_neg hne]; rw [Hg n _ _ (by rw [List.length_drop]; omega) (Nat.le_refl _)]
theorem Md (r : Int) : (encodeRune r).length ≤ 4 := by
 unfold encodeRune encodeRuneZ; rw [List.length_map]; repeat' split
 all_goals simp
theorem KW (c : Nat) : (B6 c).length ≤ 6 := by
 unfold B6; have := Md (c : Int); repeat' split
 all_goals first | (simp; done) | omega
theorem Gr (l : List UInt8) : (BN l).length ≤ 6 * l.length := by
 suffices ∀ n (l : List UInt8), (CL n l).length ≤ 6 * l.length by exact this _ _
 intro n; induction n with
 | zero => intro l; simp [CL]
 | succ n ih =>
  intro l; unfold CL; split
  ·simp
  rename_i hne
  have hw := decodeL_width l; have hl : 0 < l.length := List.length_pos_iff.2 hne; have h1 := ih (l.drop (decodeL l).2); have h2 := KW (decodeL l).1; have h3 := decodeL_le l hne; rw [List.length_append]; rw [List.length_drop] at h1; omega
def Gf (l : List UInt8) : List UInt8 := 34 :: BN l ++ [34]
end Th
namespace Th
open Go Go.Lib
inductive JV where
 | mk (k m e : Int) (s : ByteArray) (l : List JV) (ks : List ByteArray)
mutual
def EL : JV → JV → Bool
 | .mk k m e s l ks, .mk k' m' e' s' l' ks' => decide (k = k') && decide (m = m') && decide (e = e') && decide (s = s') && decide (ks = ks') && CI l l'
def CI : List JV → List JV → Bool
 | [], [] => true
 | v :: r, v' :: r' => EL v v' && CI r r'
 | _, _ => false
end
section
variable (T : Int → Int → List UInt8)
theorem Q2 (l : List UInt8) : (Gf l).length ≤ 6 * l.length + 2 := by
 have := Gr l; unfold Gf; simp only [List.cons_append, List.length_cons, List.length_append, List.length_nil]; omega
end
end Th
namespace Th
open Go Go.Lib
section
variable (T : Int → Int → List UInt8)
end
end Th
namespace Th
open Go Go.Lib
/-! the law's own Cg at a text, byte by byte: in quotes?, behind a backslash? -/
section
variable (T : Int → Int → List UInt8)
end
end Th
namespace Go.Proofs.YtakncilicoefdaaGreatDoor
open Go Go.RowKit Go.Proofs Th
theorem hasPrefix (s p : ByteArray) (w : World) : Calls Tryz.prog 84 #[.string s, .string p] w fun r w' => r = .returned (.bool (Lib.hasPrefix s.data.toList p.data.toList)) ∧ Below w.heap.size w w' :=
 Ep (Tryz.strings_HasPrefix s p w)
theorem EG (s : ByteArray) (w : World) : Calls Tryz.prog 159 #[.string s, .string ⟨#[48]⟩] w fun r w' => r = .returned (.string ⟨(Lib.trimLeftB s.data.toList 48).toArray⟩) ∧ Below w.heap.size w w' :=
 Ep (Tryz.strings_TrimLeft_one s 48 (by decide) w)
theorem Ec (s : ByteArray) (hs : s.size ≤ 9223372036854775807) (w : World) : Calls Tryz.prog 160 #[.string s, .string ⟨#[48]⟩] w fun r w' => r = .returned (.string ⟨(Lib.trimRightB s.data.toList 48).toArray⟩) ∧ Below w.heap.size w w' :=
 Ep (Tryz.strings_TrimRight_one s 48 (by decide) w hs)
end Go.Proofs.YtakncilicoefdaaGreatDoor
namespace Th
theorem Oc (neg : Bool) (ds : List Nat) (e : Int) (hd : Digs ds) (d : Nat) (t : List Nat) (h0 : ds = d :: t) (hh : d ≠ 0) (hl : val ds % 10 ≠ 0) :
  (18 < ds.length ∧ Bq neg (val ds) e = ((0, 0), 11)) ∨
  (ds.length ≤ 18 ∧ (e < -64 ∨ 64 < e) ∧ Bq neg (val ds) e = ((0, 0), 11)) ∨
  (ds.length ≤ 18 ∧ -64 ≤ e ∧ e ≤ 64 ∧ val ds < 1000000000000000000 ∧ Bq neg (val ds) e = ((if neg then -(val ds : Int) else val ds, e), 0)) := by
 rw [GW _ _ _ hl]; unfold fin; have h1 := MI d t (by omega); rw [← h0] at h1; have h2 := Hw ds hd; have h3 : ds.length = t.length + 1 := by rw [h0]; rfl
 by_cases h : 18 < ds.length
 ·left
  have : (10 : Nat) ^ 18 ≤ 10 ^ t.length := Nat.pow_le_pow_right (by omega) (by omega); exact ⟨h, by rw [if_pos (by left; omega)]⟩
 right
 have : 10 ^ ds.length ≤ (10 : Nat) ^ 18 := Nat.pow_le_pow_right (by omega) (by omega); by_cases hx : e < -64 ∨ 64 < e
 ·left; exact ⟨by omega, hx, by rw [if_pos (by omega)]⟩
 right; exact ⟨by omega, by omega, by omega, by omega, by rw [if_neg (by omega)]⟩
theorem Mh (ds : List Nat) : val (0 :: ds) = val ds := by rw [D7]; simp
theorem Digs.append {a b : List Nat} (ha : Digs a) (hb : Digs b) : Digs (a ++ b) := by
 intro d hd; rcases List.mem_append.1 hd with h | h
 ·exact ha d h
 exact hb d h
theorem Digs.cons {a : Nat} {b : List Nat} (ha : a ≤ 9) (hb : Digs b) : Digs (a :: b) := by
 intro d hd; rcases List.mem_cons.1 hd with h | h
 ·omega
 exact hb d h
theorem Digs.tail {a : Nat} {b : List Nat} (h : Digs (a :: b)) : Digs b := fun d hd => h d (List.mem_cons_of_mem _ hd)
theorem Digs.take {a : List Nat} (h : Digs a) (k : Nat) : Digs (a.take k) := fun d hd => h d (List.mem_of_mem_take hd)
theorem Digs.drop {a : List Nat} (h : Digs a) (k : Nat) : Digs (a.drop k) := fun d hd => h d (List.mem_of_mem_drop hd)
theorem Digs.nil : Digs [] := fun d hd => by cases hd
structure TotInv (a b : List Nat) (s : Int) (k : Nat) (os : List Nat) (c : Int) : Prop where
 dig : Digs os
 len : os.length + k = a.length
 c0 : -1 ≤ c
 c1 : c ≤ 1
 sum : (val os : Int) + c * (10 ^ os.length : Nat) = val (a.drop k) + s * val (b.drop k)
theorem TotInv.start (a b : List Nat) (s : Int) (hl : a.length = b.length) : TotInv a b s a.length [] 0 :=
 ⟨Digs.nil, by simp, by omega, by omega, by rw [List.drop_length, hl, List.drop_length]; simp⟩
theorem TotInv.step {a b : List Nat} {s : Int} {k : Nat} {os : List Nat} {c : Int} (h : TotInv a b s (k + 1) os c) (hl : a.length = b.length) (ha : k < a.length) (hb : k < b.length) (d : Nat) (c' : Int) (hd : d ≤ 9) (hc : -1 ≤ c' ∧ c' ≤ 1)
  (he : (d : Int) + 10 * c' = a[k] + s * b[k] + c) : TotInv a b s k (d :: os) c' := by
 refine ⟨h.dig.cons hd, by have := h.len; simp; omega, hc.1, hc.2, ?_⟩; have h1 := h.sum; have e1 : a.drop k = a[k] :: a.drop (k + 1) := List.drop_eq_getElem_cons ha; have e2 : b.drop k = b[k] :: b.drop (k + 1) := List.drop_eq_getElem_cons hb; have hla : (a.drop (k + 1)).length = os.length := by have := h.len; simp; omega
 have hlb : (b.drop (k + 1)).length = os.length := by have := h.len; simp; omega
 rw [e1, e2, D7, D7, D7, hla, hlb, List.length_cons, Nat.pow_succ]; generalize val (a.drop (k + 1)) = A at *; generalize val (b.drop (k + 1)) = B at *; generalize 10 ^ os.length = P at *; generalize a[k] = x at *; generalize b[k] = y at *; have h2 : ((d : Int) + 10 * c') * P = (x + s * y + c) * P := by rw [he]
 simp only [Int.add_mul] at h2; push_cast
 rw [Int.mul_add, ← Int.mul_assoc s, show c' * ((P : Int) * 10) = 10 * c' * P by rw [← Int.mul_assoc, Int.mul_comm, ← Int.mul_assoc]]; omega
theorem Mi {m e : Int} (h : Bq (decide (m < 0)) m.natAbs e = ((m, e), 0)) : right m e = true := by
 by_cases hm : m = 0
 ·subst hm
  have : ((0, 0), 0) = ((((0 : Int), e), (0 : Int))) := h; injection this with h1 _; injection h1 with _ h2; subst h2; rfl
 obtain ⟨a, k, ha, hk⟩ := I3 m.natAbs (by omega); rw [hk, Iv _ _ _ _ ha] at h; unfold fin at h; split at h
 ·injection h with h1 h2
  exact absurd h2 (by decide)
 rename_i hb
 injection h with h1 h2; injection h1 with h3 h4; have hk0 : k = 0 := by omega
 subst hk0; rw [Nat.pow_zero, Nat.mul_one] at hk; unfold right; rw [if_neg hm]; simp only [Bool.and_eq_true, decide_eq_true_eq]; omega
theorem Sq (neg : Bool) (m : Nat) (e : Int) : (Bq neg m e).2 = 0 ∨ (Bq neg m e) = ((0, 0), 11) := by
 unfold Bq fin; split
 ·left; rfl
 split
 ·right; rfl
 left; rfl
end Th
namespace Th
open Go Go.RowKit
def WK (o : Oper) (v : Value) : Value := match o.dst with | some _ => v | none => undef
section
variable {P : Program} {ops : Array Oper} {n : Nat} {a0 : Act} {I : (Nat → Bool) → World → Prop} {Φ : Nat → Value → World → Prop} {G : Nat → World → World → Prop} {Q : Exit → Act → World → Prop}
end
end Th
namespace Th
def Bo (c : UInt8) : Bool := decide (48 ≤ c.toNat) && decide (c.toNat ≤ 57)
end Th
namespace Go.Proofs.YtakncilicoefdaaGreatDoor
open Go Go.RowKit Go.Proofs Th
def nd (m : Int) : Nat := Lib.nDigits m.natAbs
theorem Ct (m : Int) : 1 ≤ nd m := by
 unfold nd; by_cases h : m.natAbs < 10
 ·rw [Lib.nDigits_small h]; omega
 rw [Lib.nDigits_big h]; omega
def sgn (m : Int) : List UInt8 := if m < 0 then [45] else []
def pad (m e : Int) : List UInt8 := if (nd m : Int) ≤ -e then List.replicate (1 - e - nd m).toNat 48 ++ Lib.decDigits m.natAbs else Lib.decDigits m.natAbs
def AL (m e : Int) : List UInt8 :=
 if 0 ≤ e ∧ (nd m : Int) + e ≤ 21 then sgn m ++ Lib.decDigits m.natAbs ++ List.replicate e.toNat 48
 else if e < 0 ∧ -20 ≤ e then sgn m ++ (pad m e).take ((pad m e).length + e).toNat ++ [46] ++ (pad m e).drop ((pad m e).length + e).toNat
 else sgn m ++ Lib.decDigits m.natAbs ++ [101] ++ Lib.itoa e
theorem NB (e : Int) (h0 : -64 ≤ e) (h1 : e ≤ 64) : (Lib.itoa e).length ≤ 1000 := by
 have key : ∀ u : Nat, u ≤ 64 → (Lib.decDigits u).length ≤ 2 := by
  intro u hu; rw [Lib.decDigits_length]; by_cases h : u < 10
  ·rw [Lib.nDigits_small h]; omega
  rw [Lib.nDigits_big h, Lib.nDigits_small (by omega)]; omega
 unfold Lib.itoa; split
 ·have := key e.natAbs (by omega); simp; omega
 have := key e.toNat (by omega); omega
theorem PN (u : Nat) (h : u ≠ 0) : 10 ^ (Lib.nDigits u - 1) ≤ u := by
 induction u using Nat.strongRecOn with
 | ind u ih =>
  rw [Lib.nDigits]; split
  ·simp; omega
  have := ih (u / 10) (by omega) (by omega); have hp : 1 ≤ Lib.nDigits (u / 10) := by
   rw [Lib.nDigits]; split <;> omega
  rw [show Lib.nDigits (u / 10) + 1 - 1 = (Lib.nDigits (u / 10) - 1) + 1 by omega, Nat.pow_succ]; omega
def PH (m e : Int) : List UInt8 :=
 if 0 ≤ e ∧ (nd m : Int) + e ≤ 21 then Lib.decDigits m.natAbs ++ List.replicate e.toNat 48
 else if e < 0 ∧ -20 ≤ e then (pad m e).take ((pad m e).length + e).toNat ++ 46 :: (pad m e).drop ((pad m e).length + e).toNat
 else Lib.decDigits m.natAbs ++ 101 :: Lib.itoa e
theorem Ru (m e : Int) : AL m e = sgn m ++ PH m e := by
 unfold AL PH; split
 ·rw [List.append_assoc]
 split
 ·simp
 simp
theorem Tt {m e : Int} (h : right m e = true) : nd m ≤ 18 := by
 unfold nd; have hs := GI h; by_cases h0 : m.natAbs = 0
 ·rw [h0, Lib.nDigits_small (by omega)]; omega
 have h1 := PN m.natAbs h0; have h2 : (10 : Nat) ^ (Lib.nDigits m.natAbs - 1) < 10 ^ 18 := by omega
 have := (Nat.pow_lt_pow_iff_right (a := 10) (by omega)).1 h2; omega
end Go.Proofs.YtakncilicoefdaaGreatDoor
