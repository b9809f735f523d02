/- Lemmas and contracts. Conditions: those that each lemma names. -/
import Derived.Test.YtakncilicoefdaaGreatDoorProg
import Derived.WalkSpells
import Derived.Shelf.Strings.OnBuilder
import Derived.Shelf.Strings.Trim
import Derived.Shelf.Small.Bits
import Derived.Shelf.Utf8.AppendRune
import Derived.Shelf.Utf8.AppendRunePlain
import Derived.Shelf.Strconv.Itoa3
import Derived.Shelf.Strings.Shaped
import Derived.Shelf.Unicode.Decode
import Derived.Shelf.Strings.Runes
import Derived.Shelf.Strings.AsciiSet
import Derived.Shelf.Strings.Repeat
import Derived.Shelf.Unicode.ValidAny
import Derived.Shelf.Unicode.DecodeLast
import Derived.Shelf.Strings.BuilderCap
import Derived.Shelf.Slices.Turned
import Derived.Shelf.Slices.Empties2
set_option maxRecDepth 100000
set_option maxHeartbeats 4000000
namespace Th
def val (ds : List Nat) : Nat := ds.foldl (fun a d => a * 10 + d) 0
theorem NK (ds : List Nat) (a : Nat) : ds.foldl (fun a d => a * 10 + d) a = a * 10 ^ ds.length + val ds := by
 unfold val; induction ds generalizing a with
 | nil => simp
 | cons d ds ih =>
  simp only [List.foldl_cons, List.length_cons]; rw [ih (a * 10 + d), ih (0 * 10 + d)]; simp only [Nat.zero_mul, Nat.zero_add, Nat.pow_succ, Nat.add_mul]; rw [Nat.mul_assoc, Nat.mul_comm 10]; omega
@[simp] theorem val_nil : val [] = 0 := rfl
theorem FG (d : Nat) (ds : List Nat) : val (d :: ds) = d * 10 ^ ds.length + val ds := by
 show (d :: ds).foldl _ 0 = _
 rw [List.foldl_cons, NK]; simp
theorem I0 (ds : List Nat) (d : Nat) : val (ds ++ [d]) = val ds * 10 + d := by
 unfold val; rw [List.foldl_append]; rfl
theorem Gi (a b : List Nat) : val (a ++ b) = val a * 10 ^ b.length + val b := by
 unfold val; rw [List.foldl_append, NK]; rfl
def Pg (ds : List Nat) : Prop := ∀ d ∈ ds, d ≤ 9
theorem Om (ds : List Nat) (h : Pg ds) : val ds < 10 ^ ds.length := by
 induction ds with
 | nil => simp
 | cons d ds ih =>
  rw [FG, List.length_cons, Nat.pow_succ]; have h1 := ih (fun x hx => h x (List.mem_cons_of_mem _ hx)); have h2 : d ≤ 9 := h d (List.mem_cons_self ..); have h3 : d * 10 ^ ds.length ≤ 9 * 10 ^ ds.length := Nat.mul_le_mul_right _ h2; omega
theorem Zx (d : Nat) (ds : List Nat) (h : 1 ≤ d) : 10 ^ ds.length ≤ val (d :: ds) := by
 rw [FG]; have : 1 * 10 ^ ds.length ≤ d * 10 ^ ds.length := Nat.mul_le_mul_right _ h; omega
def fin (neg : Bool) (m : Nat) (e : Int) : (Int × Int) × Int :=
 if 1000000000000000000 ≤ m ∨ e < -64 ∨ 64 < e then ((0, 0), 11) else ((if neg then -(m : Int) else m, e), 0)
def IG : Nat → Nat → Int → Nat × Int
 | 0, m, e => (m, e)
 | f + 1, m, e => if m % 10 = 0 then IG f (m / 10) (e + 1) else (m, e)
def Ct (neg : Bool) (m : Nat) (e : Int) : (Int × Int) × Int :=
 if m = 0 then ((0, 0), 0) else fin neg (IG m m e).1 (IG m m e).2
theorem WH (k : Nat) : ∀ (f m : Nat) (e : Int), m % 10 ≠ 0 → k ≤ f → IG f (m * 10 ^ k) e = (m, e + k) := by
 induction k with
 | zero =>
  intro f m e hm _; cases f with
  | zero => simp [IG]
  | succ f => simp [IG, hm]
 | succ k ih =>
  intro f m e hm hf; obtain ⟨f, rfl⟩ : ∃ g, f = g + 1 := ⟨f - 1, by omega⟩
  have h1 : m * 10 ^ (k + 1) = (m * 10 ^ k) * 10 := by rw [Nat.pow_succ, Nat.mul_assoc]
  rw [h1]; simp only [IG, Nat.mul_mod_left, ↓reduceIte]; rw [Nat.mul_div_cancel _ (by omega), ih f m (e + 1) hm (by omega)]; congr 1
  omega
theorem Sk (k : Nat) : k < 10 ^ k := by
 induction k with
 | zero => simp
 | succ k ih => rw [Nat.pow_succ]; omega
theorem Jn (neg : Bool) (e : Int) : Ct neg 0 e = ((0, 0), 0) := rfl
theorem Kg (neg : Bool) (m k : Nat) (e : Int) (hm : m % 10 ≠ 0) : Ct neg (m * 10 ^ k) e = fin neg m (e + k) := by
 have h0 : m ≠ 0 := by intro h; subst h; simp at hm
 have hk := Sk k; have h1 : 1 * 10 ^ k ≤ m * 10 ^ k := Nat.mul_le_mul_right _ (by omega); unfold Ct; rw [if_neg (by omega), WH k _ m e hm (by omega)]
theorem KV (neg : Bool) (m : Nat) (e : Int) (hm : m % 10 ≠ 0) : Ct neg m e = fin neg m e := by
 have := Kg neg m 0 e hm; simpa using this
theorem Kv (m : Nat) (_h : m ≠ 0) : ∃ a k, a % 10 ≠ 0 ∧ m = a * 10 ^ k := by
 induction m using Nat.strongRecOn with
 | _ m ih =>
  by_cases hm : m % 10 = 0
  ·obtain ⟨a, k, ha, hk⟩ := ih (m / 10) (by omega) (by omega)
   refine ⟨a, k + 1, ha, ?_⟩; rw [Nat.pow_succ, ← Nat.mul_assoc, ← hk]; omega
  exact ⟨m, 0, hm, by simp⟩
theorem Gb (neg : Bool) (m k : Nat) (e : Int) : Ct neg (m * 10 ^ k) e = Ct neg m (e + k) := by
 by_cases h : m = 0
 ·subst h; simp [Jn]
 obtain ⟨a, j, ha, rfl⟩ := Kv m h; rw [Nat.mul_assoc, ← Nat.pow_add, Kg _ _ _ _ ha, Kg _ _ _ _ ha]; congr 1
 omega
def right (m e : Int) : Bool := if m = 0 then e == 0 else decide (m.natAbs < 1000000000000000000) && decide (m.natAbs % 10 ≠ 0) && decide (-64 ≤ e) && decide (e ≤ 64)
theorem Vk (m : Int) : m.tmod 10 = 0 ↔ m.natAbs % 10 = 0 := by
 rw [← Int.dvd_iff_tmod_eq_zero]; omega
theorem QL (m e : Int) (hm : m ≠ 0) :
  (decide ((m.natAbs : Int) < 1000000000000000000) = false ∧ right m e = false) ∨
  (decide ((m.natAbs : Int) < 1000000000000000000) = true ∧ (m.tmod 10 != 0) = false ∧ right m e = false) ∨
  (decide ((m.natAbs : Int) < 1000000000000000000) = true ∧ (m.tmod 10 != 0) = true ∧ decide (-64 ≤ e) = false ∧ right m e = false) ∨
  (decide ((m.natAbs : Int) < 1000000000000000000) = true ∧ (m.tmod 10 != 0) = true ∧ decide (-64 ≤ e) = true ∧ right m e = decide (e ≤ 64)) := by
 have h1 : right m e = (decide (m.natAbs < 1000000000000000000) && decide (m.natAbs % 10 ≠ 0) && decide (-64 ≤ e) && decide (e ≤ 64)) := by unfold right; rw [if_neg hm]
 have h2 : decide ((m.natAbs : Int) < 1000000000000000000) = decide (m.natAbs < 1000000000000000000) := by rw [decide_eq_decide]; omega
 have h3 : (m.tmod 10 != 0) = decide (m.natAbs % 10 ≠ 0) := by
  rw [Bool.eq_iff_iff]; simp only [bne_iff_ne, ne_eq, decide_eq_true_eq, Vk]
 rw [h1, h2, h3]; cases decide (m.natAbs < 1000000000000000000) <;> cases decide (m.natAbs % 10 ≠ 0) <;> cases decide (-64 ≤ e) <;> simp
def Je (h l : Int) : Int := (h * 18446744073709551616 + l) / 10
def MY (h l : Int) : Int := (h * 18446744073709551616 + l) % 10
def CP (h l : Int) : Nat := (h * 18446744073709551616 + l).toNat
theorem W8 (h l : Int) (_h0 : 0 ≤ h) (_l0 : 0 ≤ l) : CP (h / 10) (Je (h % 10) l) = CP h l / 10 := by unfold CP Je; omega
theorem Xh (h l : Int) (h0 : 0 ≤ h) (l0 : 0 ≤ l) : MY (h % 10) l = (CP h l % 10 : Nat) := by unfold CP MY; omega
theorem X8 (h l : Int) (_h0 : 0 ≤ h) (l0 : 0 ≤ l) (l1 : l < 18446744073709551616) : 0 ≤ Je (h % 10) l ∧ Je (h % 10) l < 18446744073709551616 := by unfold Je; omega
theorem Yp (h l : Int) (h1 : h < 18446744073709551616) (l1 : l < 18446744073709551616) : CP h l < 340282366920938463463374607431768211456 := by unfold CP; omega
theorem Ua (k n V : Nat) (hn : n ≠ 0) (e : n * 10 ^ k = V) (hV : V < 340282366920938463463374607431768211456) : k < 39 := by
 rcases Nat.lt_or_ge k 39 with h | h
 ·exact h
 have h1 : 10 ^ 39 ≤ 10 ^ k := Nat.pow_le_pow_right (by omega) h; have h2 : 1 * 10 ^ k ≤ n * 10 ^ k := Nat.mul_le_mul_right _ (by omega); have h3 : (10 : Nat) ^ 39 = 1000000000000000000000000000000000000000 := by decide
 omega
theorem Sq (neg : Bool) (x y f : Int) (x0 : 0 ≤ x) (y0 : 0 ≤ y) (hr : CP x y % 10 ≠ 0) :
  ((x != 0) = true ∧ Ct neg (CP x y) f = ((0, 0), 11)) ∨
  ((x != 0) = false ∧ decide (1000000000000000000 ≤ y) = true ∧ Ct neg (CP x y) f = ((0, 0), 11)) ∨
  ((x != 0) = false ∧ decide (1000000000000000000 ≤ y) = false ∧ decide (f < -64) = true ∧ Ct neg (CP x y) f = ((0, 0), 11)) ∨
  ((x != 0) = false ∧ decide (1000000000000000000 ≤ y) = false ∧ decide (f < -64) = false ∧ decide (64 < f) = true ∧ Ct neg (CP x y) f = ((0, 0), 11)) ∨
  ((x != 0) = false ∧ decide (1000000000000000000 ≤ y) = false ∧ decide (f < -64) = false ∧ decide (64 < f) = false ∧ y < 1000000000000000000 ∧ Ct neg (CP x y) f = ((if neg then -y else y, f), 0)) := by
 rw [KV _ _ _ hr]; unfold fin CP; by_cases hx : x = 0
 ·subst hx
  have e : (0 * 18446744073709551616 + y).toNat = y.toNat := by congr 1; omega
  rw [e]; right
  by_cases hy : 1000000000000000000 ≤ y
  ·left; exact ⟨rfl, by simpa using hy, by rw [if_pos (by omega)]⟩
  right
  have hy' : decide (1000000000000000000 ≤ y) = false := by simpa using hy
  by_cases h1 : f < -64
  ·left; exact ⟨rfl, hy', by simpa using h1, by rw [if_pos (by omega)]⟩
  right
  by_cases h2 : 64 < f
  ·left; exact ⟨rfl, hy', by simpa using h1, by simpa using h2, by rw [if_pos (by omega)]⟩
  right; exact ⟨rfl, hy', by simpa using h1, by simpa using h2, by omega, by rw [if_neg (by omega), Int.toNat_of_nonneg y0]⟩
 left
 exact ⟨by simpa using hx, by rw [if_pos (by omega)]⟩
end Th
namespace Th
def Hb (S e : Int) : (Int × Int) × Int := Ct (decide (S < 0)) S.natAbs e
theorem Yw (neg : Bool) (m : Nat) (S e : Int) (h1 : m = S.natAbs) (h2 : m ≠ 0 → neg = decide (S < 0)) : Ct neg m e = Hb S e := by
 unfold Hb; by_cases h : m = 0
 ·rw [← h1, h]; rfl
 rw [h2 h, h1]
def Cu (m1 e1 m2 e2 e : Int) : Int := m1 * (10 ^ (e1 - e).toNat : Nat) + m2 * (10 ^ (e2 - e).toNat : Nat)
theorem Ix {m e : Int} (h : right m e = true) (hm : m ≠ 0) : m.natAbs < 1000000000000000000 ∧ m.natAbs % 10 ≠ 0 ∧ -64 ≤ e ∧ e ≤ 64 := by
 unfold right at h; rw [if_neg hm] at h; simp only [Bool.and_eq_true, decide_eq_true_eq] at h; exact ⟨h.1.1.1, h.1.1.2, h.1.2, h.2⟩
theorem DX {m e : Int} (h : right m e = true) : -64 ≤ e ∧ e ≤ 64 := by
 by_cases hm : m = 0
 ·subst hm; simp [right] at h; omega
 exact (Ix h hm).2.2
theorem Gd {m e : Int} (h : right m e = true) : m.natAbs < 1000000000000000000 := by
 by_cases hm : m = 0
 ·subst hm; decide
 exact (Ix h hm).1
theorem Qv {m e : Int} (h : right m e = true) : Hb m e = ((m, e), 0) := by
 by_cases hm : m = 0
 ·subst hm
  have : e = 0 := by simpa [right] using h
  subst this; rfl
 obtain ⟨h1, h2, h3, h4⟩ := Ix h hm; unfold Hb; rw [KV _ _ _ h2]; unfold fin; rw [if_neg (by omega)]; by_cases hn : m < 0
 ·simp only [hn, decide_true, ↓reduceIte]; congr 2; omega
 simp only [hn, decide_false, Bool.false_eq_true, ↓reduceIte]; congr 2; omega
end Th
namespace Th
def AK : List UInt8 → Nat
 | [] => 0
 | c :: l => if 48 ≤ c.toNat ∧ c.toNat ≤ 57 then AK l + 1 else 0
theorem MZ (l : List UInt8) : AK l ≤ l.length := by
 induction l with
 | nil => simp [AK]
 | cons c l ih => simp only [AK, List.length_cons]; split <;> omega
theorem K4 (l : List UInt8) : ∀ (k : Nat) (h : k < l.length), k < AK l → 48 ≤ l[k].toNat ∧ l[k].toNat ≤ 57 := by
 induction l with
 | nil => intro k h; simp at h
 | cons c l ih =>
  intro k h hk; simp only [AK] at hk; split at hk
  ·rename_i hc
   cases k with
   | zero => exact hc
   | succ k => exact ih k (by simpa using h) (by omega)
  omega
def dg (c : UInt8) : Nat := c.toNat - 48
def dgs (l : List UInt8) : List Nat := l.map dg
theorem V6 (l : List UInt8) (h : AK l = l.length) : Pg (dgs l) := by
 intro d hd; obtain ⟨c, hc, rfl⟩ := List.mem_map.1 hd; obtain ⟨k, hk, rfl⟩ := List.getElem_of_mem hc; have := K4 l k hk (by omega); unfold dg; omega
def BD (l : List UInt8) : Nat := l.foldl (fun a c => min (a * 10 + dg c) 1099511627776) 0
theorem QC (l : List UInt8) (c : UInt8) : BD (l ++ [c]) = min (BD l * 10 + dg c) 1099511627776 := by
 unfold BD; rw [List.foldl_append]; rfl
theorem RN (l : List UInt8) : ∀ a : Nat, l.foldl (fun a c => min (a * 10 + dg c) 1099511627776) (min a 1099511627776) = min (l.foldl (fun a c => a * 10 + dg c) a) 1099511627776 := by
 induction l with
 | nil => intro a; rfl
 | cons c l ih =>
  intro a; simp only [List.foldl_cons]; rw [← ih, show min (min a 1099511627776 * 10 + dg c) 1099511627776 = min (a * 10 + dg c) 1099511627776 by omega]
theorem NB (l : List UInt8) : BD l = min (val (dgs l)) 1099511627776 := by
 have h := RN l 0; unfold BD val dgs; rw [List.foldl_map]; exact h
theorem FS (l : List UInt8) : BD l ≤ 1099511627776 := by rw [NB]; omega
def Lr (neg : Bool) (u : List UInt8) : Option (Bool × List UInt8) := if AK u = 0 ∨ AK u < u.length then none else some (neg, u)
def DH (l : List UInt8) : Option (Bool × List UInt8) :=
 if l = [] then some (false, []) else
 if l.head? = some 101 ∨ l.head? = some 69 then
  (if (l.drop 1).head? = some 45 then Lr true (l.drop 2) else if (l.drop 1).head? = some 43 then Lr false (l.drop 2) else Lr false (l.drop 1))
 else none
def sg (neg : Bool) (n : Int) : Int := if neg then -n else n
end Th
namespace Th
open Go
def BP (l : List UInt8) : Prop := ∀ c ∈ l, 48 ≤ c.toNat ∧ c.toNat ≤ 57
theorem KF (l : List UInt8) : BP (l.take (AK l)) := by
 intro c hc; obtain ⟨k, hk, rfl⟩ := List.getElem_of_mem hc; rw [List.length_take] at hk; rw [List.getElem_take]; exact K4 l k (by omega) (by omega)
theorem Ea {a b : List UInt8} (ha : BP a) (hb : BP b) : BP (a ++ b) := by
 intro c hc; rcases List.mem_append.1 hc with h | h
 ·exact ha c h
 exact hb c h
theorem IU (l : List UInt8) (h : BP l) : AK l = l.length := by
 induction l with
 | nil => rfl
 | cons c l ih => rw [AK, if_pos (h c (by simp)), ih (fun d hd => h d (by simp [hd]))]; rfl
theorem XU (l : List UInt8) (h : BP l) : Pg (dgs l) := V6 l (IU l h)
theorem Fi (a b : List UInt8) : dgs (a ++ b) = dgs a ++ dgs b := List.map_append
theorem Gl (a : List UInt8) : (dgs a).length = a.length := by simp [dgs]
theorem ON (l : List UInt8) : val (dgs (Lib.trimLeftB l 48)) = val (dgs l) := by
 unfold Lib.trimLeftB; induction l with
 | nil => rfl
 | cons c l ih =>
  rw [List.dropWhile_cons]; split
  ·rename_i h
   have : c = 48 := by simpa using h
   subst this; rw [ih]; show _ = val (dg 48 :: dgs l)
   rw [FG]; simp [dg]
  rfl
theorem Ye (r : List UInt8) : (r.dropWhile (· == 48)).length ≤ r.length ∧ val (dgs r.reverse) = val (dgs (r.dropWhile (· == 48)).reverse) * 10 ^ (r.length - (r.dropWhile (· == 48)).length) := by
 induction r with
 | nil => exact ⟨Nat.le_refl _, rfl⟩
 | cons c r ih =>
  rw [List.dropWhile_cons]; split
  ·rename_i h
   have : c = 48 := by simpa using h
   subst this; obtain ⟨h1, h2⟩ := ih; refine ⟨by simp only [List.length_cons]; omega, ?_⟩; rw [List.reverse_cons, Fi, show dgs [48] = [0] by rfl, I0, h2, List.length_cons, show r.length + 1 - (r.dropWhile (· == 48)).length = (r.length - (r.dropWhile (· == 48)).length) + 1 by omega, Nat.pow_succ]; simp [Nat.mul_assoc]
  simp
theorem N1 (l : List UInt8) : (Lib.trimRightB l 48).length ≤ l.length ∧ val (dgs l) = val (dgs (Lib.trimRightB l 48)) * 10 ^ (l.length - (Lib.trimRightB l 48).length) := by
 have h := Ye l.reverse; rw [List.reverse_reverse, List.length_reverse] at h; unfold Lib.trimRightB; rw [List.length_reverse]; exact h
theorem Mh (l : List UInt8) (c : UInt8) : (Lib.trimLeftB l c).length ≤ l.length := by
 unfold Lib.trimLeftB; exact List.Sublist.length_le (List.dropWhile_sublist _)
theorem PP {l : List UInt8} {c x : UInt8} (h : x ∈ Lib.trimLeftB l c) : x ∈ l := (List.dropWhile_sublist _).subset h
theorem N3 {l : List UInt8} {c x : UInt8} (h : x ∈ Lib.trimRightB l c) : x ∈ l := by
 unfold Lib.trimRightB at h; have := (List.dropWhile_sublist _).subset (List.mem_reverse.1 h); simpa using this
theorem I6 (l : List UInt8) (c x : UInt8) (t : List UInt8) (h : Lib.trimLeftB l c = x :: t) : x ≠ c := by
 unfold Lib.trimLeftB at h; have h2 := List.head?_dropWhile_not (· == c) l; rw [h] at h2; simpa using h2
theorem Lc (l : List UInt8) (c : UInt8) : Lib.trimRightB l c <+: l := by
 unfold Lib.trimRightB; have := List.dropWhile_suffix (l := l.reverse) (· == c); have h2 := List.reverse_prefix.2 this; rwa [List.reverse_reverse] at h2
theorem MK (l : List UInt8) (c : UInt8) (t : List UInt8) (x : UInt8) (h : Lib.trimRightB l c = t ++ [x]) : x ≠ c := by
 unfold Lib.trimRightB at h; have h1 := congrArg List.reverse h; rw [List.reverse_reverse, List.reverse_append] at h1; exact I6 l.reverse c x t.reverse h1
theorem Pk (l : List UInt8) (hl : BP l) (L T : List UInt8) (hL : Lib.trimLeftB l 48 = L) (hT : Lib.trimRightB L 48 = T) :
  L.length ≤ l.length ∧ T.length ≤ L.length ∧ BP T ∧ val (dgs l) = val (dgs T) * 10 ^ (L.length - T.length) ∧ (T = [] → val (dgs l) = 0) ∧
  (T ≠ [] → val (dgs T) % 10 ≠ 0 ∧ 10 ^ (T.length - 1) ≤ val (dgs T)) := by
 have hTd : BP T := fun c hc => hl c (by subst hL hT; exact PP (N3 hc))
 have h1 := ON l; have h2 := N1 L; rw [hL] at h1; rw [hT] at h2; have he : val (dgs l) = val (dgs T) * 10 ^ (L.length - T.length) := by rw [← h1]; exact h2.2
 refine ⟨by rw [← hL]; exact Mh _ _, h2.1, hTd, he, ?_, ?_⟩
 ·intro h0; rw [he, h0]; simp [dgs, val]
 intro h0; constructor
 ·have hs : T = T.dropLast ++ [T.getLast h0] := (List.dropLast_concat_getLast h0).symm
  have hx := MK L 48 _ _ (hT.trans hs); have hd := hTd (T.getLast h0) (List.getLast_mem h0); rw [hs, Fi, show dgs [T.getLast h0] = [dg (T.getLast h0)] from rfl, I0]; have : (T.getLast h0).toNat ≠ 48 := fun h => hx (UInt8.toNat.inj h)
  unfold dg; omega
 cases hTT : T with
 | nil => exact absurd hTT h0
 | cons x t =>
  have hp := Lc L 48; rw [hT, hTT] at hp; obtain ⟨r, hr⟩ := hp; have hx := I6 l 48 x (t ++ r) (by rw [hL, ← hr]; rfl); have hd := hTd x (by rw [hTT]; simp); have : x.toNat ≠ 48 := fun h => hx (UInt8.toNat.inj h)
  have := Zx (dg x) (dgs t) (by unfold dg; omega); rw [Gl] at this; exact this
def DP (r : List UInt8) : Option (List UInt8 × List UInt8) :=
 if r.head? = some 46 then (if AK (r.drop 1) = 0 then none else some ((r.drop 1).take (AK (r.drop 1)), (r.drop 1).drop (AK (r.drop 1)))) else some ([], r)
def L8 (u : List UInt8) : Option (List UInt8 × Int) :=
 if AK u = 0 ∨ (1 < AK u ∧ u.head? = some 48) then none else
 match DP (u.drop (AK u)) with
 | none => none
 | some (f, r) => match DH r with
  | none => none
  | some (en, x) => some (u.take (AK u) ++ f, sg en (BD x) - f.length)
def Dh (neg : Bool) (u : List UInt8) : (Int × Int) × Int := match L8 u with
 | none => ((0, 0), 10)
 | some (ds, e) => Ct neg (val (dgs ds)) e
def BT (l : List UInt8) : (Int × Int) × Int := if l.head? = some 45 then Dh true (l.drop 1) else Dh false l
theorem O7 (neg : Bool) (u : List UInt8) (h : AK u = 0 ∨ (1 < AK u ∧ u.head? = some 48)) : Dh neg u = ((0, 0), 10) := by
 unfold Dh L8; rw [if_pos h]
theorem TA (neg : Bool) (u : List UInt8) (h : DP (u.drop (AK u)) = none) : Dh neg u = ((0, 0), 10) := by
 unfold Dh L8; split <;> rename_i h2
 ·rfl
 split at h2
 ·cases h2
 rw [h] at h2; cases h2
theorem NI (neg : Bool) (u f r : List UInt8) (h : DP (u.drop (AK u)) = some (f, r)) (he : DH r = none) : Dh neg u = ((0, 0), 10) := by
 unfold Dh L8; split <;> rename_i h2
 ·rfl
 split at h2
 ·cases h2
 rw [h] at h2; simp only [he] at h2; cases h2
theorem FX (neg : Bool) (u f r x : List UInt8) (en : Bool) (h : ¬ (AK u = 0 ∨ (1 < AK u ∧ u.head? = some 48))) (hf : DP (u.drop (AK u)) = some (f, r)) (he : DH r = some (en, x)) :
  Dh neg u = Ct neg (val (dgs (u.take (AK u) ++ f))) (sg en (BD x) - f.length) := by
 unfold Dh L8; rw [if_neg h, hf]; simp only [he]
end Th
namespace Th
end Th
namespace Th
open Go Go.RowKit
structure Keep (p : Prop) : Prop where
 out : p
def Above (W : World) : Type := { w' : World // Below W.heap.size W w' }
theorem BX {W : World} {a : Addr} {v : Value} (h : W.cell? a = some v) : a.block < W.heap.size := World.block_lt_of_cell? W a h
theorem Above.cell {W : World} (x : Above W) {a : Addr} (h : a.block < W.heap.size) : x.val.cell? a = W.cell? a := x.property.cell h
instance (W : World) : Nonempty (Above W) := ⟨⟨W, Below.refl _ _⟩⟩
theorem Ed (W : World) : Below W.heap.size W { W with drawn := W.drawn + 1 } := ⟨rfl, rfl, rfl, Nat.le_refl _, fun _ _ => rfl⟩
theorem A9 {P : Program} {id : Nat} {Q : Exit → Act → World → Prop} {a : Act} {w : World} {l : List Oper} (hm : P.follows .mixedOrders = true) (hB : Region.lexB .any l.toArray = true)
  (h : wpQuiet P l.toArray (fun w' => ∃ x : Above w, w' = x.val) (fun a' => ∀ w', (∃ x : Above w, w' = x.val) → Q .normal a' w') l a) : (Code.region id l.toArray true).wp P Q a w :=
 wp_region_quiet (C := fun w' => ∃ x : Above w, w' = x.val) hm hB ⟨⟨_, Ed w⟩, rfl⟩ (by simpa using h)
theorem FM {P : Program} {f : FuncId} {args : Array Value} {W : World} {x : Above W} {v : Value} (h : Calls P f args x.val fun e w' => e = .returned v ∧ Below x.val.heap.size x.val w') :
  Calls P f args x.val fun e w'' => e = .returned v ∧ ∃ y : Above W, w'' = y.val :=
 h.mono fun _ w' ⟨he, hb⟩ => ⟨he, ⟨w', x.property.trans (hb.mono x.property.size)⟩, rfl⟩
theorem Am {W w1 : World} (hb : Below W.heap.size W w1) : (∀ b o, b < W.heap.size → w1.cell? ⟨b, o, none⟩ = W.cell? ⟨b, o, none⟩) ∧ (∀ b o, b < W.heap.size → w1.frozen? ⟨b, o, none⟩ = W.frozen? ⟨b, o, none⟩) :=
 ⟨fun b o h => hb.cell (p := ⟨b, o, none⟩) h, fun b o h => hb.frozen (p := ⟨b, o, none⟩) h⟩
theorem Bh {P : Program} {W0 : World} {id : Nat} {Q : Exit → Act → World → Prop} {a : Act} {w : World} {l : List Oper} (hb : Below W0.heap.size W0 w) (hm : P.follows .mixedOrders = true) (hB : Region.lexB .any l.toArray = true)
  (h : wpQuiet P l.toArray (fun w' => ∃ x : Above W0, w' = x.val) (fun a' => ∀ w', (∃ x : Above W0, w' = x.val) → Q .normal a' w') l a) : (Code.region id l.toArray true).wp P Q a w :=
 wp_region_quiet (C := fun w' => ∃ x : Above W0, w' = x.val) hm hB ⟨⟨_, hb.trans ((Ed w).mono hb.size)⟩, rfl⟩ (by simpa using h)
theorem Fk {P : Program} {f : FuncId} {args : Array Value} {w : World} {v : Value} (h : Calls P f args w fun e w' => e = .returned v ∧ w' = w) : Calls P f args w fun e w' => e = .returned v ∧ Below w.heap.size w w' :=
 h.mono fun _ _ ⟨he, hw⟩ => ⟨he, by rw [hw]; exact Below.refl _ _⟩
theorem GV {P : Program} {c : Code} {Q : Exit → Act → World → Prop} {a : Act} {w : World} (F : World → Prop) (h : F w) (k : ∀ W, F W → c.wp P Q a W) : c.wp P Q a w := k w h
theorem up {w W0 w1 : World} (h : Below w.heap.size w W0) (hb : Below W0.heap.size W0 w1) : Below w.heap.size w w1 := h.trans (hb.mono h.size)
theorem al1 (w : World) (o : Obj) : Below w.heap.size w (w.alloc o) := (Below.refl _ _).alloc (Nat.le_refl _) _
theorem st1 {w W : World} (h : Below w.heap.size w W) (b o : Nat) (v : Value) (hb : w.heap.size ≤ b) : Below w.heap.size w (W.setCell ⟨b, o, none⟩ v) := h.setCell hb v
end Th
/-
 DERIVED: THE SHELF's CONTRACTS AT THIS DUMP, IN PLAIN WORDS (tools/lay-plain.mjs out of 'TryzShelf.lean', which tools/lay-shelf.mjs wrote): THE SAME DECLARATIONS UNDER THE SAME NAMES: 'import', 'namespace', 'open', 'def', 'theorem' AND NOTHING ELSE: no command of the shelf's: FOR A HAND-IN. Each laying: the table of numbers ('.._ren') and one theorem, a field a fact of the dump's own or the kernel's comparison; each contract: ONE APPLICATION.
-/
namespace Go.Proofs
open Go.Shelf
def G4 : Go.Shelf.Ren := ⟨fun | 156 => 56 | 165 => 85 | 166 => 86 | 169 => 88 | 240 => 120 | 241 => 121 | 276 => 136 | 277 => 137 | n => n, fun | 31 => 25 | 9 => 9 | 3 => 3 | 4 => 4 | 0 => 0 | 20 => 20 | 72 => 103 | 76 => 107 | 70 => 100 | 37 => 101 | 75 => 106 | 127 => 133 | 164 => 149 | 5 => 5 | 80 => 110 | n => n, fun | n => n⟩
theorem Jh : Go.Proofs.Lays.n156 Tryz.prog G4 := {
 mixed := by kernel_rfl
 f156 := Tryz.func56.trans (congrArg some (by kernel_rfl))
 f165 := Tryz.func85.trans (congrArg some (by kernel_rfl))
 f166 := Tryz.func86.trans (congrArg some (by kernel_rfl))
 f169 := Tryz.func88.trans (congrArg some (by kernel_rfl))
 f240 := Tryz.func120.trans (congrArg some (by kernel_rfl))
 f241 := Tryz.func121.trans (congrArg some (by kernel_rfl))
 f276 := Tryz.func136.trans (congrArg some (by kernel_rfl))
 f277 := Tryz.func137.trans (congrArg some (by kernel_rfl))
 t0 := Tryz.underlying0
 a0 := Tryz.isAgg0
 z0 := Tryz.sizeOf0
 v0 := Tryz.zeroValue0
 t3 := Tryz.underlying3
 a3 := Tryz.isAgg3
 z3 := Tryz.sizeOf3
 v3 := Tryz.zeroValue3
 t4 := Tryz.underlying4
 a4 := Tryz.isAgg4
 z4 := Tryz.sizeOf4
 v4 := Tryz.zeroValue4
 t9 := Tryz.underlying9
 a9 := Tryz.isAgg9
 z9 := Tryz.sizeOf9
 v9 := Tryz.zeroValue9
 t20 := Tryz.underlying20
 a20 := Tryz.isAgg20
 z20 := Tryz.sizeOf20
 v20 := Tryz.zeroValue20
 t31 := Tryz.underlying25
 a31 := Tryz.isAgg25
 z31 := Tryz.sizeOf25
 v31 := Tryz.zeroValue25
 t37 := Tryz.underlying101
 a37 := Tryz.isAgg101
 z37 := Tryz.sizeOf101
 v37 := Tryz.zeroValue101
 t70 := Tryz.underlying100
 a70 := Tryz.isAgg100
 z70 := Tryz.sizeOf100
 v70 := Tryz.zeroValue100
 t72 := Tryz.underlying103
 a72 := Tryz.isAgg103
 z72 := Tryz.sizeOf103
 v72 := Tryz.zeroValue103
 t75 := Tryz.underlying106
 a75 := Tryz.isAgg106
 z75 := Tryz.sizeOf106
 v75 := Tryz.zeroValue106
 t76 := Tryz.underlying107
 a76 := Tryz.isAgg107
 z76 := Tryz.sizeOf107
 v76 := Tryz.zeroValue107
 t127 := Tryz.underlying133
 a127 := Tryz.isAgg133
 z127 := Tryz.sizeOf133
 v127 := Tryz.zeroValue133
 t164 := Tryz.underlying149
 a164 := Tryz.isAgg149
 z164 := Tryz.sizeOf149
 v164 := Tryz.zeroValue149 }
theorem EE : Builder.Extra Tryz.prog G4 := {
 sizeBuilder := by kernel_rfl
 liesBuilder := by kernel_rfl
 t5 := Tryz.underlying5
 a5 := Tryz.isAgg5
 z5 := Tryz.sizeOf5
 v5 := Tryz.zeroValue5
 infoByte := by kernel_rfl
 cellsByte := by kernel_rfl
 sizeByte := by kernel_rfl
 neB5 := by decide }
open Go.RowKit in
/-- No element: the empty string; the world is as it was. (Whatever the slice's address and capacity: a nil slice too.) (LAID: no walk: one application.) -/
theorem Tryz.strings_Join_none (a : Option Addr) (c : Nat) (sep : ByteArray) (w : World) :
  Calls Tryz.prog 56 #[.slice a 0 c, .string sep] w fun e w' => e = .returned (.string ⟨#[]⟩) ∧ w' = w := Any.strings_Join_none Jh EE a c sep w
open Go.RowKit in
/-- strings.Join: "Join concatenates the elements of its first argument to create a single string. The separator string sep is placed between elements in the resulting string.": HOWEVER MANY ELEMENTS. Below the heap's end the world is as it was. (LAID: no walk: one application.) -/
theorem Tryz.strings_Join (bk o c : Nat) (xs : List ByteArray) (sep : ByteArray) (w : World) (hcells : ∀ (j : Nat) x, xs[j]? = some x → w.cell? ⟨bk, o + j, none⟩ = some (.string x)) (hbk : bk < w.heap.size) (hN : xs.length ≤ 140737488355328) (hcap : xs.length ≤ c) (hlen : (Lib.join (xs.map (·.data.toList)) sep.data.toList).length ≤ 140737488355328) :
  Calls Tryz.prog 56 #[.slice (some ⟨bk, o, none⟩) xs.length c, .string sep] w fun e w' => e = .returned (.string ⟨(Lib.join (xs.map (·.data.toList)) sep.data.toList).toArray⟩) ∧ Below w.heap.size w w' := Any.strings_Join Jh EE bk o c xs sep w hcells hbk hN hcap hlen
def K6 : Go.Shelf.Ren := ⟨fun | 161 => 159 | 231 => 167 | 227 => 168 | 233 => 169 | 235 => 170 | 228 => 178 | 197 => 166 | 151 => 179 | 260 => 177 | 152 => 183 | 137 => 102 | 119 => 185 | 224 => 148 | 225 => 147 | 217 => 127 | 266 => 138 | n => n, fun | 9 => 9 | 4 => 4 | 3 => 3 | 5 => 5 | 117 => 177 | 116 => 176 | 0 => 0 | 124 => 180 | 105 => 172 | 21 => 21 | 119 => 137 | 46 => 97 | 139 => 140 | 138 => 139 | n => n, fun | 3 => 1 | 4 => 2 | n => n⟩
theorem Pr : Go.Proofs.Lays.n161 Tryz.prog K6 := {
 mixed := by kernel_rfl
 f119 := Tryz.func185.trans (congrArg some (by kernel_rfl))
 f137 := Tryz.func102.trans (congrArg some (by kernel_rfl))
 f151 := Tryz.func179.trans (congrArg some (by kernel_rfl))
 f152 := Tryz.func183.trans (congrArg some (by kernel_rfl))
 f161 := Tryz.func159.trans (congrArg some (by kernel_rfl))
 f197 := Tryz.func166.trans (congrArg some (by kernel_rfl))
 f217 := Tryz.func127.trans (congrArg some (by kernel_rfl))
 f224 := Tryz.func148.trans (congrArg some (by kernel_rfl))
 f225 := Tryz.func147.trans (congrArg some (by kernel_rfl))
 f227 := Tryz.func168.trans (congrArg some (by kernel_rfl))
 f228 := Tryz.func178.trans (congrArg some (by kernel_rfl))
 f231 := Tryz.func167.trans (congrArg some (by kernel_rfl))
 f233 := Tryz.func169.trans (congrArg some (by kernel_rfl))
 f235 := Tryz.func170.trans (congrArg some (by kernel_rfl))
 f260 := Tryz.func177.trans (congrArg some (by kernel_rfl))
 f266 := Tryz.func138.trans (congrArg some (by kernel_rfl))
 t0 := Tryz.underlying0
 a0 := Tryz.isAgg0
 z0 := Tryz.sizeOf0
 v0 := Tryz.zeroValue0
 t3 := Tryz.underlying3
 a3 := Tryz.isAgg3
 z3 := Tryz.sizeOf3
 v3 := Tryz.zeroValue3
 t4 := Tryz.underlying4
 a4 := Tryz.isAgg4
 z4 := Tryz.sizeOf4
 v4 := Tryz.zeroValue4
 t5 := Tryz.underlying5
 a5 := Tryz.isAgg5
 z5 := Tryz.sizeOf5
 v5 := Tryz.zeroValue5
 t9 := Tryz.underlying9
 a9 := Tryz.isAgg9
 z9 := Tryz.sizeOf9
 v9 := Tryz.zeroValue9
 t21 := Tryz.underlying21
 a21 := Tryz.isAgg21
 z21 := Tryz.sizeOf21
 v21 := Tryz.zeroValue21
 t46 := Tryz.underlying97
 a46 := Tryz.isAgg97
 z46 := Tryz.sizeOf97
 v46 := Tryz.zeroValue97
 t105 := Tryz.underlying172
 a105 := Tryz.isAgg172
 z105 := Tryz.sizeOf172
 v105 := Tryz.zeroValue172
 t116 := Tryz.underlying176
 a116 := Tryz.isAgg176
 z116 := Tryz.sizeOf176
 t117 := Tryz.underlying177
 a117 := Tryz.isAgg177
 z117 := Tryz.sizeOf177
 v117 := Tryz.zeroValue177
 t119 := Tryz.underlying137
 a119 := Tryz.isAgg137
 z119 := Tryz.sizeOf137
 t124 := Tryz.underlying180
 a124 := Tryz.isAgg180
 z124 := Tryz.sizeOf180
 v124 := Tryz.zeroValue180
 t138 := Tryz.underlying139
 a138 := Tryz.isAgg139
 z138 := Tryz.sizeOf139
 v138 := Tryz.zeroValue139
 t139 := Tryz.underlying140
 a139 := Tryz.isAgg140
 z139 := Tryz.sizeOf140
 v139 := Tryz.zeroValue140
 g3 := by kernel_rfl
 g4 := by kernel_rfl }
open Go.RowKit in
/-- strings.TrimLeft: "TrimLeft returns a slice of the string s with all leading Unicode code points contained in cutset removed.": AT A cutset OF ONE ASCII BYTE. The world is as it was. (LAID: no walk: one application.) -/
theorem Tryz.strings_TrimLeft_one (s : ByteArray) (c : UInt8) (hc : c.toNat < 128) (w : World) :
  Calls Tryz.prog 159 #[.string s, .string ⟨#[c]⟩] w fun e w' => e = .returned (.string ⟨(Lib.trimLeftB s.data.toList c).toArray⟩) ∧ w' = w := Any.strings_TrimLeft_one Pr s c hc w
def Lq : Go.Shelf.Ren := ⟨fun | 162 => 160 | 232 => 171 | 227 => 168 | 234 => 172 | 236 => 173 | 228 => 178 | 271 => 180 | 151 => 179 | 120 => 184 | 197 => 166 | 152 => 183 | 260 => 177 | 137 => 102 | 119 => 185 | 224 => 148 | 225 => 147 | 217 => 127 | 266 => 138 | n => n, fun | 9 => 9 | 4 => 4 | 3 => 3 | 5 => 5 | 117 => 177 | 116 => 176 | 0 => 0 | 124 => 180 | 21 => 21 | 105 => 172 | 46 => 97 | 119 => 137 | 139 => 140 | 138 => 139 | n => n, fun | 3 => 1 | 4 => 2 | n => n⟩
theorem PJ : Go.Proofs.Lays.n162 Tryz.prog Lq := {
 mixed := by kernel_rfl
 f119 := Tryz.func185.trans (congrArg some (by kernel_rfl))
 f120 := Tryz.func184.trans (congrArg some (by kernel_rfl))
 f137 := Tryz.func102.trans (congrArg some (by kernel_rfl))
 f151 := Tryz.func179.trans (congrArg some (by kernel_rfl))
 f152 := Tryz.func183.trans (congrArg some (by kernel_rfl))
 f162 := Tryz.func160.trans (congrArg some (by kernel_rfl))
 f197 := Tryz.func166.trans (congrArg some (by kernel_rfl))
 f217 := Tryz.func127.trans (congrArg some (by kernel_rfl))
 f224 := Tryz.func148.trans (congrArg some (by kernel_rfl))
 f225 := Tryz.func147.trans (congrArg some (by kernel_rfl))
 f227 := Tryz.func168.trans (congrArg some (by kernel_rfl))
 f228 := Tryz.func178.trans (congrArg some (by kernel_rfl))
 f232 := Tryz.func171.trans (congrArg some (by kernel_rfl))
 f234 := Tryz.func172.trans (congrArg some (by kernel_rfl))
 f236 := Tryz.func173.trans (congrArg some (by kernel_rfl))
 f260 := Tryz.func177.trans (congrArg some (by kernel_rfl))
 f266 := Tryz.func138.trans (congrArg some (by kernel_rfl))
 f271 := Tryz.func180.trans (congrArg some (by kernel_rfl))
 t0 := Tryz.underlying0
 a0 := Tryz.isAgg0
 z0 := Tryz.sizeOf0
 v0 := Tryz.zeroValue0
 t3 := Tryz.underlying3
 a3 := Tryz.isAgg3
 z3 := Tryz.sizeOf3
 v3 := Tryz.zeroValue3
 t4 := Tryz.underlying4
 a4 := Tryz.isAgg4
 z4 := Tryz.sizeOf4
 v4 := Tryz.zeroValue4
 t5 := Tryz.underlying5
 a5 := Tryz.isAgg5
 z5 := Tryz.sizeOf5
 v5 := Tryz.zeroValue5
 t9 := Tryz.underlying9
 a9 := Tryz.isAgg9
 z9 := Tryz.sizeOf9
 v9 := Tryz.zeroValue9
 t21 := Tryz.underlying21
 a21 := Tryz.isAgg21
 z21 := Tryz.sizeOf21
 v21 := Tryz.zeroValue21
 t46 := Tryz.underlying97
 a46 := Tryz.isAgg97
 z46 := Tryz.sizeOf97
 v46 := Tryz.zeroValue97
 t105 := Tryz.underlying172
 a105 := Tryz.isAgg172
 z105 := Tryz.sizeOf172
 v105 := Tryz.zeroValue172
 t116 := Tryz.underlying176
 a116 := Tryz.isAgg176
 z116 := Tryz.sizeOf176
 t117 := Tryz.underlying177
 a117 := Tryz.isAgg177
 z117 := Tryz.sizeOf177
 v117 := Tryz.zeroValue177
 t119 := Tryz.underlying137
 a119 := Tryz.isAgg137
 z119 := Tryz.sizeOf137
 t124 := Tryz.underlying180
 a124 := Tryz.isAgg180
 z124 := Tryz.sizeOf180
 v124 := Tryz.zeroValue180
 t138 := Tryz.underlying139
 a138 := Tryz.isAgg139
 z138 := Tryz.sizeOf139
 v138 := Tryz.zeroValue139
 t139 := Tryz.underlying140
 a139 := Tryz.isAgg140
 z139 := Tryz.sizeOf140
 v139 := Tryz.zeroValue140
 g3 := by kernel_rfl
 g4 := by kernel_rfl }
open Go.RowKit in
/-- strings.TrimRight: "TrimRight returns a slice of the string s, with all trailing Unicode code points contained in cutset removed.": AT A cutset OF ONE ASCII BYTE. The world is as it was. (LAID: no walk: one application.) -/
theorem Tryz.strings_TrimRight_one (s : ByteArray) (c : UInt8) (hc : c.toNat < 128) (w : World) (hs : s.size ≤ 9223372036854775807) :
  Calls Tryz.prog 160 #[.string s, .string ⟨#[c]⟩] w fun e w' => e = .returned (.string ⟨(Lib.trimRightB s.data.toList c).toArray⟩) ∧ w' = w := Any.strings_TrimRight_one PJ s c hc w hs
def KL : Go.Shelf.Ren := ⟨fun | 134 => 181 | 129 => 132 | n => n, fun | 53 => 72 | 3 => 3 | 4 => 4 | 46 => 97 | 5 => 5 | 9 => 9 | n => n, fun | n => n⟩
theorem Pj : Go.Proofs.Lays.n134 Tryz.prog KL := {
 mixed := by kernel_rfl
 f129 := Tryz.func132.trans (congrArg some (by kernel_rfl))
 f134 := Tryz.func181.trans (congrArg some (by kernel_rfl))
 t3 := Tryz.underlying3
 a3 := Tryz.isAgg3
 z3 := Tryz.sizeOf3
 v3 := Tryz.zeroValue3
 t4 := Tryz.underlying4
 a4 := Tryz.isAgg4
 z4 := Tryz.sizeOf4
 v4 := Tryz.zeroValue4
 t5 := Tryz.underlying5
 a5 := Tryz.isAgg5
 z5 := Tryz.sizeOf5
 v5 := Tryz.zeroValue5
 t9 := Tryz.underlying9
 a9 := Tryz.isAgg9
 z9 := Tryz.sizeOf9
 v9 := Tryz.zeroValue9
 t46 := Tryz.underlying97
 a46 := Tryz.isAgg97
 z46 := Tryz.sizeOf97
 v46 := Tryz.zeroValue97
 t53 := Tryz.underlying72
 a53 := Tryz.isAgg72
 z53 := Tryz.sizeOf72
 v53 := Tryz.zeroValue72 }
theorem Tryz.bits_LeadingZeros64 (x : Int) (w : World) (h0 : 0 ≤ x) (h1 : x ≤ 18446744073709551615) :
  Calls Tryz.prog 181 #[.int .u64 x] w fun e w' => e = .returned (.int .i64 (64 - (Lib.bitLen x.toNat : Int))) ∧ w' = w := Any.bits_LeadingZeros64 Pj x w h0 h1
def Le : Go.Shelf.Ren := ⟨fun | 137 => 102 | 217 => 127 | 266 => 138 | n => n, fun | 9 => 9 | 5 => 5 | 3 => 3 | n => n, fun | n => n⟩
theorem OU : Go.Proofs.Lays.n137 Tryz.prog Le := {
 mixed := by kernel_rfl
 f137 := Tryz.func102.trans (congrArg some (by kernel_rfl))
 f217 := Tryz.func127.trans (congrArg some (by kernel_rfl))
 f266 := Tryz.func138.trans (congrArg some (by kernel_rfl))
 t3 := Tryz.underlying3
 a3 := Tryz.isAgg3
 z3 := Tryz.sizeOf3
 v3 := Tryz.zeroValue3
 t5 := Tryz.underlying5
 a5 := Tryz.isAgg5
 z5 := Tryz.sizeOf5
 v5 := Tryz.zeroValue5
 t9 := Tryz.underlying9
 a9 := Tryz.isAgg9
 z9 := Tryz.sizeOf9
 v9 := Tryz.zeroValue9 }
open Go.RowKit in
/-- strings.IndexByte: "IndexByte returns the index of the first instance of c in s, or -1 if c is not present in s.": IT RETURNS 'Lib.indexByte s c'; the world is as it was. (LAID: no walk: one application.) -/
theorem Tryz.strings_IndexByte (s : ByteArray) (c : Int) (w : World) :
  Calls Tryz.prog 102 #[.string s, .int .u8 c] w fun e w' => e = .returned (.int .i64 (Lib.indexByte s.data.toList c.toNat.toUInt8)) ∧ w' = w := Any.strings_IndexByte OU s c w
def Lk : Go.Shelf.Ren := ⟨fun | 242 => 90 | 278 => 123 | n => n, fun | 37 => 101 | 21 => 21 | 51 => 128 | 4 => 4 | 5 => 5 | 46 => 97 | n => n, fun | n => n⟩
theorem PD : Go.Proofs.Lays.n242 Tryz.prog Lk := {
 mixed := by kernel_rfl
 f242 := Tryz.func90.trans (congrArg some (by kernel_rfl))
 f278 := Tryz.func123.trans (congrArg some (by kernel_rfl))
 t4 := Tryz.underlying4
 a4 := Tryz.isAgg4
 z4 := Tryz.sizeOf4
 v4 := Tryz.zeroValue4
 t5 := Tryz.underlying5
 a5 := Tryz.isAgg5
 z5 := Tryz.sizeOf5
 v5 := Tryz.zeroValue5
 t21 := Tryz.underlying21
 a21 := Tryz.isAgg21
 z21 := Tryz.sizeOf21
 v21 := Tryz.zeroValue21
 t37 := Tryz.underlying101
 a37 := Tryz.isAgg101
 z37 := Tryz.sizeOf101
 v37 := Tryz.zeroValue101
 t46 := Tryz.underlying97
 a46 := Tryz.isAgg97
 z46 := Tryz.sizeOf97
 v46 := Tryz.zeroValue97
 t51 := Tryz.underlying128
 a51 := Tryz.isAgg128
 z51 := Tryz.sizeOf128
 v51 := Tryz.zeroValue128 }
open Go.RowKit in
/-- unicode/utf8.AppendRune: "AppendRune appends the UTF-8 encoding of r to the end of p and returns the extended buffer. If the rune is out of range, it appends the encoding of RuneError.": ONTO A ROW OF BYTES THAT THE CALL OWNS (its head frozen or not): EVERY int32: 'Lib.runeCells r' goes in behind what the row holds; the world: one new block (the bytes as the call's variadic argument), then what 'append' does to the row. (LAID: no walk: one application.) -/
theorem Tryz.utf8_AppendRune_plain (B : Nat) (v : Value) (n : Nat) (xs : List Value) (r : Int) (hr0 : -2147483648 ≤ r) (hr1 : r ≤ 2147483647) (w : World) (hown : w.ownsRow B 5 1 v n xs) (hlen : n + 4 ≤ 140737488355328) (hBw : B ≤ w.heap.size) :
  Calls Tryz.prog 90 #[v, .int .i32 r] w fun e w' => ∃ v', e = .returned v' ∧ w'.ownsRow B 5 1 v' (n + (Lib.runeCells r).length) (xs ++ Lib.runeCells r) ∧ ∃ o, (w.alloc o).grownBy w' v.ownBlock := Any.utf8_AppendRune_plain PD (by kernel_rfl) B v n xs r hr0 hr1 w hown hlen hBw
def KZ : Go.Shelf.Ren := ⟨fun | 283 => 113 | n => n, fun | 3 => 3 | 9 => 9 | 4 => 4 | n => n, fun | n => n⟩
theorem Px : Go.Proofs.Lays.n283 Tryz.prog KZ := {
 mixed := by kernel_rfl
 f283 := Tryz.func113.trans (congrArg some (by kernel_rfl))
 t3 := Tryz.underlying3
 a3 := Tryz.isAgg3
 z3 := Tryz.sizeOf3
 v3 := Tryz.zeroValue3
 t4 := Tryz.underlying4
 a4 := Tryz.isAgg4
 z4 := Tryz.sizeOf4
 v4 := Tryz.zeroValue4
 t9 := Tryz.underlying9
 a9 := Tryz.isAgg9
 z9 := Tryz.sizeOf9
 v9 := Tryz.zeroValue9 }
open Go.Lib in
/-- internal/strconv.small: "small returns the string for an i with 0 <= i < nSmalls.": i's decimal numeral. The world is as it was. (LAID: no walk: one application.) -/
theorem Tryz.internal_strconv_small (i : Nat) (h : i < 100) (w : World) :
  Calls Tryz.prog 113 #[.int .i64 i] w fun e w' => e = .returned (.string ⟨(Lib.decDigits i).toArray⟩) ∧ w' = w := Any.internal_strconv_small Px i h w
def Kp : Go.Shelf.Ren := ⟨fun | 284 => 114 | 129 => 132 | 317 => 131 | 318 => 133 | n => n, fun | 53 => 72 | 3 => 3 | 212 => 96 | 0 => 0 | 4 => 4 | 46 => 97 | 5 => 5 | 9 => 9 | n => n, fun | 17 => 3 | n => n⟩
theorem N6 : Go.Proofs.LaysM.n284 Tryz.prog Kp := {
 mixed := by kernel_rfl
 f129 := Tryz.func132.trans (congrArg some (by kernel_rfl))
 f284 := Tryz.func114.trans (congrArg some (by kernel_rfl))
 f317 := Tryz.func131.trans (congrArg some (by kernel_rfl))
 f318 := Tryz.func133.trans (congrArg some (by kernel_rfl))
 t0 := Tryz.underlying0
 a0 := Tryz.isAgg0
 z0 := Tryz.sizeOf0
 v0 := Tryz.zeroValue0
 t3 := Tryz.underlying3
 a3 := Tryz.isAgg3
 z3 := Tryz.sizeOf3
 v3 := Tryz.zeroValue3
 t4 := Tryz.underlying4
 a4 := Tryz.isAgg4
 z4 := Tryz.sizeOf4
 v4 := Tryz.zeroValue4
 t5 := Tryz.underlying5
 a5 := Tryz.isAgg5
 z5 := Tryz.sizeOf5
 v5 := Tryz.zeroValue5
 t9 := Tryz.underlying9
 a9 := Tryz.isAgg9
 z9 := Tryz.sizeOf9
 v9 := Tryz.zeroValue9
 t46 := Tryz.underlying97
 a46 := Tryz.isAgg97
 z46 := Tryz.sizeOf97
 v46 := Tryz.zeroValue97
 t53 := Tryz.underlying72
 a53 := Tryz.isAgg72
 z53 := Tryz.sizeOf72
 v53 := Tryz.zeroValue72
 t212 := Tryz.underlying96
 a212 := Tryz.isAgg96
 z212 := Tryz.sizeOf96
 v212 := Tryz.zeroValue96
 g17 := by kernel_rfl
 i0 := by kernel_rfl
 i3 := by kernel_rfl
 i4 := by kernel_rfl
 i5 := by kernel_rfl
 i9 := by kernel_rfl
 i46 := by kernel_rfl
 i53 := by kernel_rfl
 i212 := by kernel_rfl
 m17 := by kernel_rfl }
open Go.Lib in
/-- internal/strconv.numDigits, at a d that is not 0: THE NUMBER OF d's DECIMAL DIGITS. The world is as it was. (LAID: no walk: one application.) -/
theorem Tryz.internal_strconv_numDigits (u : Nat) (h1 : 1 ≤ u) (h2 : u < 18446744073709551616) (w : World) (htab : Lib.TabIs Tryz.prog w "internal/strconv.uint64pow10" .u64 Lib.pow10Tab) :
  Calls Tryz.prog 114 #[.int .u64 u] w fun e w' => e = .returned (.int .i64 (Lib.nDigits u)) ∧ w' = w := Any.internal_strconv_numDigits N6 u h1 h2 w htab
def Lf : Go.Shelf.Ren := ⟨fun | 285 => 115 | n => n, fun | 37 => 101 | 53 => 72 | 3 => 3 | 4 => 4 | 51 => 128 | 9 => 9 | 5 => 5 | 0 => 0 | n => n, fun | n => n⟩
theorem O9 : Go.Proofs.Lays.n285 Tryz.prog Lf := {
 mixed := by kernel_rfl
 f285 := Tryz.func115.trans (congrArg some (by kernel_rfl))
 t0 := Tryz.underlying0
 a0 := Tryz.isAgg0
 z0 := Tryz.sizeOf0
 v0 := Tryz.zeroValue0
 t3 := Tryz.underlying3
 a3 := Tryz.isAgg3
 z3 := Tryz.sizeOf3
 v3 := Tryz.zeroValue3
 t4 := Tryz.underlying4
 a4 := Tryz.isAgg4
 z4 := Tryz.sizeOf4
 v4 := Tryz.zeroValue4
 t5 := Tryz.underlying5
 a5 := Tryz.isAgg5
 z5 := Tryz.sizeOf5
 v5 := Tryz.zeroValue5
 t9 := Tryz.underlying9
 a9 := Tryz.isAgg9
 z9 := Tryz.sizeOf9
 v9 := Tryz.zeroValue9
 t37 := Tryz.underlying101
 a37 := Tryz.isAgg101
 z37 := Tryz.sizeOf101
 v37 := Tryz.zeroValue101
 t51 := Tryz.underlying128
 a51 := Tryz.isAgg128
 z51 := Tryz.sizeOf128
 v51 := Tryz.zeroValue128
 t53 := Tryz.underlying72
 a53 := Tryz.isAgg72
 z53 := Tryz.sizeOf72
 v53 := Tryz.zeroValue72 }
open Go.RowKit Go.Sort Go.Lib in
/-- internal/strconv.formatBase10: "formatBase10 formats the decimal representation of u into a. The caller is responsible for ensuring that a is big enough to hold u. If a is too big, leading Gg will be filled in as needed.": THE ROW HOLDS u's DIGITS ('FmtInv .. 0 ..': every place t holds 'dg u (len - 1 - t)'); all else is as it was but for the count of draws. (LAID: no walk: one application.) -/
theorem Tryz.internal_strconv_formatBase10 (blk off cap : Nat) (u : Nat) (d : Array UInt8) (w : World) (hH : Holds (fun (b : UInt8) => Value.int .u8 (b.toNat : Int)) w blk off d) (hu : u < 10 ^ d.size) (hu64 : u < 18446744073709551616) (hsz : d.size < 4611686018427387904) :
  Calls Tryz.prog 115 #[.slice (some ⟨blk, off, none⟩) d.size cap, .int .u64 u] w fun e w' =>
   e = .returned (.tuple #[]) ∧ ∃ (n v' : Nat) (dk : Array UInt8), w' = (putRow (fun (b : UInt8) => Value.int .u8 (b.toNat : Int)) w blk off dk).drewN n ∧ FmtInv d.size u 0 v' dk := Any.internal_strconv_formatBase10 O9 blk off cap u d w hH hu hu64 hsz
def Kn : Go.Shelf.Ren := ⟨fun | 171 => 54 | 243 => 89 | 246 => 122 | 283 => 113 | 284 => 114 | 285 => 115 | 286 => 116 | 129 => 132 | 317 => 131 | 318 => 133 | 319 => 134 | 320 => 135 | 337 => 145 | 338 => 146 | n => n, fun | 3 => 3 | 9 => 9 | 2 => 2 | 4 => 4 | 171 => 123 | 0 => 0 | 53 => 72 | 37 => 101 | 5 => 5 | 173 => 126 | 212 => 96 | 51 => 128 | 20 => 20 | 213 => 146 | 46 => 97 | 232 => 163 | 233 => 164 | n => n, fun | 17 => 3 | 18 => 5 | 19 => 6 | n => n⟩
theorem N8 : Go.Proofs.LaysM.n171 Tryz.prog Kn := {
 mixed := by kernel_rfl
 f129 := Tryz.func132.trans (congrArg some (by kernel_rfl))
 f171 := Tryz.func54.trans (congrArg some (by kernel_rfl))
 f243 := Tryz.func89.trans (congrArg some (by kernel_rfl))
 f246 := Tryz.func122.trans (congrArg some (by kernel_rfl))
 f283 := Tryz.func113.trans (congrArg some (by kernel_rfl))
 f284 := Tryz.func114.trans (congrArg some (by kernel_rfl))
 f285 := Tryz.func115.trans (congrArg some (by kernel_rfl))
 f286 := Tryz.func116.trans (congrArg some (by kernel_rfl))
 f317 := Tryz.func131.trans (congrArg some (by kernel_rfl))
 f318 := Tryz.func133.trans (congrArg some (by kernel_rfl))
 f319 := Tryz.func134.trans (congrArg some (by kernel_rfl))
 f320 := Tryz.func135.trans (congrArg some (by kernel_rfl))
 f337 := Tryz.func145.trans (congrArg some (by kernel_rfl))
 f338 := Tryz.func146.trans (congrArg some (by kernel_rfl))
 t0 := Tryz.underlying0
 a0 := Tryz.isAgg0
 z0 := Tryz.sizeOf0
 v0 := Tryz.zeroValue0
 t2 := Tryz.underlying2
 a2 := Tryz.isAgg2
 z2 := Tryz.sizeOf2
 v2 := Tryz.zeroValue2
 t3 := Tryz.underlying3
 a3 := Tryz.isAgg3
 z3 := Tryz.sizeOf3
 v3 := Tryz.zeroValue3
 t4 := Tryz.underlying4
 a4 := Tryz.isAgg4
 z4 := Tryz.sizeOf4
 v4 := Tryz.zeroValue4
 t5 := Tryz.underlying5
 a5 := Tryz.isAgg5
 z5 := Tryz.sizeOf5
 v5 := Tryz.zeroValue5
 t9 := Tryz.underlying9
 a9 := Tryz.isAgg9
 z9 := Tryz.sizeOf9
 v9 := Tryz.zeroValue9
 t20 := Tryz.underlying20
 a20 := Tryz.isAgg20
 z20 := Tryz.sizeOf20
 v20 := Tryz.zeroValue20
 t37 := Tryz.underlying101
 a37 := Tryz.isAgg101
 z37 := Tryz.sizeOf101
 v37 := Tryz.zeroValue101
 t46 := Tryz.underlying97
 a46 := Tryz.isAgg97
 z46 := Tryz.sizeOf97
 v46 := Tryz.zeroValue97
 t51 := Tryz.underlying128
 a51 := Tryz.isAgg128
 z51 := Tryz.sizeOf128
 v51 := Tryz.zeroValue128
 t53 := Tryz.underlying72
 a53 := Tryz.isAgg72
 z53 := Tryz.sizeOf72
 v53 := Tryz.zeroValue72
 t171 := Tryz.underlying123
 a171 := Tryz.isAgg123
 z171 := Tryz.sizeOf123
 v171 := Tryz.zeroValue123
 t173 := Tryz.underlying126
 a173 := Tryz.isAgg126
 z173 := Tryz.sizeOf126
 v173 := Tryz.zeroValue126
 t212 := Tryz.underlying96
 a212 := Tryz.isAgg96
 z212 := Tryz.sizeOf96
 v212 := Tryz.zeroValue96
 t213 := Tryz.underlying146
 a213 := Tryz.isAgg146
 z213 := Tryz.sizeOf146
 t232 := Tryz.underlying163
 a232 := Tryz.isAgg163
 z232 := Tryz.sizeOf163
 v232 := Tryz.zeroValue163
 t233 := Tryz.underlying164
 a233 := Tryz.isAgg164
 z233 := Tryz.sizeOf164
 v233 := Tryz.zeroValue164
 g17 := by kernel_rfl
 g18 := by kernel_rfl
 g19 := by kernel_rfl
 i0 := by kernel_rfl
 i2 := by kernel_rfl
 i3 := by kernel_rfl
 i4 := by kernel_rfl
 i5 := by kernel_rfl
 i9 := by kernel_rfl
 i20 := by kernel_rfl
 i37 := by kernel_rfl
 i46 := by kernel_rfl
 i51 := by kernel_rfl
 i53 := by kernel_rfl
 i171 := by kernel_rfl
 i173 := by kernel_rfl
 i212 := by kernel_rfl
 i232 := by kernel_rfl
 i233 := by kernel_rfl
 m17 := by kernel_rfl
 m18 := by kernel_rfl
 m19 := by kernel_rfl }
open Go.RowKit Go.Sort Go.Lib in
/-- strconv.Itoa: "Itoa is equivalent to FormatInt(int64(i), 10).": i's DECIMAL NUMERAL ('Lib.itoa': a '-' where i is negative, then the digits), FOR EVERY int. The world behind the call: the world before it, new blocks behind the heap (the library's 'var a [24]byte'), draws. (LAID: no walk: one application.) -/
theorem Tryz.strconv_Itoa (n : Int) (h0 : -9223372036854775808 ≤ n) (h1 : n ≤ 9223372036854775807) (w : World) (htab : Lib.TabIs Tryz.prog w "internal/strconv.uint64pow10" .u64 Lib.pow10Tab) :
  Calls Tryz.prog 54 #[.int .i64 n] w fun e w' => e = .returned (.string ⟨(Lib.itoa n).toArray⟩) ∧ ∃ k os, w' = grow (w.drewN k) os := Any.strconv_Itoa N8 n h0 h1 w htab
def Lh : Go.Shelf.Ren := ⟨fun | 144 => 105 | 143 => 128 | 219 => 139 | 217 => 127 | 225 => 147 | 224 => 148 | 267 => 149 | 266 => 138 | 314 => 156 | n => n, fun | 9 => 9 | 4 => 4 | 3 => 3 | 5 => 5 | 46 => 97 | 146 => 129 | 51 => 128 | n => n, fun | 1 => 4 | n => n⟩
theorem OX : Go.Proofs.Lays.n144 Tryz.prog Lh := {
 mixed := by kernel_rfl
 f143 := Tryz.func128.trans (congrArg some (by kernel_rfl))
 f144 := Tryz.func105.trans (congrArg some (by kernel_rfl))
 f217 := Tryz.func127.trans (congrArg some (by kernel_rfl))
 f219 := Tryz.func139.trans (congrArg some (by kernel_rfl))
 f224 := Tryz.func148.trans (congrArg some (by kernel_rfl))
 f225 := Tryz.func147.trans (congrArg some (by kernel_rfl))
 f266 := Tryz.func138.trans (congrArg some (by kernel_rfl))
 f267 := Tryz.func149.trans (congrArg some (by kernel_rfl))
 f314 := Tryz.func156.trans (congrArg some (by kernel_rfl))
 t3 := Tryz.underlying3
 a3 := Tryz.isAgg3
 z3 := Tryz.sizeOf3
 v3 := Tryz.zeroValue3
 t4 := Tryz.underlying4
 a4 := Tryz.isAgg4
 z4 := Tryz.sizeOf4
 v4 := Tryz.zeroValue4
 t5 := Tryz.underlying5
 a5 := Tryz.isAgg5
 z5 := Tryz.sizeOf5
 v5 := Tryz.zeroValue5
 t9 := Tryz.underlying9
 a9 := Tryz.isAgg9
 z9 := Tryz.sizeOf9
 v9 := Tryz.zeroValue9
 t46 := Tryz.underlying97
 a46 := Tryz.isAgg97
 z46 := Tryz.sizeOf97
 v46 := Tryz.zeroValue97
 t51 := Tryz.underlying128
 a51 := Tryz.isAgg128
 z51 := Tryz.sizeOf128
 v51 := Tryz.zeroValue128
 t146 := Tryz.underlying129
 a146 := Tryz.isAgg129
 z146 := Tryz.sizeOf129
 v146 := Tryz.zeroValue129
 g1 := by kernel_rfl }
open Go.RowKit Go.Lib in
/-- strings.Contains: "Contains reports whether substr is within s.": IT RETURNS 'Lib.contains s substr'; the world is as it was. (LAID: no walk: one application.) -/
theorem Tryz.strings_Contains (s sub : ByteArray) (m : Int) (w : World) (hs : s.size < 4294967281) (hm : w.cell? ⟨4, 0, none⟩ = some (.int .i64 m)) :
  Calls Tryz.prog 105 #[.string s, .string sub] w fun e w' => e = .returned (.bool (Lib.contains s.data.toList sub.data.toList)) ∧ w' = w := Any.strings_Contains OX s sub m w hs hm
def Km : Go.Shelf.Ren := ⟨fun | 143 => 128 | 219 => 139 | 217 => 127 | 225 => 147 | 224 => 148 | 267 => 149 | 266 => 138 | 314 => 156 | n => n, fun | 9 => 9 | 3 => 3 | 4 => 4 | 5 => 5 | 46 => 97 | 146 => 129 | 51 => 128 | n => n, fun | 1 => 4 | n => n⟩
theorem Tryz.laysM143 : Go.Proofs.LaysM.n143 Tryz.prog Km := {
 mixed := by kernel_rfl
 f143 := Tryz.func128.trans (congrArg some (by kernel_rfl))
 f217 := Tryz.func127.trans (congrArg some (by kernel_rfl))
 f219 := Tryz.func139.trans (congrArg some (by kernel_rfl))
 f224 := Tryz.func148.trans (congrArg some (by kernel_rfl))
 f225 := Tryz.func147.trans (congrArg some (by kernel_rfl))
 f266 := Tryz.func138.trans (congrArg some (by kernel_rfl))
 f267 := Tryz.func149.trans (congrArg some (by kernel_rfl))
 f314 := Tryz.func156.trans (congrArg some (by kernel_rfl))
 t3 := Tryz.underlying3
 a3 := Tryz.isAgg3
 z3 := Tryz.sizeOf3
 v3 := Tryz.zeroValue3
 t4 := Tryz.underlying4
 a4 := Tryz.isAgg4
 z4 := Tryz.sizeOf4
 v4 := Tryz.zeroValue4
 t5 := Tryz.underlying5
 a5 := Tryz.isAgg5
 z5 := Tryz.sizeOf5
 v5 := Tryz.zeroValue5
 t9 := Tryz.underlying9
 a9 := Tryz.isAgg9
 z9 := Tryz.sizeOf9
 v9 := Tryz.zeroValue9
 t46 := Tryz.underlying97
 a46 := Tryz.isAgg97
 z46 := Tryz.sizeOf97
 v46 := Tryz.zeroValue97
 t51 := Tryz.underlying128
 a51 := Tryz.isAgg128
 z51 := Tryz.sizeOf128
 v51 := Tryz.zeroValue128
 t146 := Tryz.underlying129
 a146 := Tryz.isAgg129
 z146 := Tryz.sizeOf129
 v146 := Tryz.zeroValue129
 g1 := by kernel_rfl
 i3 := by kernel_rfl
 i4 := by kernel_rfl
 i5 := by kernel_rfl
 i9 := by kernel_rfl
 i46 := by kernel_rfl
 i51 := by kernel_rfl
 i146 := by kernel_rfl
 m1 := by kernel_rfl
 s1_3 := fun w h => Go.Proofs.cell_of_shapedOpen_int (zero := #[.int .i64 0]) (t := 3) h (of_decide_eq_true (by kernel_rfl)) (by kernel_rfl) rfl (by kernel_rfl) (by kernel_rfl) Tryz.underlying3 }
def Lz : Go.Shelf.Ren := ⟨fun | 99 => 84 | 206 => 119 | n => n, fun | 9 => 9 | 4 => 4 | 3 => 3 | n => n, fun | n => n⟩
theorem QA : Go.Proofs.Lays.n99 Tryz.prog Lz := {
 mixed := by kernel_rfl
 f99 := Tryz.func84.trans (congrArg some (by kernel_rfl))
 f206 := Tryz.func119.trans (congrArg some (by kernel_rfl))
 t3 := Tryz.underlying3
 a3 := Tryz.isAgg3
 z3 := Tryz.sizeOf3
 v3 := Tryz.zeroValue3
 t4 := Tryz.underlying4
 a4 := Tryz.isAgg4
 z4 := Tryz.sizeOf4
 v4 := Tryz.zeroValue4
 t9 := Tryz.underlying9
 a9 := Tryz.isAgg9
 z9 := Tryz.sizeOf9
 v9 := Tryz.zeroValue9 }
open Go.RowKit Go.Lib in
/-- strings.HasPrefix: "HasPrefix reports whether the string s begins with prefix.": IT RETURNS 'Lib.hasPrefix s prefix'; the world is as it was. (LAID: no walk: one application.) -/
theorem Tryz.strings_HasPrefix (s p : ByteArray) (w : World) :
  Calls Tryz.prog 84 #[.string s, .string p] w fun e w' => e = .returned (.bool (Lib.hasPrefix s.data.toList p.data.toList)) ∧ w' = w := Any.strings_HasPrefix QA s p w
def KX : Go.Shelf.Ren := ⟨fun | 197 => 166 | 260 => 177 | n => n, fun | 9 => 9 | 21 => 21 | 3 => 3 | 4 => 4 | 5 => 5 | 105 => 172 | 119 => 137 | 0 => 0 | 46 => 97 | 139 => 140 | 138 => 139 | n => n, fun | 3 => 1 | 4 => 2 | n => n⟩
theorem Pa : Go.Proofs.Lays.n197 Tryz.prog KX := {
 mixed := by kernel_rfl
 f197 := Tryz.func166.trans (congrArg some (by kernel_rfl))
 f260 := Tryz.func177.trans (congrArg some (by kernel_rfl))
 t0 := Tryz.underlying0
 a0 := Tryz.isAgg0
 z0 := Tryz.sizeOf0
 v0 := Tryz.zeroValue0
 t3 := Tryz.underlying3
 a3 := Tryz.isAgg3
 z3 := Tryz.sizeOf3
 v3 := Tryz.zeroValue3
 t4 := Tryz.underlying4
 a4 := Tryz.isAgg4
 z4 := Tryz.sizeOf4
 v4 := Tryz.zeroValue4
 t5 := Tryz.underlying5
 a5 := Tryz.isAgg5
 z5 := Tryz.sizeOf5
 v5 := Tryz.zeroValue5
 t9 := Tryz.underlying9
 a9 := Tryz.isAgg9
 z9 := Tryz.sizeOf9
 v9 := Tryz.zeroValue9
 t21 := Tryz.underlying21
 a21 := Tryz.isAgg21
 z21 := Tryz.sizeOf21
 v21 := Tryz.zeroValue21
 t46 := Tryz.underlying97
 a46 := Tryz.isAgg97
 z46 := Tryz.sizeOf97
 v46 := Tryz.zeroValue97
 t105 := Tryz.underlying172
 a105 := Tryz.isAgg172
 z105 := Tryz.sizeOf172
 v105 := Tryz.zeroValue172
 t119 := Tryz.underlying137
 a119 := Tryz.isAgg137
 z119 := Tryz.sizeOf137
 t138 := Tryz.underlying139
 a138 := Tryz.isAgg139
 z138 := Tryz.sizeOf139
 v138 := Tryz.zeroValue139
 t139 := Tryz.underlying140
 a139 := Tryz.isAgg140
 z139 := Tryz.sizeOf140
 v139 := Tryz.zeroValue140
 g3 := by kernel_rfl
 g4 := by kernel_rfl }
def GE : Go.Shelf.Ren := ⟨fun | 105 => 53 | 212 => 83 | 99 => 84 | 165 => 85 | 166 => 86 | 170 => 87 | 169 => 88 | 263 => 117 | 264 => 118 | 206 => 119 | 240 => 120 | 241 => 121 | 276 => 136 | 277 => 137 | n => n, fun | 9 => 9 | 3 => 3 | 4 => 4 | 20 => 20 | 0 => 0 | 46 => 97 | 109 => 98 | 5 => 5 | 72 => 103 | 76 => 107 | 51 => 128 | 146 => 129 | 53 => 72 | 148 => 131 | 70 => 100 | 37 => 101 | 75 => 106 | 127 => 133 | 164 => 149 | 80 => 110 | n => n, fun | n => n⟩
theorem Qe : Go.Proofs.Lays.n105 Tryz.prog GE := {
 mixed := by kernel_rfl
 f99 := Tryz.func84.trans (congrArg some (by kernel_rfl))
 f105 := Tryz.func53.trans (congrArg some (by kernel_rfl))
 f165 := Tryz.func85.trans (congrArg some (by kernel_rfl))
 f166 := Tryz.func86.trans (congrArg some (by kernel_rfl))
 f169 := Tryz.func88.trans (congrArg some (by kernel_rfl))
 f170 := Tryz.func87.trans (congrArg some (by kernel_rfl))
 f206 := Tryz.func119.trans (congrArg some (by kernel_rfl))
 f212 := Tryz.func83.trans (congrArg some (by kernel_rfl))
 f240 := Tryz.func120.trans (congrArg some (by kernel_rfl))
 f241 := Tryz.func121.trans (congrArg some (by kernel_rfl))
 f263 := Tryz.func117.trans (congrArg some (by kernel_rfl))
 f264 := Tryz.func118.trans (congrArg some (by kernel_rfl))
 f276 := Tryz.func136.trans (congrArg some (by kernel_rfl))
 f277 := Tryz.func137.trans (congrArg some (by kernel_rfl))
 t0 := Tryz.underlying0
 a0 := Tryz.isAgg0
 z0 := Tryz.sizeOf0
 v0 := Tryz.zeroValue0
 t3 := Tryz.underlying3
 a3 := Tryz.isAgg3
 z3 := Tryz.sizeOf3
 v3 := Tryz.zeroValue3
 t4 := Tryz.underlying4
 a4 := Tryz.isAgg4
 z4 := Tryz.sizeOf4
 v4 := Tryz.zeroValue4
 t5 := Tryz.underlying5
 a5 := Tryz.isAgg5
 z5 := Tryz.sizeOf5
 v5 := Tryz.zeroValue5
 t9 := Tryz.underlying9
 a9 := Tryz.isAgg9
 z9 := Tryz.sizeOf9
 v9 := Tryz.zeroValue9
 t20 := Tryz.underlying20
 a20 := Tryz.isAgg20
 z20 := Tryz.sizeOf20
 v20 := Tryz.zeroValue20
 t37 := Tryz.underlying101
 a37 := Tryz.isAgg101
 z37 := Tryz.sizeOf101
 v37 := Tryz.zeroValue101
 t46 := Tryz.underlying97
 a46 := Tryz.isAgg97
 z46 := Tryz.sizeOf97
 v46 := Tryz.zeroValue97
 t51 := Tryz.underlying128
 a51 := Tryz.isAgg128
 z51 := Tryz.sizeOf128
 v51 := Tryz.zeroValue128
 t53 := Tryz.underlying72
 a53 := Tryz.isAgg72
 z53 := Tryz.sizeOf72
 v53 := Tryz.zeroValue72
 t70 := Tryz.underlying100
 a70 := Tryz.isAgg100
 z70 := Tryz.sizeOf100
 v70 := Tryz.zeroValue100
 t72 := Tryz.underlying103
 a72 := Tryz.isAgg103
 z72 := Tryz.sizeOf103
 v72 := Tryz.zeroValue103
 t75 := Tryz.underlying106
 a75 := Tryz.isAgg106
 z75 := Tryz.sizeOf106
 v75 := Tryz.zeroValue106
 t76 := Tryz.underlying107
 a76 := Tryz.isAgg107
 z76 := Tryz.sizeOf107
 v76 := Tryz.zeroValue107
 t109 := Tryz.underlying98
 a109 := Tryz.isAgg98
 z109 := Tryz.sizeOf98
 v109 := Tryz.zeroValue98
 t127 := Tryz.underlying133
 a127 := Tryz.isAgg133
 z127 := Tryz.sizeOf133
 v127 := Tryz.zeroValue133
 t146 := Tryz.underlying129
 a146 := Tryz.isAgg129
 z146 := Tryz.sizeOf129
 v146 := Tryz.zeroValue129
 t148 := Tryz.underlying131
 a148 := Tryz.isAgg131
 z148 := Tryz.sizeOf131
 v148 := Tryz.zeroValue131
 t164 := Tryz.underlying149
 a164 := Tryz.isAgg149
 z164 := Tryz.sizeOf149
 v164 := Tryz.zeroValue149 }
theorem Hs : Builder.Extra Tryz.prog GE := {
 sizeBuilder := by kernel_rfl
 liesBuilder := by kernel_rfl
 t5 := Tryz.underlying5
 a5 := Tryz.isAgg5
 z5 := Tryz.sizeOf5
 v5 := Tryz.zeroValue5
 infoByte := by kernel_rfl
 cellsByte := by kernel_rfl
 sizeByte := by kernel_rfl
 neB5 := by decide }
open Go.RowKit Go.Lib in
/-- **strings.Repeat: count ≥ 0, the result within one allocation: count copies of s.** (LAID: no walk: one application.) -/
theorem Tryz.strings_Repeat (s : ByteArray) (c : Nat) (w : World) (hc : c ≤ 9223372036854775807) (hlen : s.size * c ≤ 140737488355328) :
  Calls Tryz.prog 53 #[.string s, .int .i64 c] w fun e w' => e = .returned (.string ⟨(Lib.repeatL s.data.toList c).toArray⟩) ∧ Below w.heap.size w w' := Any.strings_Repeat Qe Hs s c w hc hlen
def Li : Go.Shelf.Ren := ⟨fun | 260 => 177 | n => n, fun | 9 => 9 | 21 => 21 | 3 => 3 | 4 => 4 | 5 => 5 | 119 => 137 | 0 => 0 | 46 => 97 | 139 => 140 | 138 => 139 | n => n, fun | 3 => 1 | 4 => 2 | n => n⟩
theorem Oy : Go.Proofs.Lays.n260 Tryz.prog Li := {
 mixed := by kernel_rfl
 f260 := Tryz.func177.trans (congrArg some (by kernel_rfl))
 t0 := Tryz.underlying0
 a0 := Tryz.isAgg0
 z0 := Tryz.sizeOf0
 v0 := Tryz.zeroValue0
 t3 := Tryz.underlying3
 a3 := Tryz.isAgg3
 z3 := Tryz.sizeOf3
 v3 := Tryz.zeroValue3
 t4 := Tryz.underlying4
 a4 := Tryz.isAgg4
 z4 := Tryz.sizeOf4
 v4 := Tryz.zeroValue4
 t5 := Tryz.underlying5
 a5 := Tryz.isAgg5
 z5 := Tryz.sizeOf5
 v5 := Tryz.zeroValue5
 t9 := Tryz.underlying9
 a9 := Tryz.isAgg9
 z9 := Tryz.sizeOf9
 v9 := Tryz.zeroValue9
 t21 := Tryz.underlying21
 a21 := Tryz.isAgg21
 z21 := Tryz.sizeOf21
 v21 := Tryz.zeroValue21
 t46 := Tryz.underlying97
 a46 := Tryz.isAgg97
 z46 := Tryz.sizeOf97
 v46 := Tryz.zeroValue97
 t119 := Tryz.underlying137
 a119 := Tryz.isAgg137
 z119 := Tryz.sizeOf137
 t138 := Tryz.underlying139
 a138 := Tryz.isAgg139
 z138 := Tryz.sizeOf139
 v138 := Tryz.zeroValue139
 t139 := Tryz.underlying140
 a139 := Tryz.isAgg140
 z139 := Tryz.sizeOf140
 v139 := Tryz.zeroValue140
 g3 := by kernel_rfl
 g4 := by kernel_rfl }
open Go.RowKit Go.Lib in
/-- **unicode/utf8.DecodeRuneInString AT EVERY STRING.** (LAID: no walk: one application.) -/
theorem Tryz.utf8_DecodeRuneInString (s : ByteArray) (w : World) (hT : Lib.Utf8Tabs 1 2 w) :
  Calls Tryz.prog 166 #[.string s] w fun e w' => e = .returned (.tuple #[.int .i32 (Lib.decodeGo s).1, .int .i64 (Lib.decodeGo s).2]) ∧ Below w.heap.size w w' := Any.utf8_DecodeRuneInString Pa s w hT
def K7 : Go.Shelf.Ren := ⟨fun | 196 => 94 | 259 => 125 | n => n, fun | 9 => 9 | 4 => 4 | 3 => 3 | 5 => 5 | 12 => 12 | 119 => 137 | 0 => 0 | 46 => 97 | 139 => 140 | 138 => 139 | 53 => 72 | n => n, fun | 3 => 1 | 4 => 2 | n => n⟩
theorem Pn : Go.Proofs.Lays.n196 Tryz.prog K7 := {
 mixed := by kernel_rfl
 f196 := Tryz.func94.trans (congrArg some (by kernel_rfl))
 f259 := Tryz.func125.trans (congrArg some (by kernel_rfl))
 t0 := Tryz.underlying0
 a0 := Tryz.isAgg0
 z0 := Tryz.sizeOf0
 v0 := Tryz.zeroValue0
 t3 := Tryz.underlying3
 a3 := Tryz.isAgg3
 z3 := Tryz.sizeOf3
 v3 := Tryz.zeroValue3
 t4 := Tryz.underlying4
 a4 := Tryz.isAgg4
 z4 := Tryz.sizeOf4
 v4 := Tryz.zeroValue4
 t5 := Tryz.underlying5
 a5 := Tryz.isAgg5
 z5 := Tryz.sizeOf5
 v5 := Tryz.zeroValue5
 t9 := Tryz.underlying9
 a9 := Tryz.isAgg9
 z9 := Tryz.sizeOf9
 v9 := Tryz.zeroValue9
 t12 := Tryz.underlying12
 a12 := Tryz.isAgg12
 z12 := Tryz.sizeOf12
 v12 := Tryz.zeroValue12
 t46 := Tryz.underlying97
 a46 := Tryz.isAgg97
 z46 := Tryz.sizeOf97
 v46 := Tryz.zeroValue97
 t53 := Tryz.underlying72
 a53 := Tryz.isAgg72
 z53 := Tryz.sizeOf72
 v53 := Tryz.zeroValue72
 t119 := Tryz.underlying137
 a119 := Tryz.isAgg137
 z119 := Tryz.sizeOf137
 t138 := Tryz.underlying139
 a138 := Tryz.isAgg139
 z138 := Tryz.sizeOf139
 v138 := Tryz.zeroValue139
 t139 := Tryz.underlying140
 a139 := Tryz.isAgg140
 z139 := Tryz.sizeOf140
 v139 := Tryz.zeroValue140
 g3 := by kernel_rfl
 g4 := by kernel_rfl }
open Go.RowKit Go.Lib in
/-- unicode/utf8.ValidString AT EVERY STRING. (LAID: no walk: one application.) -/
theorem Tryz.utf8_ValidString (s : ByteArray) (w : World) (hs : s.size ≤ 9223372036854775807) (hT : Lib.Utf8Tabs 1 2 w) :
  Calls Tryz.prog 94 #[.string s] w fun e w' => e = .returned (.bool (Lib.validD s.data.toList)) ∧ Below w.heap.size w w' := Any.utf8_ValidString Pn s w hs hT
end Go.Proofs
