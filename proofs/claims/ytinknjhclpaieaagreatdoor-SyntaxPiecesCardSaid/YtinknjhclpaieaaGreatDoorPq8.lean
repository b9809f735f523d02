/- Lemmas and contracts for the laws SyntaxPieces, part 8 of 48: RefA, NumC, ScanF. Conditions: those that each lemma names. -/
import Derived.Test.YtinknjhclpaieaaGreatDoorPq4
import Derived.Test.YtinknjhclpaieaaGreatDoorPq5
import Derived.Test.YtinknjhclpaieaaGreatDoorPq1
import Derived.Test.YtinknjhclpaieaaGreatDoorPq2
import Derived.Deep.LoopGhost
set_option maxRecDepth 100000
set_option maxHeartbeats 4000000
namespace Go.Proofs.YtinknjhclpaieaaGreatDoor
open Go Go.RowKit Go.Proofs Th
attribute [local go_sem] Above.cell
structure IntsAt (w : World) (B : Nat) (A : Option Addr) (c : Nat) (ds : List Nat) : Prop where
  le : ds.length ≤ c
  cap : c ≤ maxLen
  at_ : 0 < ds.length → ∃ g o, A = some ⟨g, o, none⟩ ∧ g < B ∧ ∀ j (h : j < ds.length), w.cell? ⟨g, o + j, none⟩ = some (.int .i64 (ds[j] : Int))
theorem IntsAt.below {w w' : World} {B B' : Nat} {A : Option Addr} {c : Nat} {ds : List Nat} (h : IntsAt w B A c ds) (hb : Below B' w w') (hB : B ≤ B') : IntsAt w' B A c ds :=
  ⟨h.le, h.cap, fun hn => by
    obtain ⟨g, o, e, hg, hc⟩ := h.at_ hn; exact ⟨g, o, e, hg, fun j hj => (hb.cell (p := ⟨g, o + j, none⟩) (Nat.lt_of_lt_of_le hg hB)).trans (hc j hj)⟩⟩
theorem IntsAt.tail {w : World} {B g o c : Nat} {d : Nat} {ds : List Nat} (h : IntsAt w B (some ⟨g, o, none⟩) c (d :: ds)) : IntsAt w B (if c = 1 then some ⟨g, o, none⟩ else some ⟨g, o + 1, none⟩) (c - 1) ds := by
  have hl := h.le; simp only [List.length_cons] at hl; refine ⟨by omega, by have := h.cap; omega, fun hn => ?_⟩; obtain ⟨g', o', e, hg, hc⟩ := h.at_ (by simp); injection e with e; injection e with e1 e2; subst e1 e2; rw [if_neg (by omega)]; refine ⟨_, _, rfl, hg, fun j hj => ?_⟩; have := hc (j + 1) (by simp; omega); rw [show o + 1 + j = o + (j + 1) by omega, this]; rfl
theorem IntsAt.init {w : World} {B c : Nat} {A : Option Addr} {ds : List Nat} (h : IntsAt w B A c ds) (k : Nat) (hk : k ≤ ds.length) : IntsAt w B A c (ds.take k) := by
  have hl := h.le; refine ⟨by rw [List.length_take]; omega, h.cap, fun hn => ?_⟩; rw [List.length_take] at hn; obtain ⟨g, o, e, hg, hc⟩ := h.at_ (by omega); refine ⟨g, o, e, hg, fun j hj => ?_⟩; rw [List.getElem_take]; exact hc j (by rw [List.length_take] at hj; omega)
def digB (c : UInt8) : Bool := decide (48 ≤ c.toNat) && decide (c.toNat ≤ 57)
theorem ref_digit (c : UInt8) (w : World) : Calls Tryz.prog 140 #[.int .u8 c.toNat] w fun r w' => r = .returned (.bool (digB c)) ∧ Below w.heap.size w w' := by
  by_cases h1 : 48 ≤ c.toNat
  · have K := Keep.mk (show decide ((c.toNat : Int) ≤ 57) = digB c by
      unfold digB; rw [decide_eq_true h1, Bool.true_and]; congr 1; apply propext; omega)
    go_enter Tryz.func140, Tryz.ntmps140
    go_wp2
    go_ret
    exact ⟨ret_bool K.out, Below.refl _ _⟩
  have K := Keep.mk (show false = digB c by unfold digB; simp [h1]); go_enter Tryz.func140, Tryz.ntmps140
  go_wp2
  go_ret
  exact ⟨ret_bool K.out, Below.refl _ _⟩
theorem ref_digit_minus (w : World) : Calls Tryz.prog 140 #[.int .u8 45] w fun r w' => r = .returned (.bool false) ∧ Below w.heap.size w w' := ref_digit 45 w
def powS (n : Nat) (c : UInt8) : Nat := if digB c && decide (n < 1000000) then n * 10 + dg c else n
def powN (l : List UInt8) : Nat := l.foldl powS 0
def negB (l : List UInt8) : Bool := l.any (· == 45)
theorem powN_snoc (l : List UInt8) (c : UInt8) : powN (l ++ [c]) = powS (powN l) c := by unfold powN; rw [List.foldl_append]; rfl
theorem powN_le (l : List UInt8) : powN l ≤ 9999999 := by
  unfold powN; suffices ∀ n, n ≤ 9999999 → l.foldl powS n ≤ 9999999 by exact this 0 (by omega)
  induction l with
  | nil => intro n h; exact h
  | cons c l ih =>
    intro n h; refine ih _ ?_; unfold powS digB dg; split
    · rename_i h2; simp at h2; omega
    exact h
def powR (l : List UInt8) : Int := if negB l then -(powN l : Int) else powN l
theorem take_next (s : ByteArray) (k : Nat) (h : k < s.size) : s.data.toList.take (k + 1) = s.data.toList.take k ++ [s[k]] := by
  rw [List.take_succ_eq_append_getElem (by simpa using h)]; rfl
theorem negB_snoc (l : List UInt8) (c : UInt8) : negB (l ++ [c]) = (negB l || c == 45) := by unfold negB; simp
theorem ref_power (s : ByteArray) (hs : s.size ≤ 9223372036854775806) (w : World) : Calls Tryz.prog 139 #[.string s] w fun r w' => r = .returned (.int .i64 (powR s.data.toList)) ∧ Below w.heap.size w w' := by
  go_enter Tryz.func139, Tryz.ntmps139
  go_wp2_with fail
  go_loopw [3, 4, 5] (fun n g i wr => ∃ k : Nat, k ≤ s.size ∧ i = .int .i64 k ∧ n = .int .i64 (powN (s.data.toList.take k)) ∧ g = .bool (negB (s.data.toList.take k)) ∧ Below w.heap.size w wr) (fun _ _ i _ => s.size - (intOf i).toNat)
  case atStart => exact ⟨0, Nat.zero_le _, rfl, rfl, rfl, Below.refl _ _⟩
  case round =>
    obtain ⟨k, hk, rfl, rfl, rfl, hb⟩ := hrel; by_cases hlt : k < s.size
    · have HN := Keep.mk (negB_snoc (s.data.toList.take k) s[k])
      have HP := Keep.mk (powN_snoc (s.data.toList.take k) s[k]); rw [← take_next s k hlt] at HN HP; have hn := powN_le (s.data.toList.take k); have HD := Keep.mk (fun w => ref_digit s[k] w); generalize powN (s.data.toList.take k) = n at *; generalize negB (s.data.toList.take k) = b at *; have hc9 : s[k].toNat ≤ 255 := by have := s[k].toNat_lt; omega
      by_cases hm : s[k].toNat = 45
      · have hmc : s[k] = 45 := UInt8.toNat.inj hm
        have hmb : ((s[k].toNat : Int) == 45) = true := by simp [hm]
        have HN2 := Keep.mk (show negB (s.data.toList.take (k + 1)) = true by rw [HN.out, hmc]; simp); have HP2 := Keep.mk (show powN (s.data.toList.take (k + 1)) = n by rw [HP.out, hmc]; rfl); clear HN HP hmc; go_wp2_with fail
        refine (ref_digit_minus _).mono ?_; rintro r w1 ⟨rfl, hb1⟩; go_wp2
        go_roundw
        case rel => exact ⟨k + 1, by omega, by go_num, by rw [HP2.out], by rw [HN2.out], up hb hb1⟩
        case measure => simp [intOf]; omega
      have hmc : s[k] ≠ 45 := fun h => hm (by rw [h]; rfl)
      have hmb : ((s[k].toNat : Int) == 45) = false := by simp; omega
      have HN2 := Keep.mk (show negB (s.data.toList.take (k + 1)) = b by rw [HN.out]; simp [hmc]); clear HN hmc; cases hdd : digB s[k]
      · have HP2 := Keep.mk (show powN (s.data.toList.take (k + 1)) = n by rw [HP.out]; unfold powS; simp [hdd])
        clear HP; go_wp2_with fail
        refine (HD.out _).mono ?_; rw [hdd]; rintro r w1 ⟨rfl, hb1⟩; go_wp2
        go_roundw
        case rel => exact ⟨k + 1, by omega, by go_num, by rw [HP2.out], by rw [HN2.out], up hb hb1⟩
        case measure => simp [intOf]; omega
      have hdg : 48 ≤ s[k].toNat ∧ s[k].toNat ≤ 57 := by unfold digB at hdd; simpa using hdd
      obtain ⟨hd1, hd2⟩ := hdg; by_cases hbig : n < 1000000
      · have hbi : (n : Int) < 1000000 := by omega
        have HP2 := Keep.mk (show powN (s.data.toList.take (k + 1)) = n * 10 + (s[k].toNat - 48) by rw [HP.out]; unfold powS dg; simp [hdd, hbig]); clear HP hbig; go_wp2_with fail
        refine (HD.out _).mono ?_; rw [hdd]; rintro r w1 ⟨rfl, hb1⟩; go_wp2
        go_roundw
        case rel => exact ⟨k + 1, by omega, by go_num, by rw [HP2.out]; congr 1; omega, by rw [HN2.out], up hb hb1⟩
        case measure => simp [intOf]; omega
      have HP2 := Keep.mk (show powN (s.data.toList.take (k + 1)) = n by rw [HP.out]; unfold powS; simp [hdd, hbig]); obtain ⟨z, hz⟩ : ∃ z : Int, z = n := ⟨_, rfl⟩
      have hz1 : 1000000 ≤ z := by omega
      have hz2 : z ≤ 9999999 := by omega
      rw [← hz]; have HZ := Keep.mk hz; clear HP hbig hn hz; go_wp2_with fail
      refine (HD.out _).mono ?_; rw [hdd]; rintro r w1 ⟨rfl, hb1⟩; go_wp2
      go_roundw
      case rel => exact ⟨k + 1, by omega, by go_num, by rw [HP2.out, HZ.out], by rw [HN2.out], up hb hb1⟩
      case measure => simp [intOf]; omega
    have he : s.data.toList.take k = s.data.toList := by rw [List.take_of_length_le]; simp; omega
    have hn := powN_le s.data.toList; have HR := Keep.mk (show powR s.data.toList = if negB s.data.toList then -(powN s.data.toList : Int) else powN s.data.toList from rfl); rw [he]; generalize powN s.data.toList = n at *; cases hb0 : negB s.data.toList
    · have HE := Keep.mk (show (n : Int) = powR s.data.toList by rw [HR.out, hb0]; rfl)
      clear HR he; go_wp2
      go_ret
      exact ⟨ret_i64 HE.out, hb⟩
    have HE := Keep.mk (show -(n : Int) = powR s.data.toList by rw [HR.out, hb0]; rfl); clear HR he; go_wp2
    go_ret
    exact ⟨ret_i64 HE.out, hb⟩
open Go Go.RowKit Go.Proofs Th
structure I64 (m : Int) : Prop where
  lo : -9223372036854775808 ≤ m
  hi : m ≤ 9223372036854775807
end Go.Proofs.YtinknjhclpaieaaGreatDoor
namespace Th
open Go Go.Lib
structure Tf where
  kind : Nat
  text : ByteArray
  at_ : Nat
deriving DecidableEq
def noTf : Tf := ⟨0, ⟨#[]⟩, 0⟩
def skipN : Bool → List UInt8 → Nat
  | _, [] => 0
  | b, c :: r => if b = true ∨ blankC c = true ∨ c = 35 then 1 + skipN (decide ((b = true ∨ c = 35) ∧ c ≠ 10)) r else 0
theorem skipN_le : ∀ (b : Bool) (l : List UInt8), skipN b l ≤ l.length
  | _, [] => Nat.le_refl _
  | b, c :: r => by
    have := skipN_le (decide ((b = true ∨ c = 35) ∧ c ≠ 10)) r; simp only [skipN, List.length_cons]; split <;> omega
def skipA (L : List UInt8) (a : Nat) : Nat := a + skipN false (L.drop a)
def qGo (L : List UInt8) (one : Nat → Tf × Nat × Nat) (from_ : Nat) : Nat → Nat → Nat → Nat × Nat
  | 0, _, _ => (from_, 20)
  | n + 1, 0, a => match L[a]? with
    | none => (from_, 20)
    | some c => if c = 34 then (a + 1, 0) else if c ≠ 92 then qGo L one from_ n 0 (a + 1) else if L[a + 1]? = some 40 then qGo L one from_ n 1 (a + 2) else qGo L one from_ n 0 (a + 2)
  | n + 1, o + 1, a => if (one a).2.2 ≠ 0 then ((one a).2.1, (one a).2.2) else if (one a).1.kind = 0 then (from_, 20)
    else qGo L one from_ n (if (one a).1.kind = 6 ∧ (one a).1.text = ⟨#[40]⟩ then o + 2 else if (one a).1.kind = 6 ∧ (one a).1.text = ⟨#[41]⟩ then o else o + 1) (one a).2.1
def oneG (L : List UInt8) (quote : Nat → Nat × Nat) (a : Nat) : Tf × Nat × Nat :=
  match L.drop a with
  | [] => (noTf, a, 0)
  | c :: r => if c = 34 then (if (quote a).2 ≠ 0 then (noTf, (quote a).1, (quote a).2) else (⟨5, ⟨((L.drop a).take ((quote a).1 - a)).toArray⟩, a⟩, (quote a).1, 0))
    else if (tokP (c :: r)).1 = 0 then (noTf, a, 60)
    else (⟨(tokP (c :: r)).1, ⟨(((c :: r).take (tokP (c :: r)).2.2).drop (tokP (c :: r)).2.1).toArray⟩, a⟩, a + (tokP (c :: r)).2.2, 0)
def oneF (L : List UInt8) : Nat → Nat → Tf × Nat × Nat
  | 0, a => oneG L (fun f => (f, 31)) (skipA L a)
  | d + 1, a => oneG L (fun f => qGo L (oneF L d) f (L.length + 2) 0 (f + 1)) (skipA L a)
def quoteF (L : List UInt8) : Nat → Nat → Nat × Nat
  | 0, f => (f, 31)
  | d + 1, f => qGo L (oneF L d) f (L.length + 2) 0 (f + 1)
theorem oneF_eq (L : List UInt8) (d a : Nat) : oneF L d a = oneG L (quoteF L d) (skipA L a) := by
  cases d <;> rfl
def scanGo (L : List UInt8) : Nat → Nat → List Tf → List Tf × Nat × Nat
  | 0, _, acc => (acc, 0, 0)
  | n + 1, a, acc => if (oneF L 48 a).2.2 ≠ 0 then ([], (oneF L 48 a).2.1, (oneF L 48 a).2.2) else if (oneF L 48 a).1.kind = 0 then (acc, 0, 0) else scanGo L n (oneF L 48 a).2.1 (acc ++ [(oneF L 48 a).1])
def scanF (L : List UInt8) : List Tf × Nat × Nat := if 16384 < L.length then ([], 0, 3) else scanGo L (L.length + 1) 0 []
def closeF (one : Nat → Tf × Nat × Nat) : Nat → Nat → Nat → Nat
  | _, 0, a => a
  | 0, _, a => a
  | n + 1, o + 1, a => closeF one n (if (one a).1.kind = 6 ∧ (one a).1.text = ⟨#[40]⟩ then o + 2 else if (one a).1.kind = 6 ∧ (one a).1.text = ⟨#[41]⟩ then o else o + 1) (one a).2.1
structure PartsR where
  texts : List (List UInt8)
  filters : List (List UInt8)
  places : List Nat
def partsGo (L : List UInt8) (one : Nat → Tf × Nat × Nat) : Nat → Nat → Nat → PartsR → PartsR
  | 0, from_, _, r => { r with texts := r.texts ++ [(L.take (L.length - 1)).drop from_] }
  | n + 1, from_, a, r => if L.length - 1 ≤ a then { r with texts := r.texts ++ [(L.take (L.length - 1)).drop from_] }
    else if L[a]? ≠ some 92 then partsGo L one n from_ (a + 1) r
    else if L[a + 1]? ≠ some 40 then partsGo L one n from_ (a + 2) r
    else partsGo L one n (closeF one (L.length + 2) 1 (a + 2)) (closeF one (L.length + 2) 1 (a + 2))
      ⟨r.texts ++ [(L.take a).drop from_], r.filters ++ [(L.take (closeF one (L.length + 2) 1 (a + 2) - 1)).drop (a + 2)], r.places ++ [a + 2]⟩
def okQ (L : List UInt8) : Bool := decide (L.length ≤ 16384) && decide (L[0]? = some 34) && decide (quoteF L 48 0 = (L.length, 0))
def partsF (L : List UInt8) : PartsR × Nat := if okQ L = true then (partsGo L (oneF L 47) (L.length + 1) 1 1 ⟨[], [], []⟩, 0) else (⟨[], [], []⟩, 20)
/-! laws -/
theorem tokP_le (l : List UInt8) : (tokP l).2.2 ≤ l.length ∧ ((tokP l).1 ≠ 0 → 1 ≤ (tokP l).2.2) ∧ ((tokP l).1 = 0 → (tokP l).2.2 = 0) := by
  cases l with
  | nil => exact ⟨Nat.le_refl _, fun h => absurd rfl h, fun _ => rfl⟩
  | cons c r =>
    rcases tok_longest c r with ⟨h, _⟩ | ⟨k, n, h, h1, h2, h3, h4, h5, h6⟩
    · rw [h]; exact ⟨Nat.zero_le _, fun h => absurd rfl h, fun _ => rfl⟩
    rw [h]; exact ⟨h4, fun _ => h2, fun h => absurd h h1⟩
structure OneOk (L : List UInt8) (a : Nat) (t : Tf × Nat × Nat) : Prop where
  fwd : t.2.2 = 0 → t.1.kind ≠ 0 → a < t.2.1
  ge : t.2.2 = 0 → a ≤ t.2.1
  le : t.2.1 ≤ L.length
  none_ : t.2.2 = 0 → t.1.kind = 0 → t.2.1 = L.length
  zero : t.2.2 ≠ 0 ∨ t.1.kind = 0 → t.1 = noTf
  sz : t.1.text.size ≤ L.length
  pl : t.1.at_ ≤ L.length
theorem skipA_le (L : List UInt8) (a : Nat) (h : a ≤ L.length) : a ≤ skipA L a ∧ skipA L a ≤ L.length := by
  have := skipN_le false (L.drop a); rw [List.length_drop] at this; unfold skipA; omega
theorem qGo_le (L : List UInt8) (one : Nat → Tf × Nat × Nat) (hone : ∀ a, a ≤ L.length → OneOk L a (one a)) (f : Nat) (hf : f < L.length) : ∀ (n o a : Nat), f < a → (0 < o → a ≤ L.length) →
    (qGo L one f n o a).1 ≤ L.length ∧ ((qGo L one f n o a).2 = 0 → f < (qGo L one f n o a).1) := by
  intro n; induction n with
  | zero => intro o a _ _; exact ⟨by simp only [qGo]; omega, fun h => by simp only [qGo] at h; omega⟩
  | succ n ih =>
    intro o a ha hl; cases o with
    | zero =>
      simp only [qGo]; cases hc : L[a]? with
      | none => exact ⟨by show f ≤ _; omega, fun h => by cases h⟩
      | some c =>
        have hlt : a < L.length := (List.getElem?_eq_some_iff.1 hc).1; show (if c = 34 then (a + 1, 0) else _ : Nat × Nat).1 ≤ _ ∧ _
        dsimp only; by_cases h34 : c = 34
        · rw [if_pos h34]; exact ⟨by show a + 1 ≤ _; omega, fun _ => by show f < a + 1; omega⟩
        rw [if_neg h34]; by_cases h92 : c ≠ 92
        · rw [if_pos h92]; exact ih 0 (a + 1) (by omega) (by omega)
        rw [if_neg h92]; by_cases h40 : L[a + 1]? = some 40
        · rw [if_pos h40]; have := (List.getElem?_eq_some_iff.1 h40).1; exact ih 1 (a + 2) (by omega) (by omega)
        rw [if_neg h40]; exact ih 0 (a + 2) (by omega) (by omega)
    | succ o =>
      have h := hone a (hl (by omega)); simp only [qGo]; by_cases h1 : (one a).2.2 ≠ 0
      · rw [if_pos h1]; exact ⟨h.le, fun h2 => absurd h2 h1⟩
      rw [if_neg h1]; by_cases h2 : (one a).1.kind = 0
      · rw [if_pos h2]; exact ⟨by show f ≤ _; omega, fun h => by cases h⟩
      rw [if_neg h2]; have := h.fwd (by omega) h2; have := h.le; exact ih _ _ (by omega) (by omega)
theorem bytes_size (l : List UInt8) : (⟨l.toArray⟩ : ByteArray).size = l.length := by simp [ByteArray.size]
theorem oneG_ok (L : List UInt8) (quote : Nat → Nat × Nat) (hq : ∀ f, f < L.length → (quote f).1 ≤ L.length ∧ ((quote f).2 = 0 → f < (quote f).1)) (a b : Nat) (hab : a ≤ b) (hb : b ≤ L.length) : OneOk L a (oneG L quote b) := by
  unfold oneG; cases hd : L.drop b with
  | nil =>
    have : L.length ≤ b := List.drop_eq_nil_iff.1 hd; exact ⟨fun _ h => absurd rfl h, fun _ => hab, hb, fun _ _ => by show b = _; omega, fun _ => rfl, Nat.zero_le _, Nat.zero_le _⟩
  | cons c r =>
    have hlen : (c :: r).length = L.length - b := by rw [← hd, List.length_drop]
    rw [List.length_cons] at hlen; dsimp only; by_cases h34 : c = 34
    · rw [if_pos h34]
      obtain ⟨h1, h2⟩ := hq b (by omega); by_cases h3 : (quote b).2 ≠ 0
      · rw [if_pos h3]; exact ⟨fun h _ => absurd h h3, fun h => absurd h h3, h1, fun h _ => absurd h h3, fun _ => rfl, Nat.zero_le _, Nat.zero_le _⟩
      rw [if_neg h3]; have := h2 (by omega); refine ⟨fun _ _ => by show a < (quote b).1; omega, fun _ => by show a ≤ (quote b).1; omega, h1, fun _ h => (by cases h), fun h => ?_, ?_, hb⟩
      · rcases h with h | h
        · exact absurd rfl h
        cases h
      show (⟨_⟩ : ByteArray).size ≤ _
      rw [bytes_size, List.length_take]; rw [List.length_cons]; omega
    rw [if_neg h34]; obtain ⟨h1, h2, h3⟩ := tokP_le (c :: r); rw [List.length_cons] at h1; by_cases h4 : (tokP (c :: r)).1 = 0
    · rw [if_pos h4]; exact ⟨fun h => (by cases h), fun h => (by cases h), hb, fun h => (by cases h), fun _ => rfl, Nat.zero_le _, Nat.zero_le _⟩
    rw [if_neg h4]; have := h2 h4; refine ⟨fun _ _ => by show a < b + _; omega, fun _ => by show a ≤ b + _; omega, by show b + _ ≤ _; omega, fun _ h => absurd h h4, fun h => ?_, ?_, hb⟩
    · rcases h with h | h
      · exact absurd rfl h
      exact absurd h h4
    show (⟨_⟩ : ByteArray).size ≤ _
    rw [bytes_size, List.length_drop, List.length_take]; rw [List.length_cons]; omega
theorem oneF_ok (L : List UInt8) : ∀ (d a : Nat), a ≤ L.length → OneOk L a (oneF L d a) := by
  intro d; induction d with
  | zero => intro a ha; obtain ⟨h1, h2⟩ := skipA_le L a ha; exact oneG_ok L _ (fun f hf => ⟨Nat.le_of_lt hf, fun h => by cases h⟩) a _ h1 h2
  | succ d ih => intro a ha; obtain ⟨h1, h2⟩ := skipA_le L a ha; exact oneG_ok L _ (fun f hf => qGo_le L _ ih f hf _ 0 _ (by omega) (by omega)) a _ h1 h2
theorem quoteF_ok (L : List UInt8) (d f : Nat) (hf : f < L.length) : (quoteF L d f).1 ≤ L.length ∧ ((quoteF L d f).2 = 0 → f < (quoteF L d f).1) := by
  cases d with
  | zero => exact ⟨Nat.le_of_lt hf, fun h => by cases h⟩
  | succ d => exact qGo_le L _ (oneF_ok L d) f hf _ 0 _ (by omega) (by omega)
end Th
