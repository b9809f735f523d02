/- Lemmas and contracts. Conditions: those that each lemma names. -/
import Derived.Test.YtakncilicoefdaaGreatDoorPt5
set_option maxRecDepth 100000
set_option maxHeartbeats 4000000
namespace Go.Proofs.YtakncilicoefdaaGreatDoor
open Go Go.RowKit Go.Proofs Th
attribute [local go_sem] Above.cell Above.frozen
structure IntsAt (w : World) (B : Nat) (A : Option Addr) (c : Nat) (ds : List Nat) : Prop where
 le : ds.length ≤ c
 cap : c ≤ maxLen
 at_ : 0 < ds.length → ∃ g o, A = some ⟨g, o, none⟩ ∧ g < B ∧ ∀ j (h : j < ds.length), w.cell? ⟨g, o + j, none⟩ = some (.int .i64 (ds[j] : Int))
theorem IntsAt.below {w w' : World} {B B' : Nat} {A : Option Addr} {c : Nat} {ds : List Nat} (h : IntsAt w B A c ds) (hb : Below B' w w') (hB : B ≤ B') : IntsAt w' B A c ds :=
 ⟨h.le, h.cap, fun hn => by
  obtain ⟨g, o, e, hg, hc⟩ := h.at_ hn; exact ⟨g, o, e, hg, fun j hj => (hb.cell (p := ⟨g, o + j, none⟩) (Nat.lt_of_lt_of_le hg hB)).trans (hc j hj)⟩⟩
theorem IntsAt.more {w : World} {B B' : Nat} {A : Option Addr} {c : Nat} {ds : List Nat} (h : IntsAt w B A c ds) (hB : B ≤ B') : IntsAt w B' A c ds :=
 ⟨h.le, h.cap, fun hn => by
  obtain ⟨g, o, e, hg, hc⟩ := h.at_ hn; exact ⟨g, o, e, Nat.lt_of_lt_of_le hg hB, hc⟩⟩
theorem IntsAt.tail {w : World} {B g o c : Nat} {d : Nat} {ds : List Nat} (h : IntsAt w B (some ⟨g, o, none⟩) c (d :: ds)) : IntsAt w B (if c = 1 then some ⟨g, o, none⟩ else some ⟨g, o + 1, none⟩) (c - 1) ds := by
 have hl := h.le; simp only [List.length_cons] at hl; refine ⟨by omega, by have := h.cap; omega, fun hn => ?_⟩; obtain ⟨g', o', e, hg, hc⟩ := h.at_ (by simp); injection e with e; injection e with e1 e2; subst e1 e2; rw [if_neg (by omega)]; refine ⟨_, _, rfl, hg, fun j hj => ?_⟩; have := hc (j + 1) (by simp; omega); rw [show o + 1 + j = o + (j + 1) by omega, this]; rfl
theorem IntsAt.init {w : World} {B c : Nat} {A : Option Addr} {ds : List Nat} (h : IntsAt w B A c ds) (k : Nat) (hk : k ≤ ds.length) : IntsAt w B A c (ds.take k) := by
 have hl := h.le; refine ⟨by rw [List.length_take]; omega, h.cap, fun hn => ?_⟩; rw [List.length_take] at hn; obtain ⟨g, o, e, hg, hc⟩ := h.at_ (by omega); refine ⟨g, o, e, hg, fun j hj => ?_⟩; rw [List.getElem_take]; exact hc j (by rw [List.length_take] at hj; omega)
theorem O2 {a b : ByteArray} (h : a = b) : Ending.returned (.string a) = .returned (.string b) := by rw [h]
def BZ (n : Nat) : ByteArray := ⟨(List.replicate n (48 : UInt8)).toArray⟩
theorem DT (n : Nat) : (BZ n).size = n := by unfold BZ; show (List.replicate _ _).toArray.size = _; simp
theorem Ol (n : Nat) : BZ n ++ ⟨#[48]⟩ = BZ (n + 1) := by
 apply ByteArray.ext; rw [ByteArray.data_append]; unfold BZ; rw [List.replicate_succ', ← List.push_toArray]; apply Array.ext'; simp
theorem Ou (n : Int) (h : n ≤ 1000) (w : World) : Calls Tryz.prog 61 #[.int .i64 n] w fun r w' => r = .returned (.string (BZ n.toNat)) ∧ Below w.heap.size w w' := by
 go_enter Tryz.func61, Tryz.ntmps61
 go_wp2_with fail
 go_loop [3, 4] (fun s i => ∃ k : Nat, (k : Int) ≤ max n 0 ∧ i = .int .i64 k ∧ s = .string (BZ k)) (fun _ i => n.toNat - (intOf i).toNat)
 case atStart => exact ⟨0, by omega, rfl, rfl⟩
 case round =>
  obtain ⟨k, hk, rfl, rfl⟩ := hrel; have hz := DT k; have HS := Keep.mk (Ol k); by_cases hlt : (k : Int) < n
  ·have hk1 : k < 1000 := by omega
   go_wp2
   exact ⟨⟨k + 1, by omega, by go_num, by rw [HS.out]⟩, by simp [intOf]; omega⟩
  have HE := Keep.mk (show BZ k = BZ n.toNat by congr 1; omega); go_wp2
  go_ret
  exact ⟨O2 HE.out, Below.refl _ _⟩
def AO (ds : List Nat) : ByteArray := ⟨(ds.map fun d => UInt8.ofNat (48 + d)).toArray⟩
theorem Bi (ds : List Nat) : (AO ds).size = ds.length := by unfold AO; show (List.map _ _).toArray.size = _; simp
def tenSigns : ByteArray := ⟨#[48, 49, 50, 51, 52, 53, 54, 55, 56, 57]⟩
theorem UM (d : Nat) (h : d ≤ 9) : tenSigns.extract d (d + 1) = ⟨#[UInt8.ofNat (48 + d)]⟩ := by
 have : d = 0 ∨ d = 1 ∨ d = 2 ∨ d = 3 ∨ d = 4 ∨ d = 5 ∨ d = 6 ∨ d = 7 ∨ d = 8 ∨ d = 9 := by omega
 rcases this with rfl | rfl | rfl | rfl | rfl | rfl | rfl | rfl | rfl | rfl <;> decide
theorem Ov (ds : List Nat) (k : Nat) (h : k < ds.length) (h9 : ds[k] ≤ 9) : AO (ds.take k) ++ tenSigns.extract ds[k] (ds[k] + 1) = AO (ds.take (k + 1)) := by
 rw [UM _ h9, List.take_succ_eq_append_getElem h]; apply ByteArray.ext; rw [ByteArray.data_append]; unfold AO; rw [List.map_append]; apply Array.ext'; simp
theorem SK (A : Option Addr) (c : Nat) (ds : List Nat) (hd : Digs ds) (hl : ds.length ≤ 1000) (w : World) (hI : IntsAt w w.heap.size A c ds) :
  Calls Tryz.prog 60 #[.slice A ds.length c] w fun r w' => r = .returned (.string (AO ds)) ∧ Below w.heap.size w w' := by
 go_enter Tryz.func60, Tryz.ntmps60
 go_wp2_with fail
 go_loopw [3, 4] (fun s i wr => ∃ k : Nat, k ≤ ds.length ∧ i = .int .i64 k ∧ s = .string (AO (ds.take k)) ∧ Below w.heap.size w wr) (fun _ i _ => ds.length - (intOf i).toNat)
 case atStart => exact ⟨0, Nat.zero_le _, rfl, rfl, Below.refl _ _⟩
 case round =>
  obtain ⟨k, hk, rfl, rfl, hb⟩ := hrel; have hz := Bi (ds.take k); rw [List.length_take] at hz; by_cases hlt : k < ds.length
  ·obtain ⟨g, o, rfl, hg, hc⟩ := (hI.below hb (Nat.le_refl _)).at_ (by omega)
   have hck := hc k hlt; have hg2 := Nat.lt_of_lt_of_le hg hb.size; have h9 := hd _ (List.getElem_mem hlt); have HS := Keep.mk (Ov ds k hlt h9); clear hc; generalize ds[k] = d at *; go_wp2_with fail
   refine Ay (by kernel_rfl) (by kernel_rfl) ?_; repeat (go_big_quiet_step (fail))
   refine wpQuiet_nil ?_; rintro _ ⟨x, rfl⟩; go_wp2
   go_roundw
   case rel => exact ⟨k + 1, by omega, by go_num, by rw [← HS.out]; rfl, up hb x.property⟩
   case measure => simp [intOf]; omega
  have HE := Keep.mk (show AO (ds.take k) = AO ds by rw [List.take_of_length_le (by omega)]); go_wp2
  go_ret
  exact ⟨O2 HE.out, hb⟩
open Go Go.RowKit Go.Proofs Th
structure I64 (m : Int) : Prop where
 lo : -9223372036854775808 ≤ m
 hi : m ≤ 9223372036854775807
end Go.Proofs.YtakncilicoefdaaGreatDoor
namespace Th
open Go Go.Lib
structure Tf where
 kind : Nat
 text : ByteArray
 at_ : Nat
deriving DecidableEq
def Ft : Tf := ⟨0, ⟨#[]⟩, 0⟩
def Ds : Bool → List UInt8 → Nat
 | _, [] => 0
 | b, c :: r => if b = true ∨ CQ c = true ∨ c = 35 then 1 + Ds (decide ((b = true ∨ c = 35) ∧ c ≠ 10)) r else 0
theorem MO : ∀ (b : Bool) (l : List UInt8), Ds b l ≤ l.length
 | _, [] => Nat.le_refl _
 | b, c :: r => by
  have := MO (decide ((b = true ∨ c = 35) ∧ c ≠ 10)) r; simp only [Ds, List.length_cons]; split <;> omega
def Bf (L : List UInt8) (a : Nat) : Nat := a + Ds false (L.drop a)
def qGo (L : List UInt8) (one : Nat → Tf × Nat × Nat) (from_ : Nat) : Nat → Nat → Nat → Nat × Nat
 | 0, _, _ => (from_, 20)
 | n + 1, 0, a => match L[a]? with
  | none => (from_, 20)
  | some c => if c = 34 then (a + 1, 0) else if c ≠ 92 then qGo L one from_ n 0 (a + 1) else if L[a + 1]? = some 40 then qGo L one from_ n 1 (a + 2) else qGo L one from_ n 0 (a + 2)
 | n + 1, o + 1, a => if (one a).2.2 ≠ 0 then ((one a).2.1, (one a).2.2) else if (one a).1.kind = 0 then (from_, 20)
  else qGo L one from_ n (if (one a).1.kind = 6 ∧ (one a).1.text = ⟨#[40]⟩ then o + 2 else if (one a).1.kind = 6 ∧ (one a).1.text = ⟨#[41]⟩ then o else o + 1) (one a).2.1
def Cf (L : List UInt8) (quote : Nat → Nat × Nat) (a : Nat) : Tf × Nat × Nat :=
 match L.drop a with
 | [] => (Ft, a, 0)
 | c :: r => if c = 34 then (if (quote a).2 ≠ 0 then (Ft, (quote a).1, (quote a).2) else (⟨5, ⟨((L.drop a).take ((quote a).1 - a)).toArray⟩, a⟩, (quote a).1, 0))
  else if (BA (c :: r)).1 = 0 then (Ft, a, 60)
  else (⟨(BA (c :: r)).1, ⟨(((c :: r).take (BA (c :: r)).2.2).drop (BA (c :: r)).2.1).toArray⟩, a⟩, a + (BA (c :: r)).2.2, 0)
def AQ (L : List UInt8) : Nat → Nat → Tf × Nat × Nat
 | 0, a => Cf L (fun f => (f, 31)) (Bf L a)
 | d + 1, a => Cf L (fun f => qGo L (AQ L d) f (L.length + 2) 0 (f + 1)) (Bf L a)
def Cu (L : List UInt8) : Nat → Nat → Nat × Nat
 | 0, f => (f, 31)
 | d + 1, f => qGo L (AQ L d) f (L.length + 2) 0 (f + 1)
theorem ED (L : List UInt8) (d a : Nat) : AQ L d a = Cf L (Cu L d) (Bf L a) := by
 cases d <;> rfl
def CE (L : List UInt8) : Nat → Nat → List Tf → List Tf × Nat × Nat
 | 0, _, acc => (acc, 0, 0)
 | n + 1, a, acc => if (AQ L 48 a).2.2 ≠ 0 then ([], (AQ L 48 a).2.1, (AQ L 48 a).2.2) else if (AQ L 48 a).1.kind = 0 then (acc, 0, 0) else CE L n (AQ L 48 a).2.1 (acc ++ [(AQ L 48 a).1])
def B5 (L : List UInt8) : List Tf × Nat × Nat := if 16384 < L.length then ([], 0, 3) else CE L (L.length + 1) 0 []
def DQ (one : Nat → Tf × Nat × Nat) : Nat → Nat → Nat → Nat
 | _, 0, a => a
 | 0, _, a => a
 | n + 1, o + 1, a => DQ one n (if (one a).1.kind = 6 ∧ (one a).1.text = ⟨#[40]⟩ then o + 2 else if (one a).1.kind = 6 ∧ (one a).1.text = ⟨#[41]⟩ then o else o + 1) (one a).2.1
structure PartsR where
 texts : List (List UInt8)
 filters : List (List UInt8)
 places : List Nat
def Im (L : List UInt8) (one : Nat → Tf × Nat × Nat) : Nat → Nat → Nat → PartsR → PartsR
 | 0, from_, _, r => { r with texts := r.texts ++ [(L.take (L.length - 1)).drop from_] }
 | n + 1, from_, a, r => if L.length - 1 ≤ a then { r with texts := r.texts ++ [(L.take (L.length - 1)).drop from_] }
  else if L[a]? ≠ some 92 then Im L one n from_ (a + 1) r
  else if L[a + 1]? ≠ some 40 then Im L one n from_ (a + 2) r
  else Im L one n (DQ one (L.length + 2) 1 (a + 2)) (DQ one (L.length + 2) 1 (a + 2))
   ⟨r.texts ++ [(L.take a).drop from_], r.filters ++ [(L.take (DQ one (L.length + 2) 1 (a + 2) - 1)).drop (a + 2)], r.places ++ [a + 2]⟩
def okQ (L : List UInt8) : Bool := decide (L.length ≤ 16384) && decide (L[0]? = some 34) && decide (Cu L 48 0 = (L.length, 0))
def NZ (L : List UInt8) : PartsR × Nat := if okQ L = true then (Im L (AQ L 47) (L.length + 1) 1 1 ⟨[], [], []⟩, 0) else (⟨[], [], []⟩, 20)
/-! laws -/
theorem Lc (l : List UInt8) : (BA l).2.2 ≤ l.length ∧ ((BA l).1 ≠ 0 → 1 ≤ (BA l).2.2) ∧ ((BA l).1 = 0 → (BA l).2.2 = 0) := by
 cases l with
 | nil => exact ⟨Nat.le_refl _, fun h => absurd rfl h, fun _ => rfl⟩
 | cons c r =>
  rcases FZ c r with ⟨h, _⟩ | ⟨k, n, h, h1, h2, h3, h4, h5, h6⟩
  ·rw [h]; exact ⟨Nat.zero_le _, fun h => absurd rfl h, fun _ => rfl⟩
  rw [h]; exact ⟨h4, fun _ => h2, fun h => absurd h h1⟩
structure OneOk (L : List UInt8) (a : Nat) (t : Tf × Nat × Nat) : Prop where
 fwd : t.2.2 = 0 → t.1.kind ≠ 0 → a < t.2.1
 ge : t.2.2 = 0 → a ≤ t.2.1
 le : t.2.1 ≤ L.length
 none_ : t.2.2 = 0 → t.1.kind = 0 → t.2.1 = L.length
 zero : t.2.2 ≠ 0 ∨ t.1.kind = 0 → t.1 = Ft
 sz : t.1.text.size ≤ L.length
 pl : t.1.at_ ≤ L.length
theorem D4 (L : List UInt8) (a : Nat) (h : a ≤ L.length) : a ≤ Bf L a ∧ Bf L a ≤ L.length := by
 have := MO false (L.drop a); rw [List.length_drop] at this; unfold Bf; omega
theorem QF (L : List UInt8) (one : Nat → Tf × Nat × Nat) (hone : ∀ a, a ≤ L.length → OneOk L a (one a)) (f : Nat) (hf : f < L.length) : ∀ (n o a : Nat), f < a → (0 < o → a ≤ L.length) →
  (qGo L one f n o a).1 ≤ L.length ∧ ((qGo L one f n o a).2 = 0 → f < (qGo L one f n o a).1) := by
 intro n; induction n with
 | zero => intro o a _ _; exact ⟨by simp only [qGo]; omega, fun h => by simp only [qGo] at h; omega⟩
 | succ n ih =>
  intro o a ha hl; cases o with
  | zero =>
   simp only [qGo]; cases hc : L[a]? with
   | none => exact ⟨by show f ≤ _; omega, fun h => by cases h⟩
   | some c =>
    have hlt : a < L.length := (List.getElem?_eq_some_iff.1 hc).1; show (if c = 34 then (a + 1, 0) else _ : Nat × Nat).1 ≤ _ ∧ _
    dsimp only; by_cases h34 : c = 34
    ·rw [if_pos h34]; exact ⟨by show a + 1 ≤ _; omega, fun _ => by show f < a + 1; omega⟩
    rw [if_neg h34]; by_cases h92 : c ≠ 92
    ·rw [if_pos h92]; exact ih 0 (a + 1) (by omega) (by omega)
    rw [if_neg h92]; by_cases h40 : L[a + 1]? = some 40
    ·rw [if_pos h40]; have := (List.getElem?_eq_some_iff.1 h40).1; exact ih 1 (a + 2) (by omega) (by omega)
    rw [if_neg h40]; exact ih 0 (a + 2) (by omega) (by omega)
  | succ o =>
   have h := hone a (hl (by omega)); simp only [qGo]; by_cases h1 : (one a).2.2 ≠ 0
   ·rw [if_pos h1]; exact ⟨h.le, fun h2 => absurd h2 h1⟩
   rw [if_neg h1]; by_cases h2 : (one a).1.kind = 0
   ·rw [if_pos h2]; exact ⟨by show f ≤ _; omega, fun h => by cases h⟩
   rw [if_neg h2]; have := h.fwd (by omega) h2; have := h.le; exact ih _ _ (by omega) (by omega)
theorem DE (l : List UInt8) : (⟨l.toArray⟩ : ByteArray).size = l.length := by simp [ByteArray.size]
theorem O9 (L : List UInt8) (quote : Nat → Nat × Nat) (hq : ∀ f, f < L.length → (quote f).1 ≤ L.length ∧ ((quote f).2 = 0 → f < (quote f).1)) (a b : Nat) (hab : a ≤ b) (hb : b ≤ L.length) : OneOk L a (Cf L quote b) := by
 unfold Cf; cases hd : L.drop b with
 | nil =>
  have : L.length ≤ b := List.drop_eq_nil_iff.1 hd; exact ⟨fun _ h => absurd rfl h, fun _ => hab, hb, fun _ _ => by show b = _; omega, fun _ => rfl, Nat.zero_le _, Nat.zero_le _⟩
 | cons c r =>
  have hlen : (c :: r).length = L.length - b := by rw [← hd, List.length_drop]
  rw [List.length_cons] at hlen; dsimp only; by_cases h34 : c = 34
  ·rw [if_pos h34]
   obtain ⟨h1, h2⟩ := hq b (by omega); by_cases h3 : (quote b).2 ≠ 0
   ·rw [if_pos h3]; exact ⟨fun h _ => absurd h h3, fun h => absurd h h3, h1, fun h _ => absurd h h3, fun _ => rfl, Nat.zero_le _, Nat.zero_le _⟩
   rw [if_neg h3]; have := h2 (by omega); refine ⟨fun _ _ => by show a < (quote b).1; omega, fun _ => by show a ≤ (quote b).1; omega, h1, fun _ h => (by cases h), fun h => ?_, ?_, hb⟩
   ·rcases h with h | h
    ·exact absurd rfl h
    cases h
   show (⟨_⟩ : ByteArray).size ≤ _
   rw [DE, List.length_take]; rw [List.length_cons]; omega
  rw [if_neg h34]; obtain ⟨h1, h2, h3⟩ := Lc (c :: r); rw [List.length_cons] at h1; by_cases h4 : (BA (c :: r)).1 = 0
  ·rw [if_pos h4]; exact ⟨fun h => (by cases h), fun h => (by cases h), hb, fun h => (by cases h), fun _ => rfl, Nat.zero_le _, Nat.zero_le _⟩
  rw [if_neg h4]; have := h2 h4; refine ⟨fun _ _ => by show a < b + _; omega, fun _ => by show a ≤ b + _; omega, by show b + _ ≤ _; omega, fun _ h => absurd h h4, fun h => ?_, ?_, hb⟩
  ·rcases h with h | h
   ·exact absurd rfl h
   exact absurd h h4
  show (⟨_⟩ : ByteArray).size ≤ _
  rw [DE, List.length_drop, List.length_take]; rw [List.length_cons]; omega
theorem Fc (L : List UInt8) : ∀ (d a : Nat), a ≤ L.length → OneOk L a (AQ L d a) := by
 intro d; induction d with
 | zero => intro a ha; obtain ⟨h1, h2⟩ := D4 L a ha; exact O9 L _ (fun f hf => ⟨Nat.le_of_lt hf, fun h => by cases h⟩) a _ h1 h2
 | succ d ih => intro a ha; obtain ⟨h1, h2⟩ := D4 L a ha; exact O9 L _ (fun f hf => QF L _ ih f hf _ 0 _ (by omega) (by omega)) a _ h1 h2
theorem L5 (L : List UInt8) (d f : Nat) (hf : f < L.length) : (Cu L d f).1 ≤ L.length ∧ ((Cu L d f).2 = 0 → f < (Cu L d f).1) := by
 cases d with
 | zero => exact ⟨Nat.le_of_lt hf, fun h => by cases h⟩
 | succ d => exact QF L _ (Fc L d) f hf _ 0 _ (by omega) (by omega)
end Th
namespace Go.Proofs.YtakncilicoefdaaGreatDoor
open Go Go.RowKit Go.Proofs Th
attribute [local go_sem] Above.cell Above.frozen
theorem Py (s : ByteArray) : (s.extract 1 s.size).data.toList = s.data.toList.drop 1 := by
 rw [Lib.extract_data, List.take_of_length_le]; simp
theorem GP (s : ByteArray) : (s.extract 1 s.size).size = s.size - 1 := by simp
def Ci (p : Int × Bool) : Value := .tuple #[.int .i64 p.1, .bool p.2]
def Bn (l : List UInt8) : Int × Bool := match DW l with | none => (0, false) | some (neg, u) => (sg neg (Bt u), true)
theorem Fb {p : Int × Bool} {a : Int} {c : Bool} (h : p = (a, c)) : Ending.returned (.tuple #[.int .i64 a, .bool c]) = .returned (Ci p) := by rw [h]; rfl
theorem V7 (c : UInt8) (l : List UInt8) (d : UInt8) : Lib.hasPrefix (c :: l) [d] = (d == c) := by simp [Lib.hasPrefix, List.isPrefixOf]
theorem Sl (d : UInt8) : Lib.hasPrefix [] [d] = false := rfl
theorem Vb (w : World) : Calls Tryz.prog 158 #[.string ⟨#[]⟩] w fun r w' => r = .returned (Ci (0, true)) ∧ Below w.heap.size w w' := by
 go_enter Tryz.func158, Tryz.ntmps158
 go_wp2
 go_ret2
 exact ⟨rfl, Below.refl _ _⟩
theorem QN (s : ByteArray) (hs0 : 0 < s.size) (h1 : (s[0].toNat : Int) ≠ 101) (h2 : (s[0].toNat : Int) ≠ 69) (w : World) : Calls Tryz.prog 158 #[.string s] w fun r w' => r = .returned (Ci (0, false)) ∧ Below w.heap.size w w' := by
 have h1' : ((s[0].toNat : Int) != 101) = true := by simpa using h1
 have h2' : ((s[0].toNat : Int) != 69) = true := by simpa using h2
 have he : s.toList.isEmpty = false := by
  have : s.toList.length = s.size := by simp [ByteArray.toList_eq]
  cases hh : s.toList with
  | nil => rw [hh] at this; simp at this; omega
  | cons _ _ => rfl
 clear h1 h2; go_enter Tryz.func158, Tryz.ntmps158
 go_wp2
 go_ret2
 exact ⟨rfl, Below.refl _ _⟩
theorem Dc {s : ByteArray} (h : 0 < s.size) : s.toList.isEmpty = false := by
 have : s.toList.length = s.size := by simp [ByteArray.toList_eq]
 cases hh : s.toList with
 | nil => rw [hh] at this; simp at this; omega
 | cons _ _ => rfl
theorem Uo (U : ByteArray) (h : AC U.data.toList = U.size) (k : Nat) (hk : k < U.size) : 48 ≤ U[k].toNat ∧ U[k].toNat ≤ 57 :=
 MK U.data.toList k (by simpa using hk) (by omega)
theorem GH (U : ByteArray) (k : Nat) (hk : k < U.size) : Bt (U.data.toList.take (k + 1)) = min (Bt (U.data.toList.take k) * 10 + dg U[k]) 1099511627776 := by
 rw [List.take_succ_eq_append_getElem (by simpa using hk), Oz]; rfl
theorem Qu (s : ByteArray) (hs : s.size ≤ 4611686018427387904) (hs0 : 0 < s.size) (h1 : ((s[0].toNat : Int) != 101) = false ∨ (((s[0].toNat : Int) != 101) = true ∧ ((s[0].toNat : Int) != 69) = false)) (T : ByteArray) (hT : s.extract 1 s.size = T) (U : ByteArray) (hU : T.extract 1 T.size = U) (hT1 : 0 < T.size) (hp : Lib.hasPrefix T.data.toList [45] = true) (hsz : U.size ≤ 9223372036854775807) (hn : ((AC U.data.toList : Int) == 0) = true ∨ (((AC U.data.toList : Int) == 0) = false ∧ (AC U.data.toList : Int) < U.size)) (HX : Keep (Bn s.data.toList = (0, false))) (w : World) :
  Calls Tryz.prog 158 #[.string s] w fun r w' => r = .returned (Ci (Bn s.data.toList)) ∧ Below w.heap.size w w' := by
 have he := Dc hs0; have HT := Keep.mk hT; clear hT; have HU := Keep.mk hU; clear hU; have BB0 := Below.refl w.heap.size w; rcases h1 with h1 | ⟨h1, h2⟩
 all_goals
  rcases hn with hn | ⟨hn, hn2⟩
 all_goals
  go_enter Tryz.func158, Tryz.ntmps158
  go_wp2_with fail
  rw [HT.out]; refine (hasPrefix T ⟨#[45]⟩ _).mono ?_; rw [hp]; rintro r w1 ⟨rfl, hb1⟩; go_wp2_with fail
  rw [HU.out]; have BB := hb1; go_wp2_with fail
  refine (A0 U hsz _).mono ?_; rintro r w9 ⟨rfl, hb9⟩; go_wp2
  go_ret2
  exact ⟨Fb HX.out, BB.trans (hb9.mono BB.size)⟩
theorem Wh (s : ByteArray) (hs : s.size ≤ 4611686018427387904) (hs0 : 0 < s.size) (h1 : ((s[0].toNat : Int) != 101) = false ∨ (((s[0].toNat : Int) != 101) = true ∧ ((s[0].toNat : Int) != 69) = false)) (T : ByteArray) (hT : s.extract 1 s.size = T) (U : ByteArray) (hU : T.extract 1 T.size = U) (hT1 : 0 < T.size) (hp : Lib.hasPrefix T.data.toList [45] = true) (hsz : U.size ≤ 9223372036854775807) (hn : ((AC U.data.toList : Int) == 0) = false) (hn2 : ¬ (AC U.data.toList : Int) < U.size) (HD : Keep (∀ k (hk : k < U.size), 48 ≤ U[k].toNat ∧ U[k].toNat ≤ 57)) (HX : Keep (Bn s.data.toList = (sg true (Bt U.data.toList), true))) (w : World) :
  Calls Tryz.prog 158 #[.string s] w fun r w' => r = .returned (Ci (Bn s.data.toList)) ∧ Below w.heap.size w w' := by
 have he := Dc hs0; have HT := Keep.mk hT; clear hT; have HU := Keep.mk hU; clear hU; have BB0 := Below.refl w.heap.size w; rcases h1 with h1 | ⟨h1, h2⟩
 all_goals
  go_enter Tryz.func158, Tryz.ntmps158
  go_wp2_with fail
  rw [HT.out]; refine (hasPrefix T ⟨#[45]⟩ _).mono ?_; rw [hp]; rintro r w1 ⟨rfl, hb1⟩; go_wp2_with fail
  rw [HU.out]; have BB := hb1; go_wp2_with fail
  refine (A0 U hsz _).mono ?_; rintro r w9 ⟨rfl, hb9⟩; go_wp2_with fail
  go_loop [6, 41] (fun e i => ∃ k : Nat, k ≤ U.size ∧ i = .int .i64 k ∧ e = .int .i64 (Bt (U.data.toList.take k))) (fun _ i => U.size - (intOf i).toNat)
  case atStart => exact ⟨0, Nat.zero_le _, rfl, rfl⟩
  case round =>
   obtain ⟨k, hk, rfl, rfl⟩ := hrel; have hcl := ES (U.data.toList.take k); by_cases hlt : k < U.size
   ·have hdk := HD.out k hlt
    obtain ⟨hd1, hd2⟩ := hdk; have HS := Keep.mk (GH U k hlt); go_wp2
    refine ⟨⟨k + 1, by omega, by go_num, ?_⟩, by simp [intOf]; omega⟩; rw [HS.out]; congr 1; unfold dg; omega
   have hk2 : k = U.size := by omega
   have HS := Keep.mk (show U.data.toList.take k = U.data.toList by rw [List.take_of_length_le]; simp; omega); clear hk2; go_wp2
   go_ret2
   exact ⟨Fb (by rw [HX.out, HS.out]; rfl), BB.trans (hb9.mono BB.size)⟩
theorem Rw (s : ByteArray) (hs : s.size ≤ 4611686018427387904) (hs0 : 0 < s.size) (h1 : ((s[0].toNat : Int) != 101) = false ∨ (((s[0].toNat : Int) != 101) = true ∧ ((s[0].toNat : Int) != 69) = false)) (T : ByteArray) (hT : s.extract 1 s.size = T) (U : ByteArray) (hU : T.extract 1 T.size = U) (hT1 : 0 < T.size) (hp : Lib.hasPrefix T.data.toList [45] = false) (hp2 : Lib.hasPrefix T.data.toList [43] = true) (hsz : U.size ≤ 9223372036854775807) (hn : ((AC U.data.toList : Int) == 0) = true ∨ (((AC U.data.toList : Int) == 0) = false ∧ (AC U.data.toList : Int) < U.size)) (HX : Keep (Bn s.data.toList = (0, false))) (w : World) :
  Calls Tryz.prog 158 #[.string s] w fun r w' => r = .returned (Ci (Bn s.data.toList)) ∧ Below w.heap.size w w' := by
 have he := Dc hs0; have HT := Keep.mk hT; clear hT; have HU := Keep.mk hU; clear hU; have BB0 := Below.refl w.heap.size w; rcases h1 with h1 | ⟨h1, h2⟩
 all_goals
  rcases hn with hn | ⟨hn, hn2⟩
 all_goals
  go_enter Tryz.func158, Tryz.ntmps158
  go_wp2_with fail
  rw [HT.out]; refine (hasPrefix T ⟨#[45]⟩ _).mono ?_; rw [hp]; rintro r w1 ⟨rfl, hb1⟩; go_wp2_with fail
  refine (hasPrefix T ⟨#[43]⟩ _).mono ?_; rw [hp2]; rintro r w2 ⟨rfl, hb2⟩; have BB := hb1.trans (hb2.mono hb1.size); go_wp2_with fail
  rw [HU.out]; go_wp2_with fail
  refine (A0 U hsz _).mono ?_; rintro r w9 ⟨rfl, hb9⟩; go_wp2
  go_ret2
  exact ⟨Fb HX.out, BB.trans (hb9.mono BB.size)⟩
theorem VS (s : ByteArray) (hs : s.size ≤ 4611686018427387904) (hs0 : 0 < s.size) (h1 : ((s[0].toNat : Int) != 101) = false ∨ (((s[0].toNat : Int) != 101) = true ∧ ((s[0].toNat : Int) != 69) = false)) (T : ByteArray) (hT : s.extract 1 s.size = T) (U : ByteArray) (hU : T.extract 1 T.size = U) (hT1 : 0 < T.size) (hp : Lib.hasPrefix T.data.toList [45] = false) (hp2 : Lib.hasPrefix T.data.toList [43] = true) (hsz : U.size ≤ 9223372036854775807) (hn : ((AC U.data.toList : Int) == 0) = false) (hn2 : ¬ (AC U.data.toList : Int) < U.size) (HD : Keep (∀ k (hk : k < U.size), 48 ≤ U[k].toNat ∧ U[k].toNat ≤ 57)) (HX : Keep (Bn s.data.toList = (sg false (Bt U.data.toList), true))) (w : World) :
  Calls Tryz.prog 158 #[.string s] w fun r w' => r = .returned (Ci (Bn s.data.toList)) ∧ Below w.heap.size w w' := by
 have he := Dc hs0; have HT := Keep.mk hT; clear hT; have HU := Keep.mk hU; clear hU; have BB0 := Below.refl w.heap.size w; rcases h1 with h1 | ⟨h1, h2⟩
 all_goals
  go_enter Tryz.func158, Tryz.ntmps158
  go_wp2_with fail
  rw [HT.out]; refine (hasPrefix T ⟨#[45]⟩ _).mono ?_; rw [hp]; rintro r w1 ⟨rfl, hb1⟩; go_wp2_with fail
  refine (hasPrefix T ⟨#[43]⟩ _).mono ?_; rw [hp2]; rintro r w2 ⟨rfl, hb2⟩; have BB := hb1.trans (hb2.mono hb1.size); go_wp2_with fail
  rw [HU.out]; go_wp2_with fail
  refine (A0 U hsz _).mono ?_; rintro r w9 ⟨rfl, hb9⟩; go_wp2_with fail
  go_loop [6, 41] (fun e i => ∃ k : Nat, k ≤ U.size ∧ i = .int .i64 k ∧ e = .int .i64 (Bt (U.data.toList.take k))) (fun _ i => U.size - (intOf i).toNat)
  case atStart => exact ⟨0, Nat.zero_le _, rfl, rfl⟩
  case round =>
   obtain ⟨k, hk, rfl, rfl⟩ := hrel; have hcl := ES (U.data.toList.take k); by_cases hlt : k < U.size
   ·have hdk := HD.out k hlt
    obtain ⟨hd1, hd2⟩ := hdk; have HS := Keep.mk (GH U k hlt); go_wp2
    refine ⟨⟨k + 1, by omega, by go_num, ?_⟩, by simp [intOf]; omega⟩; rw [HS.out]; congr 1; unfold dg; omega
   have hk2 : k = U.size := by omega
   have HS := Keep.mk (show U.data.toList.take k = U.data.toList by rw [List.take_of_length_le]; simp; omega); clear hk2; go_wp2
   go_ret2
   exact ⟨Fb (by rw [HX.out, HS.out]; rfl), BB.trans (hb9.mono BB.size)⟩
theorem RQ (s : ByteArray) (hs : s.size ≤ 4611686018427387904) (hs0 : 0 < s.size) (h1 : ((s[0].toNat : Int) != 101) = false ∨ (((s[0].toNat : Int) != 101) = true ∧ ((s[0].toNat : Int) != 69) = false)) (T : ByteArray) (hT : s.extract 1 s.size = T) (hp : Lib.hasPrefix T.data.toList [45] = false) (hp2 : Lib.hasPrefix T.data.toList [43] = false) (hsz : T.size ≤ 9223372036854775807) (hn : ((AC T.data.toList : Int) == 0) = true ∨ (((AC T.data.toList : Int) == 0) = false ∧ (AC T.data.toList : Int) < T.size)) (HX : Keep (Bn s.data.toList = (0, false))) (w : World) :
  Calls Tryz.prog 158 #[.string s] w fun r w' => r = .returned (Ci (Bn s.data.toList)) ∧ Below w.heap.size w w' := by
 have he := Dc hs0; have HT := Keep.mk hT; clear hT; have BB0 := Below.refl w.heap.size w; rcases h1 with h1 | ⟨h1, h2⟩
 all_goals
  rcases hn with hn | ⟨hn, hn2⟩
 all_goals
  go_enter Tryz.func158, Tryz.ntmps158
  go_wp2_with fail
  rw [HT.out]; refine (hasPrefix T ⟨#[45]⟩ _).mono ?_; rw [hp]; rintro r w1 ⟨rfl, hb1⟩; go_wp2_with fail
  refine (hasPrefix T ⟨#[43]⟩ _).mono ?_; rw [hp2]; rintro r w2 ⟨rfl, hb2⟩; have BB := hb1.trans (hb2.mono hb1.size); go_wp2_with fail
  refine (A0 T hsz _).mono ?_; rintro r w9 ⟨rfl, hb9⟩; go_wp2
  go_ret2
  exact ⟨Fb HX.out, BB.trans (hb9.mono BB.size)⟩
theorem Vz (s : ByteArray) (hs : s.size ≤ 4611686018427387904) (hs0 : 0 < s.size) (h1 : ((s[0].toNat : Int) != 101) = false ∨ (((s[0].toNat : Int) != 101) = true ∧ ((s[0].toNat : Int) != 69) = false)) (T : ByteArray) (hT : s.extract 1 s.size = T) (hp : Lib.hasPrefix T.data.toList [45] = false) (hp2 : Lib.hasPrefix T.data.toList [43] = false) (hsz : T.size ≤ 9223372036854775807) (hn : ((AC T.data.toList : Int) == 0) = false) (hn2 : ¬ (AC T.data.toList : Int) < T.size) (HD : Keep (∀ k (hk : k < T.size), 48 ≤ T[k].toNat ∧ T[k].toNat ≤ 57)) (HX : Keep (Bn s.data.toList = (sg false (Bt T.data.toList), true))) (w : World) :
  Calls Tryz.prog 158 #[.string s] w fun r w' => r = .returned (Ci (Bn s.data.toList)) ∧ Below w.heap.size w w' := by
 have he := Dc hs0; have HT := Keep.mk hT; clear hT; have BB0 := Below.refl w.heap.size w; rcases h1 with h1 | ⟨h1, h2⟩
 all_goals
  go_enter Tryz.func158, Tryz.ntmps158
  go_wp2_with fail
  rw [HT.out]; refine (hasPrefix T ⟨#[45]⟩ _).mono ?_; rw [hp]; rintro r w1 ⟨rfl, hb1⟩; go_wp2_with fail
  refine (hasPrefix T ⟨#[43]⟩ _).mono ?_; rw [hp2]; rintro r w2 ⟨rfl, hb2⟩; have BB := hb1.trans (hb2.mono hb1.size); go_wp2_with fail
  refine (A0 T hsz _).mono ?_; rintro r w9 ⟨rfl, hb9⟩; go_wp2_with fail
  go_loop [6, 41] (fun e i => ∃ k : Nat, k ≤ T.size ∧ i = .int .i64 k ∧ e = .int .i64 (Bt (T.data.toList.take k))) (fun _ i => T.size - (intOf i).toNat)
  case atStart => exact ⟨0, Nat.zero_le _, rfl, rfl⟩
  case round =>
   obtain ⟨k, hk, rfl, rfl⟩ := hrel; have hcl := ES (T.data.toList.take k); by_cases hlt : k < T.size
   ·have hdk := HD.out k hlt
    obtain ⟨hd1, hd2⟩ := hdk; have HS := Keep.mk (GH T k hlt); go_wp2
    refine ⟨⟨k + 1, by omega, by go_num, ?_⟩, by simp [intOf]; omega⟩; rw [HS.out]; congr 1; unfold dg; omega
   have hk2 : k = T.size := by omega
   have HS := Keep.mk (show T.data.toList.take k = T.data.toList by rw [List.take_of_length_le]; simp; omega); clear hk2; go_wp2
   go_ret2
   exact ⟨Fb (by rw [HX.out, HS.out]; rfl), BB.trans (hb9.mono BB.size)⟩
theorem Gi {l : List UInt8} {c : UInt8} (h : Lib.hasPrefix l [c] = true) : l = c :: l.drop 1 := by
 cases l with
 | nil => simp [Sl] at h
 | cons d l => rw [V7] at h; simp at h; simp [h]
theorem K4 {d : UInt8} {l : List UInt8} {c : UInt8} (h : Lib.hasPrefix (d :: l) [c] = false) : d ≠ c := by
 rw [V7] at h; simp at h; exact fun hh => h hh.symm
def EV (neg : Bool) (u : List UInt8) : Int × Bool := if AC u = 0 ∨ AC u < u.length then (0, false) else (sg neg (Bt u), true)
theorem KI (neg : Bool) (u : List UInt8) : (match Nh neg u with | none => ((0, false) : Int × Bool) | some (neg, u) => (sg neg (Bt u), true)) = EV neg u := by
 unfold EV Nh; split <;> rename_i h <;> split at h <;> simp_all
theorem QL {c : UInt8} (hc : c = 101 ∨ c = 69) (u : List UInt8) : Bn (c :: 45 :: u) = EV true u := by
 rw [← KI]; unfold Bn DW; simp [hc]
theorem Q3 {c : UInt8} (hc : c = 101 ∨ c = 69) (u : List UInt8) : Bn (c :: 43 :: u) = EV false u := by
 rw [← KI]; unfold Bn DW; simp [hc]
theorem PU {c : UInt8} (hc : c = 101 ∨ c = 69) (t : List UInt8) (h1 : Lib.hasPrefix t [45] = false) (h2 : Lib.hasPrefix t [43] = false) : Bn (c :: t) = EV false t := by
 rw [← KI]; unfold Bn DW; cases t with
 | nil => simp [hc]
 | cons d t =>
  have g1 := K4 h1; have g2 := K4 h2; simp [hc, g1, g2]
theorem Fe {neg : Bool} {u : List UInt8} (h : AC u = 0 ∨ AC u < u.length) : EV neg u = (0, false) := by unfold EV; rw [if_pos h]
theorem I8 {neg : Bool} {u : List UInt8} (h1 : ¬ AC u = 0) (h2 : ¬ AC u < u.length) : EV neg u = (sg neg (Bt u), true) := by unfold EV; rw [if_neg (by omega)]
theorem Co (s : ByteArray) (hs : s.size ≤ 4611686018427387904) (w : World) :
  Calls Tryz.prog 158 #[.string s] w fun r w' => r = .returned (Ci (Bn s.data.toList)) ∧ Below w.heap.size w w' := by
 by_cases hs0 : 0 < s.size
 case neg =>
  have : s = ⟨#[]⟩ := by
   obtain ⟨⟨l⟩⟩ := s; have : l = [] := by cases l with | nil => rfl | cons _ _ => simp [ByteArray.size] at hs0
   rw [this]
  subst this; exact Vb w
 have hl : s.data.toList = s[0] :: s.data.toList.drop 1 := by
  have hlen : 0 < s.data.toList.length := by simpa using hs0
  have := List.drop_eq_getElem_cons hlen; rw [List.drop_zero] at this; exact this
 by_cases hc : s[0] = 101 ∨ s[0] = 69
 case neg =>
  have hr : Bn s.data.toList = (0, false) := by
   rw [hl]; unfold Bn DW; simp [hc]
  have q := QN s hs0 (fun h => hc (.inl (UInt8.toNat.inj (by simpa using (by exact_mod_cast h : s[0].toNat = 101))))) (fun h => hc (.inr (UInt8.toNat.inj (by simpa using (by exact_mod_cast h : s[0].toNat = 69))))) w; rw [← hr] at q; exact q
 have h1 : ((s[0].toNat : Int) != 101) = false ∨ (((s[0].toNat : Int) != 101) = true ∧ ((s[0].toNat : Int) != 69) = false) := by
  rcases hc with hc | hc <;> rw [hc] <;> decide
 generalize hT : s.extract 1 s.size = T; have hTl : T.data.toList = s.data.toList.drop 1 := by rw [← hT, Py]
 have hTs : T.size = s.size - 1 := by rw [← hT, GP]
 rw [← hTl] at hl; have hlen : T.data.toList.length = T.size := by simp
 have key (U : ByteArray) (neg : Bool) : ((AC U.data.toList : Int) == 0) = true ∨ (((AC U.data.toList : Int) == 0) = false ∧ (AC U.data.toList : Int) < U.size) ∨ (((AC U.data.toList : Int) == 0) = false ∧ ¬ (AC U.data.toList : Int) < U.size) := by
  cases h : ((AC U.data.toList : Int) == 0)
  ·by_cases h2 : (AC U.data.toList : Int) < U.size
   ·exact .inr (.inl ⟨rfl, h2⟩)
   exact .inr (.inr ⟨rfl, h2⟩)
  exact .inl rfl
 have zero (U : ByteArray) (h : ((AC U.data.toList : Int) == 0) = true) : AC U.data.toList = 0 := by simpa using h
 have nzero (U : ByteArray) (h : ((AC U.data.toList : Int) == 0) = false) : ¬ AC U.data.toList = 0 := by simpa using h
 have less (U : ByteArray) (h : (AC U.data.toList : Int) < U.size) : AC U.data.toList < U.data.toList.length := by simpa using h
 have nless (U : ByteArray) (h : ¬ (AC U.data.toList : Int) < U.size) : ¬ AC U.data.toList < U.data.toList.length := by simpa using h
 have dgt (U : ByteArray) (h : ¬ (AC U.data.toList : Int) < U.size) : Keep (∀ k (hk : k < U.size), 48 ≤ U[k].toNat ∧ U[k].toNat ≤ 57) := by
  refine ⟨fun k hk => Uo U ?_ k hk⟩; have := KF U.data.toList; have := nless U h; simp at *; omega
 by_cases hp : Lib.hasPrefix T.data.toList [45] = true
 ·have hT1 : 0 < T.size := by
   have := congrArg List.length (Gi hp); simp at this; omega
  generalize hU : T.extract 1 T.size = U; have hUl : U.data.toList = T.data.toList.drop 1 := by rw [← hU, Py]
  have hUs : U.size = T.size - 1 := by rw [← hU, GP]
  have hX : Bn s.data.toList = EV true U.data.toList := by rw [hl, Gi hp, ← hUl]; exact QL hc _
  have hsz : U.size ≤ 9223372036854775807 := by omega
  rcases key U true with h | h | h
  ·exact Qu s hs hs0 h1 T hT U hU hT1 hp hsz (.inl h) ⟨by rw [hX, Fe (.inl (zero U h))]⟩ w
  ·exact Qu s hs hs0 h1 T hT U hU hT1 hp hsz (.inr h) ⟨by rw [hX, Fe (.inr (less U h.2))]⟩ w
  exact Wh s hs hs0 h1 T hT U hU hT1 hp hsz h.1 h.2 (dgt U h.2) ⟨by rw [hX, I8 (nzero U h.1) (nless U h.2)]⟩ w
 have hp : Lib.hasPrefix T.data.toList [45] = false := by simpa using hp
 by_cases hp2 : Lib.hasPrefix T.data.toList [43] = true
 ·have hT1 : 0 < T.size := by
   have := congrArg List.length (Gi hp2); simp at this; omega
  generalize hU : T.extract 1 T.size = U; have hUl : U.data.toList = T.data.toList.drop 1 := by rw [← hU, Py]
  have hUs : U.size = T.size - 1 := by rw [← hU, GP]
  have hX : Bn s.data.toList = EV false U.data.toList := by rw [hl, Gi hp2, ← hUl]; exact Q3 hc _
  have hsz : U.size ≤ 9223372036854775807 := by omega
  rcases key U true with h | h | h
  ·exact Rw s hs hs0 h1 T hT U hU hT1 hp hp2 hsz (.inl h) ⟨by rw [hX, Fe (.inl (zero U h))]⟩ w
  ·exact Rw s hs hs0 h1 T hT U hU hT1 hp hp2 hsz (.inr h) ⟨by rw [hX, Fe (.inr (less U h.2))]⟩ w
  exact VS s hs hs0 h1 T hT U hU hT1 hp hp2 hsz h.1 h.2 (dgt U h.2) ⟨by rw [hX, I8 (nzero U h.1) (nless U h.2)]⟩ w
 have hp2 : Lib.hasPrefix T.data.toList [43] = false := by simpa using hp2
 have hX : Bn s.data.toList = EV false T.data.toList := by rw [hl]; exact PU hc _ hp hp2
 have hsz : T.size ≤ 9223372036854775807 := by omega
 rcases key T true with h | h | h
 ·exact RQ s hs hs0 h1 T hT hp hp2 hsz (.inl h) ⟨by rw [hX, Fe (.inl (zero T h))]⟩ w
 ·exact RQ s hs hs0 h1 T hT hp hp2 hsz (.inr h) ⟨by rw [hX, Fe (.inr (less T h.2))]⟩ w
 exact Vz s hs hs0 h1 T hT hp hp2 hsz h.1 h.2 (dgt T h.2) ⟨by rw [hX, I8 (nzero T h.1) (nless T h.2)]⟩ w
open Go Go.RowKit Go.Proofs Th
theorem Nf (T : ByteArray) (h : ∀ k (hk : k < T.size), 48 ≤ T[k].toNat ∧ T[k].toNat ≤ 57) (k : Nat) (hk : k < T.size) (h18 : T.size ≤ 18) :
  val (dgs (T.data.toList.take (k + 1))) = val (dgs (T.data.toList.take k)) * 10 + (T[k].toNat - 48) ∧ val (dgs (T.data.toList.take k)) ≤ 99999999999999999 := by
 constructor
 ·rw [List.take_succ_eq_append_getElem (by simpa using hk)]
  unfold dgs; rw [List.map_append]; exact D2 _ _
 have hd : Digs (dgs (T.data.toList.take k)) := by
  intro d hd; obtain ⟨c, hc, rfl⟩ := List.mem_map.1 hd; obtain ⟨j, hj, rfl⟩ := List.getElem_of_mem (List.mem_of_mem_take hc); have := h j (by simpa using hj); show T.data.toList[j].toNat - 48 ≤ 9
  have e : T.data.toList[j] = T[j]'(by simpa using hj) := rfl; rw [e]; omega
 have := Hw _ hd; have hl : (dgs (T.data.toList.take k)).length ≤ 17 := by
  unfold dgs; simp; omega
 have := Nat.pow_le_pow_right (n := 10) (by omega) hl; omega
theorem QZ (T : ByteArray) (h : ∀ k (hk : k < T.size), 48 ≤ T[k].toNat ∧ T[k].toNat ≤ 57) (h18 : T.size ≤ 18) : val (dgs T.data.toList) ≤ 999999999999999999 := by
 have hd : Digs (dgs T.data.toList) := by
  intro d hd; obtain ⟨c, hc, rfl⟩ := List.mem_map.1 hd; obtain ⟨j, hj, rfl⟩ := List.getElem_of_mem hc; have := h j (by simpa using hj); show T.data.toList[j].toNat - 48 ≤ 9
  have e : T.data.toList[j] = T[j]'(by simpa using hj) := rfl; rw [e]; omega
 have := Hw _ hd; have hl : (dgs T.data.toList).length ≤ 18 := by
  unfold dgs; simp; omega
 have := Nat.pow_le_pow_right (n := 10) (by omega) hl; omega
theorem Tj (s : ByteArray) (hs : s.size ≤ 2305843009213693952) (hp : Lib.hasPrefix s.data.toList [45] = false) (d : Nat) (hd : AC s.data.toList = d) (hz0 : ((d : Int) == 0) = true) (w : World) (_hg : Glob w) :
  Calls Tryz.prog 150 #[.string s] w fun r w' => r = .returned (AA ((0, 0), 10)) ∧ Below w.heap.size w w' := by
 go_enter Tryz.func150, Tryz.ntmps150
 go_wp2_with fail
 refine (hasPrefix s ⟨#[45]⟩ _).mono ?_; rw [hp]; rintro r w1 ⟨rfl, hb1⟩; obtain ⟨hc, hf⟩ := An hb1; go_wp2_with fail
 refine (A0 s (by omega) _).mono ?_; rw [hd]; rintro r w2 ⟨rfl, hb2'⟩; have hb2 := up hb1 hb2'; clear hc hf; obtain ⟨hc, hf⟩ := An hb2; go_wp2_with fail
 refine (Cr _).mono ?_; rintro r w3 ⟨rfl, hb3'⟩; have hb3 := up hb2 hb3'; clear hc hf; obtain ⟨hc, hf⟩ := An hb3; go_wp2
 refine bodyPost_ret (v := AA ((0, 0), 10)) ?_ rfl ⟨rfl, ?_⟩
 ·simp [AA, results, Tryz.results150, go_sem, hc]
 exact st1 (st1 (up (al1 _ _) hb3) _ _ _ (by omega)) _ _ _ (by omega)
theorem TS (s : ByteArray) (hs : s.size ≤ 2305843009213693952) (hp : Lib.hasPrefix s.data.toList [45] = false) (d : Nat) (hd : AC s.data.toList = d) (h1 : d ≤ s.size) (hz0 : ((d : Int) == 0) = false) (hz : 1 < d) (hu : (((s[0]'(by omega)).toNat : Int) == 48) = true) (w : World) (_hg : Glob w) :
  Calls Tryz.prog 150 #[.string s] w fun r w' => r = .returned (AA ((0, 0), 10)) ∧ Below w.heap.size w w' := by
 go_enter Tryz.func150, Tryz.ntmps150
 go_wp2_with fail
 refine (hasPrefix s ⟨#[45]⟩ _).mono ?_; rw [hp]; rintro r w1 ⟨rfl, hb1⟩; obtain ⟨hc, hf⟩ := An hb1; go_wp2_with fail
 refine (A0 s (by omega) _).mono ?_; rw [hd]; rintro r w2 ⟨rfl, hb2'⟩; have hb2 := up hb1 hb2'; clear hc hf; obtain ⟨hc, hf⟩ := An hb2; go_wp2_with fail
 refine (Cr _).mono ?_; rintro r w3 ⟨rfl, hb3'⟩; have hb3 := up hb2 hb3'; clear hc hf; obtain ⟨hc, hf⟩ := An hb3; go_wp2
 refine bodyPost_ret (v := AA ((0, 0), 10)) ?_ rfl ⟨rfl, ?_⟩
 ·simp [AA, results, Tryz.results150, go_sem, hc]
 exact st1 (st1 (up (al1 _ _) hb3) _ _ _ (by omega)) _ _ _ (by omega)
theorem Tw (s : ByteArray) (hs : s.size ≤ 2305843009213693952) (hp : Lib.hasPrefix s.data.toList [45] = false) (d : Nat) (hd : AC s.data.toList = d) (h1 : d ≤ s.size) (h01 : 1 ≤ d) (hz0 : ((d : Int) == 0) = false) (hz : ¬ 1 < d ∨ (1 < d ∧ (((s[0]'(by omega)).toNat : Int) == 48) = false)) (A R : ByteArray) (hA : s.extract 0 d = A) (hR : s.extract d s.size = R) (_hAs : A.size ≤ 2305843009213693952) (hRs : R.size ≤ 2305843009213693952) (hr : Lib.hasPrefix R.data.toList [46] = true) (hR1 : 0 < R.size) (S : ByteArray) (hS : R.extract 1 R.size = S) (hSs : S.size ≤ 2305843009213693952) (f : Nat) (hf0 : AC S.data.toList = f) (_hff : f + 1 ≤ R.size) (hf1 : ((f : Int) == 0) = true) (w : World) (_hg : Glob w) :
  Calls Tryz.prog 150 #[.string s] w fun r w' => r = .returned (AA ((0, 0), 10)) ∧ Below w.heap.size w w' := by
 have HA := Keep.mk hA; have HR := Keep.mk hR; clear hA hR; have HS := Keep.mk hS; clear hS; rcases hz with hz | ⟨hz, hu⟩
 all_goals
  go_enter Tryz.func150, Tryz.ntmps150
  go_wp2_with fail
  refine (hasPrefix s ⟨#[45]⟩ _).mono ?_; rw [hp]; rintro r w1 ⟨rfl, hb1⟩; obtain ⟨hc, hf⟩ := An hb1; go_wp2_with fail
  refine (A0 s (by omega) _).mono ?_; rw [hd]; rintro r w2 ⟨rfl, hb2'⟩; have hb2 := up hb1 hb2'; clear hc hf; obtain ⟨hc, hf⟩ := An hb2; go_wp2_with fail
  refine AR hb2 (by kernel_rfl) (by kernel_rfl) ?_; repeat (go_big_quiet_step (fail))
  refine wpQuiet_nil ?_; rintro _ ⟨x3, rfl⟩; have hb3 := x3.property; clear hc hf; obtain ⟨hc, hf⟩ := An hb3; go_wp2_with fail
  rw [HR.out]; go_wp2_with fail
  refine (hasPrefix R ⟨#[46]⟩ _).mono ?_; rw [hr]; rintro r w4 ⟨rfl, hb4'⟩; have hb4 := up hb3 hb4'; clear hc hf; obtain ⟨hc, hf⟩ := An hb4; go_wp2_with fail
  rw [HS.out]; go_wp2_with fail
  refine (A0 S (by omega) _).mono ?_; rw [hf0]; rintro r w5 ⟨rfl, hb5'⟩; have hb5 := up hb4 hb5'; clear hc hf; obtain ⟨hc, hf⟩ := An hb5; go_wp2_with fail
  refine (Cr _).mono ?_; rintro r w6 ⟨rfl, hb6'⟩; have hb6 := up hb5 hb6'; clear hc hf; obtain ⟨hc, hf⟩ := An hb6; go_wp2
  refine bodyPost_ret (v := AA ((0, 0), 10)) ?_ rfl ⟨rfl, ?_⟩
  ·simp [AA, results, Tryz.results150, go_sem, hc]
  exact st1 (st1 (up (al1 _ _) hb6) _ _ _ (by omega)) _ _ _ (by omega)
theorem Tn (s : ByteArray) (hs : s.size ≤ 2305843009213693952) (hp : Lib.hasPrefix s.data.toList [45] = false) (d : Nat) (hd : AC s.data.toList = d) (h1 : d ≤ s.size) (h01 : 1 ≤ d) (hz0 : ((d : Int) == 0) = false) (hz : ¬ 1 < d ∨ (1 < d ∧ (((s[0]'(by omega)).toNat : Int) == 48) = false)) (A R : ByteArray) (hA : s.extract 0 d = A) (hR : s.extract d s.size = R) (_hAs : A.size ≤ 2305843009213693952) (hRs : R.size ≤ 2305843009213693952) (hr : Lib.hasPrefix R.data.toList [46] = false) (e : Int) (he : Bn R.data.toList = (e, false)) (_he0 : -1099511627776 ≤ e) (_he1 : e ≤ 1099511627776) (w : World) (_hg : Glob w) :
  Calls Tryz.prog 150 #[.string s] w fun r w' => r = .returned (AA ((0, 0), 10)) ∧ Below w.heap.size w w' := by
 have HA := Keep.mk hA; have HR := Keep.mk hR; clear hA hR; rcases hz with hz | ⟨hz, hu⟩
 all_goals
  go_enter Tryz.func150, Tryz.ntmps150
  go_wp2_with fail
  refine (hasPrefix s ⟨#[45]⟩ _).mono ?_; rw [hp]; rintro r w1 ⟨rfl, hb1⟩; obtain ⟨hc, hf⟩ := An hb1; go_wp2_with fail
  refine (A0 s (by omega) _).mono ?_; rw [hd]; rintro r w2 ⟨rfl, hb2'⟩; have hb2 := up hb1 hb2'; clear hc hf; obtain ⟨hc, hf⟩ := An hb2; go_wp2_with fail
  refine AR hb2 (by kernel_rfl) (by kernel_rfl) ?_; repeat (go_big_quiet_step (fail))
  refine wpQuiet_nil ?_; rintro _ ⟨x3, rfl⟩; have hb3 := x3.property; clear hc hf; obtain ⟨hc, hf⟩ := An hb3; go_wp2_with fail
  rw [HR.out]; go_wp2_with fail
  refine (hasPrefix R ⟨#[46]⟩ _).mono ?_; rw [hr]; rintro r w4 ⟨rfl, hb4'⟩; have hb4 := up hb3 hb4'; clear hc hf; obtain ⟨hc, hf⟩ := An hb4; go_wp2_with fail
  rw [HA.out]; go_wp2_with fail
  refine (Co R (by omega) _).mono ?_; rw [he]; unfold Ci; rintro r w5 ⟨rfl, hb5'⟩; have hb5 := up hb4 hb5'; clear hc hf; obtain ⟨hc, hf⟩ := An hb5; go_wp2_with fail
  refine (Cr _).mono ?_; rintro r w6 ⟨rfl, hb6'⟩; have hb6 := up hb5 hb6'; clear hc hf; obtain ⟨hc, hf⟩ := An hb6; go_wp2
  refine bodyPost_ret (v := AA ((0, 0), 10)) ?_ rfl ⟨rfl, ?_⟩
  ·simp [AA, results, Tryz.results150, go_sem, hc]
  exact st1 (st1 (up (al1 _ _) hb6) _ _ _ (by omega)) _ _ _ (by omega)
theorem QK (s : ByteArray) (hs : s.size ≤ 2305843009213693952) (hp : Lib.hasPrefix s.data.toList [45] = false) (d : Nat) (hd : AC s.data.toList = d) (h1 : d ≤ s.size) (h01 : 1 ≤ d) (hz0 : ((d : Int) == 0) = false) (hz : ¬ 1 < d ∨ (1 < d ∧ (((s[0]'(by omega)).toNat : Int) == 48) = false)) (A R : ByteArray) (hA : s.extract 0 d = A) (hR : s.extract d s.size = R) (_hAs : A.size ≤ 2305843009213693952) (hRs : R.size ≤ 2305843009213693952) (hr : Lib.hasPrefix R.data.toList [46] = true) (hR1 : 0 < R.size) (S : ByteArray) (hS : R.extract 1 R.size = S) (hSs : S.size ≤ 2305843009213693952) (f : Nat) (hf0 : AC S.data.toList = f) (hff : f + 1 ≤ R.size) (hf1 : ((f : Int) == 0) = false) (A2 R2 : ByteArray) (hA2 : A ++ R.extract 1 (1 + f) = A2) (hR2 : R.extract (1 + f) R.size = R2) (_hA2s : A2.size ≤ 2305843009213693952) (hR2s : R2.size ≤ 2305843009213693952) (e : Int) (he : Bn R2.data.toList = (e, false)) (_he0 : -1099511627776 ≤ e) (_he1 : e ≤ 1099511627776) (w : World) (_hg : Glob w) :
  Calls Tryz.prog 150 #[.string s] w fun r w' => r = .returned (AA ((0, 0), 10)) ∧ Below w.heap.size w w' := by
 have HA := Keep.mk hA; have HR := Keep.mk hR; clear hA hR; have HS := Keep.mk hS; clear hS; have HA2 := Keep.mk hA2; have HR2 := Keep.mk hR2; clear hA2 hR2; rcases hz with hz | ⟨hz, hu⟩
 all_goals
  go_enter Tryz.func150, Tryz.ntmps150
  go_wp2_with fail
  refine (hasPrefix s ⟨#[45]⟩ _).mono ?_; rw [hp]; rintro r w1 ⟨rfl, hb1⟩; obtain ⟨hc, hf⟩ := An hb1; go_wp2_with fail
  refine (A0 s (by omega) _).mono ?_; rw [hd]; rintro r w2 ⟨rfl, hb2'⟩; have hb2 := up hb1 hb2'; clear hc hf; obtain ⟨hc, hf⟩ := An hb2; go_wp2_with fail
  refine AR hb2 (by kernel_rfl) (by kernel_rfl) ?_; repeat (go_big_quiet_step (fail))
  refine wpQuiet_nil ?_; rintro _ ⟨x3, rfl⟩; have hb3 := x3.property; clear hc hf; obtain ⟨hc, hf⟩ := An hb3; go_wp2_with fail
  rw [HR.out]; go_wp2_with fail
  refine (hasPrefix R ⟨#[46]⟩ _).mono ?_; rw [hr]; rintro r w4 ⟨rfl, hb4'⟩; have hb4 := up hb3 hb4'; clear hc hf; obtain ⟨hc, hf⟩ := An hb4; go_wp2_with fail
  rw [HS.out]; go_wp2_with fail
  refine (A0 S (by omega) _).mono ?_; rw [hf0]; rintro r w5 ⟨rfl, hb5'⟩; have hb5 := up hb4 hb5'; clear hc hf; obtain ⟨hc, hf⟩ := An hb5; go_wp2_with fail
  refine AR hb5 (by kernel_rfl) (by kernel_rfl) ?_; repeat (go_big_quiet_step (fail))
  refine wpQuiet_nil ?_; rintro _ ⟨x6, rfl⟩; have hb6 := x6.property; clear hc hf; obtain ⟨hc, hf⟩ := An hb6; go_wp2_with fail
  rw [HA.out, HA2.out, HR2.out]; go_wp2_with fail
  refine (Co R2 (by omega) _).mono ?_; rw [he]; unfold Ci; rintro r w7 ⟨rfl, hb7'⟩; have hb7 := up hb6 hb7'; clear hc hf; obtain ⟨hc, hf⟩ := An hb7; go_wp2_with fail
  refine (Cr _).mono ?_; rintro r w8 ⟨rfl, hb8'⟩; have hb8 := up hb7 hb8'; clear hc hf; obtain ⟨hc, hf⟩ := An hb8; go_wp2
  refine bodyPost_ret (v := AA ((0, 0), 10)) ?_ rfl ⟨rfl, ?_⟩
  ·simp [AA, results, Tryz.results150, go_sem, hc]
  exact st1 (st1 (up (al1 _ _) hb8) _ _ _ (by omega)) _ _ _ (by omega)
theorem Sr (s : ByteArray) (hs : s.size ≤ 2305843009213693952) (hp : Lib.hasPrefix s.data.toList [45] = false) (d : Nat) (hd : AC s.data.toList = d) (h1 : d ≤ s.size) (h01 : 1 ≤ d) (hz0 : ((d : Int) == 0) = false) (hz : ¬ 1 < d ∨ (1 < d ∧ (((s[0]'(by omega)).toNat : Int) == 48) = false)) (A R : ByteArray) (hA : s.extract 0 d = A) (hR : s.extract d s.size = R) (hAs : A.size ≤ 2305843009213693952) (hRs : R.size ≤ 2305843009213693952) (hr : Lib.hasPrefix R.data.toList [46] = false) (e : Int) (he : Bn R.data.toList = (e, true)) (_he0 : -1099511627776 ≤ e) (_he1 : e ≤ 1099511627776) (L T : ByteArray) (hL : ⟨(Lib.trimLeftB A.data.toList 48).toArray⟩ = L) (hT : ⟨(Lib.trimRightB L.data.toList 48).toArray⟩ = T) (hLs : L.size ≤ A.size) (hTs : T.size ≤ L.size) (hT0 : T = ⟨#[]⟩) (w : World) (_hg : Glob w) :
  Calls Tryz.prog 150 #[.string s] w fun r w' => r = .returned (AA ((0, 0), 0)) ∧ Below w.heap.size w w' := by
 have HA := Keep.mk hA; have HR := Keep.mk hR; clear hA hR; have HL := Keep.mk hL; have HT := Keep.mk hT; clear hL hT; rcases hz with hz | ⟨hz, hu⟩
 all_goals
  go_enter Tryz.func150, Tryz.ntmps150
  go_wp2_with fail
  refine (hasPrefix s ⟨#[45]⟩ _).mono ?_; rw [hp]; rintro r w1 ⟨rfl, hb1⟩; obtain ⟨hc, hf⟩ := An hb1; go_wp2_with fail
  refine (A0 s (by omega) _).mono ?_; rw [hd]; rintro r w2 ⟨rfl, hb2'⟩; have hb2 := up hb1 hb2'; clear hc hf; obtain ⟨hc, hf⟩ := An hb2; go_wp2_with fail
  refine AR hb2 (by kernel_rfl) (by kernel_rfl) ?_; repeat (go_big_quiet_step (fail))
  refine wpQuiet_nil ?_; rintro _ ⟨x3, rfl⟩; have hb3 := x3.property; clear hc hf; obtain ⟨hc, hf⟩ := An hb3; go_wp2_with fail
  rw [HR.out]; go_wp2_with fail
  refine (hasPrefix R ⟨#[46]⟩ _).mono ?_; rw [hr]; rintro r w4 ⟨rfl, hb4'⟩; have hb4 := up hb3 hb4'; clear hc hf; obtain ⟨hc, hf⟩ := An hb4; go_wp2_with fail
  rw [HA.out]; go_wp2_with fail
  refine (Co R (by omega) _).mono ?_; rw [he]; unfold Ci; rintro r w5 ⟨rfl, hb5'⟩; have hb5 := up hb4 hb5'; clear hc hf; obtain ⟨hc, hf⟩ := An hb5; go_wp2_with fail
  refine (EG A _).mono ?_; rw [HL.out]; rintro r w6 ⟨rfl, hb6'⟩; have hb6 := up hb5 hb6'; clear hc hf; obtain ⟨hc, hf⟩ := An hb6; go_wp2_with fail
  refine (Ec L (by omega) _).mono ?_; rw [HT.out]; rintro r w7 ⟨rfl, hb7'⟩; have hb7 := up hb6 hb7'; clear hc hf; obtain ⟨hc, hf⟩ := An hb7; subst hT0; go_wp2_with fail
  refine (Cr _).mono ?_; rintro r w8 ⟨rfl, hb8'⟩; have hb8 := up hb7 hb8'; clear hc hf; obtain ⟨hc, hf⟩ := An hb8; go_wp2
  refine bodyPost_ret (v := AA ((0, 0), 0)) ?_ rfl ⟨rfl, ?_⟩
  ·simp [AA, results, Tryz.results150, go_sem, hc]
  exact st1 (st1 (up (al1 _ _) hb8) _ _ _ (by omega)) _ _ _ (by omega)
theorem RZ (s : ByteArray) (hs : s.size ≤ 2305843009213693952) (hp : Lib.hasPrefix s.data.toList [45] = false) (d : Nat) (hd : AC s.data.toList = d) (h1 : d ≤ s.size) (h01 : 1 ≤ d) (hz0 : ((d : Int) == 0) = false) (hz : ¬ 1 < d ∨ (1 < d ∧ (((s[0]'(by omega)).toNat : Int) == 48) = false)) (A R : ByteArray) (hA : s.extract 0 d = A) (hR : s.extract d s.size = R) (_hAs : A.size ≤ 2305843009213693952) (hRs : R.size ≤ 2305843009213693952) (hr : Lib.hasPrefix R.data.toList [46] = true) (hR1 : 0 < R.size) (S : ByteArray) (hS : R.extract 1 R.size = S) (hSs : S.size ≤ 2305843009213693952) (f : Nat) (hf0 : AC S.data.toList = f) (hff : f + 1 ≤ R.size) (hf1 : ((f : Int) == 0) = false) (A2 R2 : ByteArray) (hA2 : A ++ R.extract 1 (1 + f) = A2) (hR2 : R.extract (1 + f) R.size = R2) (hA2s : A2.size ≤ 2305843009213693952) (hR2s : R2.size ≤ 2305843009213693952) (e : Int) (he : Bn R2.data.toList = (e, true)) (_he0 : -1099511627776 ≤ e) (_he1 : e ≤ 1099511627776) (L T : ByteArray) (hL : ⟨(Lib.trimLeftB A2.data.toList 48).toArray⟩ = L) (hT : ⟨(Lib.trimRightB L.data.toList 48).toArray⟩ = T) (hLs : L.size ≤ A2.size) (hTs : T.size ≤ L.size) (hT0 : T = ⟨#[]⟩) (w : World) (_hg : Glob w) :
  Calls Tryz.prog 150 #[.string s] w fun r w' => r = .returned (AA ((0, 0), 0)) ∧ Below w.heap.size w w' := by
 have HA := Keep.mk hA; have HR := Keep.mk hR; clear hA hR; have HS := Keep.mk hS; clear hS; have HA2 := Keep.mk hA2; have HR2 := Keep.mk hR2; clear hA2 hR2; have HL := Keep.mk hL; have HT := Keep.mk hT; clear hL hT; rcases hz with hz | ⟨hz, hu⟩
 all_goals
  go_enter Tryz.func150, Tryz.ntmps150
  go_wp2_with fail
  refine (hasPrefix s ⟨#[45]⟩ _).mono ?_; rw [hp]; rintro r w1 ⟨rfl, hb1⟩; obtain ⟨hc, hf⟩ := An hb1; go_wp2_with fail
  refine (A0 s (by omega) _).mono ?_; rw [hd]; rintro r w2 ⟨rfl, hb2'⟩; have hb2 := up hb1 hb2'; clear hc hf; obtain ⟨hc, hf⟩ := An hb2; go_wp2_with fail
  refine AR hb2 (by kernel_rfl) (by kernel_rfl) ?_; repeat (go_big_quiet_step (fail))
  refine wpQuiet_nil ?_; rintro _ ⟨x3, rfl⟩; have hb3 := x3.property; clear hc hf; obtain ⟨hc, hf⟩ := An hb3; go_wp2_with fail
  rw [HR.out]; go_wp2_with fail
  refine (hasPrefix R ⟨#[46]⟩ _).mono ?_; rw [hr]; rintro r w4 ⟨rfl, hb4'⟩; have hb4 := up hb3 hb4'; clear hc hf; obtain ⟨hc, hf⟩ := An hb4; go_wp2_with fail
  rw [HS.out]; go_wp2_with fail
  refine (A0 S (by omega) _).mono ?_; rw [hf0]; rintro r w5 ⟨rfl, hb5'⟩; have hb5 := up hb4 hb5'; clear hc hf; obtain ⟨hc, hf⟩ := An hb5; go_wp2_with fail
  refine AR hb5 (by kernel_rfl) (by kernel_rfl) ?_; repeat (go_big_quiet_step (fail))
  refine wpQuiet_nil ?_; rintro _ ⟨x6, rfl⟩; have hb6 := x6.property; clear hc hf; obtain ⟨hc, hf⟩ := An hb6; go_wp2_with fail
  rw [HA.out, HA2.out, HR2.out]; go_wp2_with fail
  refine (Co R2 (by omega) _).mono ?_; rw [he]; unfold Ci; rintro r w7 ⟨rfl, hb7'⟩; have hb7 := up hb6 hb7'; clear hc hf; obtain ⟨hc, hf⟩ := An hb7; go_wp2_with fail
  refine (EG A2 _).mono ?_; rw [HL.out]; rintro r w8 ⟨rfl, hb8'⟩; have hb8 := up hb7 hb8'; clear hc hf; obtain ⟨hc, hf⟩ := An hb8; go_wp2_with fail
  refine (Ec L (by omega) _).mono ?_; rw [HT.out]; rintro r w9 ⟨rfl, hb9'⟩; have hb9 := up hb8 hb9'; clear hc hf; obtain ⟨hc, hf⟩ := An hb9; subst hT0; go_wp2_with fail
  refine (Cr _).mono ?_; rintro r w10 ⟨rfl, hb10'⟩; have hb10 := up hb9 hb10'; clear hc hf; obtain ⟨hc, hf⟩ := An hb10; go_wp2
  refine bodyPost_ret (v := AA ((0, 0), 0)) ?_ rfl ⟨rfl, ?_⟩
  ·simp [AA, results, Tryz.results150, go_sem, hc]
  exact st1 (st1 (up (al1 _ _) hb10) _ _ _ (by omega)) _ _ _ (by omega)
theorem To (s : ByteArray) (hs : s.size ≤ 2305843009213693952) (hp : Lib.hasPrefix s.data.toList [45] = false) (d : Nat) (hd : AC s.data.toList = d) (h1 : d ≤ s.size) (h01 : 1 ≤ d) (hz0 : ((d : Int) == 0) = false) (hz : ¬ 1 < d ∨ (1 < d ∧ (((s[0]'(by omega)).toNat : Int) == 48) = false)) (A R : ByteArray) (hA : s.extract 0 d = A) (hR : s.extract d s.size = R) (hAs : A.size ≤ 2305843009213693952) (hRs : R.size ≤ 2305843009213693952) (hr : Lib.hasPrefix R.data.toList [46] = false) (e : Int) (he : Bn R.data.toList = (e, true)) (_he0 : -1099511627776 ≤ e) (_he1 : e ≤ 1099511627776) (L T : ByteArray) (hL : ⟨(Lib.trimLeftB A.data.toList 48).toArray⟩ = L) (hT : ⟨(Lib.trimRightB L.data.toList 48).toArray⟩ = T) (hLs : L.size ≤ A.size) (_hTs : T.size ≤ L.size) (hTe : T.toList.isEmpty = false) (hT1 : 18 < T.size) (w : World) (_hg : Glob w) :
  Calls Tryz.prog 150 #[.string s] w fun r w' => r = .returned (AA ((0, 0), 11)) ∧ Below w.heap.size w w' := by
 have HA := Keep.mk hA; have HR := Keep.mk hR; clear hA hR; have HL := Keep.mk hL; have HT := Keep.mk hT; clear hL hT; rcases hz with hz | ⟨hz, hu⟩
 all_goals
  go_enter Tryz.func150, Tryz.ntmps150
  go_wp2_with fail
  refine (hasPrefix s ⟨#[45]⟩ _).mono ?_; rw [hp]; rintro r w1 ⟨rfl, hb1⟩; obtain ⟨hc, hf⟩ := An hb1; go_wp2_with fail
  refine (A0 s (by omega) _).mono ?_; rw [hd]; rintro r w2 ⟨rfl, hb2'⟩; have hb2 := up hb1 hb2'; clear hc hf; obtain ⟨hc, hf⟩ := An hb2; go_wp2_with fail
  refine AR hb2 (by kernel_rfl) (by kernel_rfl) ?_; repeat (go_big_quiet_step (fail))
  refine wpQuiet_nil ?_; rintro _ ⟨x3, rfl⟩; have hb3 := x3.property; clear hc hf; obtain ⟨hc, hf⟩ := An hb3; go_wp2_with fail
  rw [HR.out]; go_wp2_with fail
  refine (hasPrefix R ⟨#[46]⟩ _).mono ?_; rw [hr]; rintro r w4 ⟨rfl, hb4'⟩; have hb4 := up hb3 hb4'; clear hc hf; obtain ⟨hc, hf⟩ := An hb4; go_wp2_with fail
  rw [HA.out]; go_wp2_with fail
  refine (Co R (by omega) _).mono ?_; rw [he]; unfold Ci; rintro r w5 ⟨rfl, hb5'⟩; have hb5 := up hb4 hb5'; clear hc hf; obtain ⟨hc, hf⟩ := An hb5; go_wp2_with fail
  refine (EG A _).mono ?_; rw [HL.out]; rintro r w6 ⟨rfl, hb6'⟩; have hb6 := up hb5 hb6'; clear hc hf; obtain ⟨hc, hf⟩ := An hb6; go_wp2_with fail
  refine (Ec L (by omega) _).mono ?_; rw [HT.out]; rintro r w7 ⟨rfl, hb7'⟩; have hb7 := up hb6 hb7'; clear hc hf; obtain ⟨hc, hf⟩ := An hb7; go_wp2_with fail
  refine (Cr _).mono ?_; rintro r w8 ⟨rfl, hb8'⟩; have hb8 := up hb7 hb8'; clear hc hf; obtain ⟨hc, hf⟩ := An hb8; go_wp2
  refine bodyPost_ret (v := AA ((0, 0), 11)) ?_ rfl ⟨rfl, ?_⟩
  ·simp [AA, results, Tryz.results150, go_sem, hc]
  exact st1 (st1 (up (al1 _ _) hb8) _ _ _ (by omega)) _ _ _ (by omega)
theorem RU (s : ByteArray) (hs : s.size ≤ 2305843009213693952) (hp : Lib.hasPrefix s.data.toList [45] = false) (d : Nat) (hd : AC s.data.toList = d) (h1 : d ≤ s.size) (h01 : 1 ≤ d) (hz0 : ((d : Int) == 0) = false) (hz : ¬ 1 < d ∨ (1 < d ∧ (((s[0]'(by omega)).toNat : Int) == 48) = false)) (A R : ByteArray) (hA : s.extract 0 d = A) (hR : s.extract d s.size = R) (_hAs : A.size ≤ 2305843009213693952) (hRs : R.size ≤ 2305843009213693952) (hr : Lib.hasPrefix R.data.toList [46] = true) (hR1 : 0 < R.size) (S : ByteArray) (hS : R.extract 1 R.size = S) (hSs : S.size ≤ 2305843009213693952) (f : Nat) (hf0 : AC S.data.toList = f) (hff : f + 1 ≤ R.size) (hf1 : ((f : Int) == 0) = false) (A2 R2 : ByteArray) (hA2 : A ++ R.extract 1 (1 + f) = A2) (hR2 : R.extract (1 + f) R.size = R2) (hA2s : A2.size ≤ 2305843009213693952) (hR2s : R2.size ≤ 2305843009213693952) (e : Int) (he : Bn R2.data.toList = (e, true)) (_he0 : -1099511627776 ≤ e) (_he1 : e ≤ 1099511627776) (L T : ByteArray) (hL : ⟨(Lib.trimLeftB A2.data.toList 48).toArray⟩ = L) (hT : ⟨(Lib.trimRightB L.data.toList 48).toArray⟩ = T) (hLs : L.size ≤ A2.size) (_hTs : T.size ≤ L.size) (hTe : T.toList.isEmpty = false) (hT1 : 18 < T.size) (w : World) (_hg : Glob w) :
  Calls Tryz.prog 150 #[.string s] w fun r w' => r = .returned (AA ((0, 0), 11)) ∧ Below w.heap.size w w' := by
 have HA := Keep.mk hA; have HR := Keep.mk hR; clear hA hR; have HS := Keep.mk hS; clear hS; have HA2 := Keep.mk hA2; have HR2 := Keep.mk hR2; clear hA2 hR2; have HL := Keep.mk hL; have HT := Keep.mk hT; clear hL hT; rcases hz with hz | ⟨hz, hu⟩
 all_goals
  go_enter Tryz.func150, Tryz.ntmps150
  go_wp2_with fail
  refine (hasPrefix s ⟨#[45]⟩ _).mono ?_; rw [hp]; rintro r w1 ⟨rfl, hb1⟩; obtain ⟨hc, hf⟩ := An hb1; go_wp2_with fail
  refine (A0 s (by omega) _).mono ?_; rw [hd]; rintro r w2 ⟨rfl, hb2'⟩; have hb2 := up hb1 hb2'; clear hc hf; obtain ⟨hc, hf⟩ := An hb2; go_wp2_with fail
  refine AR hb2 (by kernel_rfl) (by kernel_rfl) ?_; repeat (go_big_quiet_step (fail))
  refine wpQuiet_nil ?_; rintro _ ⟨x3, rfl⟩; have hb3 := x3.property; clear hc hf; obtain ⟨hc, hf⟩ := An hb3; go_wp2_with fail
  rw [HR.out]; go_wp2_with fail
  refine (hasPrefix R ⟨#[46]⟩ _).mono ?_; rw [hr]; rintro r w4 ⟨rfl, hb4'⟩; have hb4 := up hb3 hb4'; clear hc hf; obtain ⟨hc, hf⟩ := An hb4; go_wp2_with fail
  rw [HS.out]; go_wp2_with fail
  refine (A0 S (by omega) _).mono ?_; rw [hf0]; rintro r w5 ⟨rfl, hb5'⟩; have hb5 := up hb4 hb5'; clear hc hf; obtain ⟨hc, hf⟩ := An hb5; go_wp2_with fail
  refine AR hb5 (by kernel_rfl) (by kernel_rfl) ?_; repeat (go_big_quiet_step (fail))
  refine wpQuiet_nil ?_; rintro _ ⟨x6, rfl⟩; have hb6 := x6.property; clear hc hf; obtain ⟨hc, hf⟩ := An hb6; go_wp2_with fail
  rw [HA.out, HA2.out, HR2.out]; go_wp2_with fail
  refine (Co R2 (by omega) _).mono ?_; rw [he]; unfold Ci; rintro r w7 ⟨rfl, hb7'⟩; have hb7 := up hb6 hb7'; clear hc hf; obtain ⟨hc, hf⟩ := An hb7; go_wp2_with fail
  refine (EG A2 _).mono ?_; rw [HL.out]; rintro r w8 ⟨rfl, hb8'⟩; have hb8 := up hb7 hb8'; clear hc hf; obtain ⟨hc, hf⟩ := An hb8; go_wp2_with fail
  refine (Ec L (by omega) _).mono ?_; rw [HT.out]; rintro r w9 ⟨rfl, hb9'⟩; have hb9 := up hb8 hb9'; clear hc hf; obtain ⟨hc, hf⟩ := An hb9; go_wp2_with fail
  refine (Cr _).mono ?_; rintro r w10 ⟨rfl, hb10'⟩; have hb10 := up hb9 hb10'; clear hc hf; obtain ⟨hc, hf⟩ := An hb10; go_wp2
  refine bodyPost_ret (v := AA ((0, 0), 11)) ?_ rfl ⟨rfl, ?_⟩
  ·simp [AA, results, Tryz.results150, go_sem, hc]
  exact st1 (st1 (up (al1 _ _) hb10) _ _ _ (by omega)) _ _ _ (by omega)
theorem R6 (s : ByteArray) (hs : s.size ≤ 2305843009213693952) (hp : Lib.hasPrefix s.data.toList [45] = false) (d : Nat) (hd : AC s.data.toList = d) (h1 : d ≤ s.size) (h01 : 1 ≤ d) (hz0 : ((d : Int) == 0) = false) (hz : ¬ 1 < d ∨ (1 < d ∧ (((s[0]'(by omega)).toNat : Int) == 48) = false)) (A R : ByteArray) (hA : s.extract 0 d = A) (hR : s.extract d s.size = R) (hAs : A.size ≤ 2305843009213693952) (hRs : R.size ≤ 2305843009213693952) (hr : Lib.hasPrefix R.data.toList [46] = false) (e : Int) (he : Bn R.data.toList = (e, true)) (he0 : -1099511627776 ≤ e) (he1 : e ≤ 1099511627776) (L T : ByteArray) (hL : ⟨(Lib.trimLeftB A.data.toList 48).toArray⟩ = L) (hT : ⟨(Lib.trimRightB L.data.toList 48).toArray⟩ = T) (hLs : L.size ≤ A.size) (hTs : T.size ≤ L.size) (hTe : T.toList.isEmpty = false) (hT0 : 0 < T.size) (hT1 : T.size ≤ 18) (HD : Keep (∀ k (hk : k < T.size), 48 ≤ T[k].toNat ∧ T[k].toNat ≤ 57)) (w : World) (hg : Glob w) :
  Calls Tryz.prog 150 #[.string s] w fun r w' => r = .returned (AA (Bq false (val (dgs T.data.toList)) (e + L.size - T.size))) ∧ Below w.heap.size w w' := by
 have HA := Keep.mk hA; have HR := Keep.mk hR; clear hA hR; have HL := Keep.mk hL; have HT := Keep.mk hT; clear hL hT; rcases hz with hz | ⟨hz, hu⟩
 all_goals
  go_enter Tryz.func150, Tryz.ntmps150
  go_wp2_with fail
  refine (hasPrefix s ⟨#[45]⟩ _).mono ?_; rw [hp]; rintro r w1 ⟨rfl, hb1⟩; obtain ⟨hc, hf⟩ := An hb1; go_wp2_with fail
  refine (A0 s (by omega) _).mono ?_; rw [hd]; rintro r w2 ⟨rfl, hb2'⟩; have hb2 := up hb1 hb2'; clear hc hf; obtain ⟨hc, hf⟩ := An hb2; go_wp2_with fail
  refine AR hb2 (by kernel_rfl) (by kernel_rfl) ?_; repeat (go_big_quiet_step (fail))
  refine wpQuiet_nil ?_; rintro _ ⟨x3, rfl⟩; have hb3 := x3.property; clear hc hf; obtain ⟨hc, hf⟩ := An hb3; go_wp2_with fail
  rw [HR.out]; go_wp2_with fail
  refine (hasPrefix R ⟨#[46]⟩ _).mono ?_; rw [hr]; rintro r w4 ⟨rfl, hb4'⟩; have hb4 := up hb3 hb4'; clear hc hf; obtain ⟨hc, hf⟩ := An hb4; go_wp2_with fail
  rw [HA.out]; go_wp2_with fail
  refine (Co R (by omega) _).mono ?_; rw [he]; unfold Ci; rintro r w5 ⟨rfl, hb5'⟩; have hb5 := up hb4 hb5'; clear hc hf; obtain ⟨hc, hf⟩ := An hb5; go_wp2_with fail
  refine (EG A _).mono ?_; rw [HL.out]; rintro r w6 ⟨rfl, hb6'⟩; have hb6 := up hb5 hb6'; clear hc hf; obtain ⟨hc, hf⟩ := An hb6; go_wp2_with fail
  refine (Ec L (by omega) _).mono ?_; rw [HT.out]; rintro r w7 ⟨rfl, hb7'⟩; have hb7 := up hb6 hb7'; clear hc hf; obtain ⟨hc, hf⟩ := An hb7; go_wp2_with fail
  go_loop [12, 78] (fun m i => ∃ k : Nat, k ≤ T.size ∧ i = .int .i64 k ∧ m = .int .u64 (val (dgs (T.data.toList.take k)) : Nat)) (fun _ i => T.size - (intOf i).toNat)
  case atStart => exact ⟨0, Nat.zero_le _, rfl, rfl⟩
  case round =>
   obtain ⟨k, hk, rfl, rfl⟩ := hrel; by_cases hlt : k < T.size
   ·obtain ⟨hv, hv1⟩ := Nf T HD.out k hlt hT1
    have hdk := HD.out k hlt; obtain ⟨hd1, hd2⟩ := hdk; have HV := Keep.mk hv; clear hv; generalize val (dgs (T.data.toList.take k)) = v at *; go_wp2
    refine ⟨⟨k + 1, by omega, by go_num, ?_⟩, by simp [intOf]; omega⟩; rw [HV.out]; congr 1; omega
   have hk2 : k = T.size := by omega
   have HS := Keep.mk (show T.data.toList.take k = T.data.toList by rw [List.take_of_length_le]; simp; omega); clear hk2; rw [HS.out]; have HV := Keep.mk (QZ T HD.out hT1); generalize hvv : val (dgs T.data.toList) = v; rw [hvv] at HV; obtain ⟨hv1⟩ := HV; have HVV := Keep.mk hvv; clear hvv; go_wp2_with fail
   refine (Ny false 0 v (e + L.size - T.size) (by omega) (by omega) (by omega) (by omega) (by omega) (by omega) _ (hg.below (up (al1 _ _) hb7))).mono ?_; rw [show Ca 0 (v : Int) = v by unfold Ca; omega]; rintro r w8 ⟨rfl, hb8'⟩; have hb8 := up hb7 hb8'; clear hc hf; obtain ⟨hc, hf⟩ := An hb8; generalize hres : Bq false v (e + L.size - T.size) = res; have HRES := Keep.mk hres; clear hres; unfold AA; go_wp2
   refine bodyPost_ret (v := AA res) ?_ rfl ⟨Dn (by rw [HVV.out, HRES.out]), ?_⟩
   ·simp [AA, results, Tryz.results150, go_sem, hc]
   exact st1 (st1 (up (al1 _ _) hb8) _ _ _ (by omega)) _ _ _ (by omega)
theorem Rz (s : ByteArray) (hs : s.size ≤ 2305843009213693952) (hp : Lib.hasPrefix s.data.toList [45] = false) (d : Nat) (hd : AC s.data.toList = d) (h1 : d ≤ s.size) (h01 : 1 ≤ d) (hz0 : ((d : Int) == 0) = false) (hz : ¬ 1 < d ∨ (1 < d ∧ (((s[0]'(by omega)).toNat : Int) == 48) = false)) (A R : ByteArray) (hA : s.extract 0 d = A) (hR : s.extract d s.size = R) (_hAs : A.size ≤ 2305843009213693952) (hRs : R.size ≤ 2305843009213693952) (hr : Lib.hasPrefix R.data.toList [46] = true) (hR1 : 0 < R.size) (S : ByteArray) (hS : R.extract 1 R.size = S) (hSs : S.size ≤ 2305843009213693952) (f : Nat) (hf0 : AC S.data.toList = f) (hff : f + 1 ≤ R.size) (hf1 : ((f : Int) == 0) = false) (A2 R2 : ByteArray) (hA2 : A ++ R.extract 1 (1 + f) = A2) (hR2 : R.extract (1 + f) R.size = R2) (hA2s : A2.size ≤ 2305843009213693952) (hR2s : R2.size ≤ 2305843009213693952) (e : Int) (he : Bn R2.data.toList = (e, true)) (he0 : -1099511627776 ≤ e) (he1 : e ≤ 1099511627776) (L T : ByteArray) (hL : ⟨(Lib.trimLeftB A2.data.toList 48).toArray⟩ = L) (hT : ⟨(Lib.trimRightB L.data.toList 48).toArray⟩ = T) (hLs : L.size ≤ A2.size) (hTs : T.size ≤ L.size) (hTe : T.toList.isEmpty = false) (hT0 : 0 < T.size) (hT1 : T.size ≤ 18) (HD : Keep (∀ k (hk : k < T.size), 48 ≤ T[k].toNat ∧ T[k].toNat ≤ 57)) (w : World) (hg : Glob w) :
  Calls Tryz.prog 150 #[.string s] w fun r w' => r = .returned (AA (Bq false (val (dgs T.data.toList)) (e - f + L.size - T.size))) ∧ Below w.heap.size w w' := by
 have HA := Keep.mk hA; have HR := Keep.mk hR; clear hA hR; have HS := Keep.mk hS; clear hS; have HA2 := Keep.mk hA2; have HR2 := Keep.mk hR2; clear hA2 hR2; have HL := Keep.mk hL; have HT := Keep.mk hT; clear hL hT; rcases hz with hz | ⟨hz, hu⟩
 all_goals
  go_enter Tryz.func150, Tryz.ntmps150
  go_wp2_with fail
  refine (hasPrefix s ⟨#[45]⟩ _).mono ?_; rw [hp]; rintro r w1 ⟨rfl, hb1⟩; obtain ⟨hc, hf⟩ := An hb1; go_wp2_with fail
  refine (A0 s (by omega) _).mono ?_; rw [hd]; rintro r w2 ⟨rfl, hb2'⟩; have hb2 := up hb1 hb2'; clear hc hf; obtain ⟨hc, hf⟩ := An hb2; go_wp2_with fail
  refine AR hb2 (by kernel_rfl) (by kernel_rfl) ?_; repeat (go_big_quiet_step (fail))
  refine wpQuiet_nil ?_; rintro _ ⟨x3, rfl⟩; have hb3 := x3.property; clear hc hf; obtain ⟨hc, hf⟩ := An hb3; go_wp2_with fail
  rw [HR.out]; go_wp2_with fail
  refine (hasPrefix R ⟨#[46]⟩ _).mono ?_; rw [hr]; rintro r w4 ⟨rfl, hb4'⟩; have hb4 := up hb3 hb4'; clear hc hf; obtain ⟨hc, hf⟩ := An hb4; go_wp2_with fail
  rw [HS.out]; go_wp2_with fail
  refine (A0 S (by omega) _).mono ?_; rw [hf0]; rintro r w5 ⟨rfl, hb5'⟩; have hb5 := up hb4 hb5'; clear hc hf; obtain ⟨hc, hf⟩ := An hb5; go_wp2_with fail
  refine AR hb5 (by kernel_rfl) (by kernel_rfl) ?_; repeat (go_big_quiet_step (fail))
  refine wpQuiet_nil ?_; rintro _ ⟨x6, rfl⟩; have hb6 := x6.property; clear hc hf; obtain ⟨hc, hf⟩ := An hb6; go_wp2_with fail
  rw [HA.out, HA2.out, HR2.out]; go_wp2_with fail
  refine (Co R2 (by omega) _).mono ?_; rw [he]; unfold Ci; rintro r w7 ⟨rfl, hb7'⟩; have hb7 := up hb6 hb7'; clear hc hf; obtain ⟨hc, hf⟩ := An hb7; go_wp2_with fail
  refine (EG A2 _).mono ?_; rw [HL.out]; rintro r w8 ⟨rfl, hb8'⟩; have hb8 := up hb7 hb8'; clear hc hf; obtain ⟨hc, hf⟩ := An hb8; go_wp2_with fail
  refine (Ec L (by omega) _).mono ?_; rw [HT.out]; rintro r w9 ⟨rfl, hb9'⟩; have hb9 := up hb8 hb9'; clear hc hf; obtain ⟨hc, hf⟩ := An hb9; go_wp2_with fail
  go_loop [12, 78] (fun m i => ∃ k : Nat, k ≤ T.size ∧ i = .int .i64 k ∧ m = .int .u64 (val (dgs (T.data.toList.take k)) : Nat)) (fun _ i => T.size - (intOf i).toNat)
  case atStart => exact ⟨0, Nat.zero_le _, rfl, rfl⟩
  case round =>
   obtain ⟨k, hk, rfl, rfl⟩ := hrel; by_cases hlt : k < T.size
   ·obtain ⟨hv, hv1⟩ := Nf T HD.out k hlt hT1
    have hdk := HD.out k hlt; obtain ⟨hd1, hd2⟩ := hdk; have HV := Keep.mk hv; clear hv; generalize val (dgs (T.data.toList.take k)) = v at *; go_wp2
    refine ⟨⟨k + 1, by omega, by go_num, ?_⟩, by simp [intOf]; omega⟩; rw [HV.out]; congr 1; omega
   have hk2 : k = T.size := by omega
   have HS := Keep.mk (show T.data.toList.take k = T.data.toList by rw [List.take_of_length_le]; simp; omega); clear hk2; rw [HS.out]; have HV := Keep.mk (QZ T HD.out hT1); generalize hvv : val (dgs T.data.toList) = v; rw [hvv] at HV; obtain ⟨hv1⟩ := HV; have HVV := Keep.mk hvv; clear hvv; go_wp2_with fail
   refine (Ny false 0 v (e - f + L.size - T.size) (by omega) (by omega) (by omega) (by omega) (by omega) (by omega) _ (hg.below (up (al1 _ _) hb9))).mono ?_; rw [show Ca 0 (v : Int) = v by unfold Ca; omega]; rintro r w10 ⟨rfl, hb10'⟩; have hb10 := up hb9 hb10'; clear hc hf; obtain ⟨hc, hf⟩ := An hb10; generalize hres : Bq false v (e - f + L.size - T.size) = res; have HRES := Keep.mk hres; clear hres; unfold AA; go_wp2
   refine bodyPost_ret (v := AA res) ?_ rfl ⟨Dn (by rw [HVV.out, HRES.out]), ?_⟩
   ·simp [AA, results, Tryz.results150, go_sem, hc]
   exact st1 (st1 (up (al1 _ _) hb10) _ _ _ (by omega)) _ _ _ (by omega)
open Go Go.RowKit Go.Proofs Th
theorem NC (s : ByteArray) (k : Nat) : (s.extract k s.size).data.toList = s.data.toList.drop k := by
 rw [Lib.extract_data, List.take_of_length_le]; simp
theorem TW (s : ByteArray) (k : Nat) : (s.extract 0 k).data.toList = s.data.toList.take k := by
 rw [Lib.extract_data]; simp
theorem Uq (s : ByteArray) (f : Nat) : (s.extract 1 (1 + f)).data.toList = (s.data.toList.drop 1).take f := by
 rw [Lib.extract_data]; congr 1; omega
theorem AN (s : ByteArray) : s.size = s.data.toList.length := by simp
theorem RD (s : ByteArray) (h : 0 < s.size) : s.data.toList.head? = some s[0] := by
 have h2 : 0 < s.data.toList.length := by simpa using h
 rw [List.head?_eq_getElem?, List.getElem?_eq_getElem h2]; rfl
theorem IP {l : List UInt8} {c : UInt8} (h : Lib.hasPrefix l [c] = true) : l.head? = some c := by rw [Gi h]; rfl
theorem Nk {l : List UInt8} {c : UInt8} (h : Lib.hasPrefix l [c] = false) : l.head? ≠ some c := by
 cases l with
 | nil => simp
 | cons d l => have := K4 h; simpa using this
theorem G5 {l : List UInt8} (h : DW l = none) : Bn l = (0, false) := by unfold Bn; rw [h]
theorem G8 {l x : List UInt8} {en : Bool} (h : DW l = some (en, x)) : Bn l = (sg en (Bt x), true) := by unfold Bn; rw [h]
theorem Ua (en : Bool) (x : List UInt8) : -1099511627776 ≤ sg en (Bt x) := by have := ES x; unfold sg; split <;> omega
theorem Ud (en : Bool) (x : List UInt8) : sg en (Bt x) ≤ 1099511627776 := by have := ES x; unfold sg; split <;> omega
theorem I5 (neg : Bool) (v : Nat) (e : Int) (h1 : v % 10 ≠ 0) (h2 : 1000000000000000000 ≤ v) : Bq neg v e = ((0, 0), 11) := by
 rw [GW _ _ _ h1]; unfold fin; rw [if_pos (.inl h2)]
theorem Ho (T : ByteArray) (h : T.data.toList ≠ []) : T.toList.isEmpty = false := Dc (by
 cases h2 : T.data.toList with
 | nil => exact absurd h2 h
 | cons _ _ => rw [AN, h2]; simp)
theorem Kr (T : ByteArray) (h : T.data.toList = []) : T = ⟨#[]⟩ := by
 obtain ⟨⟨l⟩⟩ := T; have : l = [] := h; rw [this]
theorem Kx (T : ByteArray) (h : Di T.data.toList) : Keep (∀ k (hk : k < T.size), 48 ≤ T[k].toNat ∧ T[k].toNat ≤ 57) :=
 ⟨fun k hk => h T[k] (List.getElem_mem (l := T.data.toList) (n := k) (by simpa using hk))⟩
theorem MW (s : ByteArray) (hs : s.size ≤ 2305843009213693952) (hp : Lib.hasPrefix s.data.toList [45] = false) (w : World) (hg : Glob w) :
  Calls Tryz.prog 150 #[.string s] w fun r w' => r = .returned (AA (DJ false s.data.toList)) ∧ Below w.heap.size w w' := by
 generalize hd : AC s.data.toList = d; have h1 : d ≤ s.size := by rw [← hd, AN]; exact KF _
 by_cases hz0 : d = 0
 ·rw [Nb _ _ (.inl (by rw [hd, hz0]))]; exact Tj s hs hp d hd (by rw [hz0]; rfl) w hg
 have h01 : 1 ≤ d := by omega
 have hU0 : 0 < s.size := by omega
 have hh := RD s hU0; have hzf : ((d : Int) == 0) = false := by simpa using hz0
 by_cases hb : 1 < d ∧ s[0] = 48
 ·rw [Nb _ _ (.inr ⟨by rw [hd]; exact hb.1, by rw [hh, hb.2]⟩)]; exact TS s hs hp d hd h1 hzf hb.1 (by rw [hb.2]; rfl) w hg
 have hnb : ¬ (d = 0 ∨ (1 < d ∧ s.data.toList.head? = some 48)) := by
  rw [hh]; rintro (h | ⟨h, h2⟩)
  ·exact hz0 h
  exact hb ⟨h, Option.some.inj h2⟩
 have hz : ¬ 1 < d ∨ (1 < d ∧ ((s[0].toNat : Int) == 48) = false) := by
  by_cases hlt : 1 < d
  ·right; refine ⟨hlt, ?_⟩
   have : s[0].toNat ≠ 48 := fun h => hb ⟨hlt, UInt8.toNat.inj h⟩
   simp; omega
  exact .inl hlt
 generalize hA : s.extract 0 d = A; generalize hR : s.extract d s.size = R; have hAl : A.data.toList = s.data.toList.take d := by rw [← hA, TW]
 have hRl : R.data.toList = s.data.toList.drop d := by rw [← hR, NC]
 have hAn : A.size = d := by rw [AN, hAl, List.length_take, ← AN]; omega
 have hRn : R.size = s.size - d := by rw [AN, hRl, List.length_drop, ← AN]
 have hAs : A.size ≤ 2305843009213693952 := by omega
 have hRs : R.size ≤ 2305843009213693952 := by omega
 have hAd : Di A.data.toList := by rw [hAl, ← hd]; exact I0 _
 by_cases hr : Lib.hasPrefix R.data.toList [46] = true
 ·have hR1 : 0 < R.size := by
   have := congrArg List.length (Gi hr); rw [AN]; simp at this; simp; omega
  have hRh := IP hr; generalize hS : R.extract 1 R.size = S; have hSl : S.data.toList = R.data.toList.drop 1 := by rw [← hS, NC]
  have hSn : S.size = R.size - 1 := by rw [AN, hSl, List.length_drop, ← AN]
  have hSs : S.size ≤ 2305843009213693952 := by omega
  generalize hf0 : AC S.data.toList = f; have hff : f + 1 ≤ R.size := by have := KF S.data.toList; rw [← AN] at this; omega
  by_cases hfz : f = 0
  ·have hF : EQ (s.data.toList.drop (AC s.data.toList)) = none := by
    rw [hd, ← hRl]; unfold EQ; rw [if_pos hRh, ← hSl, if_pos (by rw [hf0]; exact hfz)]
   rw [RM _ _ hF]; exact Tw s hs hp d hd h1 h01 hzf hz A R hA hR hAs hRs hr hR1 S hS hSs f hf0 hff (by rw [hfz]; rfl) w hg
  have hf1 : ((f : Int) == 0) = false := by simpa using hfz
  generalize hA2 : A ++ R.extract 1 (1 + f) = A2; generalize hR2 : R.extract (1 + f) R.size = R2; have hR2l : R2.data.toList = S.data.toList.drop f := by rw [← hR2, NC, hSl, List.drop_drop]
  generalize hFF : S.data.toList.take f = F; have hF : EQ (s.data.toList.drop (AC s.data.toList)) = some (F, R2.data.toList) := by
   rw [hd, ← hRl]; unfold EQ; rw [if_pos hRh, ← hSl, if_neg (by rw [hf0]; exact hfz), hf0, hR2l, hFF]
  have hA2l : A2.data.toList = A.data.toList ++ F := by rw [← hA2, ByteArray.data_append, Array.toList_append, Uq, ← hSl, hFF]
  have hAF : s.data.toList.take d ++ F = A2.data.toList := by rw [hA2l, hAl]
  have hFn : (F.length : Int) = f := by
   rw [← hFF, List.length_take, ← AN]; omega
  have hAD : Di A2.data.toList := by
   rw [hA2l, ← hFF, ← hf0]; exact Mj hAd (I0 _)
  have hA2s : A2.size ≤ 2305843009213693952 := by rw [AN, hA2l, List.length_append, ← AN]; omega
  have hR2s : R2.size ≤ 2305843009213693952 := by rw [AN, hR2l, List.length_drop, ← AN]; omega
  cases hx : DW R2.data.toList with
  | none =>
   rw [LG _ _ _ _ hF hx]; exact QK s hs hp d hd h1 h01 hzf hz A R hA hR hAs hRs hr hR1 S hS hSs f hf0 hff hf1 A2 R2 hA2 hR2 hA2s hR2s 0 (G5 hx) (by omega) (by omega) w hg
  | some p =>
   obtain ⟨en, x⟩ := p; rw [LE _ _ _ _ x en (by rw [hd]; exact hnb) hF hx]; have hal : Di A2.data.toList := hAD; rw [hd, hAF]; generalize hL : (⟨(Lib.trimLeftB A2.data.toList 48).toArray⟩ : ByteArray) = L; generalize hT : (⟨(Lib.trimRightB L.data.toList 48).toArray⟩ : ByteArray) = T; have hLl : Lib.trimLeftB A2.data.toList 48 = L.data.toList := by rw [← hL]
   have hTl : Lib.trimRightB L.data.toList 48 = T.data.toList := by rw [← hT]
   obtain ⟨g1, g2, g3, g4, g5, g6⟩ := M2 _ hal _ _ hLl hTl; have hLs : L.size ≤ A2.size := by rw [AN, AN]; exact g1
   have hTs : T.size ≤ L.size := by rw [AN, AN]; exact g2
   have e0 := Ua en x; have e1 := Ud en x; have he := G8 hx; by_cases hT0 : T.data.toList = []
   ·rw [g5 hT0, Ib]
    exact RZ s hs hp d hd h1 h01 hzf hz A R hA hR hAs hRs hr hR1 S hS hSs f hf0 hff hf1 A2 R2 hA2 hR2 hA2s hR2s _ he e0 e1 L T hL hT hLs hTs (Kr T hT0) w hg
   obtain ⟨g7, g8⟩ := g6 hT0; have hTe := Ho T hT0; have hT1 : 0 < T.size := by
    rw [AN]; cases h2 : T.data.toList with
    | nil => exact absurd h2 hT0
    | cons _ _ => simp
   rw [g4, E9]; by_cases h18 : 18 < T.size
   ·have g9 : 10 ^ 18 ≤ 10 ^ (T.data.toList.length - 1) := Nat.pow_le_pow_right (by omega) (by rw [← AN]; omega)
    rw [I5 _ _ _ g7 (by omega)]; exact RU s hs hp d hd h1 h01 hzf hz A R hA hR hAs hRs hr hR1 S hS hSs f hf0 hff hf1 A2 R2 hA2 hR2 hA2s hR2s _ he e0 e1 L T hL hT hLs hTs hTe h18 w hg
   have q := Rz s hs hp d hd h1 h01 hzf hz A R hA hR hAs hRs hr hR1 S hS hSs f hf0 hff hf1 A2 R2 hA2 hR2 hA2s hR2s _ he e0 e1 L T hL hT hLs hTs hTe hT1 (by omega) (Kx T g3) w hg; rw [← AN, ← AN, show sg en (Bt x) - (F.length : Int) + ((L.size - T.size : Nat) : Int) = (sg en (Bt x) - f) + L.size - T.size by rw [hFn]; omega]; exact q
 have hr : Lib.hasPrefix R.data.toList [46] = false := by simpa using hr
 have hF : EQ (s.data.toList.drop (AC s.data.toList)) = some ([], R.data.toList) := by
  rw [hd, ← hRl]; unfold EQ; rw [if_neg (Nk hr)]
 have hAF : s.data.toList.take d ++ [] = A.data.toList := by rw [hAl, List.append_nil]
 have hAD := hAd; have hFn : ((([] : List UInt8).length : Nat) : Int) = 0 := rfl; cases hx : DW R.data.toList with
 | none =>
  rw [LG _ _ _ _ hF hx]; exact Tn s hs hp d hd h1 h01 hzf hz A R hA hR hAs hRs hr 0 (G5 hx) (by omega) (by omega) w hg
 | some p =>
  obtain ⟨en, x⟩ := p; rw [LE _ _ _ _ x en (by rw [hd]; exact hnb) hF hx]; have hal : Di A.data.toList := hAD; rw [hd, hAF]; generalize hL : (⟨(Lib.trimLeftB A.data.toList 48).toArray⟩ : ByteArray) = L; generalize hT : (⟨(Lib.trimRightB L.data.toList 48).toArray⟩ : ByteArray) = T; have hLl : Lib.trimLeftB A.data.toList 48 = L.data.toList := by rw [← hL]
  have hTl : Lib.trimRightB L.data.toList 48 = T.data.toList := by rw [← hT]
  obtain ⟨g1, g2, g3, g4, g5, g6⟩ := M2 _ hal _ _ hLl hTl; have hLs : L.size ≤ A.size := by rw [AN, AN]; exact g1
  have hTs : T.size ≤ L.size := by rw [AN, AN]; exact g2
  have e0 := Ua en x; have e1 := Ud en x; have he := G8 hx; by_cases hT0 : T.data.toList = []
  ·rw [g5 hT0, Ib]
   exact Sr s hs hp d hd h1 h01 hzf hz A R hA hR hAs hRs hr _ he e0 e1 L T hL hT hLs hTs (Kr T hT0) w hg
  obtain ⟨g7, g8⟩ := g6 hT0; have hTe := Ho T hT0; have hT1 : 0 < T.size := by
   rw [AN]; cases h2 : T.data.toList with
   | nil => exact absurd h2 hT0
   | cons _ _ => simp
  rw [g4, E9]; by_cases h18 : 18 < T.size
  ·have g9 : 10 ^ 18 ≤ 10 ^ (T.data.toList.length - 1) := Nat.pow_le_pow_right (by omega) (by rw [← AN]; omega)
   rw [I5 _ _ _ g7 (by omega)]; exact To s hs hp d hd h1 h01 hzf hz A R hA hR hAs hRs hr _ he e0 e1 L T hL hT hLs hTs hTe h18 w hg
  have q := R6 s hs hp d hd h1 h01 hzf hz A R hA hR hAs hRs hr _ he e0 e1 L T hL hT hLs hTs hTe hT1 (by omega) (Kx T g3) w hg; rw [← AN, ← AN, show sg en (Bt x) - ((([] : List UInt8).length : Nat) : Int) + ((L.size - T.size : Nat) : Int) = sg en (Bt x) + L.size - T.size by rw [hFn]; omega]; exact q
theorem PV (s : ByteArray) (hs : s.size ≤ 2305843009213693952) (h : s.data.toList.head? ≠ some 45) (w : World) (hg : Glob w) :
  Calls Tryz.prog 150 #[.string s] w fun r w' => r = .returned (AA (CO s.data.toList)) ∧ Below w.heap.size w w' := by
 unfold CO; rw [if_neg h]; refine MW s hs ?_ w hg; cases hp : Lib.hasPrefix s.data.toList [45] with
 | false => rfl
 | true => exact absurd (IP hp) h
end Go.Proofs.YtakncilicoefdaaGreatDoor
