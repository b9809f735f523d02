/- Lemmas and contracts. Conditions: those that each lemma names. -/
import Derived.Test.YtakncilicoefdaaGreatDoorPz5
set_option maxRecDepth 100000
set_option maxHeartbeats 4000000
namespace Go.Proofs.YtakncilicoefdaaGreatDoor
open Go Go.RowKit Go.Proofs Th
structure Box (w : World) (g : Nat) (cs : List Value) : Prop where
 cell : ∀ i v, cs[i]? = some v → w.cell? ⟨g, i, none⟩ = some v
 froz : ∀ i, w.frozen? ⟨g, i, none⟩ = false
 lt : g < w.heap.size
theorem Box.p2 {w : World} {g : Nat} {a0 a1 : Value} (h : Box w g [a0, a1]) : w.cell? ⟨g, 0, none⟩ = some a0 ∧ w.cell? ⟨g, 1, none⟩ = some a1 := ⟨h.cell 0 _ rfl, h.cell 1 _ rfl⟩
theorem Box.p3l {w : World} {g : Nat} {a0 a1 a2 : Value} (h : Box w g [a0, a1, a2]) : w.cell? ⟨g, 0, none⟩ = some a0 ∧ w.cell? ⟨g, 1, none⟩ = some a1 ∧ w.cell? ⟨g, 2, none⟩ = some a2 ∧ g < w.heap.size := ⟨h.cell 0 _ rfl, h.cell 1 _ rfl, h.cell 2 _ rfl, h.lt⟩
theorem Box.q3l {w : World} {g : Nat} {a0 a1 a2 : Value} (h : Box w g [a0, a1, a2]) : w.cell? ⟨g, 0, none⟩ = some a0 ∧ w.frozen? ⟨g, 0, none⟩ = false ∧ w.cell? ⟨g, 1, none⟩ = some a1 ∧ w.frozen? ⟨g, 1, none⟩ = false ∧ w.cell? ⟨g, 2, none⟩ = some a2 ∧ w.frozen? ⟨g, 2, none⟩ = false ∧ g < w.heap.size := ⟨h.cell 0 _ rfl, h.froz 0, h.cell 1 _ rfl, h.froz 1, h.cell 2 _ rfl, h.froz 2, h.lt⟩
theorem Box.below {w w' : World} {g B : Nat} {cs : List Value} (h : Box w g cs) (hb : Below B w w') (hg : g < B) : Box w' g cs :=
 ⟨fun i v hv => (hb.cell (p := ⟨g, i, none⟩) hg).trans (h.cell i v hv), fun i => (hb.frozen (p := ⟨g, i, none⟩) hg).trans (h.froz i), Nat.lt_of_lt_of_le h.lt hb.size⟩
theorem Box.alloc {w : World} {g : Nat} {cs : List Value} (h : Box w g cs) (o : Obj) : Box (w.alloc o) g cs := h.below ((Below.refl _ _).alloc (Nat.le_refl _) _) h.lt
theorem Box.new {w : World} {n : Nat} (cs : List Value) (t : TypeId) (h : w.heap.size = n) : Box (w.alloc (.cells cs.toArray t)) n cs := by
 subst h; refine ⟨fun i v hv => ?_, fun i => ?_, by simp⟩
 ·simp [go_sem, hv]
 simp [go_sem]
theorem Box.other {w : World} {g m o : Nat} {cs : List Value} (h : Box w g cs) (hm : m ≠ g) (v : Value) : Box (w.setCell ⟨m, o, none⟩ v) g cs := by
 refine ⟨fun i u hu => ?_, fun i => ?_, by simpa using h.lt⟩
 ·rw [World.cell?_setCell_other _ _ _ _ (by intro e; injection e; omega)]; exact h.cell i u hu
 rw [World.frozen?_setCell]; exact h.froz i
theorem Box.set {w : World} {g i : Nat} {cs : List Value} (h : Box w g cs) (hi : i < cs.length) (v : Value) : Box (w.setCell ⟨g, i, none⟩ v) g (cs.set i v) := by
 refine ⟨fun j u hu => ?_, fun j => ?_, by simpa using h.lt⟩
 ·by_cases e : i = j
  ·subst e
   have hu' : v = u := by simpa [hi] using hu
   subst hu'; have := h.cell i _ (List.getElem?_eq_getElem hi); exact World.cell?_setCell_same _ _ _ this
  rw [World.cell?_setCell_other _ _ _ _ (by intro e'; injection e' with e1 e2; exact e e2)]; exact h.cell j u (by rwa [List.getElem?_set_ne e] at hu)
 rw [World.frozen?_setCell]; exact h.froz j
theorem EF (g o j : Nat) : (⟨g, o, none⟩ : Addr).add j = ⟨g, o + j, none⟩ := by
 unfold Addr.add; split
 ·rename_i h; subst h; rfl
 rfl
def iv (d : Nat) : Value := .int .i64 (d : Int)
open Go Go.RowKit Go.Proofs Th
attribute [local go_sem] Above.cell
structure I64 (m : Int) : Prop where
 lo : -9223372036854775808 ≤ m
 hi : m ≤ 9223372036854775807
end Go.Proofs.YtakncilicoefdaaGreatDoor
namespace Th
open Go Go.Lib
structure Tf where
 kind : Nat
 text : ByteArray
 at_ : Nat
deriving DecidableEq
def noTf : Tf := ⟨0, ⟨#[]⟩, 0⟩
def Ci : Bool → List UInt8 → Nat
 | _, [] => 0
 | b, c :: r => if b = true ∨ CI c = true ∨ c = 35 then 1 + Ci (decide ((b = true ∨ c = 35) ∧ c ≠ 10)) r else 0
theorem OV : ∀ (b : Bool) (l : List UInt8), Ci b l ≤ l.length
 | _, [] => Nat.le_refl _
 | b, c :: r => by
  have := OV (decide ((b = true ∨ c = 35) ∧ c ≠ 10)) r; simp only [Ci, List.length_cons]; split <;> omega
def AL (L : List UInt8) (a : Nat) : Nat := a + Ci false (L.drop a)
def qGo (L : List UInt8) (one : Nat → Tf × Nat × Nat) (from_ : Nat) : Nat → Nat → Nat → Nat × Nat
 | 0, _, _ => (from_, 20)
 | n + 1, 0, a => match L[a]? with
  | none => (from_, 20)
  | some c => if c = 34 then (a + 1, 0) else if c ≠ 92 then qGo L one from_ n 0 (a + 1) else if L[a + 1]? = some 40 then qGo L one from_ n 1 (a + 2) else qGo L one from_ n 0 (a + 2)
 | n + 1, o + 1, a => if (one a).2.2 ≠ 0 then ((one a).2.1, (one a).2.2) else if (one a).1.kind = 0 then (from_, 20)
  else qGo L one from_ n (if (one a).1.kind = 6 ∧ (one a).1.text = ⟨#[40]⟩ then o + 2 else if (one a).1.kind = 6 ∧ (one a).1.text = ⟨#[41]⟩ then o else o + 1) (one a).2.1
def BG (L : List UInt8) (quote : Nat → Nat × Nat) (a : Nat) : Tf × Nat × Nat :=
 match L.drop a with
 | [] => (noTf, a, 0)
 | c :: r => if c = 34 then (if (quote a).2 ≠ 0 then (noTf, (quote a).1, (quote a).2) else (⟨5, ⟨((L.drop a).take ((quote a).1 - a)).toArray⟩, a⟩, (quote a).1, 0))
  else if (Bj (c :: r)).1 = 0 then (noTf, a, 60)
  else (⟨(Bj (c :: r)).1, ⟨(((c :: r).take (Bj (c :: r)).2.2).drop (Bj (c :: r)).2.1).toArray⟩, a⟩, a + (Bj (c :: r)).2.2, 0)
def AF (L : List UInt8) : Nat → Nat → Tf × Nat × Nat
 | 0, a => BG L (fun f => (f, 31)) (AL L a)
 | d + 1, a => BG L (fun f => qGo L (AF L d) f (L.length + 2) 0 (f + 1)) (AL L a)
def BK (L : List UInt8) : Nat → Nat → Nat × Nat
 | 0, f => (f, 31)
 | d + 1, f => qGo L (AF L d) f (L.length + 2) 0 (f + 1)
theorem B9 (L : List UInt8) (d a : Nat) : AF L d a = BG L (BK L d) (AL L a) := by
 cases d <;> rfl
def BJ (L : List UInt8) : Nat → Nat → List Tf → List Tf × Nat × Nat
 | 0, _, acc => (acc, 0, 0)
 | n + 1, a, acc => if (AF L 48 a).2.2 ≠ 0 then ([], (AF L 48 a).2.1, (AF L 48 a).2.2) else if (AF L 48 a).1.kind = 0 then (acc, 0, 0) else BJ L n (AF L 48 a).2.1 (acc ++ [(AF L 48 a).1])
def Bp (L : List UInt8) : List Tf × Nat × Nat := if 16384 < L.length then ([], 0, 3) else BJ L (L.length + 1) 0 []
def BN (one : Nat → Tf × Nat × Nat) : Nat → Nat → Nat → Nat
 | _, 0, a => a
 | 0, _, a => a
 | n + 1, o + 1, a => BN one n (if (one a).1.kind = 6 ∧ (one a).1.text = ⟨#[40]⟩ then o + 2 else if (one a).1.kind = 6 ∧ (one a).1.text = ⟨#[41]⟩ then o else o + 1) (one a).2.1
structure PartsR where
 texts : List (List UInt8)
 filters : List (List UInt8)
 places : List Nat
def Bn (L : List UInt8) (one : Nat → Tf × Nat × Nat) : Nat → Nat → Nat → PartsR → PartsR
 | 0, from_, _, r => { r with texts := r.texts ++ [(L.take (L.length - 1)).drop from_] }
 | n + 1, from_, a, r => if L.length - 1 ≤ a then { r with texts := r.texts ++ [(L.take (L.length - 1)).drop from_] }
  else if L[a]? ≠ some 92 then Bn L one n from_ (a + 1) r
  else if L[a + 1]? ≠ some 40 then Bn L one n from_ (a + 2) r
  else Bn L one n (BN one (L.length + 2) 1 (a + 2)) (BN one (L.length + 2) 1 (a + 2))
   ⟨r.texts ++ [(L.take a).drop from_], r.filters ++ [(L.take (BN one (L.length + 2) 1 (a + 2) - 1)).drop (a + 2)], r.places ++ [a + 2]⟩
def okQ (L : List UInt8) : Bool := decide (L.length ≤ 16384) && decide (L[0]? = some 34) && decide (BK L 48 0 = (L.length, 0))
def BS (L : List UInt8) : PartsR × Nat := if okQ L = true then (Bn L (AF L 47) (L.length + 1) 1 1 ⟨[], [], []⟩, 0) else (⟨[], [], []⟩, 20)
/-! laws -/
theorem Kh (l : List UInt8) : (Bj l).2.2 ≤ l.length ∧ ((Bj l).1 ≠ 0 → 1 ≤ (Bj l).2.2) ∧ ((Bj l).1 = 0 → (Bj l).2.2 = 0) := by
 cases l with
 | nil => exact ⟨Nat.le_refl _, fun h => absurd rfl h, fun _ => rfl⟩
 | cons c r =>
  rcases Eg c r with ⟨h, _⟩ | ⟨k, n, h, h1, h2, h3, h4, h5, h6⟩
  ·rw [h]; exact ⟨Nat.zero_le _, fun h => absurd rfl h, fun _ => rfl⟩
  rw [h]; exact ⟨h4, fun _ => h2, fun h => absurd h h1⟩
structure OneOk (L : List UInt8) (a : Nat) (t : Tf × Nat × Nat) : Prop where
 fwd : t.2.2 = 0 → t.1.kind ≠ 0 → a < t.2.1
 ge : t.2.2 = 0 → a ≤ t.2.1
 le : t.2.1 ≤ L.length
 none_ : t.2.2 = 0 → t.1.kind = 0 → t.2.1 = L.length
 zero : t.2.2 ≠ 0 ∨ t.1.kind = 0 → t.1 = noTf
 sz : t.1.text.size ≤ L.length
 pl : t.1.at_ ≤ L.length
theorem C4 (L : List UInt8) (a : Nat) (h : a ≤ L.length) : a ≤ AL L a ∧ AL L a ≤ L.length := by
 have := OV false (L.drop a); rw [List.length_drop] at this; unfold AL; omega
theorem Uw (L : List UInt8) (one : Nat → Tf × Nat × Nat) (hone : ∀ a, a ≤ L.length → OneOk L a (one a)) (f : Nat) (hf : f < L.length) : ∀ (n o a : Nat), f < a → (0 < o → a ≤ L.length) →
  (qGo L one f n o a).1 ≤ L.length ∧ ((qGo L one f n o a).2 = 0 → f < (qGo L one f n o a).1) := by
 intro n; induction n with
 | zero => intro o a _ _; exact ⟨by simp only [qGo]; omega, fun h => by simp only [qGo] at h; omega⟩
 | succ n ih =>
  intro o a ha hl; cases o with
  | zero =>
   simp only [qGo]; cases hc : L[a]? with
   | none => exact ⟨by show f ≤ _; omega, fun h => by cases h⟩
   | some c =>
    have hlt : a < L.length := (List.getElem?_eq_some_iff.1 hc).1; show (if c = 34 then (a + 1, 0) else _ : Nat × Nat).1 ≤ _ ∧ _
    dsimp only; by_cases h34 : c = 34
    ·rw [if_pos h34]; exact ⟨by show a + 1 ≤ _; omega, fun _ => by show f < a + 1; omega⟩
    rw [if_neg h34]; by_cases h92 : c ≠ 92
    ·rw [if_pos h92]; exact ih 0 (a + 1) (by omega) (by omega)
    rw [if_neg h92]; by_cases h40 : L[a + 1]? = some 40
    ·rw [if_pos h40]; have := (List.getElem?_eq_some_iff.1 h40).1; exact ih 1 (a + 2) (by omega) (by omega)
    rw [if_neg h40]; exact ih 0 (a + 2) (by omega) (by omega)
  | succ o =>
   have h := hone a (hl (by omega)); simp only [qGo]; by_cases h1 : (one a).2.2 ≠ 0
   ·rw [if_pos h1]; exact ⟨h.le, fun h2 => absurd h2 h1⟩
   rw [if_neg h1]; by_cases h2 : (one a).1.kind = 0
   ·rw [if_pos h2]; exact ⟨by show f ≤ _; omega, fun h => by cases h⟩
   rw [if_neg h2]; have := h.fwd (by omega) h2; have := h.le; exact ih _ _ (by omega) (by omega)
theorem DE (l : List UInt8) : (⟨l.toArray⟩ : ByteArray).size = l.length := by simp [ByteArray.size]
theorem ME (L : List UInt8) (quote : Nat → Nat × Nat) (hq : ∀ f, f < L.length → (quote f).1 ≤ L.length ∧ ((quote f).2 = 0 → f < (quote f).1)) (a b : Nat) (hab : a ≤ b) (hb : b ≤ L.length) : OneOk L a (BG L quote b) := by
 unfold BG; cases hd : L.drop b with
 | nil =>
  have : L.length ≤ b := List.drop_eq_nil_iff.1 hd; exact ⟨fun _ h => absurd rfl h, fun _ => hab, hb, fun _ _ => by show b = _; omega, fun _ => rfl, Nat.zero_le _, Nat.zero_le _⟩
 | cons c r =>
  have hlen : (c :: r).length = L.length - b := by rw [← hd, List.length_drop]
  rw [List.length_cons] at hlen; dsimp only; by_cases h34 : c = 34
  ·rw [if_pos h34]
   obtain ⟨h1, h2⟩ := hq b (by omega); by_cases h3 : (quote b).2 ≠ 0
   ·rw [if_pos h3]; exact ⟨fun h _ => absurd h h3, fun h => absurd h h3, h1, fun h _ => absurd h h3, fun _ => rfl, Nat.zero_le _, Nat.zero_le _⟩
   rw [if_neg h3]; have := h2 (by omega); refine ⟨fun _ _ => by show a < (quote b).1; omega, fun _ => by show a ≤ (quote b).1; omega, h1, fun _ h => (by cases h), fun h => ?_, ?_, hb⟩
   ·rcases h with h | h
    ·exact absurd rfl h
    cases h
   show (⟨_⟩ : ByteArray).size ≤ _
   rw [DE, List.length_take]; rw [List.length_cons]; omega
  rw [if_neg h34]; obtain ⟨h1, h2, h3⟩ := Kh (c :: r); rw [List.length_cons] at h1; by_cases h4 : (Bj (c :: r)).1 = 0
  ·rw [if_pos h4]; exact ⟨fun h => (by cases h), fun h => (by cases h), hb, fun h => (by cases h), fun _ => rfl, Nat.zero_le _, Nat.zero_le _⟩
  rw [if_neg h4]; have := h2 h4; refine ⟨fun _ _ => by show a < b + _; omega, fun _ => by show a ≤ b + _; omega, by show b + _ ≤ _; omega, fun _ h => absurd h h4, fun h => ?_, ?_, hb⟩
  ·rcases h with h | h
   ·exact absurd rfl h
   exact absurd h h4
  show (⟨_⟩ : ByteArray).size ≤ _
  rw [DE, List.length_drop, List.length_take]; rw [List.length_cons]; omega
theorem CR (L : List UInt8) : ∀ (d a : Nat), a ≤ L.length → OneOk L a (AF L d a) := by
 intro d; induction d with
 | zero => intro a ha; obtain ⟨h1, h2⟩ := C4 L a ha; exact ME L _ (fun f hf => ⟨Nat.le_of_lt hf, fun h => by cases h⟩) a _ h1 h2
 | succ d ih => intro a ha; obtain ⟨h1, h2⟩ := C4 L a ha; exact ME L _ (fun f hf => Uw L _ ih f hf _ 0 _ (by omega) (by omega)) a _ h1 h2
theorem EX (L : List UInt8) (d f : Nat) (hf : f < L.length) : (BK L d f).1 ≤ L.length ∧ ((BK L d f).2 = 0 → f < (BK L d f).1) := by
 cases d with
 | zero => exact ⟨Nat.le_of_lt hf, fun h => by cases h⟩
 | succ d => exact Uw L _ (CR L d) f hf _ 0 _ (by omega) (by omega)
end Th
