/- Lemmas and contracts. Conditions: those that each lemma names. -/
import Derived.Test.YtakncilicoefdaaGreatDoorPt9
import Derived.WalkLawsBesides
import Derived.Deep.OwnRows
import Derived.Deep.RegionHeld3
set_option maxRecDepth 100000
set_option maxHeartbeats 4000000
namespace Go.Proofs.YtakncilicoefdaaGreatDoor
open Go Go.RowKit Go.Proofs Th
attribute [local go_sem] Above.cell Above.frozen
theorem Sv {w : World} {t : TypeId} (k m e : Int) (s : ByteArray) (A : Option Addr) (n c : Nat) (A' : Option Addr) (n' c' : Nat) : Box (w.alloc (.cells #[.int .i64 k, .int .i64 m, .int .i64 e, .string s, .slice A n c, .slice A' n' c'] t)) w.heap.size (Et k m e s A n c A' n' c') :=
 Box.new (Et k m e s A n c A' n' c') t rfl
open Go Go.RowKit Go.Proofs Th
open Go Go.RowKit Go.Proofs Th
open Go Go.RowKit Go.Proofs Th
open Go Go.RowKit Go.Proofs Th
end Go.Proofs.YtakncilicoefdaaGreatDoor
namespace Th
open Go Go.Lib
def M7 (n : NJ) (s : St) : PR NJ := if s.err = 0 then .ok n s.i else .bad s.at_ s.err
def Sm (t : Tf) : Nat := if AD t = 2 then 2 else AD t + 1
def VZ (t : Tf) : Nat := if AD t = 2 then 1 else if AD t = 3 ∨ AD t = 6 then AD t - 1 else AD t
def KU (E : Env) (k top i : Nat) : Prop := AD (Aj E i) ≠ 0 ∧ k ≤ AD (Aj E i) ∧ AD (Aj E i) ≤ top
inductive Steps (E : Env) (k : Nat) : NJ → Nat → Nat → NJ → Nat → Nat → Prop
 | refl (n : NJ) (top i : Nat) : Steps E k n top i n top i
 | step {n : NJ} {top i : Nat} {m : NJ} {j : Nat} {n' : NJ} {top' i' : Nat} (hl : KU E k top i) (he : evP E (.binary (Sm (Aj E i))) (i + 1) = some (.ok m j)) (h : Steps E k (C5 (Aj E i) n m) (VZ (Aj E i)) j n' top' i') : Steps E k n top i n' top' i'
theorem Steps.trans {E : Env} {k : Nat} {a : NJ} {b c : Nat} {a1 : NJ} {b1 c1 : Nat} {a2 : NJ} {b2 c2 : Nat} (h : Steps E k a b c a1 b1 c1) (h2 : Steps E k a1 b1 c1 a2 b2 c2) : Steps E k a b c a2 b2 c2 := by
 induction h with
 | refl => exact h2
 | step hl he _ ih => exact .step hl he (ih h2)
theorem Steps.down {E : Env} {k : Nat} {a : NJ} {b c : Nat} {a1 : NJ} {b1 c1 : Nat} (h : Steps E (k + 1) a b c a1 b1 c1) : Steps E k a b c a1 b1 c1 := by
 induction h with
 | refl => exact .refl _ _ _
 | step hl he _ ih => exact .step ⟨hl.1, by have := hl.2.1; omega, hl.2.2⟩ he ih
def LoopR (E : Env) (k : Nat) (n : NJ) (top i : Nat) (n' : NJ) (s' : St) : Prop :=
 (s'.err = 0 ∧ ∃ top', Steps E k n top i n' top' s'.i ∧ ¬ KU E k top' s'.i ∧ k ≤ top' + 1) ∨
 (s'.err ≠ 0 ∧ ∃ n1 top1 i1, Steps E k n top i n1 top1 i1 ∧ KU E k top1 i1 ∧ evP E (.binary (Sm (Aj E i1))) (i1 + 1) = some (.bad s'.at_ s'.err))
def LR (E : Env) (k i : Nat) (n' : NJ) (s' : St) : Prop :=
 (∃ m0 i0, evP E .minus i = some (.ok m0 i0) ∧ LoopR E k m0 8 i0 n' s') ∨ (s'.err ≠ 0 ∧ evP E .minus i = some (.bad s'.at_ s'.err))
theorem LR.up {E : Env} {k i : Nat} {n1 : NJ} {s1 : St} {n' : NJ} {s' : St} (h : LR E (k + 1) i n1 s1) (hs : s1.err = 0) (hk : ∀ top, k ≤ top → ¬ KU E (k + 1) top s1.i → LoopR E k n1 top s1.i n' s') : LR E k i n' s' := by
 rcases h with ⟨m0, i0, h1, h2⟩ | ⟨h0, _⟩
 ·refine Or.inl ⟨m0, i0, h1, ?_⟩
  rcases h2 with ⟨_, top', h3, h4, h5⟩ | ⟨h0, _⟩
  ·rcases hk top' (by omega) h4 with ⟨h6, top2, h7, h8, h9⟩ | ⟨h6, n2, top2, i2, h7, h8, h9⟩
   ·exact Or.inl ⟨h6, top2, h3.down.trans h7, h8, h9⟩
   exact Or.inr ⟨h6, n2, top2, i2, h3.down.trans h7, h8, h9⟩
  exact absurd hs h0
 exact absurd hs h0
theorem LR.bad {E : Env} {k i : Nat} {n1 : NJ} {s1 : St} {n' : NJ} {s' : St} (h : LR E (k + 1) i n1 s1) (hs : s1.err ≠ 0) (hk : SameS s1 s') : LR E k i n' s' := by
 have hs' : s'.err ≠ 0 := by rw [hk.e]; exact hs
 rcases h with ⟨m0, i0, h1, h2⟩ | ⟨_, h1⟩
 ·refine Or.inl ⟨m0, i0, h1, ?_⟩
  rcases h2 with ⟨h0, _⟩ | ⟨_, n2, top2, i2, h3, h4, h5⟩
  ·exact absurd h0 hs
  exact Or.inr ⟨hs', n2, top2, i2, h3.down, ⟨h4.1, by have := h4.2.1; omega, h4.2.2⟩, by rw [hk.e, hk.a]; exact h5⟩
 exact Or.inr ⟨hs', by rw [hk.e, hk.a]; exact h1⟩
/-! which signs bind how strongly -/
theorem OY {l : List ByteArray} {x : ByteArray} : inB l x = true ↔ x ∈ l := by
 unfold inB; rw [List.any_eq_true]; refine ⟨fun ⟨q, h1, h2⟩ => by rw [of_decide_eq_true h2] at h1; exact h1, fun h => ⟨x, h, decide_eq_true rfl⟩⟩
theorem LoopR.step {E : Env} {k : Nat} {n : NJ} {top i : Nat} {m : NJ} {s1 : St} {n' : NJ} {s' : St} (hl : KU E k top i) (he : evP E (.binary (Sm (Aj E i))) (i + 1) = some (M7 m s1)) (hs : s1.err = 0) (h : LoopR E k (C5 (Aj E i) n m) (VZ (Aj E i)) s1.i n' s') : LoopR E k n top i n' s' := by
 unfold M7 at he; rw [if_pos hs] at he; rcases h with ⟨h0, top', h1, h2, h3⟩ | ⟨h0, n1, top1, i1, h1, h2, h3⟩
 ·exact Or.inl ⟨h0, top', .step hl he h1, h2, h3⟩
 exact Or.inr ⟨h0, n1, top1, i1, .step hl he h1, h2, h3⟩
theorem LoopR.none_ {E : Env} {k : Nat} {n : NJ} {top : Nat} {s : St} (hs : s.err = 0) (hk : k ≤ top + 1) (hl : ¬ KU E k top s.i) : LoopR E k n top s.i n s := Or.inl ⟨hs, top, .refl _ _ _, hl, hk⟩
end Th
namespace Go.Proofs.YtakncilicoefdaaGreatDoor
open Go Go.RowKit Go.Proofs Th
def bs (l : List UInt8) : ByteArray := ⟨l.toArray⟩
def Eh : List ByteArray := [⟨#[61, 61]⟩, ⟨#[33, 61]⟩, ⟨#[60]⟩, ⟨#[60, 61]⟩, ⟨#[62]⟩, ⟨#[62, 61]⟩, ⟨#[43]⟩, ⟨#[45]⟩, ⟨#[42]⟩, ⟨#[47]⟩, ⟨#[37]⟩]
def A6 : ByteArray := ⟨#[102, 114, 111, 109]⟩
def toB : ByteArray := ⟨#[116, 111]⟩
def B4 (s : ByteArray) : Bool := AU s.data.toList
def CK (s : ByteArray) : Bool := B4 s && !inB words13 s
def Dw (s : ByteArray) : Bool := CK s || (decide (s.data.toList.head? = some 36) && AU s.data.toList.tail)
def Av : NJ → Int
 | .mk k _ _ _ _ _ => k
def nmJ : NJ → ByteArray
 | .mk _ s _ _ _ _ => s
def Am (k : Int) : Bool := decide (k = 3 ∨ k = 10 ∨ k = 19 ∨ k = 20 ∨ k = 21 ∨ k = 22 ∨ k = 23 ∨ k = 24 ∨ k = 25)
def Ax : NJ → Bool
 | .mk k s m e _ a => (Am k || decide (s = ⟨#[]⟩)) && (decide (k = 2) || decide (m = 0 ∧ e = 0)) && (decide (k = 6 ∨ k = 24) || a.isEmpty)
def Cm : List NJ → Bool
 | [] => true
 | [x] => decide (Av x = 3)
 | x :: _ :: r => decide (Av x = 3) && Cm r
def Ai : NJ → Bool
 | .mk k s m e l a =>
  if k = 1 ∨ k = 26 then decide (l.length = 0)
  else if k = 2 then decide (l.length = 0) && right m e && decide (0 ≤ m)
  else if k = 3 then decide (l.length = 0) && Lib.validD s.data.toList
  else if k = 4 then Cm l && decide (3 ≤ l.length) && decide (l.length % 2 = 1)
  else if k = 5 ∨ k = 8 ∨ k = 9 ∨ k = 11 ∨ k = 12 ∨ k = 13 then decide (l.length = 2)
  else if k = 6 then decide (l.length = a.length + 1) && (decide (a = [A6]) || decide (a = [toB]) || decide (a = [A6, toB]))
  else if k = 7 ∨ k = 14 then decide (l.length = 1)
  else if k = 10 then decide (l.length = 2) && inB Eh s
  else if k = 15 then decide (l.length ≤ 1)
  else if k = 16 then decide (l.length % 2 = 0)
  else if k = 17 then decide (l.length = 3)
  else if k = 18 then decide (l.length = 1 ∨ l.length = 2)
  else if k = 19 then decide (l.length = 3) && B4 s
  else if k = 20 then decide (l.length = 4) && B4 s
  else if k = 21 then decide (l.length = 2) && B4 s
  else if k = 22 then decide (l.length = 0) && B4 s
  else if k = 23 then CK s
  else if k = 24 then decide (l.length = 2) && CK s && a.all Dw
  else if k = 25 then decide (l.length = 2) && inB EH s
  else false
def AB (n : NJ) : Bool := Ax n && Ai n
mutual
/-- may all that a node is be -/
def okJ : NJ → Bool
 | .mk k s m e l a => AB (.mk k s m e l a) && okL l
def okL : List NJ → Bool
 | [] => true
 | n :: r => okJ n && okL r
end
theorem Gc : ∀ l : List NJ, okL l = l.all okJ
 | [] => by simp [okL]
 | n :: r => by rw [okL, Gc r]; rfl
mutual
/-- may a node be, in so many others -/
def Ch : Nat → NJ → Bool
 | 0, _ => false
 | d + 1, .mk k s m e l a => AB (.mk k s m e l a) && MH d l
def MH : Nat → List NJ → Bool
 | _, [] => true
 | d, n :: r => Ch d n && MH d r
end
theorem JC (d : Nat) : ∀ l : List NJ, MH d l = l.all (Ch d)
 | [] => by simp [MH]
 | n :: r => by rw [MH, JC d r]; rfl
theorem C7 {k : Nat} : ∀ {l : List NJ}, CJ l ≤ k ↔ ∀ y ∈ l, Bp y ≤ k
 | [] => by simp [CJ]
 | a :: r => by
  rw [CJ, Nat.max_le, C7 (l := r)]; simp
theorem Ht : ∀ (d : Nat) (n : NJ), Ch d n = (decide (Bp n ≤ d) && okJ n)
 | 0, .mk k s m e l a => by
  rw [Ch, Bp, decide_eq_false (by omega), Bool.false_and]
 | d + 1, .mk k s m e l a => by
  rw [Ch, Bp, okJ, JC, Gc]; have h : l.all (Ch d) = (decide (CJ l ≤ d) && l.all okJ) := by
   rw [Bool.eq_iff_iff]; simp only [List.all_eq_true, Bool.and_eq_true, decide_eq_true_eq, C7]; constructor
   ·intro h
    refine ⟨fun y hy => ?_, fun y hy => ?_⟩ <;>
     (have := h y hy; rw [Ht d y, Bool.and_eq_true, decide_eq_true_eq] at this)
    ·exact this.1
    exact this.2
   intro h y hy; rw [Ht d y, Bool.and_eq_true, decide_eq_true_eq]; exact ⟨h.1 y hy, h.2 y hy⟩
  rw [h, show decide (1 + CJ l ≤ d + 1) = decide (CJ l ≤ d) from decide_eq_decide.2 (by omega)]; cases AB (.mk k s m e l a) <;> cases decide (CJ l ≤ d) <;> cases l.all okJ <;> rfl
/-! texts -/
def JT (k : Int) : Bool := decide (k = 1 ∨ k = 5 ∨ k = 6 ∨ k = 7 ∨ k = 22 ∨ k = 23)
def AG (k : Int) (s : ByteArray) : ByteArray := if k = 8 then ⟨#[124]⟩ else if k = 9 then ⟨#[44]⟩ else if k = 11 then ⟨#[97, 110, 100]⟩ else if k = 12 then ⟨#[111, 114]⟩ else if k = 13 then ⟨#[47, 47]⟩ else s
def BQ (s : ByteArray) : ByteArray := bs (Gf s.data.toList)
def DC (s : ByteArray) : ByteArray := bs (BN s.data.toList)
def CM (s : ByteArray) : ByteArray := ⟨#[40]⟩ ++ s ++ ⟨#[41]⟩
def AP (gap : ByteArray) : List ByteArray → ByteArray
 | [] => ⟨#[]⟩
 | [x] => x
 | x :: r => x ++ gap ++ AP gap r
mutual
def spJ : NJ → ByteArray
 | .mk k s m e l a =>
  if k = 1 then ⟨#[46]⟩ else if k = 26 then ⟨#[46, 46]⟩ else if k = 2 then bs (AL m e) else if k = 3 then BQ s
  else if k = 4 then ⟨#[34]⟩ ++ BH true (l.map nmJ) (spL l) ++ ⟨#[34]⟩
  else if k = 5 then tgJ (l.map Av) (spL l) 0 ++ ⟨#[91]⟩ ++ (spL l).getD 1 ⟨#[]⟩ ++ ⟨#[93]⟩
  else if k = 6 then tgJ (l.map Av) (spL l) 0 ++ ⟨#[91]⟩ ++ (if a.head? = some A6 then (spL l).getD 1 ⟨#[]⟩ else ⟨#[]⟩) ++ ⟨#[58]⟩ ++ (if a.getLast? = some toB then (spL l).getD (l.length - 1) ⟨#[]⟩ else ⟨#[]⟩) ++ ⟨#[93]⟩
  else if k = 7 then tgJ (l.map Av) (spL l) 0 ++ ⟨#[91, 93]⟩
  else if k = 14 then ⟨#[40, 45]⟩ ++ (spL l).getD 0 ⟨#[]⟩ ++ ⟨#[41]⟩
  else if k = 15 then ⟨#[91]⟩ ++ (spL l).getD 0 ⟨#[]⟩ ++ ⟨#[93]⟩
  else if k = 16 then ⟨#[123]⟩ ++ Cx true (spL l) ++ ⟨#[125]⟩
  else if k = 17 then ⟨#[105, 102, 32]⟩ ++ (spL l).getD 0 ⟨#[]⟩ ++ ⟨#[32, 116, 104, 101, 110, 32]⟩ ++ (spL l).getD 1 ⟨#[]⟩ ++ ⟨#[32, 101, 108, 115, 101, 32]⟩ ++ (spL l).getD 2 ⟨#[]⟩ ++ ⟨#[32, 101, 110, 100]⟩
  else if k = 18 then ⟨#[40, 116, 114, 121, 32]⟩ ++ tgJ (l.map Av) (spL l) 0 ++ (if l.length = 2 then ⟨#[32, 99, 97, 116, 99, 104, 32]⟩ ++ tgJ (l.map Av) (spL l) 1 else ⟨#[]⟩) ++ ⟨#[41]⟩
  else if k = 19 ∨ k = 20 then (if k = 19 then ⟨#[114, 101, 100, 117, 99, 101, 32]⟩ else ⟨#[102, 111, 114, 101, 97, 99, 104, 32]⟩) ++ tgJ (l.map Av) (spL l) 0 ++ ⟨#[32, 97, 115, 32, 36]⟩ ++ s ++ ⟨#[32, 40]⟩ ++ AP ⟨#[59, 32]⟩ (spL l).tail ++ ⟨#[41]⟩
  else if k = 21 then ⟨#[40]⟩ ++ tgJ (l.map Av) (spL l) 0 ++ ⟨#[32, 97, 115, 32, 36]⟩ ++ s ++ ⟨#[32, 124, 32]⟩ ++ (spL l).getD 1 ⟨#[]⟩ ++ ⟨#[41]⟩
  else if k = 22 then ⟨#[36]⟩ ++ s
  else if k = 23 then (if l.length = 0 then s else s ++ ⟨#[40]⟩ ++ AP ⟨#[59, 32]⟩ (spL l) ++ ⟨#[41]⟩)
  else if k = 24 then ⟨#[40, 100, 101, 102, 32]⟩ ++ s ++ (if a.length = 0 then ⟨#[]⟩ else ⟨#[40]⟩ ++ AP ⟨#[59, 32]⟩ a ++ ⟨#[41]⟩) ++ ⟨#[58, 32]⟩ ++ (spL l).getD 0 ⟨#[]⟩ ++ ⟨#[59, 32]⟩ ++ (spL l).getD 1 ⟨#[]⟩ ++ ⟨#[41]⟩
  else ⟨#[40]⟩ ++ (spL l).getD 0 ⟨#[]⟩ ++ ⟨#[32]⟩ ++ AG k s ++ ⟨#[32]⟩ ++ (spL l).getD 1 ⟨#[]⟩ ++ ⟨#[41]⟩
def spL : List NJ → List ByteArray
 | [] => []
 | n :: r => spJ n :: spL r
/-- a kid's text that can not be taken apart -/
def tgJ (ks : List Int) (ts : List ByteArray) (i : Nat) : ByteArray := if JT (ks.getD i 0) = true then ts.getD i ⟨#[]⟩ else CM (ts.getD i ⟨#[]⟩)
/-- texts and filters, by turns -/
def BH : Bool → List ByteArray → List ByteArray → ByteArray
 | true, n :: ns, _ :: ts => DC n ++ BH false ns ts
 | false, _ :: ns, t :: ts => ⟨#[92, 40]⟩ ++ t ++ ⟨#[41]⟩ ++ BH true ns ts
 | _, _, _ => ⟨#[]⟩
/-- keys and values -/
def Cx : Bool → List ByteArray → ByteArray
 | first, k :: v :: r => (if first = true then ⟨#[]⟩ else ⟨#[44, 32]⟩) ++ CM k ++ ⟨#[58, 32]⟩ ++ v ++ Cx false r
 | _, _ => ⟨#[]⟩
end
theorem Ij : ∀ l : List NJ, spL l = l.map spJ
 | [] => by simp [spL]
 | n :: r => by rw [spL, Ij r]; rfl
-- are two nodes the same
mutual
def EL : NJ → NJ → Bool
 | .mk k s m e l a, .mk k' s' m' e' l' a' => decide (k = k') && decide (s = s') && decide (m = m' ∧ e = e') && decide (a = a') && CI l l'
def CI : List NJ → List NJ → Bool
 | [], [] => true
 | x :: l, y :: r => EL x y && CI l r
 | _, _ => false
end
open Go Go.RowKit Go.Proofs Th
open Go Go.RowKit Go.Proofs Th
attribute [local go_sem] Above.cell Above.frozen
theorem Box.ints {w : World} {g : Nat} {ds : List Nat} (h : Box w g (ds.map iv)) (hl : ds.length ≤ 1000000) : IntsAt w w.heap.size (some ⟨g, 0, none⟩) ds.length ds :=
 ⟨Nat.le_refl _, by simp [maxLen]; omega, fun _ => ⟨g, 0, rfl, h.lt, fun j hj => by have := h.cell j (iv ds[j]) (by simp [hj]); simpa [iv] using this⟩⟩
open Go Go.RowKit Go.Proofs Th
end Go.Proofs.YtakncilicoefdaaGreatDoor
