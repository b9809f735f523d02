/- Lemmas and contracts. Conditions: those that each lemma names. -/
import Derived.Test.YtakncilicoefdaaGreatDoorPt10
set_option maxRecDepth 100000
set_option maxHeartbeats 4000000
namespace Go.Proofs.YtakncilicoefdaaGreatDoor
open Go Go.RowKit Go.Proofs Th
attribute [local go_sem] Above.cell Above.frozen
open Go Go.RowKit Go.Proofs Th
open Go Go.RowKit Go.Proofs Th
structure GlobV (w : World) : Prop where
 num : Glob w
 utf : Utf w
theorem GlobV.below {w w' : World} (h : GlobV w) (b : Below w.heap.size w w') : GlobV w' := ⟨h.num.below b, h.utf.below b⟩
structure GlobW (w : World) : Prop where
 num : GlobP w
 utf : Utf w
theorem GlobW.below {w w' : World} (h : GlobW w) (b : Below w.heap.size w w') : GlobW w' := ⟨h.num.below b, h.utf.below b⟩
theorem GlobW.weak {w : World} (h : GlobW w) : GlobV w := ⟨h.num.weak, h.utf⟩
instance globW_weak (w : World) : Coe (GlobW w) (GlobV w) := ⟨fun h => h.weak⟩
structure One6 (w wr : World) (k m e : Int) (s : ByteArray) (l : List JV) (ks : List ByteArray) (A : Option Addr) (c : Nat) (A' : Option Addr) (c' : Nat) : Prop where
 x : Box wr w.heap.size (Et k m e s A l.length c A' ks.length c')
 xv : ValsAt wr wr.heap.size A c l
 xk : StrsAt wr wr.heap.size A' c' ks
 g : GlobV wr
 b : Below w.heap.size w wr
theorem One6.below {w wr w' : World} {k m e : Int} {s : ByteArray} {l : List JV} {ks : List ByteArray} {A : Option Addr} {c : Nat} {A' : Option Addr} {c' : Nat} (h : One6 w wr k m e s l ks A c A' c') (hb : Below wr.heap.size wr w') :
  One6 w w' k m e s l ks A c A' c' :=
 ⟨h.x.below hb h.x.lt, (h.xv.below hb (Nat.le_refl _)).more hb.size, (h.xk.below hb (Nat.le_refl _)).more hb.size, h.g.below hb, up h.b hb⟩
theorem One6.start {w : World} {k m e : Int} {s : ByteArray} {l : List JV} {ks : List ByteArray} {A : Option Addr} {c : Nat} {A' : Option Addr} {c' : Nat} (t : TypeId) (hg : GlobV w) (hV : ValsAt w w.heap.size A c l) (hK : StrsAt w w.heap.size A' c' ks) :
  One6 w (w.alloc (.cells #[.int .i64 k, .int .i64 m, .int .i64 e, .string s, .slice A l.length c, .slice A' ks.length c'] t)) k m e s l ks A c A' c' :=
 ⟨Sv .., (hV.below (al1 _ _) (Nat.le_refl _)).more (al1 _ _).size, (hK.below (al1 _ _) (Nat.le_refl _)).more (al1 _ _).size, hg.below (al1 _ _), al1 _ _⟩
open Go Go.RowKit Go.Proofs Th
structure StrsIn (W : World) (S : Nat → Prop) (A : Option Addr) (c : Nat) (ks : List ByteArray) : Prop where
 le : ks.length ≤ c
 cap : ks.length ≤ 140737488351232
 top : c ≤ 9223372036854775807
 small : ∀ k ∈ ks, k.size ≤ 140737488351232
 at_ : 0 < ks.length → ∃ g o, A = some ⟨g, o, none⟩ ∧ S g ∧ ∀ j (h : j < ks.length), W.cell? ⟨g, o + j, none⟩ = some (.string ks[j])
theorem Bw {W W' : World} {g o : Nat} (h : W'.heap[g]? = W.heap[g]?) : W'.cell? ⟨g, o, none⟩ = W.cell? ⟨g, o, none⟩ := World.cell?_of_block h
theorem StrsIn.keep {W W' : World} {S T : Nat → Prop} {A : Option Addr} {c : Nat} {ks : List ByteArray} (h : StrsIn W S A c ks) (hb : ∀ g, S g → W'.heap[g]? = W.heap[g]?) (hT : ∀ g, S g → T g) : StrsIn W' T A c ks :=
 ⟨h.le, h.cap, h.top, h.small, fun hn => by
  obtain ⟨g, o, e, hg, hc⟩ := h.at_ hn; exact ⟨g, o, e, hT g hg, fun j hj => (Bw (hb g hg)).trans (hc j hj)⟩⟩
theorem StrsIn.at {W : World} {S : Nat → Prop} {B : Nat} {A : Option Addr} {c : Nat} {ks : List ByteArray} (h : StrsIn W S A c ks) (hS : ∀ g, S g → g < B) : StrsAt W B A c ks :=
 ⟨h.le, h.cap, h.top, h.small, fun hn => by
  obtain ⟨g, o, e, hg, hc⟩ := h.at_ hn; exact ⟨g, o, e, hS g hg, hc⟩⟩
inductive JIn (W : World) (S : Nat → Prop) : JV → List Value → Prop
 | mk {k m e : Int} {s : ByteArray} {l : List JV} {ks : List ByteArray} {A : Option Addr} {c : Nat} {A' : Option Addr} {c' : Nat} (f : Nat → List Value)
  (hk : I64 k) (hm : I64 m) (he : I64 e) (hs : s.size ≤ 140737488351232) (hl : l.length ≤ c) (hc : l.length ≤ 140737488351232) (hcc : c ≤ 9223372036854775807) (hK : StrsIn W S A' c' ks)
  (hL : 0 < l.length → ∃ g o, A = some ⟨g, o, none⟩ ∧ S g ∧ ∀ j, j < l.length → ∀ i v, (f j)[i]? = some v → W.cell? ⟨g, o + j * 6 + i, none⟩ = some v)
  (hT : ∀ j (h : j < l.length), JIn W S l[j] (f j)) :
  JIn W S (.mk k m e s l ks) (Et k m e s A l.length c A' ks.length c')
theorem JIn.keep {W W' : World} {S T : Nat → Prop} {t : JV} {cs : List Value} (h : JIn W S t cs) (hb : ∀ g, S g → W'.heap[g]? = W.heap[g]?) (hT : ∀ g, S g → T g) : JIn W' T t cs := by
 induction h with
 | mk f hk hm he hs hl hc hcc hK hL hT' ih =>
  refine .mk f hk hm he hs hl hc hcc (hK.keep hb hT) (fun hn => ?_) (fun j hj => ih j hj); obtain ⟨g, o, e, hg, h⟩ := hL hn; exact ⟨g, o, e, hT g hg, fun j hj i v hv => (Bw (hb g hg)).trans (h j hj i v hv)⟩
theorem JIn.more {W : World} {S T : Nat → Prop} {t : JV} {cs : List Value} (h : JIn W S t cs) (hT : ∀ g, S g → T g) : JIn W T t cs := h.keep (fun _ _ => rfl) hT
theorem JIn.at {W : World} {S : Nat → Prop} {B : Nat} {t : JV} {cs : List Value} (h : JIn W S t cs) (hS : ∀ g, S g → g < B) : JAt W B t cs := by
 induction h with
 | mk f hk hm he hs hl hc hcc hK hL hT ih =>
  refine .mk f hk hm he hs hl hc hcc (hK.at hS) (fun hn => ?_) (fun j hj => ih j hj); obtain ⟨g, o, e, hg, h⟩ := hL hn; exact ⟨g, o, e, hS g hg, h⟩
theorem JIn.cells {W : World} {S : Nat → Prop} {t : JV} {cs : List Value} (h : JIn W S t cs) : ∃ k m e s A n c A' n' c', cs = Et k m e s A n c A' n' c' := by
 cases h with
 | mk f hk hm he hs hl hc hcc hK hL hT => exact ⟨_, _, _, _, _, _, _, _, _, _, rfl⟩
structure ValsIn (W : World) (S : Nat → Prop) (A : Option Addr) (c : Nat) (l : List JV) : Prop where
 le : l.length ≤ c
 cap : l.length ≤ 140737488351232
 top : c ≤ 9223372036854775807
 at_ : ∀ j (h : j < l.length), ∃ g o cs, A = some ⟨g, o, none⟩ ∧ S g ∧ (∀ i v, cs[i]? = some v → W.cell? ⟨g, o + j * 6 + i, none⟩ = some v) ∧ JIn W S l[j] cs
theorem ValsIn.keep {W W' : World} {S T : Nat → Prop} {A : Option Addr} {c : Nat} {l : List JV} (h : ValsIn W S A c l) (hb : ∀ g, S g → W'.heap[g]? = W.heap[g]?) (hT : ∀ g, S g → T g) : ValsIn W' T A c l :=
 ⟨h.le, h.cap, h.top, fun j hj => by
  obtain ⟨g, o, cs, e, hg, hc, hJ⟩ := h.at_ j hj; exact ⟨g, o, cs, e, hT g hg, fun i v hv => (Bw (hb g hg)).trans (hc i v hv), hJ.keep hb hT⟩⟩
theorem ValsIn.at {W : World} {S : Nat → Prop} {B : Nat} {A : Option Addr} {c : Nat} {l : List JV} (h : ValsIn W S A c l) (hS : ∀ g, S g → g < B) : ValsAt W B A c l :=
 ⟨h.le, h.cap, h.top, fun j hj => by
  obtain ⟨g, o, cs, e, hg, hc, hJ⟩ := h.at_ j hj; exact ⟨g, o, cs, e, hS g hg, hc, hJ.at hS⟩⟩
theorem ValsIn.none_ (W : World) (S : Nat → Prop) : ValsIn W S none 0 [] := ⟨Nat.le_refl _, by decide, by decide, fun _ h => absurd h (Nat.not_lt_zero _)⟩
theorem StrsIn.none_ (W : World) (S : Nat → Prop) : StrsIn W S none 0 [] := ⟨Nat.le_refl _, by decide, by decide, fun _ h => absurd h List.not_mem_nil, fun h => absurd h (by decide)⟩
theorem JIn.open {W : World} {S : Nat → Prop} {k m e : Int} {s : ByteArray} {l : List JV} {ks : List ByteArray} {cs : List Value} (h : JIn W S (.mk k m e s l ks) cs) :
  ∃ A c A' c', cs = Et k m e s A l.length c A' ks.length c' ∧ I64 k ∧ I64 m ∧ I64 e ∧ s.size ≤ 140737488351232 ∧ StrsIn W S A' c' ks ∧ ValsIn W S A c l := by
 cases h with
 | mk f hk hm he hs hl hc hcc hK hL hT =>
  refine ⟨_, _, _, _, rfl, hk, hm, he, hs, hK, hl, hc, hcc, fun j hj => ?_⟩; obtain ⟨g, o, e, hg, h⟩ := hL (by omega); exact ⟨g, o, f j, e, hg, h j hj, hT j hj⟩
/-! rows of a call's own -/
theorem B8 {w : World} {base size n : Nat} {e : TypeId} {v : Value} {xs : List Value} (h : w.ownsRow base e size v n xs) : ∀ k, v.ownBlock = some k → base ≤ k ∧ k < w.heap.size := World.ownsRow.lt h
theorem G0 {w w' : World} {base size n : Nat} {e : TypeId} {v : Value} {xs : List Value} (h : w.ownsRow base e size v n xs) (hb : ∀ k, v.ownBlock = some k → w'.heap[k]? = w.heap[k]?) : w'.ownsRow base e size v n xs := by
 refine ⟨h.1, ?_⟩; rcases h.2 with h2 | ⟨g, cap, cur, rfl, h4, h5, h6⟩
 ·exact Or.inl h2
 exact Or.inr ⟨g, cap, cur, rfl, h4, (hb g rfl).trans h5, h6⟩
structure OwnS (w : World) (base : Nat) (v : Value) (ks : List ByteArray) : Prop where
 row : w.ownsRow base 9 1 v ks.length (ks.map .string)
 small : ∀ k ∈ ks, k.size ≤ 140737488351232
theorem OwnS.nil (w : World) (base : Nat) : OwnS w base (.slice none 0 0) [] := ⟨World.ownsRow_nil w base _ 1, fun _ h => absurd h List.not_mem_nil⟩
theorem OwnS.keep {w w' : World} {base : Nat} {v : Value} {ks : List ByteArray} (h : OwnS w base v ks) (hb : ∀ k, v.ownBlock = some k → w'.heap[k]? = w.heap[k]?) : OwnS w' base v ks := ⟨G0 h.row hb, h.small⟩
theorem OwnS.lt {w : World} {base : Nat} {v : Value} {ks : List ByteArray} (h : OwnS w base v ks) : ∀ k, v.ownBlock = some k → base ≤ k ∧ k < w.heap.size := B8 h.row
theorem OwnS.form {w : World} {base : Nat} {v : Value} {ks : List ByteArray} (h : OwnS w base v ks) : ∃ A c, v = .slice A ks.length c ∧ ks.length ≤ c ∧ c ≤ 9223372036854775807 := by
 obtain ⟨_, ⟨rfl, h0⟩ | ⟨g, cap, cur, rfl, _, _, h3, h4, _⟩⟩ := h.row
 ·exact ⟨none, 0, by rw [h0], by omega, by decide⟩
 exact ⟨_, _, rfl, h3, by unfold maxLen at h4; omega⟩
open Go Go.RowKit Go.Proofs Th
def Ul (w w' : World) (g : Nat) : Prop := w.heap.size ≤ g ∧ g < w'.heap.size
theorem OwnS.kind {w : World} {base : Nat} {v : Value} {ks : List ByteArray} (h : OwnS w base v ks) : ∀ g, v.ownBlock = some g → ∃ cur, w.heap[g]? = some (.cells cur 9 (0, 0)) := by
 intro g hg; obtain ⟨_, ⟨rfl, _⟩ | ⟨g', cap, cur, rfl, _, h3, _⟩⟩ := h.row
 ·cases hg
 injection hg with hg; subst hg; exact ⟨cur, h3⟩
end Go.Proofs.YtakncilicoefdaaGreatDoor
namespace Th
open Go Go.Lib
def Sim (o : Option (NJ × St)) (p : Option (PR NJ)) : Prop := ∀ n s', o = some (n, s') → p = some (M7 n s')
theorem O8 {n : NJ} {s : St} (h : s.err = 0) : M7 n s = .ok n s.i := if_pos h
theorem NA {n : NJ} {s : St} (h : s.err ≠ 0) : M7 n s = .bad s.at_ s.err := if_neg h
theorem Sim.ok {n : NJ} {s : St} (h : s.err = 0) : Sim (some (n, s)) (okP n s.i) := fun _ _ h2 => by cases h2; rw [O8 h]; rfl
theorem Sim.bind {a : Option (NJ × St)} {p : Option (PR NJ)} {k : NJ → St → Option (NJ × St)} {k' : NJ → Nat → Option (PR NJ)} (h : Sim a p) (h1 : ∀ n s1, s1.err = 0 → Sim (k n s1) (k' n s1.i)) (h2 : ∀ n s1, s1.err ≠ 0 → Kp s1 (k n s1)) : Sim (Po a k) (AX p k') := by
 intro n s' hx; cases a with
 | none => cases hx
 | some q =>
  obtain ⟨n1, s1⟩ := q; rw [h n1 s1 rfl]; by_cases hs : s1.err = 0
  ·rw [O8 hs]; exact h1 n1 s1 hs n s' hx
  have h3 := h2 n1 s1 hs n s' hx; rw [NA hs, NA (by rw [h3.e]; exact hs), h3.e, h3.a]; rfl
end Th
namespace Go.Proofs.YtakncilicoefdaaGreatDoor
open Go Go.RowKit Go.Proofs Th
def Aa : List ByteArray → ByteArray
 | [] => ⟨#[]⟩
 | x :: r => x ++ Aa r
def tgB (k : Int) (t : ByteArray) : ByteArray := if JT k = true then t else CM t
def BK (gap : ByteArray) : ByteArray → List ByteArray → ByteArray
 | out, [] => out
 | out, t :: r => BK gap ((if out = ⟨#[]⟩ then out else out ++ gap) ++ t) r
mutual
/-- nodes and bytes -/
def wtJ : NJ → Nat
 | .mk _ s _ _ l a => 1 + s.size + (a.map fun x => 1 + x.size).sum + wtL l
def wtL : List NJ → Nat
 | [] => 0
 | n :: r => wtJ n + wtL r
end
theorem F7 {x : NJ} : ∀ {l : List NJ}, x ∈ l → wtJ x ≤ wtL l
 | a :: r, h => by
  rw [wtL]; rcases List.mem_cons.1 h with rfl | h
  ·omega
  have := F7 h; omega
theorem QG (e : Int) (h0 : -64 ≤ e) (h1 : e ≤ 64) : (Lib.itoa e).length ≤ 3 := by
 have key : ∀ u : Nat, u ≤ 64 → (Lib.decDigits u).length ≤ 2 := by
  intro u hu; rw [Lib.decDigits_length]; by_cases h : u < 10
  ·rw [Lib.nDigits_small h]; omega
  rw [Lib.nDigits_big h, Lib.nDigits_small (by omega)]; omega
 unfold Lib.itoa; split
 ·have := key e.natAbs (by omega); simp; omega
 have := key e.toNat (by omega); omega
theorem bsz (l : List UInt8) : ByteArray.size ⟨l.toArray⟩ = l.length := by simp [ByteArray.size]
theorem F4 (l : List UInt8) : (bs l).size = l.length := by unfold bs; exact bsz l
theorem SQ (m e : Int) : 0 < (AL m e).length := by
 have hd : 0 < (Lib.decDigits m.natAbs).length := by
  rw [Lib.decDigits_length]; by_cases h : m.natAbs < 10
  ·rw [Lib.nDigits_small h]; omega
  rw [Lib.nDigits_big h]; omega
 unfold AL; split
 ·simp only [List.length_append]; omega
 split
 ·simp only [List.length_append, List.length_cons]; omega
 simp only [List.length_append, List.length_cons]; omega
def Dg (c : Nat) (ts : List ByteArray) : Nat := (ts.map fun x => c + x.size).sum
theorem CA (c : Nat) (x : ByteArray) (r : List ByteArray) : Dg c (x :: r) = c + x.size + Dg c r := by simp [Dg]
theorem EC (gap : ByteArray) (c : Nat) (hc : gap.size ≤ c) : ∀ ts : List ByteArray, (AP gap ts).size ≤ Dg c ts
 | [] => by simp [AP, bsz]
 | [x] => by rw [CA, AP]; omega
 | x :: y :: r => by
  have := EC gap c hc (y :: r); rw [CA]; show (x ++ gap ++ AP gap (y :: r)).size ≤ _
  rw [ByteArray.size_append, ByteArray.size_append]; omega
theorem Jk : ∀ (f : Bool) (ts : List ByteArray), (Cx f ts).size ≤ Dg 6 ts
 | _, [] => by simp [Cx, bsz]
 | _, [x] => by simp [Cx, bsz]
 | f, x :: y :: r => by
  have := Jk false r; rw [CA, CA]; unfold Cx; have hb : (if f = true then (⟨#[]⟩ : ByteArray) else ⟨#[44, 32]⟩).size ≤ 2 := by cases f <;> decide
  have hp : (CM x).size = x.size + 2 := by unfold CM; simp only [ByteArray.size_append, bsz, List.length_cons, List.length_nil]; omega
  simp only [ByteArray.size_append, bsz, List.length_cons, List.length_nil, hp]; omega
theorem Hr (s : ByteArray) : (DC s).size ≤ 6 * s.size := by
 unfold DC; rw [F4]; have := Gr s.data.toList; rw [Al] at this; exact this
theorem T7 : ∀ x : NJ, (nmJ x).size ≤ wtJ x
 | .mk _ s _ _ l a => by show s.size ≤ _; rw [wtJ]; omega
theorem Bc (s : ByteArray) : (CM s).size = s.size + 2 := by unfold CM; simp only [ByteArray.size_append, bsz, List.length_cons, List.length_nil]; omega
theorem Pg (ks : List Int) (ts : List ByteArray) (i : Nat) : (tgJ ks ts i).size ≤ (ts.getD i ⟨#[]⟩).size + 2 := by
 unfold tgJ; split
 ·omega
 rw [Bc]; omega
theorem Fd {c d : Nat} (h : c ≤ d) : ∀ ts : List ByteArray, Dg c ts ≤ Dg d ts
 | [] => Nat.le_refl _
 | x :: r => by rw [CA, CA]; have := Fd h r; omega
theorem Ja : ∀ ts : List ByteArray, Dg 2 ts ≤ 2 * Dg 1 ts
 | [] => Nat.le_refl _
 | x :: r => by rw [CA, CA]; have := Ja r; omega
theorem Xm (ts : List ByteArray) : (ts.getD 0 ⟨#[]⟩).size + (ts.getD 1 ⟨#[]⟩).size + (ts.getD 2 ⟨#[]⟩).size ≤ Dg 0 ts := by
 have h0 : ByteArray.size ⟨#[]⟩ = 0 := rfl; match ts with
 | [] => simp [h0]
 | [x] => simp [h0, Dg]
 | [x, y] => simp [h0, Dg]
 | x :: y :: z :: r => simp [Dg]; omega
theorem S4 (gap : ByteArray) (hg : gap.size ≤ 2) (ts : List ByteArray) : (ts.getD 0 ⟨#[]⟩).size + (AP gap ts.tail).size ≤ Dg 2 ts := by
 have h0 : ByteArray.size ⟨#[]⟩ = 0 := rfl; match ts with
 | [] => simp [h0, AP]
 | x :: r => have := EC gap 2 hg r; rw [CA]; simp; omega
theorem Lx (k : Int) (s : ByteArray) : (AG k s).size ≤ 3 + s.size := by
 unfold AG; repeat' split
 all_goals try simp only [bsz, List.length_cons, List.length_nil]
 all_goals omega
theorem Qd {k : Int} {s : ByteArray} {m e : Int} {l : List NJ} {a : List ByteArray} (h : Ai (.mk k s m e l a) = true) (h6 : k = 6) : l.length = a.length + 1 ∧ (a = [A6] ∨ a = [toB] ∨ a = [A6, toB]) := by
 subst h6; simp [Ai] at h; simpa [or_assoc] using h
theorem TP {s : ByteArray} (h : CK s = true) : 0 < s.size := by
 unfold CK B4 at h; rw [Bool.and_eq_true] at h; have h := h.1; rw [← Al]; cases hs : s.data.toList with
 | nil => rw [hs] at h; cases h
 | cons c r => simp
theorem VD : ∀ (n : NJ), okJ n = true → 0 < (spJ n).size
 | .mk k s m e l a, h => by
  rw [okJ, Bool.and_eq_true] at h; obtain ⟨h1, hk⟩ := h; have hfit : Ai (.mk k s m e l a) = true := by unfold AB at h1; rw [Bool.and_eq_true] at h1; exact h1.2
  rw [spJ]; by_cases q1 : k = 1
  ·rw [if_pos q1]
   simp only [bsz, List.length_cons, List.length_nil]; omega
  rw [if_neg q1]; by_cases q26 : k = 26
  ·rw [if_pos q26]
   simp only [bsz, List.length_cons, List.length_nil]; omega
  rw [if_neg q26]; by_cases q2 : k = 2
  ·rw [if_pos q2]
   rw [F4]; exact SQ m e
  rw [if_neg q2]; by_cases q3 : k = 3
  ·rw [if_pos q3]
   unfold BQ Gf; rw [F4]; simp
  rw [if_neg q3]; by_cases q4 : k = 4
  ·rw [if_pos q4]
   simp only [ByteArray.size_append, bsz, List.length_cons, List.length_nil]; omega
  rw [if_neg q4]; by_cases q5 : k = 5
  ·rw [if_pos q5]
   simp only [ByteArray.size_append, bsz, List.length_cons, List.length_nil]; omega
  rw [if_neg q5]; by_cases q6 : k = 6
  ·rw [if_pos q6]
   simp only [ByteArray.size_append, bsz, List.length_cons, List.length_nil]; omega
  rw [if_neg q6]; by_cases q7 : k = 7
  ·rw [if_pos q7]
   simp only [ByteArray.size_append, bsz, List.length_cons, List.length_nil]; omega
  rw [if_neg q7]; by_cases q14 : k = 14
  ·rw [if_pos q14]
   simp only [ByteArray.size_append, bsz, List.length_cons, List.length_nil]; omega
  rw [if_neg q14]; by_cases q15 : k = 15
  ·rw [if_pos q15]
   simp only [ByteArray.size_append, bsz, List.length_cons, List.length_nil]; omega
  rw [if_neg q15]; by_cases q16 : k = 16
  ·rw [if_pos q16]
   simp only [ByteArray.size_append, bsz, List.length_cons, List.length_nil]; omega
  rw [if_neg q16]; by_cases q17 : k = 17
  ·rw [if_pos q17]
   simp only [ByteArray.size_append, bsz, List.length_cons, List.length_nil]; omega
  rw [if_neg q17]; by_cases q18 : k = 18
  ·rw [if_pos q18]
   simp only [ByteArray.size_append, bsz, List.length_cons, List.length_nil]; omega
  rw [if_neg q18]; by_cases q19 : k = 19 ∨ k = 20
  ·rw [if_pos q19]
   simp only [ByteArray.size_append, bsz, List.length_cons, List.length_nil]; omega
  rw [if_neg q19]; by_cases q21 : k = 21
  ·rw [if_pos q21]
   simp only [ByteArray.size_append, bsz, List.length_cons, List.length_nil]; omega
  rw [if_neg q21]; by_cases q22 : k = 22
  ·rw [if_pos q22]
   simp only [ByteArray.size_append, bsz, List.length_cons, List.length_nil]; omega
  rw [if_neg q22]; by_cases q23 : k = 23
  ·rw [if_pos q23]
   by_cases hl : l.length = 0
   ·rw [if_pos hl]; exact TP (by subst q23; simpa [Ai] using hfit)
   rw [if_neg hl]; simp only [ByteArray.size_append, bsz, List.length_cons, List.length_nil]; omega
  rw [if_neg q23]; by_cases q24 : k = 24
  ·rw [if_pos q24]
   simp only [ByteArray.size_append, bsz, List.length_cons, List.length_nil]; omega
  rw [if_neg q24]; simp only [ByteArray.size_append, bsz, List.length_cons, List.length_nil]; omega
theorem OS (gap : ByteArray) : ∀ (ts : List ByteArray) (out : ByteArray), out ≠ ⟨#[]⟩ → (∀ t ∈ ts, 0 < t.size) → BK gap out ts = (if ts = [] then out else out ++ gap ++ AP gap ts)
 | [], out, _, _ => rfl
 | [t], out, ho, _ => by
  show (if out = ⟨#[]⟩ then out else out ++ gap) ++ t = _
  rw [if_neg ho, if_neg (by simp)]; rfl
 | t :: u :: r, out, ho, ht => by
  have hne : out ++ gap ++ t ≠ ⟨#[]⟩ := fun h => by
   have h1 : (out ++ gap ++ t).size = 0 := by rw [h]; rfl
   have h2 := ht t List.mem_cons_self; rw [ByteArray.size_append] at h1; omega
  have := OS gap (u :: r) (out ++ gap ++ t) hne (fun y hy => ht y (List.mem_cons_of_mem _ hy)); show BK gap ((if out = ⟨#[]⟩ then out else out ++ gap) ++ t) (u :: r) = _
  rw [if_neg ho, this, if_neg (by simp), if_neg (by simp)]; show out ++ gap ++ t ++ gap ++ AP gap (u :: r) = out ++ gap ++ (t ++ gap ++ AP gap (u :: r))
  simp [ByteArray.append_assoc]
theorem Gu (gap : ByteArray) (ts : List ByteArray) (ht : ∀ t ∈ ts, 0 < t.size) : BK gap ⟨#[]⟩ ts = AP gap ts := by
 cases ts with
 | nil => rfl
 | cons t r =>
  have hne : t ≠ ⟨#[]⟩ := fun h => by
   have := ht t List.mem_cons_self; rw [h] at this; exact absurd this (by decide)
  show BK gap ((if (⟨#[]⟩ : ByteArray) = ⟨#[]⟩ then _ else _) ++ t) r = _
  rw [if_pos rfl, show (⟨#[]⟩ : ByteArray) ++ t = t from ByteArray.empty_append, OS gap r t hne fun y hy => ht y (List.mem_cons_of_mem _ hy)]; cases r with
  | nil => rw [if_pos rfl]; rfl
  | cons u r => rw [if_neg (by simp)]; rfl
open Go Go.RowKit Go.Proofs Th
open Go Go.RowKit Go.Proofs Th
attribute [local go_sem] Above.cell Above.frozen
theorem Pb (m e : Int) (hm : I64 m) (w : World) :
  Calls Tryz.prog 59 #[.agg #[.int .i64 m, .int .i64 e]] w fun r w' => ∃ A c, r = .returned (.agg #[.bool (decide (m < 0)), .slice A (Ap m.natAbs).length c, .int .i64 e]) ∧ IntsAt w' w'.heap.size A c (Ap m.natAbs) ∧ Below w.heap.size w w' := NR m e hm w
end Go.Proofs.YtakncilicoefdaaGreatDoor
