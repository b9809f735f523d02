/- Lemmas and contracts. Conditions: those that each lemma names. -/
import Derived.Test.YtakncilicoefdaaGreatDoorPz33
import Derived.Test.YtakncilicoefdaaGreatDoorPz6
set_option maxRecDepth 100000
set_option maxHeartbeats 4000000
namespace Go.Proofs.YtakncilicoefdaaGreatDoor
open Go Go.Deep Go.WideElems Go.ChangeShapes Go.WideShapes Go.ChangeAt Go.RowKit Go.Proofs Th
mutual
/-- numbers and texts as a memory can hold them -/
def FE : NJ → Prop
 | .mk k s m e l a => I64 k ∧ I64 m ∧ I64 e ∧ s.size ≤ 140737488351232 ∧ (∀ x ∈ a, x.size ≤ 140737488351232) ∧ JL l
def JL : List NJ → Prop
 | [] => True
 | n :: r => FE n ∧ JL r
end
theorem K5 : ∀ l : List NJ, JL l ↔ ∀ n ∈ l, FE n
 | [] => by simp [JL]
 | n :: r => by rw [JL, K5 r]; simp
def VR (W : World) : CS := fun g _ => g < W.heap.size
section
variable {H : Type} {enc : TypeId × Value → H} {W W' : World}
end
open Go Go.RowKit Go.Proofs Th
def GX (W : World) (S : CS) : Prop := ∀ W', (∀ g o, S g o → W'.cell? ⟨g, o, none⟩ = W.cell? ⟨g, o, none⟩) → Glob W' ∧ Utf W' ∧ GlobX W'
theorem gkX : GK GX := fun _ _ _ _ h hc hS W2 h2 => h W2 fun g o hs => (h2 g o (hS g o hs)).trans (hc g o hs)
theorem GX.now {W : World} {S : CS} (h : GX W S) : Glob W ∧ Utf W ∧ GlobX W := h W fun _ _ _ => rfl
theorem FK {P : Program} {G : World → CS → Prop} {f : FuncId} {us : List Value} {x : IV} (hf : ∃ fn, P.funcs[f]? = some fn ∧ fn.body.isNone = false ∧ (fn.name == "runtime.NumGoroutine") = false)
  (h : ∀ W S, G W S → Calls P f us.toArray W fun e W' => (∃ u, e = .returned u ∧ ∀ S', Rep W' S' x u) ∧ Below W.heap.size W W') : ACalls P G f none (us.map IV.v) (.ret x []) := by
 refine ⟨hf, fun W S p ws hG hSb _ hws => ?_⟩; have hwu : ∀ (us ws : List Value), RepL W S (us.map IV.v) ws → ws = us := by
  intro us; induction us with
  | nil => intro ws h; exact List.eq_nil_of_length_eq_zero h.1
  | cons u r ih =>
   intro ws h; cases ws with
   | nil => exact absurd h.1 (by simp)
   | cons w ws =>
    rw [Dl (h.2 0 (IV.v u) w rfl rfl), ih ws ⟨by simpa using h.1, fun i x u hx hu => h.2 (i + 1) x u hx hu⟩]
 obtain rfl := hwu us ws hws; exact (h W S hG).mono fun e W' ⟨⟨u, he, hr⟩, hb⟩ => ⟨⟨u, he, hr _⟩, fun h => (by cases h), D9 hb⟩
theorem Gs {W : World} {S : CS} {xs : List IV} {us : List Value} (h : RepL W S xs us) : Rep W S (.tup xs) (.tuple us.toArray) := .tup h.1 h.2
theorem X5 {W : World} {S : CS} {xs : List IV} {us : List Value} (h : RepL W S xs us) : Rep W S (.agg xs) (.agg us.toArray) := .agg h.1 h.2
theorem aO : Vu GX := fun s hs hd => FK (us := [.string s]) ⟨_, Tryz.func150, rfl, rfl⟩ fun W S hG => (SO s (by omega) hd W hG.now.1).mono fun e W' ⟨he, hb⟩ =>
 ⟨⟨_, he, fun S' => Gs (us := [_, _]) (RepL.cons (X5 (us := [_, _]) (RepL.cons (.v _) (RepL.cons (.v _) (RepL.nil _ _)))) (RepL.cons (.v _) (RepL.nil _ _)))⟩, hb⟩
theorem ZQ : O4 GX := fun s hs => FK (us := [.string s]) ⟨_, Tryz.func154, rfl, rfl⟩ fun W S hG => (SE s (by omega) W hG.now.2.1).mono fun e W' ⟨b, he, hbl, hb⟩ => by
 obtain rfl : b = ⟨(BA (toL s)).1.toArray⟩ := by
  have : b.data.toList = (BA (toL s)).1 := hbl; rw [← this]
 exact ⟨⟨_, he, fun S' => Gs (us := [_, _, _]) (RepL.cons (.v _) (RepL.cons (.v _) (RepL.cons (.v _) (RepL.nil _ _))))⟩, hb⟩
theorem WY {W : World} {S : CS} {T : Nat → Prop} {A : Option Addr} {c : Nat} {l : List Tf} (h : ToksIn W T A c l) (hT : ∀ g o, T g → S g o) : Rep W S (.sl (l.map DO) false) (.slice A l.length c) := by
 have hg : ∀ (j : Nat) e, (l.map DO)[j]? = some e → ∃ hj : j < l.length, e = DO l[j] := fun j e he => by
  rw [List.getElem?_map] at he; cases hq : l[j]? with
  | none => rw [hq] at he; cases he
  | some q =>
   rw [hq] at he; obtain ⟨hj, hq2⟩ := List.getElem?_eq_some_iff.1 hq; injection he with he; exact ⟨hj, by rw [hq2, he]⟩
 have hll : (l.map DO).length = l.length := List.length_map _; have hcap := h.cap; obtain ⟨f, hf⟩ : ∃ f : Nat → Nat → Value, f = fun j i => match l[j]? with
  | some t => (match i with | 0 => .int .i64 (t.kind : Int) | 1 => .string t.text | _ => .int .i64 (t.at_ : Int))
  | none => undef := ⟨_, rfl⟩
 rw [← hll]; refine .sl 3 f (by rw [hll]; exact h.le) h.top (by omega) (fun h => by cases h) (fun e he => ?_) (fun hn => ?_) (fun j i e x he hx => ?_)
 ·obtain ⟨t, _, rfl⟩ := List.mem_map.1 he
  exact ⟨rfl, fun x hx => by simp only [DO, List.mem_cons, List.not_mem_nil, or_false] at hx; rcases hx with rfl | rfl | rfl <;> rfl⟩
 ·obtain ⟨g, o, e, h1, h2⟩ := h.at_ (by omega)
  refine ⟨g, o, e, fun j i hj hi => ⟨hT _ _ h1, ?_⟩⟩; obtain ⟨c0, c1, c2⟩ := h2 j (by omega); rw [hf]; have hlj : l[j]? = some (l[j]'(by omega)) := List.getElem?_eq_getElem _; match i, hi with
  | 0, _ => simp only [hlj]; exact c0
  | 1, _ => simp only [hlj]; exact c1
  | 2, _ => simp only [hlj]; exact c2
 obtain ⟨hj, rfl⟩ := hg j e he; rw [hf]; have hlj : l[j]? = some l[j] := List.getElem?_eq_getElem hj; simp only [hlj]; match i, hx with
 | 0, hx => injection hx with hx; rw [← hx]; exact .v _
 | 1, hx => injection hx with hx; rw [← hx]; exact .v _
 | 2, hx => injection hx with hx; rw [← hx]; exact .v _
 | i + 3, hx => exact absurd hx (by simp [DO])
theorem L6 : LO GX := fun s hs => by
 refine ⟨⟨_, Tryz.func23, rfl, rfl⟩, fun W S p ws hG hSb _ hws => ?_⟩; obtain rfl := Ih [.string s] ws hws; refine (R9 s hs W hG.now.2.2).mono fun e W' ⟨A, c, he, ht, hb⟩ => ⟨⟨_, he, ?_⟩, fun h => (by cases h), D9 hb⟩
 exact Gs (us := [_, _, _]) (RepL.cons (WY ht fun g o hg => Or.inr hg) (RepL.cons (.v _) (RepL.cons (.v _) (RepL.nil _ _))))
open Go Go.RowKit Go.Proofs Th
set_option maxRecDepth 8000
attribute [local go_sem] sel
attribute [local go_sem] Et Ds BI Jo JJ IW
attribute [local go_sem] GD List.map_append List.map_cons List.map_nil List.length_map
variable {G : World → CS → Prop}
theorem P3 : ZE Tryz.prog 23 := fun op x y a b c d W hop => by
 have h1 : (Op.equal 23 (.agg #[.int .i64 a, .int .i64 b]) (.agg #[.int .i64 c, .int .i64 d])).run Tryz.prog W = .ok (decide (a = c) && decide (b = d)) W := O2 a b c d W; refine ⟨?_, h1⟩; have hg : Tryz.prog.eqGuardType Tryz.prog.depth 23 = false := by kernel_rfl
 rcases hop with rfl | rfl <;> simp [eqGuard, hg]
theorem It {W : World} {S : CS} {us : List Value} {cs : List IV} {r : List IV} {i : Nat} {es : List (List IV)} {fl : Bool} (h : RepL W S (.agg cs :: r) us) (hi : cs[i]? = some (.sl es fl)) : es.length ≤ 140737488351232 := by
 obtain ⟨hlen, hr⟩ := h; rcases us with _ | ⟨u, us⟩
 ·cases hlen
 have h0 := hr 0 _ u rfl rfl; cases h0 with
 | @agg _ vs hl hR =>
  have hlt := (List.getElem?_eq_some_iff.1 hi).1; obtain ⟨v, hv⟩ : ∃ v, vs[i]? = some v := ⟨_, List.getElem?_eq_getElem (by omega : i < vs.length)⟩
  have h4 := hR i _ v hi hv; cases h4 with
  | sl _ _ _ _ hl2 => exact hl2
attribute [go_sem] GD List.map_append List.map_cons List.map_nil List.length_map
attribute [go_sem] Et Ds BI Jo JJ IW
end Go.Proofs.YtakncilicoefdaaGreatDoor
