/- Lemmas and contracts for the laws SyntaxBrackets, SyntaxJoins, SyntaxSides, part 37 of 44: SynK. Conditions: those that each lemma names. -/
import Derived.Test.YtnhnpahoppbniaaDoorPb36
import Derived.Test.YtnhnpahoppbniaaDoorPb8
import Derived.Test.YtnhnpahoppbniaaDoorPb6
import Derived.Test.YtnhnpahoppbniaaDoorPb31
import Derived.Test.YtnhnpahoppbniaaDoorPb27
namespace Go.Proofs.YtnhnpahoppbniaaDoor
open Go Go.RowKit Go.Proofs Th
def GX (W : World) (S : CS) : Prop := ∀ W', (∀ g o, S g o → W'.cell? ⟨g, o, none⟩ = W.cell? ⟨g, o, none⟩) → Glob W' ∧ Utf W' ∧ GlobX W'
theorem gkX : GK GX := fun _ _ _ _ h hc hS W2 h2 => h W2 fun g o hs => (h2 g o (hS g o hs)).trans (hc g o hs)
theorem GX.now {W : World} {S : CS} (h : GX W S) : Glob W ∧ Utf W ∧ GlobX W := h W fun _ _ _ => rfl
theorem ACalls.lib2 {P : Program} {G : World → CS → Prop} {f : FuncId} {us : List Value} {x : IV} (hf : ∃ fn, P.funcs[f]? = some fn ∧ fn.body.isNone = false ∧ (fn.name == "runtime.NumGoroutine") = false)
    (h : ∀ W S, G W S → Calls P f us.toArray W fun e W' => (∃ u, e = .returned u ∧ ∀ S', Rep W' S' x u) ∧ Below W.heap.size W W') : ACalls P G f none (us.map IV.v) (.ret x []) := by
  refine ⟨hf, fun W S p ws hG hSb _ hws => ?_⟩
  have hwu : ∀ (us ws : List Value), RepL W S (us.map IV.v) ws → ws = us := by
    intro us
    induction us with
    | nil => intro ws h; exact List.eq_nil_of_length_eq_zero h.1
    | cons u r ih =>
      intro ws h
      cases ws with
      | nil => exact absurd h.1 (by simp)
      | cons w ws =>
        rw [rep_v (h.2 0 (IV.v u) w rfl rfl), ih ws ⟨by simpa using h.1, fun i x u hx hu => h.2 (i + 1) x u hx hu⟩]
  obtain rfl := hwu us ws hws
  exact (h W S hG).mono fun e W' ⟨⟨u, he, hr⟩, hb⟩ => ⟨⟨u, he, hr _⟩, fun h => (by cases h), UpdR.of_below hb⟩
theorem rep_tup {W : World} {S : CS} {xs : List IV} {us : List Value} (h : RepL W S xs us) : Rep W S (.tup xs) (.tuple us.toArray) := .tup h.1 h.2
theorem rep_agg {W : World} {S : CS} {xs : List IV} {us : List Value} (h : RepL W S xs us) : Rep W S (.agg xs) (.agg us.toArray) := .agg h.1 h.2
theorem numX : NumP GX := fun s hs => ACalls.lib2 (us := [.string s]) ⟨_, Tryd.func55, rfl, rfl⟩ fun W S hG => (num_Parse s (by omega) W hG.now.1).mono fun e W' ⟨he, hb⟩ =>
  ⟨⟨_, he, fun S' => rep_tup (us := [_, _]) (RepL.cons (rep_agg (us := [_, _]) (RepL.cons (.v _) (RepL.cons (.v _) (RepL.nil _ _)))) (RepL.cons (.v _) (RepL.nil _ _)))⟩, hb⟩
theorem quoteX : QuoteP GX := fun s hs => ACalls.lib2 (us := [.string s]) ⟨_, Tryd.func59, rfl, rfl⟩ fun W S hG => (quote_Read s (by omega) W hG.now.2.1).mono fun e W' ⟨b, he, hbl, hb⟩ => by
  obtain rfl : b = ⟨(readQ (toL s)).1.toArray⟩ := by
    have : b.data.toList = (readQ (toL s)).1 := hbl
    rw [← this]
  exact ⟨⟨_, he, fun S' => rep_tup (us := [_, _, _]) (RepL.cons (.v _) (RepL.cons (.v _) (RepL.cons (.v _) (RepL.nil _ _))))⟩, hb⟩
theorem rep_toks {W : World} {S : CS} {T : Nat → Prop} {A : Option Addr} {c : Nat} {l : List Tf} (h : ToksIn W T A c l) (hT : ∀ g o, T g → S g o) : Rep W S (.sl (l.map tokIV) false) (.slice A l.length c) := by
  have hg : ∀ (j : Nat) e, (l.map tokIV)[j]? = some e → ∃ hj : j < l.length, e = tokIV l[j] := fun j e he => by
    rw [List.getElem?_map] at he
    cases hq : l[j]? with
    | none => rw [hq] at he; cases he
    | some q =>
      rw [hq] at he
      obtain ⟨hj, hq2⟩ := List.getElem?_eq_some_iff.1 hq
      injection he with he
      exact ⟨hj, by rw [hq2, he]⟩
  have hll : (l.map tokIV).length = l.length := List.length_map _
  have hcap := h.cap
  obtain ⟨f, hf⟩ : ∃ f : Nat → Nat → Value, f = fun j i => match l[j]? with
    | some t => (match i with | 0 => .int .i64 (t.kind : Int) | 1 => .string t.text | _ => .int .i64 (t.at_ : Int))
    | none => undef := ⟨_, rfl⟩
  rw [← hll]
  refine .sl 3 f (by rw [hll]; exact h.le) h.top (by omega) (fun h => by cases h) (fun e he => ?_) (fun hn => ?_) (fun j i e x he hx => ?_)
  · obtain ⟨t, _, rfl⟩ := List.mem_map.1 he
    exact ⟨rfl, fun x hx => by simp only [tokIV, List.mem_cons, List.not_mem_nil, or_false] at hx; rcases hx with rfl | rfl | rfl <;> rfl⟩
  · obtain ⟨g, o, e, h1, h2⟩ := h.at_ (by omega)
    refine ⟨g, o, e, fun j i hj hi => ⟨hT _ _ h1, ?_⟩⟩
    obtain ⟨c0, c1, c2⟩ := h2 j (by omega)
    rw [hf]
    have hlj : l[j]? = some (l[j]'(by omega)) := List.getElem?_eq_getElem _
    match i, hi with
    | 0, _ => simp only [hlj]; exact c0
    | 1, _ => simp only [hlj]; exact c1
    | 2, _ => simp only [hlj]; exact c2
  · obtain ⟨hj, rfl⟩ := hg j e he
    rw [hf]
    have hlj : l[j]? = some l[j] := List.getElem?_eq_getElem hj
    simp only [hlj]
    match i, hx with
    | 0, hx => injection hx with hx; rw [← hx]; exact .v _
    | 1, hx => injection hx with hx; rw [← hx]; exact .v _
    | 2, hx => injection hx with hx; rw [← hx]; exact .v _
    | i + 3, hx => exact absurd hx (by simp [tokIV])
theorem scanX : ScanP GX := fun s hs => by
  refine ⟨⟨_, Tryd.func10, rfl, rfl⟩, fun W S p ws hG hSb _ hws => ?_⟩
  obtain rfl := repL_v [.string s] ws hws
  refine (token_Scan s hs W hG.now.2.2).mono fun e W' ⟨A, c, he, ht, hb⟩ => ⟨⟨_, he, ?_⟩, fun h => (by cases h), UpdR.of_below hb⟩
  exact rep_tup (us := [_, _, _]) (RepL.cons (rep_toks ht fun g o hg => Or.inr hg) (RepL.cons (.v _) (RepL.cons (.v _) (RepL.nil _ _))))
end Go.Proofs.YtnhnpahoppbniaaDoor
