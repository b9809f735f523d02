/- Lemmas and contracts for the laws CalcLengths, part 34 of 37: JoinedV. Conditions: those that each lemma names. -/
import Derived.Test.YtnkokhpadcgfbaaGreatDoorPack33
import Derived.Laws.MakeOwn
namespace Go.Proofs.YtnkokhpadcgfbaaGreatDoor
open Go Go.RowKit Go.Proofs Th
attribute [local go_sem] Above.cell
structure ValsFrom (W : World) (S T : Nat → Prop) (A : Option Addr) (c : Nat) (l : List JV) : Prop where
  le : l.length ≤ c
  cap : l.length ≤ 140737488351232
  top : c ≤ 9223372036854775807
  at_ : ∀ j (h : j < l.length), ∃ g o cs, A = some ⟨g, o, none⟩ ∧ T g ∧ (∀ i v, cs[i]? = some v → W.cell? ⟨g, o + j * 6 + i, none⟩ = some v) ∧ JIn W S l[j] cs
theorem ValsAt.from_ {w : World} {B : Nat} {A : Option Addr} {c : Nat} {l : List JV} (h : ValsAt w B A c l) : ValsFrom w (· < B) (· < B) A c l :=
  ⟨h.le, h.cap, h.top, fun j hj => by
    obtain ⟨g, o, cs, e, hg, hc, hJ⟩ := h.at_ j hj
    exact ⟨g, o, cs, e, hg, hc, hJ.inn⟩⟩
theorem ValsFrom.news {w : World} {S T : Nat → Prop} {ad : Addr} {c : Nat} {l : List JV} (h : ValsFrom w S T (some ad) c l) : ∀ n, n ≤ l.length → ∃ news : List Value, news.length = n * 6 ∧ (∀ j u, news[j]? = some u → w.cell? (ad.add j) = some u) ∧ (∀ u ∈ news, u.oneCell' = true) ∧ ∀ j (hj : j < l.length), j < n → JIn w S l[j] ((news.drop (j * 6)).take 6)
  | 0, _ => ⟨[], rfl, fun _ _ h => by simp at h, fun _ h => absurd h List.not_mem_nil, fun _ _ h => absurd h (Nat.not_lt_zero _)⟩
  | n + 1, hn => by
    obtain ⟨news, h1, h2, h3, h4⟩ := ValsFrom.news h n (by omega)
    obtain ⟨g, o, cs, e, hg, hc, hJ⟩ := h.at_ n (by omega)
    injection e with e
    subst e
    obtain ⟨h6, h7⟩ := hJ.six
    refine ⟨news ++ cs, by rw [List.length_append, h1, h6]; omega, fun j u hu => ?_, fun u hu => (List.mem_append.1 hu).elim (h3 u) (h7 u), fun j hj hjn => ?_⟩
    · by_cases hj : j < news.length
      · rw [List.getElem?_append_left hj] at hu
        exact h2 j u hu
      · rw [List.getElem?_append_right (by omega)] at hu
        have := hc _ _ hu
        rw [add_at]
        rw [h1] at this
        rw [← this]; congr 2; omega
    · by_cases hlt : j < n
      · rw [List.drop_append_of_le_length (by omega), List.take_append_of_le_length (by rw [List.length_drop]; omega)]
        exact h4 j hj hlt
      · obtain rfl : j = n := by omega
        rw [← h1, List.drop_append_of_le_length (Nat.le_refl _), List.drop_length, List.nil_append, List.take_of_length_le (by omega)]
        exact hJ
set_option maxRecDepth 100000 in
/-- append of many values -/
theorem run_append_vals_many {w : World} (ty : TypeId) (base : Nat) (S T : Nat → Prop) (v : Value) (l : List JV) (hown : OwnV w base S v l) (A : Option Addr) (c : Nat) (es : List JV) (hr : ValsFrom w S T A c es)
    (hl : l.length + es.length ≤ 1000000000) (hbase : base ≤ w.heap.size) (hnot : ∀ k, v.ownBlock = some k → ¬ S k) (hS : ∀ k, S k → k < w.heap.size) :
    ∃ v' w', (Builtin.append_ #[24, 24] ty #[v, .slice A es.length c]).run Tryz.prog w = .ok v' w' ∧ OwnV w' base S v' (l ++ es) ∧ w.grownBy w' v.ownBlock ∧ (v'.ownBlock = v.ownBlock ∨ v'.ownBlock = some w.heap.size) := by
  obtain ⟨i, hi, hz, hsize, hby⟩ := info_parts vals_info
  have ht := Tryz.underlying24
  cases A with
  | none =>
    have hes : es = [] := by
      cases es with
      | nil => rfl
      | cons a b => obtain ⟨_, _, _, h, _⟩ := hr.at_ 0 (by simp); cases h
    subst hes
    refine ⟨v, w, ?_, by simpa using hown, ⟨rfl, rfl, rfl, Nat.le_refl _, fun _ _ _ => rfl⟩, Or.inl rfl⟩
    obtain ⟨xs, h1, _⟩ := hown.ex
    rcases h1.2 with ⟨rfl, hx⟩ | ⟨g, cap, cur, rfl, _, _, hnc, _⟩
    · simp [Builtin.append_, run_underlying ht, sizeOf, typeInfo, hi, Builtin.lenOf, Builtin.firstCells]
    · simp [Builtin.append_, run_underlying ht, sizeOf, typeInfo, hi, Builtin.lenOf, Builtin.firstCells, hnc, storeCells]
  | some ad =>
    obtain ⟨news, n1, n2, n3, n4⟩ := hr.news es.length (Nat.le_refl _)
    obtain ⟨xs, h1, h2⟩ := hown.ex
    obtain ⟨v', w', hrun, h3, h4, _, h5⟩ := run_append_own_at (P := Tryz.prog) w base 24 ty 27 i _ 6 88 ht hi hz hsize hby rfl (by omega) v l.length xs h1 ad es.length c news n1 n2 n3 (by simp [maxLen]; omega) (by omega) hbase
    have hb : ∀ g, S g → w'.heap[g]? = w.heap[g]? := fun g hg => h4.block g (hS g hg) (fun e => hnot g e.symm hg)
    refine ⟨v', w', hrun, ⟨xs ++ news, by rw [List.length_append]; exact h3, fun j hj => ?_⟩, h4, h5⟩
    have hx : xs.length = l.length * 6 := h1.1
    by_cases hlt : j < l.length
    · rw [List.getElem_append_left hlt, List.drop_append_of_le_length (by omega), List.take_append_of_le_length (by rw [List.length_drop]; omega)]
      exact (h2 j hlt).keep hb (fun _ h => h)
    · rw [List.length_append] at hj
      rw [List.getElem_append_right (by omega), List.drop_append, List.drop_of_length_le (by omega), List.nil_append]
      have := n4 (j - l.length) (by omega) (by omega)
      rw [show j * 6 - xs.length = (j - l.length) * 6 by rw [hx, Nat.sub_mul]]
      exact this.keep hb (fun _ h => h)
theorem wpList_app_many {w : World} {ops : Array Oper} {rest : List Oper} {o : Oper} {a : Act} {Q : Exit → Act → World → Prop} (hgd : o.guard = none) (s x : Operand)
    (ho : o.op = .call { callee := .builtin .append, args := #[s, x], argTypes := #[24, 24] })
    (base : Nat) (S T : Nat → Prop) (v : Value) (l : List JV) (hs : a.eval s = v) (hown : OwnV w base S v l) (A : Option Addr) (n c : Nat) (es : List JV) (hn : n = es.length) (hx : a.eval x = .slice A n c) (hr : ValsFrom w S T A c es)
    (hl : l.length + es.length ≤ 1000000000) (hbase : base ≤ w.heap.size) (hnot : ∀ k, v.ownBlock = some k → ¬ S k) (hS : ∀ k, S k → k < w.heap.size)
    (h : ∀ v' w', OwnV w' base S v' (l ++ es) → w.grownBy w' v.ownBlock → (v'.ownBlock = v.ownBlock ∨ v'.ownBlock = some w.heap.size) → wpList Tryz.prog ops Q rest (a.put o.dst v') w') : wpList Tryz.prog ops Q (o :: rest) a w := by
  subst hn
  refine wpList_plain hgd fun K hK => ?_
  obtain ⟨v', w', hrun, h2, h3, h4⟩ := run_append_vals_many (w := w) o.type base S T v l hown A c es hr hl hbase hnot hS
  unfold Oper.wp execOp
  simp only [ho, resolve, invoke, builtin, Sem.run_bind, Sem.run_pure, Result.andThen_ok, List.map_toArray, List.map_cons, List.map_nil, hs, hx, hrun]
  exact hK _ _ (h v' w' h2 h3 h4)
set_option maxRecDepth 100000 in
set_option maxHeartbeats 4000000 in
theorem calc_joined (l r : List JV) (A : Option Addr) (c : Nat) (B : Option Addr) (d : Nat) (w : World) (Q : Nat) (hQ : Q ≤ w.heap.size) (hlr : l.length + r.length ≤ 100000) (hV : ValsAt w Q A c l) (hR : ValsAt w Q B d r) :
    Calls Tryz.prog 61 #[.slice A l.length c, .slice B r.length d] w fun e w' => ∃ v, e = .returned v ∧ OwnV w' w.heap.size (· < Q) v (l ++ r) ∧ Below w.heap.size w w' := by
  obtain ⟨i, hi, hz, hsize, hby⟩ := info_parts vals_info
  obtain ⟨N, hN⟩ : ∃ N : Nat, l.length + r.length = N := ⟨_, rfl⟩
  have hNi : (l.length : Int) + r.length = (N : Int) := by omega
  obtain ⟨W1, hmk, hown, hg1⟩ := run_make_own (P := Tryz.prog) w w.heap.size 24 27 i _ 6 Tryz.underlying24 hi hz hsize .i64 .i64 N (by rw [hby]; omega) (by simp [maxLen]; omega) (Nat.le_refl _)
  obtain ⟨v0, hv0⟩ : ∃ v0 : Value, Value.slice (some ⟨w.heap.size, 0, none⟩) 0 N = v0 := ⟨_, rfl⟩
  rw [hv0] at hmk hown
  clear hv0
  have HB1 := Keep.mk (show Below w.heap.size w W1 from (Below.refl _ _).grown hg1 (Nat.le_refl _) (fun b hb => by cases hb))
  have HO1 := Keep.mk (show OwnV W1 w.heap.size (· < Q) v0 [] from ⟨[], hown, fun _ h => absurd h (Nat.not_lt_zero _)⟩)
  have HV := Keep.mk hV
  have HR := Keep.mk hR
  have hlc := hV.cap
  have hrc := hR.cap
  clear hV hR hown hg1 hi hz hsize hby
  go_enter Tryz.func61, Tryz.ntmps61
  go_wp2_with (at_builtin; refine wpList_app_many rfl (.tmp 10) (.tmp 11) rfl w.heap.size (· < Q) (· < Q) _ [] rfl HO1.out A _ c l rfl rfl (HV.out.below HB1.out hQ).from_ ?_ ?_ ?_ ?_ ?_)
  · simp only [List.length_nil]; omega
  · exact HB1.out.size
  · intro b hb h; have := (HO1.out.lt b hb).1; have h : b < Q := h; omega
  · intro b h; have h : b < Q := h; have := HB1.out.size; omega
  · intro v2 w2 hO2 hg2 hv2
    have HB2 := Keep.mk (HB1.out.trans (grown_below hg2 HB1.out.size (fun b hb => (HO1.out.lt b hb).1)))
    have HO2 := Keep.mk hO2
    clear hO2 hg2 hv2 HO1
    go_wp2_with (at_builtin; refine wpList_app_many rfl (.tmp 12) (.tmp 13) rfl w.heap.size (· < Q) (· < Q) _ l rfl HO2.out B _ d r rfl rfl (HR.out.below HB2.out hQ).from_ ?_ ?_ ?_ ?_ ?_)
    · omega
    · exact HB2.out.size
    · intro b hb h; have := (HO2.out.lt b hb).1; have h : b < Q := h; omega
    · intro b h; have h : b < Q := h; have := HB2.out.size; omega
    · intro v3 w3 hO3 hg3 hv3
      have HB3 := Keep.mk (HB2.out.trans (grown_below hg3 HB2.out.size (fun b hb => (HO2.out.lt b hb).1)))
      clear hg3 hv3
      go_wp2
      go_ret
      exact ⟨v3, rfl, hO3, HB3.out⟩
end Go.Proofs.YtnkokhpadcgfbaaGreatDoor
