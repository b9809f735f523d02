/- Lemmas and contracts for the laws ReadParses, ReadBytes, part 28 of 50: Stack. Conditions: those that each lemma names. -/
import Derived.Test.YtbngjlkmpdccjaaGreatDoorPack24
import Derived.Outline
import Derived.Laws.OwnMore
namespace Go.Proofs.YtbngjlkmpdccjaaGreatDoor
open Go Go.RowKit Go.Proofs Th
attribute [local go_sem] Above.cell
def cells3 (r : Int × Value × Value) : List Value := [.int .i64 r.1, r.2.1, r.2.2]
def rowsC : List (Int × Value × Value) → List Value
  | [] => []
  | r :: t => cells3 r ++ rowsC t
theorem rowsC_append : ∀ (a b : List (Int × Value × Value)), rowsC (a ++ b) = rowsC a ++ rowsC b
  | [], _ => rfl
  | r :: t, b => by simp only [List.cons_append, rowsC, rowsC_append t b, List.append_assoc]
theorem rowsC_len : ∀ (a : List (Int × Value × Value)), (rowsC a).length = a.length * 3
  | [] => rfl
  | r :: t => by simp only [rowsC, List.length_append, rowsC_len t, List.length_cons, cells3, List.length_nil]; omega
theorem rowsC_get : ∀ (a : List (Int × Value × Value)) (j : Nat) (h : j < a.length) (i : Nat), i < 3 → (rowsC a)[j * 3 + i]? = (cells3 a[j])[i]?
  | r :: t, 0, _, i, hi => by
    simp only [rowsC]
    rw [show 0 * 3 + i = i by omega, List.getElem?_append_left (by simp [cells3]; omega)]; rfl
  | r :: t, j + 1, h, i, hi => by
    simp only [rowsC]
    rw [List.getElem?_append_right (by simp [cells3]; omega), show (j + 1) * 3 + i - (cells3 r).length = j * 3 + i by simp [cells3]; omega]
    exact rowsC_get t j (by simpa using h) i hi
def OpensAt (w : World) (base : Nat) (sv : Value) (rows : List (Int × Value × Value)) : Prop := w.ownsRow base 48 3 sv rows.length (rowsC rows)
theorem OpensAt.form {w : World} {base : Nat} {v : Value} {rows : List (Int × Value × Value)} (h : OpensAt w base v rows) : ∃ A c, v = .slice A rows.length c ∧ rows.length ≤ c ∧ c ≤ 9223372036854775807 := by
  obtain ⟨_, ⟨rfl, h0⟩ | ⟨g, cap, cur, rfl, _, _, h3, h4, _⟩⟩ := h
  · exact ⟨none, 0, by rw [h0], by omega, by decide⟩
  · exact ⟨_, _, rfl, h3, by unfold maxLen at h4; omega⟩
theorem OpensAt.at {w : World} {base : Nat} {v : Value} {rows : List (Int × Value × Value)} (h : OpensAt w base v rows) (hn : rows ≠ []) : ∃ g c, v = .slice (some ⟨g, 0, none⟩) rows.length c ∧ base ≤ g ∧ g < w.heap.size ∧ rows.length ≤ c ∧ c ≤ 9223372036854775807 ∧
    (∀ j (hj : j < rows.length) i u, (cells3 rows[j])[i]? = some u → w.cell? ⟨g, j * 3 + i, none⟩ = some u) ∧ (∀ j, w.frozen? ⟨g, j, none⟩ = false) ∧ ∃ cur, w.heap[g]? = some (.cells cur 48 (0, 0)) := by
  have h' := h
  obtain ⟨_, ⟨_, h0⟩ | ⟨g, cap, cur, rfl, hb, hg, h3, h4, _⟩⟩ := h
  · exact absurd (List.eq_nil_of_length_eq_zero h0) hn
  · refine ⟨g, cap, rfl, hb, lt_of_block hg, h3, by unfold maxLen at h4; omega, fun j hj i u hu => ?_, fun j => World.ownsRow.frozenAt h' j, cur, hg⟩
    have hi : i < 3 := by
      have := (List.getElem?_eq_some_iff.1 hu).1
      simpa [cells3] using this
    rw [World.ownsRow.cellAt h' (j * 3 + i) (by omega), rowsC_get rows j hj i hi]
    exact hu
theorem open_info : (Tryz.prog.info? 48).map (fun i => (i.zero, i.size, i.bytes)) = some (some (.agg #[.int .i64 0, .slice none 0 0, .slice none 0 0]), 3, 56) := by kernel_rfl
structure Turn (b : Nat) (sv : Value) (w w' : World) : Prop where
  os : w'.os = w.os
  tape : w'.tape = w.tape
  output : w'.output = w.output
  size : w.heap.size ≤ w'.heap.size
  block : ∀ c, c < w.heap.size → c ≠ b → sv.ownBlock ≠ some c → w'.heap[c]? = w.heap[c]?
set_option maxRecDepth 100000 in
/-- append of one that is open, as an operation -/
theorem op_append_open {w : World} {o : Oper} {a : Act} {K : Act → World → Prop} {Q : Exit → Act → World → Prop} (s x : Operand)
    (ho : o.op = .call { callee := .builtin .append, args := #[s, x], argTypes := #[40, 40] })
    (base : Nat) (v : Value) (rows : List (Int × Value × Value)) (hs : a.eval s = v) (hown : OpensAt w base v rows) (p : Nat) (r : Int × Value × Value) (hx : a.eval x = .slice (some ⟨p, 0, none⟩) 1 1) (hcell : ∀ i u, (cells3 r)[i]? = some u → w.cell? ⟨p, i, none⟩ = some u)
    (h1 : r.2.1.oneCell' = true) (h2 : r.2.2.oneCell' = true) (hl : rows.length + 1 ≤ 1000000000) (hbase : base ≤ w.heap.size)
    (h : ∀ v' w', OpensAt w' base v' (rows ++ [r]) → w.grownBy w' v.ownBlock → (v'.ownBlock = v.ownBlock ∨ v'.ownBlock = some w.heap.size) → K (a.put o.dst v') w') : Oper.wp Tryz.prog o a w K Q := by
  obtain ⟨i, hi, hz, hsize, hby⟩ := info_parts open_info
  obtain ⟨v', w', hrun, h3, h4, _, h5⟩ := run_append_own_at (P := Tryz.prog) w base 40 o.type 48 i _ 3 56 Tryz.underlying40 hi hz hsize hby rfl (by omega) v rows.length (rowsC rows) hown ⟨p, 0, none⟩ 1 1 (cells3 r) (by simp [cells3]) (fun j u hu => by rw [add_at, Nat.zero_add]; exact hcell j u hu)
    (fun u hu => by
      simp only [cells3, List.mem_cons, List.not_mem_nil, or_false] at hu
      rcases hu with rfl | rfl | rfl
      · rfl
      · exact h1
      · exact h2) (by simp [maxLen]; omega) (by omega) hbase
  unfold Oper.wp execOp
  simp only [ho, resolve, invoke, builtin, Sem.run_bind, Sem.run_pure, Result.andThen_ok, List.map_toArray, List.map_cons, List.map_nil, hs, hx, hrun]
  refine h _ _ ?_ h4 h5
  unfold OpensAt
  rw [List.length_append, List.length_singleton, rowsC_append]
  simpa [rowsC] using h3
set_option maxRecDepth 100000 in
theorem stack_top (b : Nat) (sv : Value) (rows : List (Int × Value × Value)) (base : Nat) (w : World) (hb : w.heap[b]? = some (.cells #[sv] 42 (0, 0))) (hO : OpensAt w base sv rows) (hn : rows ≠ []) (hl : rows.length ≤ 1000000) :
    Calls Tryz.prog 11 #[.pointer (some ⟨b, 0, none⟩)] w fun r w' => ∃ g, sv.ownBlock = some g ∧ r = .returned (.pointer (some ⟨g, (rows.length - 1) * 3, none⟩)) ∧ Below w.heap.size w w' := by
  obtain ⟨g, c, rfl, hg, hgl, hc, hcc, hcell, _, _⟩ := hO.at hn
  have hpos : 0 < rows.length := List.length_pos_iff.2 hn
  have c0 := cell_of_one hb
  have hbl := lt_of_block hb
  obtain ⟨n, hnn⟩ : ∃ n, rows.length = n + 1 := ⟨rows.length - 1, by omega⟩
  rw [hnn] at c0 hc hl ⊢
  clear hcell hO hb
  go_enter Tryz.func11, Tryz.ntmps11
  go_wp2_with fail
  refine wp_region_above (by kernel_rfl) (by kernel_rfl) ?_
  repeat (go_big_quiet_step (fail))
  refine wpQuiet_nil ?_
  rintro _ ⟨z, rfl⟩
  go_wp2
  go_ret
  exact ⟨g, rfl, by simp, z.property⟩
def open0 : Int × Value × Value := (5, .slice none 0 0, .slice none 0 0)
set_option maxRecDepth 100000 in
set_option maxHeartbeats 4000000 in
theorem stack_push (b : Nat) (sv : Value) (rows : List (Int × Value × Value)) (base : Nat) (w : World) (hb : w.heap[b]? = some (.cells #[sv] 42 (0, 0))) (hO : OpensAt w base sv rows) (hl : rows.length ≤ 1000000) (hbb : b < base) (hbase : base ≤ w.heap.size) :
    Calls Tryz.prog 10 #[.pointer (some ⟨b, 0, none⟩), .agg #[.int .i64 5, .slice none 0 0, .slice none 0 0]] w fun r w' => r = .returned (.tuple #[]) ∧ ∃ sv', w'.heap[b]? = some (.cells #[sv'] 42 (0, 0)) ∧ OpensAt w' base sv' (rows ++ [open0]) ∧ Turn b sv w w' ∧
      (sv'.ownBlock = sv.ownBlock ∨ ∃ g, sv'.ownBlock = some g ∧ w.heap.size ≤ g ∧ g < w'.heap.size) := by
  have hbl := lt_of_block hb
  have hsb : ∀ c, sv.ownBlock = some c → base ≤ c ∧ c < w.heap.size := fun c hc => World.ownsRow.lt hO c hc
  go_enter Tryz.func10, Tryz.ntmps10
  go_upto_region 1 with fail
  refine wp_world (fun W => Box W w.heap.size [.int .i64 5, .slice none 0 0, .slice none 0 0] ∧ W.heap[b]? = some (.cells #[sv] 42 (0, 0)) ∧ OpensAt W base sv rows ∧ Below w.heap.size w W ∧ W.heap.size = w.heap.size + 1)
    ⟨Box.new [.int .i64 5, .slice none 0 0, .slice none 0 0] _ rfl, ((al1 w _).block b hbl).trans hb, row_keep hO (fun k hk => (al1 w _).block k (hsb k hk).2), al1 _ _, by simp⟩ ?_
  clear hb hO
  rintro W0 ⟨HX, HS, HO, HB, hsz⟩
  replace HX := Keep.mk HX
  replace HO := Keep.mk HO
  obtain ⟨Av, cv, hsv, _, _⟩ := HO.out.form
  have hmv : ∀ W, W0.grownBy W sv.ownBlock → ∀ c, c < W0.heap.size → sv.ownBlock ≠ some c → W.heap[c]? = W0.heap[c]? := fun W h c hc hn => h.block c hc (fun e => hn e.symm)
  have hnb : sv.ownBlock ≠ some b := fun e => by have := (hsb b e).1; omega
  have hnx : sv.ownBlock ≠ some w.heap.size := fun e => by have := (hsb _ e).2; omega
  refine wp_region_rely 10 (fun L w' => W0.grownBy w' sv.ownBlock ∧ (L 7 = false → Below W0.heap.size W0 w')) (fun
    | 0 => fun v _ => v = .pointer (some ⟨b, 0, none⟩)
    | 1 => fun v _ => v = .pointer (some ⟨b, 0, none⟩)
    | 2 => fun v _ => v = .pointer (some ⟨b, 0, none⟩)
    | 3 => fun v _ => v = .pointer (some ⟨b, 0, none⟩)
    | 4 => fun v _ => v = sv
    | 5 => fun v _ => v = .agg #[.int .i64 5, .slice none 0 0, .slice none 0 0]
    | 6 => fun v w' => ∃ p, v = .slice (some ⟨p, 0, none⟩) 1 1 ∧ W0.heap.size ≤ p ∧ w'.heap[p]? = some (.cells #[.int .i64 5, .slice none 0 0, .slice none 0 0] 48 (0, 0))
    | 7 => fun v w' => OpensAt w' base v (rows ++ [open0]) ∧ (v.ownBlock = sv.ownBlock ∨ ∃ g, v.ownBlock = some g ∧ W0.heap.size ≤ g ∧ g < w'.heap.size)
    | 8 => fun v _ => v = .pointer (some ⟨b, 0, none⟩)
    | 9 => fun v _ => v = .pointer (some ⟨b, 0, none⟩)
    | _ => fun _ _ => True) (fun | 7 => fun w1 w2 => w1.grownBy w2 sv.ownBlock | _ => fun w1 w2 => Below w1.heap.size w1 w2) (by kernel_rfl) (by kernel_rfl)
    ⟨⟨rfl, rfl, rfl, Nat.le_refl _, fun _ _ _ => rfl⟩, fun _ => below_drawn W0⟩ ?_ ?_ ?_
  · intro i j v w1 w2 hij hG
    have hst : (∀ c, c < w1.heap.size → sv.ownBlock ≠ some c → w2.heap[c]? = w1.heap[c]?) ∧ w1.heap.size ≤ w2.heap.size := by
      by_cases h9 : i = 7
      · subst h9
        exact ⟨fun c hc hn => hG.block c hc (fun e => hn e.symm), hG.size⟩
      · have hG : Below w1.heap.size w1 w2 := by
          match i, h9 with
          | 0, _ | 1, _ | 2, _ | 3, _ | 4, _ | 5, _ | 6, _ => exact hG
          | 7, h => exact absurd rfl h
          | _ + 8, _ => exact hG
        exact ⟨fun c hc _ => hG.block c hc, hG.size⟩
    match j with
    | 0 | 1 | 2 | 3 | 4 | 5 | 8 | 9 => exact fun h => h
    | 6 => rintro ⟨p, h1, h2, h3⟩; exact ⟨p, h1, h2, (hst.1 p (lt_of_block h3) (fun e => by have := (hsb p e).2; omega)).trans h3⟩
    | 7 =>
      have hG : Below w1.heap.size w1 w2 := by
        match i, hij with
        | 0, _ | 1, _ | 2, _ | 3, _ | 4, _ | 5, _ | 6, _ => exact hG
        | 7, h => exact absurd rfl h
        | _ + 8, _ => exact hG
      rintro ⟨h1, h2⟩
      refine ⟨row_keep h1 (fun k hk => hG.block k (World.ownsRow.lt h1 k hk).2), ?_⟩
      rcases h2 with h2 | ⟨g, h2, h3, h4⟩
      · exact Or.inl h2
      · exact Or.inr ⟨g, h2, h3, Nat.lt_of_lt_of_le h4 hG.size⟩
    | _ + 10 => exact fun h => h
  · simp only [List.take, stepHold]
    refine ⟨?_, ?_, ?_, ?_, ?_, ?_, ?_, ?_, ?_, ?_, trivial⟩
    · intro L a wa _ hI hs _
      have q1 : a.eval (.tmp 0) = .pointer (some ⟨b, 0, none⟩) := hs 0 (by kernel_rfl)
      exact op_val _ (w' := wa) (by unfold execOp; simp only [q1]; go_simp) ⟨_, rfl, rfl, ⟨hI.1, fun h => hI.2 (by simpa using h)⟩, Below.refl _ _⟩
    · intro L a wa _ hI hs _
      have q1 : a.eval (.tmp 0) = .pointer (some ⟨b, 0, none⟩) := hs 0 (by kernel_rfl)
      exact op_val _ (w' := wa) (by unfold execOp; simp only [q1]; go_simp) ⟨_, rfl, rfl, ⟨hI.1, fun h => hI.2 (by simpa using h)⟩, Below.refl _ _⟩
    · intro L a wa _ hI _ hd
      have q1 : a.eval (.tmp 5) = .pointer (some ⟨b, 0, none⟩) := hd.1
      exact op_val _ (w' := wa) (by unfold execOp; simp only [q1]; go_simp) ⟨_, rfl, rfl, ⟨hI.1, fun h => hI.2 (by simpa using h)⟩, Below.refl _ _⟩
    · intro L a wa _ hI _ hd
      have q1 : a.eval (.tmp 6) = .pointer (some ⟨b, 0, none⟩) := hd.1
      exact op_val _ (w' := wa) (by unfold execOp; simp only [q1]; go_simp) ⟨_, rfl, rfl, ⟨hI.1, fun h => hI.2 (by simpa using h)⟩, Below.refl _ _⟩
    · intro L a wa _ hI _ hd
      have q1 : a.eval (.tmp 7) = .pointer (some ⟨b, 0, none⟩) := hd.1
      have hbw := (hmv wa hI.1 b (by omega) hnb).trans HS
      have c0 := cell_of_one hbw
      have hbl2 := lt_of_block hbw
      rw [hsv] at c0
      exact op_val sv (w' := wa) (by rw [hsv]; unfold execOp; simp only [q1]; go_simp) ⟨_, rfl, rfl, ⟨hI.1, fun h => hI.2 (by simpa using h)⟩, Below.refl _ _⟩
    · intro L a wa _ hI hs _
      have q1 : a.eval (.tmp 3) = .pointer (some ⟨w.heap.size, 0, none⟩) := hs 3 (by kernel_rfl)
      have hxw : w.heap.size < W0.heap.size := by omega
      have hxe : wa.heap[w.heap.size]? = W0.heap[w.heap.size]? := hmv wa hI.1 _ hxw hnx
      have hxl : w.heap.size < wa.heap.size := by have := hI.1.size; omega
      have c0 := (cell_block (o := 0) hxe).trans (HX.out.cell 0 _ rfl)
      have c1 := (cell_block (o := 1) hxe).trans (HX.out.cell 1 _ rfl)
      have c2 := (cell_block (o := 2) hxe).trans (HX.out.cell 2 _ rfl)
      exact op_val _ (w' := wa) (by unfold execOp; simp only [q1]; go_simp) ⟨_, rfl, rfl, ⟨hI.1, fun h => hI.2 (by simpa using h)⟩, Below.refl _ _⟩
    · intro L a wa _ hI _ hd
      have q1 : a.eval (.tmp 9) = .agg #[.int .i64 5, .slice none 0 0, .slice none 0 0] := hd.1
      have f1 := get_form q1
      exact op_val _ (w' := wa.alloc (.cells #[.int .i64 5, .slice none 0 0, .slice none 0 0] 48)) (by unfold execOp; go_simp) ⟨_, rfl, ⟨wa.heap.size, rfl, hI.1.size, heap_alloc_new wa _⟩, ⟨⟨hI.1.os, hI.1.tape, hI.1.output, Nat.le_trans hI.1.size (al1 wa _).size, fun c hc hn => ((al1 wa _).block c (Nat.lt_of_lt_of_le hc hI.1.size)).trans (hI.1.block c hc hn)⟩, fun h => up (hI.2 (by simpa using h)) (al1 _ _)⟩, al1 _ _⟩
    · intro L a wa hL hI _ hd
      have q1 : a.eval (.tmp 8) = sv := hd.1
      obtain ⟨p, q2, hp, hpb⟩ := hd.2.1
      have q2 : a.eval (.tmp 10) = .slice (some ⟨p, 0, none⟩) 1 1 := q2
      have hB := hI.2 hL
      have hOa : OpensAt wa base sv rows := row_keep HO.out (fun k hk => hB.block k (by have := (hsb k hk).2; omega))
      refine op_append_open (.tmp 8) (.tmp 10) rfl base sv rows q1 hOa p open0 q2 (fun i u hu => ?_) rfl rfl (by omega) (by have := hB.size; omega) fun v2 w2 h1 h2 h3 => ⟨_, rfl, ⟨h1, ?_⟩, ⟨⟨h2.os.trans hI.1.os, h2.tape.trans hI.1.tape, h2.output.trans hI.1.output, Nat.le_trans hI.1.size h2.size, fun c hc hn => (h2.block c (Nat.lt_of_lt_of_le hc hI.1.size) hn).trans (hI.1.block c hc hn)⟩, fun h => by simp at h⟩, h2⟩
      · simp [World.cell?, hpb]; exact hu
      · rcases h3 with h3 | h3
        · exact Or.inl h3
        · exact Or.inr ⟨_, h3, hB.size, (World.ownsRow.lt h1 _ h3).2⟩
    · intro L a wa _ hI _ hd
      have q1 : a.eval (.tmp 4) = .pointer (some ⟨b, 0, none⟩) := hd.1
      exact op_val _ (w' := wa) (by unfold execOp; simp only [q1]; go_simp) ⟨_, rfl, rfl, ⟨hI.1, fun h => hI.2 (by simpa using h)⟩, Below.refl _ _⟩
    · intro L a wa _ hI _ hd
      have q1 : a.eval (.tmp 12) = .pointer (some ⟨b, 0, none⟩) := hd.1
      exact op_val _ (w' := wa) (by unfold execOp; simp only [q1]; go_simp) ⟨_, rfl, rfl, ⟨hI.1, fun h => hI.2 (by simpa using h)⟩, Below.refl _ _⟩
  · intro vs L W1 _ hI hall
    simp only [List.take, allHold, gives] at hall
    obtain ⟨h0, h1, h2, h3, h4, h5, h6, h7, h8, h9, _⟩ := hall
    simp only [List.take, List.drop, putL]
    generalize vs 0 = v0 at *
    generalize vs 1 = v1 at *
    generalize vs 2 = v2 at *
    generalize vs 3 = v3 at *
    generalize vs 4 = v4 at *
    generalize vs 5 = v5 at *
    generalize vs 6 = v6 at *
    generalize vs 7 = v7 at *
    generalize vs 8 = v8 at *
    generalize vs 9 = v9 at *
    obtain ⟨p6, rfl, _⟩ := h6
    obtain ⟨hO7, hg7⟩ := h7
    subst v0 v1 v2 v3 v4 v5 v8 v9
    obtain ⟨A7, c7, e7, _, _⟩ := hO7.form
    rw [List.length_append, List.length_singleton] at e7
    subst e7
    have HS1 := (hmv W1 hI.1 b (by omega) hnb).trans HS
    have hn7 : (Value.slice A7 (rows.length + 1) c7).ownBlock ≠ some b := fun e => by have := (World.ownsRow.lt hO7 b e).1; omega
    have HO7 := Keep.mk (show OpensAt (W1.setCell ⟨b, 0, none⟩ (.slice A7 (rows.length + 1) c7)) base (.slice A7 (rows.length + 1) c7) (rows ++ [open0]) from row_keep hO7 (fun k hk => Below.heap_setCell _ _ _ k (fun e => hn7 (by rw [hk, e]))))
    have HS2 := Keep.mk (one_setCell (u := .slice A7 (rows.length + 1) c7) HS1)
    have HT := Keep.mk (show Turn b sv w (W1.setCell ⟨b, 0, none⟩ (.slice A7 (rows.length + 1) c7)) from
      ⟨hI.1.os.trans HB.os, hI.1.tape.trans HB.tape, hI.1.output.trans HB.output, by have := hI.1.size; simp; omega, fun c hc hcb hcs => (Below.heap_setCell _ _ _ c hcb).trans ((hmv W1 hI.1 c (by omega) hcs).trans (HB.block c hc))⟩)
    have HG := Keep.mk (show (Value.slice A7 (rows.length + 1) c7).ownBlock = sv.ownBlock ∨ ∃ g, (Value.slice A7 (rows.length + 1) c7).ownBlock = some g ∧ w.heap.size ≤ g ∧ g < (W1.setCell ⟨b, 0, none⟩ (.slice A7 (rows.length + 1) c7)).heap.size by
      rcases hg7 with h | ⟨g, h1, h2, h3⟩
      · exact Or.inl h
      · exact Or.inr ⟨g, h1, by omega, by simpa using h3⟩)
    have c0 := cell_of_one HS1
    have f0 := free_of_one HS1
    have hbl1 := lt_of_block HS1
    clear hI HS1 hO7 hg7 hn7 HS HO HX HB hmv hnb hnx hsb
    go_wp2
    go_end0
    exact ⟨rfl, _, HS2.out, HO7.out, HT.out, HG.out⟩
theorem OpensAt.less {w : World} {base g c : Nat} {rows : List (Int × Value × Value)} {r : Int × Value × Value} (h : OpensAt w base (.slice (some ⟨g, 0, none⟩) (rows.length + 1) c) (rows ++ [r])) : OpensAt w base (.slice (some ⟨g, 0, none⟩) rows.length c) rows := by
  obtain ⟨hx, ⟨h0, _⟩ | ⟨g', cap, cur, e, hb, hg, h3, h4, h5, h6⟩⟩ := h
  · cases h0
  · injection e with e1 e2 e3
    injection e1 with e1
    injection e1 with e1
    subst e1 e3
    rw [List.length_append, List.length_singleton] at h3 h6
    refine ⟨rowsC_len rows, Or.inr ⟨g, c, cur, rfl, hb, hg, by omega, h4, h5, ?_⟩⟩
    have e1 := congrArg (List.take (rows.length * 3)) h6
    rw [List.take_take, Nat.min_eq_left (by omega), rowsC_append] at e1
    rw [e1]
    exact List.take_left' (rowsC_len rows)
set_option maxRecDepth 100000 in
set_option maxHeartbeats 4000000 in
theorem stack_pop (b : Nat) (sv : Value) (rows : List (Int × Value × Value)) (k : Int) (A : Option Addr) (n c : Nat) (A' : Option Addr) (n' c' : Nat) (base : Nat) (w : World) (hb : w.heap[b]? = some (.cells #[sv] 42 (0, 0)))
    (hO : OpensAt w base sv (rows ++ [(k, .slice A n c, .slice A' n' c')])) (hl : rows.length ≤ 100000) (hbb : b < base) (_hbase : base ≤ w.heap.size) :
    Calls Tryz.prog 13 #[.pointer (some ⟨b, 0, none⟩)] w fun r w' => r = .returned (.agg #[.int .i64 k, .slice A n c, .slice A' n' c']) ∧ ∃ sv', w'.heap[b]? = some (.cells #[sv'] 42 (0, 0)) ∧ OpensAt w' base sv' rows ∧ Turn b (.slice none 0 0) w w' ∧ sv'.ownBlock = sv.ownBlock := by
  have hbl := lt_of_block hb
  obtain ⟨g, cv, hsv, hg, hgl, hc, hcc, hcell, _, cur, hgo⟩ := hO.at (by simp)
  rw [List.length_append, List.length_singleton] at hsv hc
  have hO2 : OpensAt w base (.slice (some ⟨g, 0, none⟩) rows.length cv) rows := by rw [hsv] at hO; exact hO.less
  have hlast := hcell rows.length (by simp)
  rw [List.getElem_append_right (Nat.le_refl _)] at hlast
  simp only [Nat.sub_self, List.getElem_cons_zero] at hlast
  have y0 := hlast 0 _ rfl
  have y1 := hlast 1 _ rfl
  have y2 := hlast 2 _ rfl
  have HGO := Keep.mk hgo
  have HT := Keep.mk (fun (W : World) (h1 : W.heap[b]? = some (.cells #[sv] 42 (0, 0))) (h2 : OpensAt W base sv (rows ++ [(k, .slice A n c, .slice A' n' c')])) => stack_top b sv _ base W h1 h2 (by simp) (by simp; omega))
  have HS := Keep.mk hb
  have HO := Keep.mk hO
  have HO2 := Keep.mk hO2
  clear hcell hlast hO hb hgo hO2
  go_enter Tryz.func13, Tryz.ntmps13
  go_wp2_with fail
  have hkr : ∀ (o : Obj) (j : Nat), j < w.heap.size → (w.alloc o).heap[j]? = w.heap[j]? := fun o j hj => (al1 w o).block j hj
  refine (HT.out _ ((hkr _ b hbl).trans HS.out) (row_keep HO.out (fun j hj => hkr _ j (World.ownsRow.lt HO.out j hj).2))).mono ?_
  rintro r w1 ⟨g', hg', rfl, hb1⟩
  have hbw := up (al1 w (.cells #[.int .i64 0, .slice none 0 0, .slice none 0 0] 48)) hb1
  have HR := Keep.mk ((Box.new (w := w) (n := w.heap.size) [.int .i64 0, .slice none 0 0, .slice none 0 0] 48 rfl).below hb1 (by simp))
  have hg2 : g' = g := by
    rw [hsv] at hg'
    injection hg' with hg'
    exact hg'.symm
  subst hg2
  have hrl : (rows ++ [(k, Value.slice A n c, Value.slice A' n' c')]).length - 1 = rows.length := by simp
  rw [hrl]
  have t0 := (hbw.cell (p := ⟨g', rows.length * 3 + 0, none⟩) hgl).trans y0
  have t1 := (hbw.cell (p := ⟨g', rows.length * 3 + 1, none⟩) hgl).trans y1
  have t2 := (hbw.cell (p := ⟨g', rows.length * 3 + 2, none⟩) hgl).trans y2
  have hgl1 : g' < w1.heap.size := by have := hbw.size; omega
  have HB1 := Keep.mk hbw
  clear hb1 hbw y0 y1 y2 hkr hrl hg'
  simp only [Nat.add_zero] at t0
  go_upto_region 2 with fail
  have hw1 := HB1.out.size
  refine wp_world (fun W => Box W w.heap.size [.int .i64 0, .slice none 0 0, .slice none 0 0] ∧ Box W w1.heap.size [.int .i64 k, .slice A n c, .slice A' n' c'] ∧ W.heap[b]? = some (.cells #[sv] 42 (0, 0)) ∧ OpensAt W base (.slice (some ⟨g', 0, none⟩) rows.length cv) rows ∧ Below w.heap.size w W ∧ w1.heap.size < W.heap.size)
    ⟨HR.out.alloc _, Box.new [.int .i64 k, .slice A n c, .slice A' n' c'] _ rfl, ((al1 w1 _).block b (by omega)).trans ((HB1.out.block b hbl).trans HS.out), row_keep HO2.out (fun j hj => ((al1 w1 _).block j (by have := (World.ownsRow.lt HO2.out j hj).2; omega)).trans (HB1.out.block j (World.ownsRow.lt HO2.out j hj).2)), up HB1.out (al1 _ _), by simp⟩ ?_
  clear HR HS HO2 HO HT t0 t1 t2 HGO
  rintro W2 ⟨HR, HX, HS2, HO2, HB2, hw2⟩
  replace HR := Keep.mk HR
  replace HX := Keep.mk HX
  replace HS2 := Keep.mk HS2
  replace HO2 := Keep.mk HO2
  replace HB2 := Keep.mk HB2
  have hb2 : b < W2.heap.size := by omega
  subst hsv
  refine wp_region_rely 14 (fun _ w' => Below W2.heap.size W2 w') (fun
    | 0 | 1 | 2 | 3 | 5 | 6 | 7 | 12 | 13 => fun v _ => v = .pointer (some ⟨b, 0, none⟩)
    | 4 | 8 => fun v _ => v = .slice (some ⟨g', 0, none⟩) (rows.length + 1) cv
    | 9 => fun v _ => v = .int .i64 ((rows.length : Int) + 1)
    | 10 => fun v _ => v = .int .i64 rows.length
    | 11 => fun v _ => v = .slice (some ⟨g', 0, none⟩) rows.length cv
    | _ => fun _ _ => True) (fun _ w1 w2 => Below w1.heap.size w1 w2) (by kernel_rfl) (by kernel_rfl) (below_drawn W2) ?_ ?_ ?_
  · intro i j v w1 w2 _ hb
    match j with
    | 0 | 1 | 2 | 3 | 4 | 5 | 6 | 7 | 8 | 9 | 10 | 11 | 12 | 13 => exact fun h => h
    | _ + 14 => exact fun h => h
  · simp only [List.take, stepHold]
    refine ⟨?_, ?_, ?_, ?_, ?_, ?_, ?_, ?_, ?_, ?_, ?_, ?_, ?_, ?_, trivial⟩
    · intro L a wa _ hI hs _
      have q1 : a.eval (.tmp 0) = .pointer (some ⟨b, 0, none⟩) := hs 0 (by kernel_rfl)
      exact op_val _ (w' := wa) (by unfold execOp; simp only [q1]; go_simp) ⟨_, rfl, rfl, hI, Below.refl _ _⟩
    · intro L a wa _ hI hs _
      have q1 : a.eval (.tmp 0) = .pointer (some ⟨b, 0, none⟩) := hs 0 (by kernel_rfl)
      exact op_val _ (w' := wa) (by unfold execOp; simp only [q1]; go_simp) ⟨_, rfl, rfl, hI, Below.refl _ _⟩
    · intro L a wa _ hI _ hd
      have q1 : a.eval (.tmp 9) = .pointer (some ⟨b, 0, none⟩) := hd.1
      exact op_val _ (w' := wa) (by unfold execOp; simp only [q1]; go_simp) ⟨_, rfl, rfl, hI, Below.refl _ _⟩
    · intro L a wa _ hI _ hd
      have q1 : a.eval (.tmp 10) = .pointer (some ⟨b, 0, none⟩) := hd.1
      exact op_val _ (w' := wa) (by unfold execOp; simp only [q1]; go_simp) ⟨_, rfl, rfl, hI, Below.refl _ _⟩
    · intro L a wa _ hI _ hd
      have q1 : a.eval (.tmp 11) = .pointer (some ⟨b, 0, none⟩) := hd.1
      have hbw := (hI.block b hb2).trans HS2.out
      have c0 := cell_of_one hbw
      have hbl2 := lt_of_block hbw
      exact op_val _ (w' := wa) (by unfold execOp; simp only [q1]; go_simp) ⟨_, rfl, rfl, hI, Below.refl _ _⟩
    · intro L a wa _ hI hs _
      have q1 : a.eval (.tmp 0) = .pointer (some ⟨b, 0, none⟩) := hs 0 (by kernel_rfl)
      exact op_val _ (w' := wa) (by unfold execOp; simp only [q1]; go_simp) ⟨_, rfl, rfl, hI, Below.refl _ _⟩
    · intro L a wa _ hI _ hd
      have q1 : a.eval (.tmp 13) = .pointer (some ⟨b, 0, none⟩) := hd.1
      exact op_val _ (w' := wa) (by unfold execOp; simp only [q1]; go_simp) ⟨_, rfl, rfl, hI, Below.refl _ _⟩
    · intro L a wa _ hI _ hd
      have q1 : a.eval (.tmp 14) = .pointer (some ⟨b, 0, none⟩) := hd.1
      exact op_val _ (w' := wa) (by unfold execOp; simp only [q1]; go_simp) ⟨_, rfl, rfl, hI, Below.refl _ _⟩
    · intro L a wa _ hI _ hd
      have q1 : a.eval (.tmp 15) = .pointer (some ⟨b, 0, none⟩) := hd.1
      have hbw := (hI.block b hb2).trans HS2.out
      have c0 := cell_of_one hbw
      have hbl2 := lt_of_block hbw
      exact op_val _ (w' := wa) (by unfold execOp; simp only [q1]; go_simp) ⟨_, rfl, rfl, hI, Below.refl _ _⟩
    · intro L a wa _ hI _ hd
      have q1 : a.eval (.tmp 16) = .slice (some ⟨g', 0, none⟩) (rows.length + 1) cv := hd.1
      have f1 := get_form q1
      exact op_val (.int .i64 ((rows.length : Int) + 1)) (w' := wa) (by unfold execOp; go_simp) ⟨_, rfl, rfl, hI, Below.refl _ _⟩
    · intro L a wa _ hI _ hd
      have q1 : a.eval (.tmp 17) = .int .i64 ((rows.length : Int) + 1) := hd.1
      exact op_val (.int .i64 rows.length) (w' := wa) (by unfold execOp; simp only [q1]; go_simp; simp [IntKind.wrap, IntKind.bits, IntKind.signed]; omega) ⟨_, rfl, rfl, hI, Below.refl _ _⟩
    · intro L a wa _ hI _ hd
      have q1 : a.eval (.tmp 12) = .slice (some ⟨g', 0, none⟩) (rows.length + 1) cv := hd.1
      have q2 : a.eval (.tmp 18) = .int .i64 rows.length := hd.2.1
      have f1 := get_form q1
      have f2 := get_form q2
      exact op_val (.slice (some ⟨g', 0, none⟩) rows.length cv) (w' := wa) (by unfold execOp; go_simp; intro h; omega) ⟨_, rfl, rfl, hI, Below.refl _ _⟩
    · intro L a wa _ hI _ hd
      have q1 : a.eval (.tmp 8) = .pointer (some ⟨b, 0, none⟩) := hd.1
      exact op_val _ (w' := wa) (by unfold execOp; simp only [q1]; go_simp) ⟨_, rfl, rfl, hI, Below.refl _ _⟩
    · intro L a wa _ hI _ hd
      have q1 : a.eval (.tmp 20) = .pointer (some ⟨b, 0, none⟩) := hd.1
      exact op_val _ (w' := wa) (by unfold execOp; simp only [q1]; go_simp) ⟨_, rfl, rfl, hI, Below.refl _ _⟩
  · intro vs L W3 _ hI hall
    simp only [List.take, allHold, gives] at hall
    obtain ⟨h0, h1, h2, h3, h4, h5, h6, h7, h8, h9, h10, h11, h12, h13, _⟩ := hall
    simp only [List.take, List.drop, putL]
    generalize vs 0 = v0 at *
    generalize vs 1 = v1 at *
    generalize vs 2 = v2 at *
    generalize vs 3 = v3 at *
    generalize vs 4 = v4 at *
    generalize vs 5 = v5 at *
    generalize vs 6 = v6 at *
    generalize vs 7 = v7 at *
    generalize vs 8 = v8 at *
    generalize vs 9 = v9 at *
    generalize vs 10 = v10 at *
    generalize vs 11 = v11 at *
    generalize vs 12 = v12 at *
    generalize vs 13 = v13 at *
    subst v0 v1 v2 v3 v4 v5 v6 v7 v8 v9 v10 v11 v12 v13
    have hI : Below W2.heap.size W2 W3 := hI
    have HS3 := (hI.block b hb2).trans HS2.out
    have hgb : g' ≠ b := by omega
    have HS4 := Keep.mk (one_setCell (u := .slice (some ⟨g', 0, none⟩) rows.length cv) HS3)
    have HO4 := Keep.mk (show OpensAt (W3.setCell ⟨b, 0, none⟩ (.slice (some ⟨g', 0, none⟩) rows.length cv)) base (.slice (some ⟨g', 0, none⟩) rows.length cv) rows from
      row_keep (row_keep HO2.out (fun j hj => hI.block j (World.ownsRow.lt HO2.out j hj).2)) (fun j hj => Below.heap_setCell _ _ _ j (by injection hj with hj; subst hj; exact hgb)))
    have HR4 := Keep.mk ((HR.out.below hI HR.out.lt).other (show b ≠ w.heap.size by omega) (o := 0) (.slice (some ⟨g', 0, none⟩) rows.length cv))
    have HX4 := Keep.mk ((HX.out.below hI HX.out.lt).other (show b ≠ w1.heap.size by omega) (o := 0) (.slice (some ⟨g', 0, none⟩) rows.length cv))
    have c0 := cell_of_one HS3
    have f0 := free_of_one HS3
    have hbl3 := lt_of_block HS3
    have HT := Keep.mk (show Turn b (.slice none 0 0) w (W3.setCell ⟨b, 0, none⟩ (.slice (some ⟨g', 0, none⟩) rows.length cv)) from
      ⟨hI.os.trans HB2.out.os, hI.tape.trans HB2.out.tape, hI.output.trans HB2.out.output, by have := hI.size; have := HB2.out.size; simp; omega, fun j hj hjb _ => (Below.heap_setCell _ _ _ j hjb).trans ((hI.block j (by have := HB2.out.size; omega)).trans (HB2.out.block j hj))⟩)
    clear HS3 hI HR HX HS2 HO2 HB2
    go_upto_region 3 with fail
    refine wp_world (fun W => W.heap[b]? = some (.cells #[.slice (some ⟨g', 0, none⟩) rows.length cv] 42 (0, 0)) ∧ OpensAt W base (.slice (some ⟨g', 0, none⟩) rows.length cv) rows ∧ Box W w.heap.size [.int .i64 0, .slice none 0 0, .slice none 0 0] ∧ Box W w1.heap.size [.int .i64 k, .slice A n c, .slice A' n' c'] ∧ Turn b (.slice none 0 0) w W)
      ⟨HS4.out, HO4.out, HR4.out, HX4.out, HT.out⟩ ?_
    clear HS4 HO4 HR4 HX4 HT c0 f0 hbl3
    rintro W4 ⟨HS, HO, HR, HX, HT⟩
    replace HS := Keep.mk HS
    replace HO := Keep.mk HO
    replace HT := Keep.mk HT
    have x0 := HX.cell 0 _ rfl
    have x1 := HX.cell 1 _ rfl
    have x2 := HX.cell 2 _ rfl
    have xl := HX.lt
    have r0 := HR.cell 0 _ rfl
    have r1 := HR.cell 1 _ rfl
    have r2 := HR.cell 2 _ rfl
    have z0 := HR.froz 0
    have z1 := HR.froz 1
    have z2 := HR.froz 2
    have rl := HR.lt
    have hbr : b ≠ w.heap.size := by omega
    have hgr : g' ≠ w.heap.size := by omega
    have HF := Keep.mk (fun (v0 v1 v2 : Value) => show ((((W4.setCell ⟨w.heap.size, 0, none⟩ v0).setCell ⟨w.heap.size, 1, none⟩ v1).setCell ⟨w.heap.size, 2, none⟩ v2).heap[b]? = some (.cells #[.slice (some ⟨g', 0, none⟩) rows.length cv] 42 (0, 0)) ∧
        OpensAt (((W4.setCell ⟨w.heap.size, 0, none⟩ v0).setCell ⟨w.heap.size, 1, none⟩ v1).setCell ⟨w.heap.size, 2, none⟩ v2) base (.slice (some ⟨g', 0, none⟩) rows.length cv) rows ∧ Turn b (.slice none 0 0) w (((W4.setCell ⟨w.heap.size, 0, none⟩ v0).setCell ⟨w.heap.size, 1, none⟩ v1).setCell ⟨w.heap.size, 2, none⟩ v2)) from by
      have hk : ∀ j, j ≠ w.heap.size → (((W4.setCell ⟨w.heap.size, 0, none⟩ v0).setCell ⟨w.heap.size, 1, none⟩ v1).setCell ⟨w.heap.size, 2, none⟩ v2).heap[j]? = W4.heap[j]? := fun j hj => by
        rw [Below.heap_setCell _ _ _ j hj, Below.heap_setCell _ _ _ j hj, Below.heap_setCell _ _ _ j hj]
      exact ⟨(hk b hbr).trans HS.out, row_keep HO.out (fun j hj => hk j (by injection hj with hj; subst hj; exact hgr)), ⟨HT.out.os, HT.out.tape, HT.out.output, by have := HT.out.size; simpa using this, fun j hj hjb hjs => (hk j (by omega)).trans (HT.out.block j hj hjb hjs)⟩⟩)
    clear HS HO HT HR HX
    go_wp2
    refine bodyPost_ret (v := .agg #[.int .i64 k, .slice A n c, .slice A' n' c']) ?_ rfl ⟨rfl, _, (HF.out _ _ _).1, (HF.out _ _ _).2.1, (HF.out _ _ _).2.2, rfl⟩
    simp [results, Tryz.results13, go_sem, r0, r1, r2]
end Go.Proofs.YtbngjlkmpdccjaaGreatDoor
