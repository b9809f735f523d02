/- Lemmas and contracts for the laws CalcLengths, part 17 of 37: Tree. Conditions: those that each lemma names. -/
import Derived.Test.YtnkokhpadcgfbaaGreatDoorPack1
import Derived.Test.YtnkokhpadcgfbaaGreatDoorPack4
import Derived.Test.YtnkokhpadcgfbaaGreatDoorPack10
import Derived.Test.YtnkokhpadcgfbaaGreatDoorPack13
import Derived.StillTail
import Derived.Deep.RegionLawGrows
import Derived.Outline
namespace Go.Proofs.YtnkokhpadcgfbaaGreatDoor
open Go Go.RowKit Go.Proofs Th
structure StrsIn (W : World) (S : Nat → Prop) (A : Option Addr) (c : Nat) (ks : List ByteArray) : Prop where
  le : ks.length ≤ c
  cap : ks.length ≤ 140737488351232
  top : c ≤ 9223372036854775807
  small : ∀ k ∈ ks, k.size ≤ 140737488351232
  at_ : 0 < ks.length → ∃ g o, A = some ⟨g, o, none⟩ ∧ S g ∧ ∀ j (h : j < ks.length), W.cell? ⟨g, o + j, none⟩ = some (.string ks[j])
theorem cell_block {W W' : World} {g o : Nat} (h : W'.heap[g]? = W.heap[g]?) : W'.cell? ⟨g, o, none⟩ = W.cell? ⟨g, o, none⟩ := World.cell?_of_block h
theorem StrsIn.keep {W W' : World} {S T : Nat → Prop} {A : Option Addr} {c : Nat} {ks : List ByteArray} (h : StrsIn W S A c ks) (hb : ∀ g, S g → W'.heap[g]? = W.heap[g]?) (hT : ∀ g, S g → T g) : StrsIn W' T A c ks :=
  ⟨h.le, h.cap, h.top, h.small, fun hn => by
    obtain ⟨g, o, e, hg, hc⟩ := h.at_ hn
    exact ⟨g, o, e, hT g hg, fun j hj => (cell_block (hb g hg)).trans (hc j hj)⟩⟩
theorem StrsIn.at {W : World} {S : Nat → Prop} {B : Nat} {A : Option Addr} {c : Nat} {ks : List ByteArray} (h : StrsIn W S A c ks) (hS : ∀ g, S g → g < B) : StrsAt W B A c ks :=
  ⟨h.le, h.cap, h.top, h.small, fun hn => by
    obtain ⟨g, o, e, hg, hc⟩ := h.at_ hn
    exact ⟨g, o, e, hS g hg, hc⟩⟩
theorem StrsAt.inn {W : World} {B : Nat} {A : Option Addr} {c : Nat} {ks : List ByteArray} (h : StrsAt W B A c ks) : StrsIn W (· < B) A c ks :=
  ⟨h.le, h.cap, h.top, h.small, h.at_⟩
inductive JIn (W : World) (S : Nat → Prop) : JV → List Value → Prop
  | mk {k m e : Int} {s : ByteArray} {l : List JV} {ks : List ByteArray} {A : Option Addr} {c : Nat} {A' : Option Addr} {c' : Nat} (f : Nat → List Value)
    (hk : I64 k) (hm : I64 m) (he : I64 e) (hs : s.size ≤ 140737488351232) (hl : l.length ≤ c) (hc : l.length ≤ 140737488351232) (hcc : c ≤ 9223372036854775807) (hK : StrsIn W S A' c' ks)
    (hL : 0 < l.length → ∃ g o, A = some ⟨g, o, none⟩ ∧ S g ∧ ∀ j, j < l.length → ∀ i v, (f j)[i]? = some v → W.cell? ⟨g, o + j * 6 + i, none⟩ = some v)
    (hT : ∀ j (h : j < l.length), JIn W S l[j] (f j)) :
    JIn W S (.mk k m e s l ks) (cells6 k m e s A l.length c A' ks.length c')
theorem JIn.keep {W W' : World} {S T : Nat → Prop} {t : JV} {cs : List Value} (h : JIn W S t cs) (hb : ∀ g, S g → W'.heap[g]? = W.heap[g]?) (hT : ∀ g, S g → T g) : JIn W' T t cs := by
  induction h with
  | mk f hk hm he hs hl hc hcc hK hL hT' ih =>
    refine .mk f hk hm he hs hl hc hcc (hK.keep hb hT) (fun hn => ?_) (fun j hj => ih j hj)
    obtain ⟨g, o, e, hg, h⟩ := hL hn
    exact ⟨g, o, e, hT g hg, fun j hj i v hv => (cell_block (hb g hg)).trans (h j hj i v hv)⟩
theorem JIn.more {W : World} {S T : Nat → Prop} {t : JV} {cs : List Value} (h : JIn W S t cs) (hT : ∀ g, S g → T g) : JIn W T t cs := h.keep (fun _ _ => rfl) hT
theorem JIn.at {W : World} {S : Nat → Prop} {B : Nat} {t : JV} {cs : List Value} (h : JIn W S t cs) (hS : ∀ g, S g → g < B) : JAt W B t cs := by
  induction h with
  | mk f hk hm he hs hl hc hcc hK hL hT ih =>
    refine .mk f hk hm he hs hl hc hcc (hK.at hS) (fun hn => ?_) (fun j hj => ih j hj)
    obtain ⟨g, o, e, hg, h⟩ := hL hn
    exact ⟨g, o, e, hS g hg, h⟩
theorem JAt.inn {W : World} {B : Nat} {t : JV} {cs : List Value} (h : JAt W B t cs) : JIn W (· < B) t cs := by
  induction h with
  | mk f hk hm he hs hl hc hcc hK hL hT ih => exact .mk f hk hm he hs hl hc hcc hK.inn hL (fun j hj => ih j hj)
theorem JIn.six {W : World} {S : Nat → Prop} {t : JV} {cs : List Value} (h : JIn W S t cs) : cs.length = 6 ∧ ∀ u ∈ cs, u.oneCell' = true := by
  cases h with
  | mk f hk hm he hs hl hc hcc hK hL hT =>
    refine ⟨rfl, fun u hu => ?_⟩
    simp only [cells6, List.mem_cons, List.not_mem_nil, or_false] at hu
    rcases hu with rfl | rfl | rfl | rfl | rfl | rfl <;> rfl
theorem JIn.cells {W : World} {S : Nat → Prop} {t : JV} {cs : List Value} (h : JIn W S t cs) : ∃ k m e s A n c A' n' c', cs = cells6 k m e s A n c A' n' c' := by
  cases h with
  | mk f hk hm he hs hl hc hcc hK hL hT => exact ⟨_, _, _, _, _, _, _, _, _, _, rfl⟩
structure ValsIn (W : World) (S : Nat → Prop) (A : Option Addr) (c : Nat) (l : List JV) : Prop where
  le : l.length ≤ c
  cap : l.length ≤ 140737488351232
  top : c ≤ 9223372036854775807
  at_ : ∀ j (h : j < l.length), ∃ g o cs, A = some ⟨g, o, none⟩ ∧ S g ∧ (∀ i v, cs[i]? = some v → W.cell? ⟨g, o + j * 6 + i, none⟩ = some v) ∧ JIn W S l[j] cs
theorem ValsIn.none_ (W : World) (S : Nat → Prop) : ValsIn W S none 0 [] := ⟨Nat.le_refl _, by decide, by decide, fun _ h => absurd h (Nat.not_lt_zero _)⟩
theorem StrsIn.none_ (W : World) (S : Nat → Prop) : StrsIn W S none 0 [] := ⟨Nat.le_refl _, by decide, by decide, fun _ h => absurd h List.not_mem_nil, fun h => absurd h (by decide)⟩
theorem JIn.shut {W : World} {S : Nat → Prop} {k m e : Int} {s : ByteArray} {l : List JV} {ks : List ByteArray} {A : Option Addr} {c : Nat} {A' : Option Addr} {c' : Nat}
    (hk : I64 k) (hm : I64 m) (he : I64 e) (hs : s.size ≤ 140737488351232) (hK : StrsIn W S A' c' ks) (hV : ValsIn W S A c l) : JIn W S (.mk k m e s l ks) (cells6 k m e s A l.length c A' ks.length c') := by
  classical
  have h : ∀ j : Nat, ∃ cs : List Value, ∀ (h : j < l.length), ∃ g o, A = some ⟨g, o, none⟩ ∧ S g ∧ (∀ i v, cs[i]? = some v → W.cell? ⟨g, o + j * 6 + i, none⟩ = some v) ∧ JIn W S l[j] cs := by
    intro j
    by_cases hj : j < l.length
    · obtain ⟨g, o, cs, h⟩ := hV.at_ j hj
      exact ⟨cs, fun _ => ⟨g, o, h⟩⟩
    · exact ⟨[], fun h => absurd h hj⟩
  refine .mk (fun j => (h j).choose) hk hm he hs hV.le hV.cap hV.top hK (fun hn => ?_) (fun j hj => ?_)
  · obtain ⟨g, o, ea, hg, _⟩ := (h 0).choose_spec hn
    refine ⟨g, o, ea, hg, fun j hj i v hv => ?_⟩
    obtain ⟨g', o', eb, hg', hc, _⟩ := (h j).choose_spec hj
    rw [ea] at eb
    injection eb with eb
    injection eb with e1 e2
    subst e1 e2
    exact hc i v hv
  · obtain ⟨g', o', e', hg', hc, hJ⟩ := (h j).choose_spec hj
    exact hJ
/-! rows of a call's own -/
structure OwnV (w : World) (base : Nat) (S : Nat → Prop) (v : Value) (l : List JV) : Prop where
  ex : ∃ xs, w.ownsRow base 27 6 v l.length xs ∧ ∀ j (h : j < l.length), JIn w S l[j] ((xs.drop (j * 6)).take 6)
theorem OwnV.nil (w : World) (base : Nat) (S : Nat → Prop) : OwnV w base S (.slice none 0 0) [] := ⟨[], World.ownsRow_nil w base _ 6, fun _ h => absurd h (Nat.not_lt_zero _)⟩
theorem own_block_lt {w : World} {base size n : Nat} {e : TypeId} {v : Value} {xs : List Value} (h : w.ownsRow base e size v n xs) : ∀ k, v.ownBlock = some k → base ≤ k ∧ k < w.heap.size := World.ownsRow.lt h
theorem OwnV.lt {w : World} {base : Nat} {S : Nat → Prop} {v : Value} {l : List JV} (h : OwnV w base S v l) : ∀ k, v.ownBlock = some k → base ≤ k ∧ k < w.heap.size := by
  obtain ⟨xs, h1, _⟩ := h.ex; exact own_block_lt h1
theorem row_keep {w w' : World} {base size n : Nat} {e : TypeId} {v : Value} {xs : List Value} (h : w.ownsRow base e size v n xs) (hb : ∀ k, v.ownBlock = some k → w'.heap[k]? = w.heap[k]?) : w'.ownsRow base e size v n xs := by
  refine ⟨h.1, ?_⟩
  rcases h.2 with h2 | ⟨g, cap, cur, rfl, h4, h5, h6⟩
  · exact Or.inl h2
  · exact Or.inr ⟨g, cap, cur, rfl, h4, (hb g rfl).trans h5, h6⟩
theorem OwnV.keep {w w' : World} {base : Nat} {S T : Nat → Prop} {v : Value} {l : List JV} (h : OwnV w base S v l) (hb : ∀ g, S g → w'.heap[g]? = w.heap[g]?) (ho : ∀ k, v.ownBlock = some k → w'.heap[k]? = w.heap[k]?) (hT : ∀ g, S g → T g) : OwnV w' base T v l := by
  obtain ⟨xs, h1, h2⟩ := h.ex
  exact ⟨xs, row_keep h1 ho, fun j hj => (h2 j hj).keep hb hT⟩
theorem OwnV.form {w : World} {base : Nat} {S : Nat → Prop} {v : Value} {l : List JV} (h : OwnV w base S v l) : ∃ A c, v = .slice A l.length c ∧ l.length ≤ c ∧ c ≤ 9223372036854775807 := by
  obtain ⟨xs, h1, _⟩ := h.ex
  obtain ⟨_, ⟨rfl, h0⟩ | ⟨g, cap, cur, rfl, _, _, h3, h4, _⟩⟩ := h1
  · exact ⟨none, 0, by rw [h0], by omega, by decide⟩
  · exact ⟨_, _, rfl, h3, by unfold maxLen at h4; omega⟩
theorem OwnV.vals {w : World} {base : Nat} {S T : Nat → Prop} {A : Option Addr} {n c : Nat} {l : List JV} (h : OwnV w base S (.slice A n c) l) (hl : l.length ≤ 140737488351232) (hT : ∀ g, S g → T g) (ho : ∀ k, (Value.slice A n c).ownBlock = some k → T k) : n = l.length ∧ ValsIn w T A c l := by
  obtain ⟨A', c', e, h1, h2⟩ := h.form
  injection e with e1 e2 e3
  subst e1 e2 e3
  refine ⟨rfl, h1, hl, h2, fun j hj => ?_⟩
  obtain ⟨xs, h3, h4⟩ := h.ex
  have h3' := h3
  obtain ⟨hx, ⟨_, h0⟩ | ⟨g, cap, cur, e, _, _, _⟩⟩ := h3
  · omega
  · injection e with e1 _ e3
    subst e1
    refine ⟨g, 0, _, rfl, ho g rfl, fun i v hv => ?_, (h4 j hj).more hT⟩
    have hi : i < 6 := by
      have := (List.getElem?_eq_some_iff.1 hv).1
      rw [List.length_take] at this; omega
    have hc := World.ownsRow.cells h3' (g := g) rfl (j * 6 + i) v (by rw [List.getElem?_take_of_lt hi, List.getElem?_drop] at hv; exact hv)
    rw [add_at] at hc
    rw [← hc]; congr 2; omega
theorem vals_info : (Tryz.prog.info? 27).map (fun i => (i.zero, i.size, i.bytes)) = some (some (.agg #[.int .i64 0, .int .i64 0, .int .i64 0, .string ⟨#[]⟩, .slice none 0 0, .slice none 0 0]), 6, 88) := by kernel_rfl
set_option maxRecDepth 100000 in
/-- append of one value -/
theorem run_append_vals {w : World} (ty : TypeId) (base : Nat) (S : Nat → Prop) (v : Value) (l : List JV) (hown : OwnV w base S v l) (p : Nat) (t : JV) (cs : List Value) (hcell : ∀ i u, cs[i]? = some u → w.cell? ⟨p, i, none⟩ = some u) (hJ : JIn w S t cs)
    (hl : l.length + 1 ≤ 1000000000) (hbase : base ≤ w.heap.size) (hnot : ∀ k, v.ownBlock = some k → ¬ S k) (hS : ∀ k, S k → k < w.heap.size) :
    ∃ v' w', (Builtin.append_ #[24, 24] ty #[v, .slice (some ⟨p, 0, none⟩) 1 1]).run Tryz.prog w = .ok v' w' ∧ OwnV w' base S v' (l ++ [t]) ∧ w.grownBy w' v.ownBlock ∧ (v'.ownBlock = v.ownBlock ∨ v'.ownBlock = some w.heap.size) := by
  obtain ⟨i, hi, hz, hsize, hby⟩ := info_parts vals_info
  obtain ⟨xs, h1, h2⟩ := hown.ex
  obtain ⟨h6, hone⟩ := hJ.six
  obtain ⟨v', w', hrun, h3, h4, _, h5⟩ := run_append_own_at (P := Tryz.prog) w base 24 ty 27 i _ 6 88 Tryz.underlying24 hi hz hsize hby rfl (by omega) v l.length xs h1 ⟨p, 0, none⟩ 1 1 cs (by omega) (fun j u hu => by rw [add_at, Nat.zero_add]; exact hcell j u hu) hone (by simp [maxLen]; omega) (by omega) hbase
  have hb : ∀ g, S g → w'.heap[g]? = w.heap[g]? := fun g hg => h4.block g (hS g hg) (fun e => hnot g e.symm hg)
  refine ⟨v', w', hrun, ⟨xs ++ cs, by rw [List.length_append, List.length_singleton]; exact h3, fun j hj => ?_⟩, h4, h5⟩
  have hx : xs.length = l.length * 6 := h1.1
  by_cases hlt : j < l.length
  · rw [List.getElem_append_left hlt, List.drop_append_of_le_length (by omega), List.take_append_of_le_length (by rw [List.length_drop]; omega)]
    exact (h2 j hlt).keep hb (fun _ h => h)
  · obtain rfl : j = l.length := by simp at hj; omega
    rw [List.getElem_append_right (Nat.le_refl _), ← hx, List.drop_append_of_le_length (Nat.le_refl _), List.drop_length, List.nil_append, List.take_of_length_le (by omega)]
    simpa using hJ.keep hb (fun _ h => h)
structure OwnS (w : World) (base : Nat) (v : Value) (ks : List ByteArray) : Prop where
  row : w.ownsRow base 9 1 v ks.length (ks.map .string)
  small : ∀ k ∈ ks, k.size ≤ 140737488351232
theorem OwnS.nil (w : World) (base : Nat) : OwnS w base (.slice none 0 0) [] := ⟨World.ownsRow_nil w base _ 1, fun _ h => absurd h List.not_mem_nil⟩
theorem OwnS.keep {w w' : World} {base : Nat} {v : Value} {ks : List ByteArray} (h : OwnS w base v ks) (hb : ∀ k, v.ownBlock = some k → w'.heap[k]? = w.heap[k]?) : OwnS w' base v ks := ⟨row_keep h.row hb, h.small⟩
theorem OwnS.lt {w : World} {base : Nat} {v : Value} {ks : List ByteArray} (h : OwnS w base v ks) : ∀ k, v.ownBlock = some k → base ≤ k ∧ k < w.heap.size := own_block_lt h.row
theorem OwnS.form {w : World} {base : Nat} {v : Value} {ks : List ByteArray} (h : OwnS w base v ks) : ∃ A c, v = .slice A ks.length c ∧ ks.length ≤ c ∧ c ≤ 9223372036854775807 := by
  obtain ⟨_, ⟨rfl, h0⟩ | ⟨g, cap, cur, rfl, _, _, h3, h4, _⟩⟩ := h.row
  · exact ⟨none, 0, by rw [h0], by omega, by decide⟩
  · exact ⟨_, _, rfl, h3, by unfold maxLen at h4; omega⟩
theorem OwnS.strs {w : World} {base : Nat} {T : Nat → Prop} {A : Option Addr} {n c : Nat} {ks : List ByteArray} (h : OwnS w base (.slice A n c) ks) (hl : ks.length ≤ 140737488351232) (ho : ∀ k, (Value.slice A n c).ownBlock = some k → T k) : n = ks.length ∧ StrsIn w T A c ks := by
  obtain ⟨A', c', e, h1, h2⟩ := h.form
  injection e with e1 e2 e3
  subst e1 e2 e3
  refine ⟨rfl, h1, hl, h2, h.small, fun hn => ?_⟩
  have h3' := h.row
  obtain ⟨hx, ⟨_, h0⟩ | ⟨g, cap, cur, e, _, _, _⟩⟩ := h.row
  · omega
  · injection e with e1 _ e3
    subst e1
    refine ⟨g, 0, rfl, ho g rfl, fun j hj => ?_⟩
    have hc := World.ownsRow.cells h3' (g := g) rfl j (.string ks[j]) (by simp [hj])
    rw [add_at] at hc
    exact hc
theorem strs_info : (Tryz.prog.info? 9).map (fun i => (i.zero, i.size, i.bytes)) = some (some (.string ⟨#[]⟩), 1, 16) := by kernel_rfl
theorem str_one (ks : List ByteArray) : ∀ u ∈ ks.map Value.string, u.oneCell' = true := by
  intro u hu
  obtain ⟨k, _, rfl⟩ := List.mem_map.1 hu
  rfl
set_option maxRecDepth 100000 in
/-- append of texts that lie in memory, or of none -/
theorem run_append_strs {w : World} (ty : TypeId) (base : Nat) (v : Value) (ks : List ByteArray) (hown : OwnS w base v ks) (S : Nat → Prop) (A : Option Addr) (c : Nat) (es : List ByteArray) (hr : StrsIn w S A c es)
    (hl : ks.length + es.length ≤ 1000000000) (hbase : base ≤ w.heap.size) :
    ∃ v' w', (Builtin.append_ #[25, 25] ty #[v, .slice A es.length c]).run Tryz.prog w = .ok v' w' ∧ OwnS w' base v' (ks ++ es) ∧ w.grownBy w' v.ownBlock ∧ (v'.ownBlock = v.ownBlock ∨ v'.ownBlock = some w.heap.size) := by
  obtain ⟨i, hi, hz, hsize, hby⟩ := info_parts strs_info
  have ht := Tryz.underlying25
  have hsm : ∀ k ∈ ks ++ es, k.size ≤ 140737488351232 := fun k hk => (List.mem_append.1 hk).elim (hown.small k) (hr.small k)
  cases A with
  | none =>
    have hes : es = [] := by
      cases es with
      | nil => rfl
      | cons a b => obtain ⟨_, _, h, _⟩ := hr.at_ (by simp); cases h
    subst hes
    refine ⟨v, w, ?_, by simpa using hown, ⟨rfl, rfl, rfl, Nat.le_refl _, fun _ _ _ => rfl⟩, Or.inl rfl⟩
    rcases hown.row.2 with ⟨rfl, hx⟩ | ⟨g, cap, cur, rfl, _, _, hnc, _⟩
    · simp [Builtin.append_, run_underlying ht, sizeOf, typeInfo, hi, Builtin.lenOf, Builtin.firstCells]
    · simp [Builtin.append_, run_underlying ht, sizeOf, typeInfo, hi, Builtin.lenOf, Builtin.firstCells, hnc, storeCells]
  | some ad =>
    have hcells : ∀ j u, (es.map Value.string)[j]? = some u → w.cell? (ad.add j) = some u := by
      intro j u hu
      have hj : j < es.length := by
        rcases Nat.lt_or_ge j es.length with h1 | h1
        · exact h1
        · rw [List.getElem?_eq_none (by simpa using h1)] at hu; cases hu
      obtain ⟨g, o, h, _, hc⟩ := hr.at_ (by omega)
      injection h with h
      subst h
      rw [add_at, hc j hj, ← hu]
      simp [hj]
    obtain ⟨v', w', hrun, h2, h3, _, h5⟩ := run_append_own_at (P := Tryz.prog) w base 25 ty 9 i (.string ⟨#[]⟩) 1 16 ht hi hz hsize hby rfl (by omega) v ks.length (ks.map .string) hown.row ad es.length c (es.map .string) (by simp) hcells (str_one es) (by simp [maxLen]; omega) (by omega) hbase
    exact ⟨v', w', hrun, ⟨by rw [List.length_append, List.map_append]; exact h2, hsm⟩, h3, h5⟩
set_option maxRecDepth 100000 in
/-- append of one value, as an operation -/
theorem op_append_vals {w : World} {o : Oper} {a : Act} {K : Act → World → Prop} {Q : Exit → Act → World → Prop} (s x : Operand)
    (ho : o.op = .call { callee := .builtin .append, args := #[s, x], argTypes := #[24, 24] })
    (base : Nat) (S : Nat → Prop) (v : Value) (l : List JV) (hs : a.eval s = v) (hown : OwnV w base S v l) (p : Nat) (t : JV) (cs : List Value) (hx : a.eval x = .slice (some ⟨p, 0, none⟩) 1 1) (hcell : ∀ i u, cs[i]? = some u → w.cell? ⟨p, i, none⟩ = some u) (hJ : JIn w S t cs)
    (hl : l.length + 1 ≤ 1000000000) (hbase : base ≤ w.heap.size) (hnot : ∀ k, v.ownBlock = some k → ¬ S k) (hS : ∀ k, S k → k < w.heap.size)
    (h : ∀ v' w', OwnV w' base S v' (l ++ [t]) → w.grownBy w' v.ownBlock → (v'.ownBlock = v.ownBlock ∨ v'.ownBlock = some w.heap.size) → K (a.put o.dst v') w') : Oper.wp Tryz.prog o a w K Q := by
  obtain ⟨v', w', hrun, h2, h3, h4⟩ := run_append_vals (w := w) o.type base S v l hown p t cs hcell hJ hl hbase hnot hS
  unfold Oper.wp execOp
  simp only [ho, resolve, invoke, builtin, Sem.run_bind, Sem.run_pure, Result.andThen_ok, List.map_toArray, List.map_cons, List.map_nil, hs, hx, hrun]
  exact h _ _ h2 h3 h4
end Go.Proofs.YtnkokhpadcgfbaaGreatDoor
namespace Go.Proofs.YtnkokhpadcgfbaaGreatDoor
open Go Go.RowKit Go.Proofs Th
attribute [local go_sem] Above.cell
def newIn (w w' : World) (g : Nat) : Prop := w.heap.size ≤ g ∧ g < w'.heap.size
def VBlkT (w : World) (p : Nat) (cs : List Value) : Prop := w.heap[p]? = some (.cells cs.toArray 27 (0, 0))
def zero6 : List Value := cells6 0 0 0 ⟨#[]⟩ none 0 0 none 0 0
theorem VBlkT.new {w : World} {p : Nat} (cs : List Value) (h : w.heap.size = p) : VBlkT (w.alloc (.cells cs.toArray 27)) p cs := by subst h; exact heap_alloc_new w _
theorem VBlkT.set {W : World} {g i : Nat} {cs : List Value} (h : VBlkT W g cs) (u : Value) : VBlkT (W.setCell ⟨g, i, none⟩ u) g (cs.set i u) := by
  have := heap_setCell_same W g i cs.toArray _ u h
  unfold VBlkT
  rw [this]; simp
theorem VBlkT.other {W : World} {g p : Nat} {cs : List Value} (h : VBlkT W g cs) (hp : p ≠ g) (i : Nat) (u : Value) : VBlkT (W.setCell ⟨p, i, none⟩ u) g cs :=
  (Below.heap_setCell W ⟨p, i, none⟩ u g (Ne.symm hp)).trans h
def six (W : World) (g : Nat) (b0 b1 b2 b3 b4 b5 : Value) : World := (((((W.setCell ⟨g, 0, none⟩ b0).setCell ⟨g, 1, none⟩ b1).setCell ⟨g, 2, none⟩ b2).setCell ⟨g, 3, none⟩ b3).setCell ⟨g, 4, none⟩ b4).setCell ⟨g, 5, none⟩ b5
theorem VBlkT.six {W : World} {g : Nat} {a0 a1 a2 a3 a4 a5 : Value} (h : VBlkT W g [a0, a1, a2, a3, a4, a5]) (b0 b1 b2 b3 b4 b5 : Value) : VBlkT (Go.Proofs.YtnkokhpadcgfbaaGreatDoor.six W g b0 b1 b2 b3 b4 b5) g [b0, b1, b2, b3, b4, b5] :=
  (((((h.set (i := 0) b0).set (i := 1) b1).set (i := 2) b2).set (i := 3) b3).set (i := 4) b4).set (i := 5) b5
theorem six_other (W : World) (g : Nat) (b0 b1 b2 b3 b4 b5 : Value) (p : Nat) (h : p ≠ g) : (six W g b0 b1 b2 b3 b4 b5).heap[p]? = W.heap[p]? := by
  unfold six
  repeat rw [Below.heap_setCell _ _ _ p h]
theorem six_below (W : World) (g : Nat) (b0 b1 b2 b3 b4 b5 : Value) {B : Nat} (h : B ≤ g) : Below B W (six W g b0 b1 b2 b3 b4 b5) := by
  have h0 : Below B W W := Below.refl _ _
  exact (((((h0.setCell (p := ⟨g, 0, none⟩) h b0).setCell (p := ⟨g, 1, none⟩) h b1).setCell (p := ⟨g, 2, none⟩) h b2).setCell (p := ⟨g, 3, none⟩) h b3).setCell (p := ⟨g, 4, none⟩) h b4).setCell (p := ⟨g, 5, none⟩) h b5
theorem VBlkT.box {w : World} {p : Nat} {cs : List Value} (h : VBlkT w p cs) : Box w p cs := by
  refine ⟨fun i v hv => ?_, fun i => ?_, lt_of_block h⟩
  · unfold VBlkT at h; simp [World.cell?, h, hv]
  · unfold VBlkT at h; simp [World.frozen?, h]
theorem kind_ne {W : World} {p q : Nat} {c d : Array Value} {t u : TypeId} {x y : Nat × Nat} (h : W.heap[p]? = some (.cells c t x)) (h2 : W.heap[q]? = some (.cells d u y)) (hn : t ≠ u) : p ≠ q := by
  rintro rfl
  rw [h] at h2
  injection h2 with h2
  injection h2 with _ h3
  exact hn h3
theorem OwnS.kind {w : World} {base : Nat} {v : Value} {ks : List ByteArray} (h : OwnS w base v ks) : ∀ g, v.ownBlock = some g → ∃ cur, w.heap[g]? = some (.cells cur 9 (0, 0)) := by
  intro g hg
  obtain ⟨_, ⟨rfl, _⟩ | ⟨g', cap, cur, rfl, _, h3, _⟩⟩ := h.row
  · cases hg
  · injection hg with hg; subst hg; exact ⟨cur, h3⟩
theorem OwnS.apart {w : World} {base p : Nat} {v : Value} {ks : List ByteArray} {cs : List Value} (h : OwnS w base v ks) (hp : VBlkT w p cs) : ∀ g, v.ownBlock = some g → g ≠ p := fun g hg => by
  obtain ⟨cur, hc⟩ := h.kind g hg
  exact kind_ne hc hp (by decide)
structure CopyS (w W0 wr : World) (g : Nat) (k m e : Int) (s : ByteArray) (l : List JV) (ks : List ByteArray) (A : Option Addr) (c : Nat) (A' : Option Addr) (c' : Nat) (vl v' : Value) (j : Nat) : Prop where
  x : Box wr w.heap.size (cells6 k m e s A l.length c A' ks.length c')
  v : ValsAt wr w.heap.size A c l
  r : VBlkT wr (w.heap.size + 1) zero6
  o : VBlkT wr g [.int .i64 k, .int .i64 m, .int .i64 e, .string s, vl, v']
  kk : OwnS wr W0.heap.size v' ks
  vv : OwnV wr W0.heap.size (fun b => W0.heap.size ≤ b ∧ b < wr.heap.size ∧ b ≠ g ∧ vl.ownBlock ≠ some b) vl (l.take j)
  ng : vl.ownBlock ≠ some g
  gB : W0.heap.size ≤ g
  b : Below W0.heap.size W0 wr
theorem OwnV.kind {w : World} {base : Nat} {S : Nat → Prop} {v : Value} {l : List JV} (h : OwnV w base S v l) : ∀ g, v.ownBlock = some g → ∃ cur, w.heap[g]? = some (.cells cur 27 (0, 0)) := by
  intro g hg
  obtain ⟨xs, h, _⟩ := h.ex
  obtain ⟨_, ⟨rfl, _⟩ | ⟨g', cap, cur, rfl, _, h3, _⟩⟩ := h
  · cases hg
  · injection hg with hg; subst hg; exact ⟨cur, h3⟩
theorem sizeL_at : ∀ (l : List JV) (j : Nat) (h : j < l.length), sizeJ l[j] ≤ sizeL l
  | v :: r, 0, _ => by show sizeJ v ≤ sizeJ v + sizeL r; omega
  | v :: r, j + 1, h => by
    have := sizeL_at r j (by simpa using h)
    show sizeJ (r[j]'(by simpa using h)) ≤ sizeJ v + sizeL r
    omega
theorem keysN_len : ∀ ks : List ByteArray, ks.length ≤ keysN ks
  | [] => Nat.le_refl _
  | k :: r => by
    have := keysN_len r
    rw [List.length_cons]
    show _ ≤ 1 + k.size + keysN r
    omega
theorem sizeJ_pos : ∀ t : JV, 1 ≤ sizeJ t
  | .mk _ _ _ _ _ _ => by simp only [sizeJ]; omega
theorem sizeL_len : ∀ l : List JV, l.length ≤ sizeL l
  | [] => Nat.le_refl _
  | v :: r => by
    have := sizeL_len r
    have := sizeJ_pos v
    rw [List.length_cons]
    show _ ≤ sizeJ v + sizeL r
    omega
end Go.Proofs.YtnkokhpadcgfbaaGreatDoor
