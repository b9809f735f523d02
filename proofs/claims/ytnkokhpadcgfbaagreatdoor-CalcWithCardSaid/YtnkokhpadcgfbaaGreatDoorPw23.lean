/- Lemmas and contracts for the laws CalcWith, part 23 of 50: Tree. Conditions: those that each lemma names. -/
import Derived.Test.YtnkokhpadcgfbaaGreatDoorPw1
import Derived.Test.YtnkokhpadcgfbaaGreatDoorPw5
import Derived.Test.YtnkokhpadcgfbaaGreatDoorPw14
import Derived.Test.YtnkokhpadcgfbaaGreatDoorPw19
import Derived.StillTail
import Derived.Deep.RegionLawGrows
import Derived.Outline
namespace Go.Proofs.YtnkokhpadcgfbaaGreatDoor
open Go Go.RowKit Go.Proofs Th
structure StrsIn (W : World) (S : Nat → Prop) (A : Option Addr) (c : Nat) (ks : List ByteArray) : Prop where
  le : ks.length ≤ c
  cap : ks.length ≤ 140737488351232
  top : c ≤ 9223372036854775807
  small : ∀ k ∈ ks, k.size ≤ 140737488351232
  at_ : 0 < ks.length → ∃ g o, A = some ⟨g, o, none⟩ ∧ S g ∧ ∀ j (h : j < ks.length), W.cell? ⟨g, o + j, none⟩ = some (.string ks[j])
theorem cell_block {W W' : World} {g o : Nat} (h : W'.heap[g]? = W.heap[g]?) : W'.cell? ⟨g, o, none⟩ = W.cell? ⟨g, o, none⟩ := World.cell?_of_block h
theorem StrsIn.keep {W W' : World} {S T : Nat → Prop} {A : Option Addr} {c : Nat} {ks : List ByteArray} (h : StrsIn W S A c ks) (hb : ∀ g, S g → W'.heap[g]? = W.heap[g]?) (hT : ∀ g, S g → T g) : StrsIn W' T A c ks :=
  ⟨h.le, h.cap, h.top, h.small, fun hn => by
    obtain ⟨g, o, e, hg, hc⟩ := h.at_ hn
    exact ⟨g, o, e, hT g hg, fun j hj => (cell_block (hb g hg)).trans (hc j hj)⟩⟩
theorem StrsIn.at {W : World} {S : Nat → Prop} {B : Nat} {A : Option Addr} {c : Nat} {ks : List ByteArray} (h : StrsIn W S A c ks) (hS : ∀ g, S g → g < B) : StrsAt W B A c ks :=
  ⟨h.le, h.cap, h.top, h.small, fun hn => by
    obtain ⟨g, o, e, hg, hc⟩ := h.at_ hn
    exact ⟨g, o, e, hS g hg, hc⟩⟩
theorem StrsAt.inn {W : World} {B : Nat} {A : Option Addr} {c : Nat} {ks : List ByteArray} (h : StrsAt W B A c ks) : StrsIn W (· < B) A c ks :=
  ⟨h.le, h.cap, h.top, h.small, h.at_⟩
inductive JIn (W : World) (S : Nat → Prop) : JV → List Value → Prop
  | mk {k m e : Int} {s : ByteArray} {l : List JV} {ks : List ByteArray} {A : Option Addr} {c : Nat} {A' : Option Addr} {c' : Nat} (f : Nat → List Value)
    (hk : I64 k) (hm : I64 m) (he : I64 e) (hs : s.size ≤ 140737488351232) (hl : l.length ≤ c) (hc : l.length ≤ 140737488351232) (hcc : c ≤ 9223372036854775807) (hK : StrsIn W S A' c' ks)
    (hL : 0 < l.length → ∃ g o, A = some ⟨g, o, none⟩ ∧ S g ∧ ∀ j, j < l.length → ∀ i v, (f j)[i]? = some v → W.cell? ⟨g, o + j * 6 + i, none⟩ = some v)
    (hT : ∀ j (h : j < l.length), JIn W S l[j] (f j)) :
    JIn W S (.mk k m e s l ks) (cells6 k m e s A l.length c A' ks.length c')
theorem JIn.keep {W W' : World} {S T : Nat → Prop} {t : JV} {cs : List Value} (h : JIn W S t cs) (hb : ∀ g, S g → W'.heap[g]? = W.heap[g]?) (hT : ∀ g, S g → T g) : JIn W' T t cs := by
  induction h with
  | mk f hk hm he hs hl hc hcc hK hL hT' ih =>
    refine .mk f hk hm he hs hl hc hcc (hK.keep hb hT) (fun hn => ?_) (fun j hj => ih j hj)
    obtain ⟨g, o, e, hg, h⟩ := hL hn
    exact ⟨g, o, e, hT g hg, fun j hj i v hv => (cell_block (hb g hg)).trans (h j hj i v hv)⟩
theorem JIn.more {W : World} {S T : Nat → Prop} {t : JV} {cs : List Value} (h : JIn W S t cs) (hT : ∀ g, S g → T g) : JIn W T t cs := h.keep (fun _ _ => rfl) hT
theorem JIn.at {W : World} {S : Nat → Prop} {B : Nat} {t : JV} {cs : List Value} (h : JIn W S t cs) (hS : ∀ g, S g → g < B) : JAt W B t cs := by
  induction h with
  | mk f hk hm he hs hl hc hcc hK hL hT ih =>
    refine .mk f hk hm he hs hl hc hcc (hK.at hS) (fun hn => ?_) (fun j hj => ih j hj)
    obtain ⟨g, o, e, hg, h⟩ := hL hn
    exact ⟨g, o, e, hS g hg, h⟩
theorem JAt.inn {W : World} {B : Nat} {t : JV} {cs : List Value} (h : JAt W B t cs) : JIn W (· < B) t cs := by
  induction h with
  | mk f hk hm he hs hl hc hcc hK hL hT ih => exact .mk f hk hm he hs hl hc hcc hK.inn hL (fun j hj => ih j hj)
theorem JIn.six {W : World} {S : Nat → Prop} {t : JV} {cs : List Value} (h : JIn W S t cs) : cs.length = 6 ∧ ∀ u ∈ cs, u.oneCell' = true := by
  cases h with
  | mk f hk hm he hs hl hc hcc hK hL hT =>
    refine ⟨rfl, fun u hu => ?_⟩
    simp only [cells6, List.mem_cons, List.not_mem_nil, or_false] at hu
    rcases hu with rfl | rfl | rfl | rfl | rfl | rfl <;> rfl
theorem JIn.cells {W : World} {S : Nat → Prop} {t : JV} {cs : List Value} (h : JIn W S t cs) : ∃ k m e s A n c A' n' c', cs = cells6 k m e s A n c A' n' c' := by
  cases h with
  | mk f hk hm he hs hl hc hcc hK hL hT => exact ⟨_, _, _, _, _, _, _, _, _, _, rfl⟩
structure ValsIn (W : World) (S : Nat → Prop) (A : Option Addr) (c : Nat) (l : List JV) : Prop where
  le : l.length ≤ c
  cap : l.length ≤ 140737488351232
  top : c ≤ 9223372036854775807
  at_ : ∀ j (h : j < l.length), ∃ g o cs, A = some ⟨g, o, none⟩ ∧ S g ∧ (∀ i v, cs[i]? = some v → W.cell? ⟨g, o + j * 6 + i, none⟩ = some v) ∧ JIn W S l[j] cs
theorem ValsIn.none_ (W : World) (S : Nat → Prop) : ValsIn W S none 0 [] := ⟨Nat.le_refl _, by decide, by decide, fun _ h => absurd h (Nat.not_lt_zero _)⟩
theorem StrsIn.none_ (W : World) (S : Nat → Prop) : StrsIn W S none 0 [] := ⟨Nat.le_refl _, by decide, by decide, fun _ h => absurd h List.not_mem_nil, fun h => absurd h (by decide)⟩
theorem JIn.shut {W : World} {S : Nat → Prop} {k m e : Int} {s : ByteArray} {l : List JV} {ks : List ByteArray} {A : Option Addr} {c : Nat} {A' : Option Addr} {c' : Nat}
    (hk : I64 k) (hm : I64 m) (he : I64 e) (hs : s.size ≤ 140737488351232) (hK : StrsIn W S A' c' ks) (hV : ValsIn W S A c l) : JIn W S (.mk k m e s l ks) (cells6 k m e s A l.length c A' ks.length c') := by
  classical
  have h : ∀ j : Nat, ∃ cs : List Value, ∀ (h : j < l.length), ∃ g o, A = some ⟨g, o, none⟩ ∧ S g ∧ (∀ i v, cs[i]? = some v → W.cell? ⟨g, o + j * 6 + i, none⟩ = some v) ∧ JIn W S l[j] cs := by
    intro j
    by_cases hj : j < l.length
    · obtain ⟨g, o, cs, h⟩ := hV.at_ j hj
      exact ⟨cs, fun _ => ⟨g, o, h⟩⟩
    · exact ⟨[], fun h => absurd h hj⟩
  refine .mk (fun j => (h j).choose) hk hm he hs hV.le hV.cap hV.top hK (fun hn => ?_) (fun j hj => ?_)
  · obtain ⟨g, o, ea, hg, _⟩ := (h 0).choose_spec hn
    refine ⟨g, o, ea, hg, fun j hj i v hv => ?_⟩
    obtain ⟨g', o', eb, hg', hc, _⟩ := (h j).choose_spec hj
    rw [ea] at eb
    injection eb with eb
    injection eb with e1 e2
    subst e1 e2
    exact hc i v hv
  · obtain ⟨g', o', e', hg', hc, hJ⟩ := (h j).choose_spec hj
    exact hJ
/-! rows of a call's own -/
structure OwnV (w : World) (base : Nat) (S : Nat → Prop) (v : Value) (l : List JV) : Prop where
  ex : ∃ xs, w.ownsRow base 27 6 v l.length xs ∧ ∀ j (h : j < l.length), JIn w S l[j] ((xs.drop (j * 6)).take 6)
theorem OwnV.nil (w : World) (base : Nat) (S : Nat → Prop) : OwnV w base S (.slice none 0 0) [] := ⟨[], World.ownsRow_nil w base _ 6, fun _ h => absurd h (Nat.not_lt_zero _)⟩
theorem own_block_lt {w : World} {base size n : Nat} {e : TypeId} {v : Value} {xs : List Value} (h : w.ownsRow base e size v n xs) : ∀ k, v.ownBlock = some k → base ≤ k ∧ k < w.heap.size := World.ownsRow.lt h
theorem OwnV.lt {w : World} {base : Nat} {S : Nat → Prop} {v : Value} {l : List JV} (h : OwnV w base S v l) : ∀ k, v.ownBlock = some k → base ≤ k ∧ k < w.heap.size := by
  obtain ⟨xs, h1, _⟩ := h.ex; exact own_block_lt h1
theorem row_keep {w w' : World} {base size n : Nat} {e : TypeId} {v : Value} {xs : List Value} (h : w.ownsRow base e size v n xs) (hb : ∀ k, v.ownBlock = some k → w'.heap[k]? = w.heap[k]?) : w'.ownsRow base e size v n xs := by
  refine ⟨h.1, ?_⟩
  rcases h.2 with h2 | ⟨g, cap, cur, rfl, h4, h5, h6⟩
  · exact Or.inl h2
  · exact Or.inr ⟨g, cap, cur, rfl, h4, (hb g rfl).trans h5, h6⟩
theorem OwnV.keep {w w' : World} {base : Nat} {S T : Nat → Prop} {v : Value} {l : List JV} (h : OwnV w base S v l) (hb : ∀ g, S g → w'.heap[g]? = w.heap[g]?) (ho : ∀ k, v.ownBlock = some k → w'.heap[k]? = w.heap[k]?) (hT : ∀ g, S g → T g) : OwnV w' base T v l := by
  obtain ⟨xs, h1, h2⟩ := h.ex
  exact ⟨xs, row_keep h1 ho, fun j hj => (h2 j hj).keep hb hT⟩
theorem OwnV.form {w : World} {base : Nat} {S : Nat → Prop} {v : Value} {l : List JV} (h : OwnV w base S v l) : ∃ A c, v = .slice A l.length c ∧ l.length ≤ c ∧ c ≤ 9223372036854775807 := by
  obtain ⟨xs, h1, _⟩ := h.ex
  obtain ⟨_, ⟨rfl, h0⟩ | ⟨g, cap, cur, rfl, _, _, h3, h4, _⟩⟩ := h1
  · exact ⟨none, 0, by rw [h0], by omega, by decide⟩
  · exact ⟨_, _, rfl, h3, by unfold maxLen at h4; omega⟩
theorem OwnV.vals {w : World} {base : Nat} {S T : Nat → Prop} {A : Option Addr} {n c : Nat} {l : List JV} (h : OwnV w base S (.slice A n c) l) (hl : l.length ≤ 140737488351232) (hT : ∀ g, S g → T g) (ho : ∀ k, (Value.slice A n c).ownBlock = some k → T k) : n = l.length ∧ ValsIn w T A c l := by
  obtain ⟨A', c', e, h1, h2⟩ := h.form
  injection e with e1 e2 e3
  subst e1 e2 e3
  refine ⟨rfl, h1, hl, h2, fun j hj => ?_⟩
  obtain ⟨xs, h3, h4⟩ := h.ex
  have h3' := h3
  obtain ⟨hx, ⟨_, h0⟩ | ⟨g, cap, cur, e, _, _, _⟩⟩ := h3
  · omega
  · injection e with e1 _ e3
    subst e1
    refine ⟨g, 0, _, rfl, ho g rfl, fun i v hv => ?_, (h4 j hj).more hT⟩
    have hi : i < 6 := by
      have := (List.getElem?_eq_some_iff.1 hv).1
      rw [List.length_take] at this; omega
    have hc := World.ownsRow.cells h3' (g := g) rfl (j * 6 + i) v (by rw [List.getElem?_take_of_lt hi, List.getElem?_drop] at hv; exact hv)
    rw [add_at] at hc
    rw [← hc]; congr 2; omega
theorem vals_info : (Tryz.prog.info? 27).map (fun i => (i.zero, i.size, i.bytes)) = some (some (.agg #[.int .i64 0, .int .i64 0, .int .i64 0, .string ⟨#[]⟩, .slice none 0 0, .slice none 0 0]), 6, 88) := by kernel_rfl
set_option maxRecDepth 100000 in
/-- append of one value -/
theorem run_append_vals {w : World} (ty : TypeId) (base : Nat) (S : Nat → Prop) (v : Value) (l : List JV) (hown : OwnV w base S v l) (p : Nat) (t : JV) (cs : List Value) (hcell : ∀ i u, cs[i]? = some u → w.cell? ⟨p, i, none⟩ = some u) (hJ : JIn w S t cs)
    (hl : l.length + 1 ≤ 1000000000) (hbase : base ≤ w.heap.size) (hnot : ∀ k, v.ownBlock = some k → ¬ S k) (hS : ∀ k, S k → k < w.heap.size) :
    ∃ v' w', (Builtin.append_ #[24, 24] ty #[v, .slice (some ⟨p, 0, none⟩) 1 1]).run Tryz.prog w = .ok v' w' ∧ OwnV w' base S v' (l ++ [t]) ∧ w.grownBy w' v.ownBlock ∧ (v'.ownBlock = v.ownBlock ∨ v'.ownBlock = some w.heap.size) := by
  obtain ⟨i, hi, hz, hsize, hby⟩ := info_parts vals_info
  obtain ⟨xs, h1, h2⟩ := hown.ex
  obtain ⟨h6, hone⟩ := hJ.six
  obtain ⟨v', w', hrun, h3, h4, _, h5⟩ := run_append_own_at (P := Tryz.prog) w base 24 ty 27 i _ 6 88 Tryz.underlying24 hi hz hsize hby rfl (by omega) v l.length xs h1 ⟨p, 0, none⟩ 1 1 cs (by omega) (fun j u hu => by rw [add_at, Nat.zero_add]; exact hcell j u hu) hone (by simp [maxLen]; omega) (by omega) hbase
  have hb : ∀ g, S g → w'.heap[g]? = w.heap[g]? := fun g hg => h4.block g (hS g hg) (fun e => hnot g e.symm hg)
  refine ⟨v', w', hrun, ⟨xs ++ cs, by rw [List.length_append, List.length_singleton]; exact h3, fun j hj => ?_⟩, h4, h5⟩
  have hx : xs.length = l.length * 6 := h1.1
  by_cases hlt : j < l.length
  · rw [List.getElem_append_left hlt, List.drop_append_of_le_length (by omega), List.take_append_of_le_length (by rw [List.length_drop]; omega)]
    exact (h2 j hlt).keep hb (fun _ h => h)
  · obtain rfl : j = l.length := by simp at hj; omega
    rw [List.getElem_append_right (Nat.le_refl _), ← hx, List.drop_append_of_le_length (Nat.le_refl _), List.drop_length, List.nil_append, List.take_of_length_le (by omega)]
    simpa using hJ.keep hb (fun _ h => h)
structure OwnS (w : World) (base : Nat) (v : Value) (ks : List ByteArray) : Prop where
  row : w.ownsRow base 9 1 v ks.length (ks.map .string)
  small : ∀ k ∈ ks, k.size ≤ 140737488351232
theorem OwnS.nil (w : World) (base : Nat) : OwnS w base (.slice none 0 0) [] := ⟨World.ownsRow_nil w base _ 1, fun _ h => absurd h List.not_mem_nil⟩
theorem OwnS.keep {w w' : World} {base : Nat} {v : Value} {ks : List ByteArray} (h : OwnS w base v ks) (hb : ∀ k, v.ownBlock = some k → w'.heap[k]? = w.heap[k]?) : OwnS w' base v ks := ⟨row_keep h.row hb, h.small⟩
theorem OwnS.lt {w : World} {base : Nat} {v : Value} {ks : List ByteArray} (h : OwnS w base v ks) : ∀ k, v.ownBlock = some k → base ≤ k ∧ k < w.heap.size := own_block_lt h.row
theorem OwnS.form {w : World} {base : Nat} {v : Value} {ks : List ByteArray} (h : OwnS w base v ks) : ∃ A c, v = .slice A ks.length c ∧ ks.length ≤ c ∧ c ≤ 9223372036854775807 := by
  obtain ⟨_, ⟨rfl, h0⟩ | ⟨g, cap, cur, rfl, _, _, h3, h4, _⟩⟩ := h.row
  · exact ⟨none, 0, by rw [h0], by omega, by decide⟩
  · exact ⟨_, _, rfl, h3, by unfold maxLen at h4; omega⟩
theorem OwnS.strs {w : World} {base : Nat} {T : Nat → Prop} {A : Option Addr} {n c : Nat} {ks : List ByteArray} (h : OwnS w base (.slice A n c) ks) (hl : ks.length ≤ 140737488351232) (ho : ∀ k, (Value.slice A n c).ownBlock = some k → T k) : n = ks.length ∧ StrsIn w T A c ks := by
  obtain ⟨A', c', e, h1, h2⟩ := h.form
  injection e with e1 e2 e3
  subst e1 e2 e3
  refine ⟨rfl, h1, hl, h2, h.small, fun hn => ?_⟩
  have h3' := h.row
  obtain ⟨hx, ⟨_, h0⟩ | ⟨g, cap, cur, e, _, _, _⟩⟩ := h.row
  · omega
  · injection e with e1 _ e3
    subst e1
    refine ⟨g, 0, rfl, ho g rfl, fun j hj => ?_⟩
    have hc := World.ownsRow.cells h3' (g := g) rfl j (.string ks[j]) (by simp [hj])
    rw [add_at] at hc
    exact hc
theorem strs_info : (Tryz.prog.info? 9).map (fun i => (i.zero, i.size, i.bytes)) = some (some (.string ⟨#[]⟩), 1, 16) := by kernel_rfl
theorem str_one (ks : List ByteArray) : ∀ u ∈ ks.map Value.string, u.oneCell' = true := by
  intro u hu
  obtain ⟨k, _, rfl⟩ := List.mem_map.1 hu
  rfl
set_option maxRecDepth 100000 in
/-- append of texts that lie in memory, or of none -/
theorem run_append_strs {w : World} (ty : TypeId) (base : Nat) (v : Value) (ks : List ByteArray) (hown : OwnS w base v ks) (S : Nat → Prop) (A : Option Addr) (c : Nat) (es : List ByteArray) (hr : StrsIn w S A c es)
    (hl : ks.length + es.length ≤ 1000000000) (hbase : base ≤ w.heap.size) :
    ∃ v' w', (Builtin.append_ #[25, 25] ty #[v, .slice A es.length c]).run Tryz.prog w = .ok v' w' ∧ OwnS w' base v' (ks ++ es) ∧ w.grownBy w' v.ownBlock ∧ (v'.ownBlock = v.ownBlock ∨ v'.ownBlock = some w.heap.size) := by
  obtain ⟨i, hi, hz, hsize, hby⟩ := info_parts strs_info
  have ht := Tryz.underlying25
  have hsm : ∀ k ∈ ks ++ es, k.size ≤ 140737488351232 := fun k hk => (List.mem_append.1 hk).elim (hown.small k) (hr.small k)
  cases A with
  | none =>
    have hes : es = [] := by
      cases es with
      | nil => rfl
      | cons a b => obtain ⟨_, _, h, _⟩ := hr.at_ (by simp); cases h
    subst hes
    refine ⟨v, w, ?_, by simpa using hown, ⟨rfl, rfl, rfl, Nat.le_refl _, fun _ _ _ => rfl⟩, Or.inl rfl⟩
    rcases hown.row.2 with ⟨rfl, hx⟩ | ⟨g, cap, cur, rfl, _, _, hnc, _⟩
    · simp [Builtin.append_, run_underlying ht, sizeOf, typeInfo, hi, Builtin.lenOf, Builtin.firstCells]
    · simp [Builtin.append_, run_underlying ht, sizeOf, typeInfo, hi, Builtin.lenOf, Builtin.firstCells, hnc, storeCells]
  | some ad =>
    have hcells : ∀ j u, (es.map Value.string)[j]? = some u → w.cell? (ad.add j) = some u := by
      intro j u hu
      have hj : j < es.length := by
        rcases Nat.lt_or_ge j es.length with h1 | h1
        · exact h1
        · rw [List.getElem?_eq_none (by simpa using h1)] at hu; cases hu
      obtain ⟨g, o, h, _, hc⟩ := hr.at_ (by omega)
      injection h with h
      subst h
      rw [add_at, hc j hj, ← hu]
      simp [hj]
    obtain ⟨v', w', hrun, h2, h3, _, h5⟩ := run_append_own_at (P := Tryz.prog) w base 25 ty 9 i (.string ⟨#[]⟩) 1 16 ht hi hz hsize hby rfl (by omega) v ks.length (ks.map .string) hown.row ad es.length c (es.map .string) (by simp) hcells (str_one es) (by simp [maxLen]; omega) (by omega) hbase
    exact ⟨v', w', hrun, ⟨by rw [List.length_append, List.map_append]; exact h2, hsm⟩, h3, h5⟩
set_option maxRecDepth 100000 in
/-- append of texts onto a new slice without room -/
theorem op_append_fresh {w : World} {o : Oper} {a : Act} {K : Act → World → Prop} {Q : Exit → Act → World → Prop} (hgd : o.guard = none) (s x : Operand)
    (ho : o.op = .call { callee := .builtin .append, args := #[s, x], argTypes := #[25, 25] })
    (base g : Nat) (hs : a.eval s = .slice (some ⟨g, 0, none⟩) 0 0) (hgw : w.heap[g]? = some (.cells #[] 9 (0, 0))) (hgb : base ≤ g) (hbase : base ≤ w.heap.size) (S : Nat → Prop) (A : Option Addr) (n c : Nat) (es : List ByteArray) (hn : n = es.length) (hx : a.eval x = .slice A n c) (hr : StrsIn w S A c es)
    (hl : es.length ≤ 1000000000)
    (h : ∀ v' w', OwnS w' base v' es → Below w.heap.size w w' → K (a.put o.dst v') w') : Oper.wp Tryz.prog o a w K Q := by
  subst hn
  obtain ⟨i, hi, hz, hsize, hby⟩ := info_parts strs_info
  have ht := Tryz.underlying25
  have hw : Region.wanted o (yielded #[] a.tmps) = true := by simp [Region.wanted, hgd]
  cases A with
  | none =>
    have hes : es = [] := by
      cases es with
      | nil => rfl
      | cons a b => obtain ⟨_, _, h, _⟩ := hr.at_ (by simp); cases h
    subst hes
    have hrun : (Builtin.append_ #[25, 25] o.type #[.slice (some ⟨g, 0, none⟩) 0 0, .slice none 0 c]).run Tryz.prog w = .ok (.slice (some ⟨g, 0, none⟩) 0 0) w := by
      simp [Builtin.append_, run_underlying ht, sizeOf, typeInfo, hi, Builtin.lenOf, Builtin.firstCells, storeCells]
    unfold Oper.wp execOp
    simp only [ho, resolve, invoke, builtin, Sem.run_bind, Sem.run_pure, Result.andThen_ok, List.map_toArray, List.map_cons, List.map_nil, hs, hx, List.length_nil, hrun]
    exact h _ _ ⟨⟨rfl, Or.inr ⟨g, 0, #[], rfl, hgb, hgw, Nat.le_refl _, by simp [maxLen], rfl, rfl⟩⟩, fun _ h => absurd h List.not_mem_nil⟩ (Below.refl _ _)
  | some ad =>
    by_cases hes : es = []
    · subst hes
      have hrun : (Builtin.append_ #[25, 25] o.type #[.slice (some ⟨g, 0, none⟩) 0 0, .slice (some ad) 0 c]).run Tryz.prog w = .ok (.slice (some ⟨g, 0, none⟩) 0 0) w := by
        simp [Builtin.append_, run_underlying ht, sizeOf, typeInfo, hi, Builtin.lenOf, Builtin.firstCells, storeCells, loadCells, loadCellsFrom]
      unfold Oper.wp execOp
      simp only [ho, resolve, invoke, builtin, Sem.run_bind, Sem.run_pure, Result.andThen_ok, List.map_toArray, List.map_cons, List.map_nil, hs, hx, List.length_nil, hrun]
      exact h _ _ ⟨⟨rfl, Or.inr ⟨g, 0, #[], rfl, hgb, hgw, Nat.le_refl _, by simp [maxLen], rfl, rfl⟩⟩, fun _ h => absurd h List.not_mem_nil⟩ (Below.refl _ _)
    · have h0 : 0 < es.length := List.length_pos_iff.2 hes
      have hcells : ∀ j u, (es.map Value.string)[j]? = some u → w.cell? (ad.add j) = some u := by
        intro j u hu
        have hj : j < es.length := by
          rcases Nat.lt_or_ge j es.length with h1 | h1
          · exact h1
          · rw [List.getElem?_eq_none (by simpa using h1)] at hu; cases hu
        obtain ⟨g', o', h', _, hc⟩ := hr.at_ (by omega)
        injection h' with h'
        subst h'
        rw [add_at, hc j hj, ← hu]
        simp [hj]
      have key := step_append_grows (P := Tryz.prog) (ops := #[]) (o := o) (a := a) (w := w) (K := K) (Q := Q) (E := True) hgd s x 25 ho 9 i (.string ⟨#[]⟩) 1 16 ht hi hz hsize hby rfl (by omega) (some ⟨g, 0, none⟩) 0 0 [] hs (fun h => by cases h) rfl (fun b _ j u hu => by simp at hu)
        ad es.length c (es.map .string) hx (by simp) hcells (str_one es) (by omega) (by simp [maxLen]; omega) (by omega) (fun v' w' h1 h2 => h v' w' ⟨by
          obtain ⟨h3, h4⟩ := h1
          rw [Nat.zero_add] at h3 h4
          refine ⟨by simp, ?_⟩
          rcases h4 with h4 | ⟨g', cap, cur, e1, e2, e3⟩
          · exact Or.inl h4
          · exact Or.inr ⟨g', cap, cur, e1, Nat.le_trans hbase e2, by simpa using e3⟩, hr.small⟩ ((Below.refl _ _).grown h2 (Nat.le_refl _) (fun k hk => by cases hk)))
      rwa [if_pos hw] at key
set_option maxRecDepth 100000 in
/-- append of one value, as an operation -/
theorem op_append_vals {w : World} {o : Oper} {a : Act} {K : Act → World → Prop} {Q : Exit → Act → World → Prop} (s x : Operand)
    (ho : o.op = .call { callee := .builtin .append, args := #[s, x], argTypes := #[24, 24] })
    (base : Nat) (S : Nat → Prop) (v : Value) (l : List JV) (hs : a.eval s = v) (hown : OwnV w base S v l) (p : Nat) (t : JV) (cs : List Value) (hx : a.eval x = .slice (some ⟨p, 0, none⟩) 1 1) (hcell : ∀ i u, cs[i]? = some u → w.cell? ⟨p, i, none⟩ = some u) (hJ : JIn w S t cs)
    (hl : l.length + 1 ≤ 1000000000) (hbase : base ≤ w.heap.size) (hnot : ∀ k, v.ownBlock = some k → ¬ S k) (hS : ∀ k, S k → k < w.heap.size)
    (h : ∀ v' w', OwnV w' base S v' (l ++ [t]) → w.grownBy w' v.ownBlock → (v'.ownBlock = v.ownBlock ∨ v'.ownBlock = some w.heap.size) → K (a.put o.dst v') w') : Oper.wp Tryz.prog o a w K Q := by
  obtain ⟨v', w', hrun, h2, h3, h4⟩ := run_append_vals (w := w) o.type base S v l hown p t cs hcell hJ hl hbase hnot hS
  unfold Oper.wp execOp
  simp only [ho, resolve, invoke, builtin, Sem.run_bind, Sem.run_pure, Result.andThen_ok, List.map_toArray, List.map_cons, List.map_nil, hs, hx, hrun]
  exact h _ _ h2 h3 h4
end Go.Proofs.YtnkokhpadcgfbaaGreatDoor
namespace Go.Proofs.YtnkokhpadcgfbaaGreatDoor
open Go Go.RowKit Go.Proofs Th
attribute [local go_sem] Above.cell
def newIn (w w' : World) (g : Nat) : Prop := w.heap.size ≤ g ∧ g < w'.heap.size
def VBlkT (w : World) (p : Nat) (cs : List Value) : Prop := w.heap[p]? = some (.cells cs.toArray 27 (0, 0))
def zero6 : List Value := cells6 0 0 0 ⟨#[]⟩ none 0 0 none 0 0
theorem VBlkT.new {w : World} {p : Nat} (cs : List Value) (h : w.heap.size = p) : VBlkT (w.alloc (.cells cs.toArray 27)) p cs := by subst h; exact heap_alloc_new w _
theorem VBlkT.set {W : World} {g i : Nat} {cs : List Value} (h : VBlkT W g cs) (u : Value) : VBlkT (W.setCell ⟨g, i, none⟩ u) g (cs.set i u) := by
  have := heap_setCell_same W g i cs.toArray _ u h
  unfold VBlkT
  rw [this]; simp
theorem VBlkT.other {W : World} {g p : Nat} {cs : List Value} (h : VBlkT W g cs) (hp : p ≠ g) (i : Nat) (u : Value) : VBlkT (W.setCell ⟨p, i, none⟩ u) g cs :=
  (Below.heap_setCell W ⟨p, i, none⟩ u g (Ne.symm hp)).trans h
def six (W : World) (g : Nat) (b0 b1 b2 b3 b4 b5 : Value) : World := (((((W.setCell ⟨g, 0, none⟩ b0).setCell ⟨g, 1, none⟩ b1).setCell ⟨g, 2, none⟩ b2).setCell ⟨g, 3, none⟩ b3).setCell ⟨g, 4, none⟩ b4).setCell ⟨g, 5, none⟩ b5
theorem VBlkT.six {W : World} {g : Nat} {a0 a1 a2 a3 a4 a5 : Value} (h : VBlkT W g [a0, a1, a2, a3, a4, a5]) (b0 b1 b2 b3 b4 b5 : Value) : VBlkT (Go.Proofs.YtnkokhpadcgfbaaGreatDoor.six W g b0 b1 b2 b3 b4 b5) g [b0, b1, b2, b3, b4, b5] :=
  (((((h.set (i := 0) b0).set (i := 1) b1).set (i := 2) b2).set (i := 3) b3).set (i := 4) b4).set (i := 5) b5
theorem six_other (W : World) (g : Nat) (b0 b1 b2 b3 b4 b5 : Value) (p : Nat) (h : p ≠ g) : (six W g b0 b1 b2 b3 b4 b5).heap[p]? = W.heap[p]? := by
  unfold six
  repeat rw [Below.heap_setCell _ _ _ p h]
theorem six_below (W : World) (g : Nat) (b0 b1 b2 b3 b4 b5 : Value) {B : Nat} (h : B ≤ g) : Below B W (six W g b0 b1 b2 b3 b4 b5) := by
  have h0 : Below B W W := Below.refl _ _
  exact (((((h0.setCell (p := ⟨g, 0, none⟩) h b0).setCell (p := ⟨g, 1, none⟩) h b1).setCell (p := ⟨g, 2, none⟩) h b2).setCell (p := ⟨g, 3, none⟩) h b3).setCell (p := ⟨g, 4, none⟩) h b4).setCell (p := ⟨g, 5, none⟩) h b5
theorem VBlkT.box {w : World} {p : Nat} {cs : List Value} (h : VBlkT w p cs) : Box w p cs := by
  refine ⟨fun i v hv => ?_, fun i => ?_, lt_of_block h⟩
  · unfold VBlkT at h; simp [World.cell?, h, hv]
  · unfold VBlkT at h; simp [World.frozen?, h]
theorem kind_ne {W : World} {p q : Nat} {c d : Array Value} {t u : TypeId} {x y : Nat × Nat} (h : W.heap[p]? = some (.cells c t x)) (h2 : W.heap[q]? = some (.cells d u y)) (hn : t ≠ u) : p ≠ q := by
  rintro rfl
  rw [h] at h2
  injection h2 with h2
  injection h2 with _ h3
  exact hn h3
theorem OwnS.kind {w : World} {base : Nat} {v : Value} {ks : List ByteArray} (h : OwnS w base v ks) : ∀ g, v.ownBlock = some g → ∃ cur, w.heap[g]? = some (.cells cur 9 (0, 0)) := by
  intro g hg
  obtain ⟨_, ⟨rfl, _⟩ | ⟨g', cap, cur, rfl, _, h3, _⟩⟩ := h.row
  · cases hg
  · injection hg with hg; subst hg; exact ⟨cur, h3⟩
theorem OwnS.apart {w : World} {base p : Nat} {v : Value} {ks : List ByteArray} {cs : List Value} (h : OwnS w base v ks) (hp : VBlkT w p cs) : ∀ g, v.ownBlock = some g → g ≠ p := fun g hg => by
  obtain ⟨cur, hc⟩ := h.kind g hg
  exact kind_ne hc hp (by decide)
structure CopyS (w W0 wr : World) (g : Nat) (k m e : Int) (s : ByteArray) (l : List JV) (ks : List ByteArray) (A : Option Addr) (c : Nat) (A' : Option Addr) (c' : Nat) (vl v' : Value) (j : Nat) : Prop where
  x : Box wr w.heap.size (cells6 k m e s A l.length c A' ks.length c')
  v : ValsAt wr w.heap.size A c l
  r : VBlkT wr (w.heap.size + 1) zero6
  o : VBlkT wr g [.int .i64 k, .int .i64 m, .int .i64 e, .string s, vl, v']
  kk : OwnS wr W0.heap.size v' ks
  vv : OwnV wr W0.heap.size (fun b => W0.heap.size ≤ b ∧ b < wr.heap.size ∧ b ≠ g ∧ vl.ownBlock ≠ some b) vl (l.take j)
  ng : vl.ownBlock ≠ some g
  gB : W0.heap.size ≤ g
  b : Below W0.heap.size W0 wr
theorem OwnV.kind {w : World} {base : Nat} {S : Nat → Prop} {v : Value} {l : List JV} (h : OwnV w base S v l) : ∀ g, v.ownBlock = some g → ∃ cur, w.heap[g]? = some (.cells cur 27 (0, 0)) := by
  intro g hg
  obtain ⟨xs, h, _⟩ := h.ex
  obtain ⟨_, ⟨rfl, _⟩ | ⟨g', cap, cur, rfl, _, h3, _⟩⟩ := h
  · cases hg
  · injection hg with hg; subst hg; exact ⟨cur, h3⟩
theorem sizeL_at : ∀ (l : List JV) (j : Nat) (h : j < l.length), sizeJ l[j] ≤ sizeL l
  | v :: r, 0, _ => by show sizeJ v ≤ sizeJ v + sizeL r; omega
  | v :: r, j + 1, h => by
    have := sizeL_at r j (by simpa using h)
    show sizeJ (r[j]'(by simpa using h)) ≤ sizeJ v + sizeL r
    omega
theorem keysN_len : ∀ ks : List ByteArray, ks.length ≤ keysN ks
  | [] => Nat.le_refl _
  | k :: r => by
    have := keysN_len r
    rw [List.length_cons]
    show _ ≤ 1 + k.size + keysN r
    omega
theorem sizeJ_pos : ∀ t : JV, 1 ≤ sizeJ t
  | .mk _ _ _ _ _ _ => by simp only [sizeJ]; omega
theorem sizeL_len : ∀ l : List JV, l.length ≤ sizeL l
  | [] => Nat.le_refl _
  | v :: r => by
    have := sizeL_len r
    have := sizeJ_pos v
    rw [List.length_cons]
    show _ ≤ sizeJ v + sizeL r
    omega
set_option maxRecDepth 100000 in
set_option maxHeartbeats 4000000 in
theorem ref3_Copy : ∀ (n : Nat) (t : JV), countJ t ≤ n → sizeJ t ≤ 1000000 → ∀ (w : World) (cs : List Value), JAt w w.heap.size t cs →
    Calls Tryz.prog 9 #[.agg cs.toArray] w fun r w' => ∃ cs', r = .returned (.agg (List.toArray cs')) ∧ JIn w' (newIn w w') t cs' ∧ Below w.heap.size w w' := by
  intro n
  induction n with
  | zero => intro t h; cases t; unfold countJ at h; omega
  | succ n ih =>
    intro t hn hz w cs hJ
    cases t with
    | mk k m e s l ks =>
      obtain ⟨A, c, A', c', rfl, hk, hm, he, hs, hK, hV⟩ := hJ.open
      show Calls _ _ #[.agg #[.int .i64 k, .int .i64 m, .int .i64 e, .string s, .slice A l.length c, .slice A' ks.length c']] w _
      have hcn := countL_get l
      have hcl : countL l ≤ n := by have : 1 + countL l ≤ n + 1 := hn; omega
      have hz2 : 1 + s.size + keysN ks + sizeL l ≤ 1000000 := hz
      have hlc := hV.cap
      have hkc := hK.cap
      have hkn := keysN_len ks
      have hln := sizeL_len l
      clear hJ hn hz
      go_enter Tryz.func9, Tryz.ntmps9
      go_upto_region 1 with fail
      refine wp_world (fun W => Box W w.heap.size (cells6 k m e s A l.length c A' ks.length c') ∧ VBlkT W (w.heap.size + 1) zero6 ∧ W.heap.size = w.heap.size + 2 ∧ ValsAt W w.heap.size A c l ∧ StrsAt W w.heap.size A' c' ks ∧ Below w.heap.size w W)
        ⟨box_new6 .. |>.alloc _, VBlkT.new zero6 (by simp), by simp, hV.below (al2 _ _ _) (Nat.le_refl _), hK.below (al2 _ _ _) (Nat.le_refl _), al2 _ _ _⟩ ?_
      clear hV hK
      rintro W0 ⟨Hx, Hr, hsz, HV, HK, HB⟩
      replace Hx := Keep.mk Hx
      replace Hr := Keep.mk Hr
      replace HV := Keep.mk HV
      replace HK := Keep.mk HK
      replace HB := Keep.mk HB
      have hx2 : w.heap.size < W0.heap.size := by omega
      have hx3 : ∀ wa, Below W0.heap.size W0 wa → w.heap.size < wa.heap.size := fun wa h => Nat.lt_of_lt_of_le hx2 h.size
      refine wp_region_rely 12 (fun _ w' => Below W0.heap.size W0 w') (fun
        | 0 => fun v _ => v = .pointer (some ⟨w.heap.size, 0, none⟩)
        | 1 => fun v _ => v = .int .i64 k
        | 2 => fun v _ => v = .pointer (some ⟨w.heap.size, 1, none⟩)
        | 3 => fun v _ => v = .agg #[.int .i64 m, .int .i64 e]
        | 4 => fun v _ => v = .pointer (some ⟨w.heap.size, 3, none⟩)
        | 5 => fun v _ => v = .string s
        | 6 => fun v w' => ∃ g, v = .slice (some ⟨g, 0, none⟩) 0 0 ∧ W0.heap.size ≤ g ∧ g < w'.heap.size ∧ w'.heap[g]? = some (.cells #[] 9 (0, 0))
        | 7 => fun v _ => v = .pointer (some ⟨w.heap.size, 5, none⟩)
        | 8 => fun v _ => v = .slice A' ks.length c'
        | 9 => fun v w' => OwnS w' W0.heap.size v ks
        | 10 => fun v w' => ∃ v', v = .agg #[.int .i64 k, .int .i64 m, .int .i64 e, .string s, .slice none 0 0, v'] ∧ OwnS w' W0.heap.size v' ks
        | 11 => fun v w' => ∃ g, v = .pointer (some ⟨g, 0, none⟩) ∧ W0.heap.size ≤ g ∧ VBlkT w' g zero6
        | _ => fun _ _ => True) (fun _ w1 w2 => Below w1.heap.size w1 w2) (by kernel_rfl) (by kernel_rfl) (below_drawn W0) ?_ ?_ ?_
      · intro i j v w1 w2 _ hb
        match j with
        | 0 | 1 | 2 | 3 | 4 | 5 | 7 | 8 => exact fun h => h
        | 6 => rintro ⟨g, h1, h2, h3, h4⟩; exact ⟨g, h1, h2, Nat.lt_of_lt_of_le h3 hb.size, (hb.block g h3).trans h4⟩
        | 9 => exact fun h => h.keep fun k hk => hb.block k (h.lt k hk).2
        | 10 => rintro ⟨v', h1, h⟩; exact ⟨v', h1, h.keep fun k hk => hb.block k (h.lt k hk).2⟩
        | 11 => rintro ⟨g, h1, h2, h3⟩; exact ⟨g, h1, h2, (hb.block g (lt_of_block h3)).trans h3⟩
        | _ + 12 => exact fun h => h
      · simp only [List.take, stepHold]
        refine ⟨?_, ?_, ?_, ?_, ?_, ?_, ?_, ?_, ?_, ?_, ?_, ?_, trivial⟩
        · intro _ a wa _ hI hs _
          have e1 : a.eval (.tmp 1) = .pointer (some ⟨w.heap.size, 0, none⟩) := hs 1 (by kernel_rfl)
          exact op_val _ (w' := wa) (by unfold execOp; simp only [e1]; go_simp) ⟨_, rfl, rfl, hI, Below.refl _ _⟩
        · intro _ a wa _ hI _ hd
          have e1 : a.eval (.tmp 5) = .pointer (some ⟨w.heap.size, 0, none⟩) := hd.1
          have hxl := hx3 wa hI
          have c0 := (hI.cell (p := ⟨w.heap.size, 0, none⟩) hx2).trans (Hx.out.cell 0 _ rfl)
          exact op_val _ (w' := wa) (by unfold execOp; simp only [e1]; go_simp) ⟨_, rfl, rfl, hI, Below.refl _ _⟩
        · intro _ a wa _ hI hs _
          have e1 : a.eval (.tmp 1) = .pointer (some ⟨w.heap.size, 0, none⟩) := hs 1 (by kernel_rfl)
          exact op_val _ (w' := wa) (by unfold execOp; simp only [e1]; go_simp) ⟨_, rfl, rfl, hI, Below.refl _ _⟩
        · intro _ a wa _ hI _ hd
          have e1 : a.eval (.tmp 7) = .pointer (some ⟨w.heap.size, 1, none⟩) := hd.1
          have hxl := hx3 wa hI
          have c1 := (hI.cell (p := ⟨w.heap.size, 1, none⟩) hx2).trans (Hx.out.cell 1 _ rfl)
          have c2 := (hI.cell (p := ⟨w.heap.size, 2, none⟩) hx2).trans (Hx.out.cell 2 _ rfl)
          exact op_val _ (w' := wa) (by unfold execOp; simp only [e1]; go_simp) ⟨_, rfl, rfl, hI, Below.refl _ _⟩
        · intro _ a wa _ hI hs _
          have e1 : a.eval (.tmp 1) = .pointer (some ⟨w.heap.size, 0, none⟩) := hs 1 (by kernel_rfl)
          exact op_val _ (w' := wa) (by unfold execOp; simp only [e1]; go_simp) ⟨_, rfl, rfl, hI, Below.refl _ _⟩
        · intro _ a wa _ hI _ hd
          have e1 : a.eval (.tmp 9) = .pointer (some ⟨w.heap.size, 3, none⟩) := hd.1
          have hxl := hx3 wa hI
          have c3 := (hI.cell (p := ⟨w.heap.size, 3, none⟩) hx2).trans (Hx.out.cell 3 _ rfl)
          exact op_val _ (w' := wa) (by unfold execOp; simp only [e1]; go_simp) ⟨_, rfl, rfl, hI, Below.refl _ _⟩
        · intro _ a wa _ hI _ _
          exact op_val _ (w' := wa.alloc (.cells #[] 9)) (by unfold execOp; go_simp) ⟨_, rfl, ⟨wa.heap.size, rfl, hI.size, by simp, heap_alloc_new wa _⟩, up hI (al1 _ _), al1 _ _⟩
        · intro _ a wa _ hI hs _
          have e1 : a.eval (.tmp 1) = .pointer (some ⟨w.heap.size, 0, none⟩) := hs 1 (by kernel_rfl)
          exact op_val _ (w' := wa) (by unfold execOp; simp only [e1]; go_simp) ⟨_, rfl, rfl, hI, Below.refl _ _⟩
        · intro _ a wa _ hI _ hd
          have e1 : a.eval (.tmp 12) = .pointer (some ⟨w.heap.size, 5, none⟩) := hd.1
          have hxl := hx3 wa hI
          have c5 := (hI.cell (p := ⟨w.heap.size, 5, none⟩) hx2).trans (Hx.out.cell 5 _ rfl)
          exact op_val _ (w' := wa) (by unfold execOp; simp only [e1]; go_simp) ⟨_, rfl, rfl, hI, Below.refl _ _⟩
        · intro _ a wa _ hI _ hd
          obtain ⟨g, e1, hg1, hg2, hg3⟩ := hd.1
          have e1 : a.eval (.tmp 11) = .slice (some ⟨g, 0, none⟩) 0 0 := e1
          have e2 : a.eval (.tmp 13) = .slice A' ks.length c' := hd.2.1
          refine op_append_fresh rfl (.tmp 11) (.tmp 13) rfl W0.heap.size g e1 hg3 hg1 hI.size _ A' ks.length c' ks rfl e2 ((HK.out.below hI (by omega)).inn) (by omega) fun v' w' hO hb => ⟨_, rfl, hO, up hI hb, hb⟩
        · intro _ a wa _ hI _ hd
          have e1 : a.eval (.tmp 6) = .int .i64 k := hd.1
          have e2 : a.eval (.tmp 8) = .agg #[.int .i64 m, .int .i64 e] := hd.2.1
          have e3 : a.eval (.tmp 10) = .string s := hd.2.2.1
          have h4 : OwnS wa W0.heap.size (a.eval (.tmp 14)) ks := hd.2.2.2.1
          obtain ⟨B4, d4, h5, _, _⟩ := h4.form
          rw [h5] at h4
          have f1 := get_form e1
          have f2 := get_form e2
          have f3 := get_form e3
          have f4 := get_form h5
          exact op_val _ (w' := wa) (by unfold execOp; go_simp) ⟨_, rfl, ⟨_, rfl, h4⟩, hI, Below.refl _ _⟩
        · intro _ a wa _ hI _ _
          exact op_val _ (w' := wa.alloc (.cells zero6.toArray 27)) (by unfold execOp; go_simp; rfl) ⟨_, rfl, ⟨wa.heap.size, rfl, hI.size, heap_alloc_new wa _⟩, up hI (al1 _ _), al1 _ _⟩
      · intro vs _ W1 _ hI hall
        simp only [List.take, allHold, gives] at hall
        obtain ⟨h0, h1, h2, h3, h4, h5, h6, h7, h8, h9, h10, h11, _⟩ := hall
        simp only [List.take, List.drop, putL]
        generalize vs 0 = v0 at *
        generalize vs 1 = v1 at *
        generalize vs 2 = v2 at *
        generalize vs 3 = v3 at *
        generalize vs 4 = v4 at *
        generalize vs 5 = v5 at *
        generalize vs 6 = v6 at *
        generalize vs 7 = v7 at *
        generalize vs 8 = v8 at *
        generalize vs 9 = v9 at *
        generalize vs 10 = v10 at *
        generalize vs 11 = v11 at *
        obtain ⟨g6, rfl, _⟩ := h6
        obtain ⟨g, rfl, hgB, HO⟩ := h11
        obtain ⟨v', rfl, HKO⟩ := h10
        obtain ⟨B9, d9, rfl, _, _⟩ := HKO.form
        subst h0 h1 h2 h3 h4 h5 h7 h8
        clear h9
        have hgl := lt_of_block HO
        have HBX := Keep.mk HO.box
        have y0 := HBX.out.cell 0 _ rfl
        have y1 := HBX.out.cell 1 _ rfl
        have y2 := HBX.out.cell 2 _ rfl
        have y3 := HBX.out.cell 3 _ rfl
        have y4 := HBX.out.cell 4 _ rfl
        have y5 := HBX.out.cell 5 _ rfl
        have z0 := HBX.out.froz 0
        have z1 := HBX.out.froz 1
        have z2 := HBX.out.froz 2
        have z3 := HBX.out.froz 3
        have z4 := HBX.out.froz 4
        have z5 := HBX.out.froz 5
        have HC := Keep.mk (show CopyS w W0 (six W1 g (.int .i64 k) (.int .i64 m) (.int .i64 e) (.string s) (.slice none 0 0) (.slice B9 ks.length d9)) g k m e s l ks A c A' c' (.slice none 0 0) (.slice B9 ks.length d9) 0 from
          ⟨(Hx.out.below hI (by omega)).below (six_below W1 g _ _ _ _ _ _ hgB) (by omega), (HV.out.below hI (by omega)).below (six_below W1 g _ _ _ _ _ _ hgB) (by omega),
           (six_other W1 g _ _ _ _ _ _ _ (by omega)).trans ((hI.block _ (by omega)).trans Hr.out), VBlkT.six HO _ _ _ _ _ _, HKO.keep (fun b hb => six_other W1 g _ _ _ _ _ _ b (HKO.apart HO b hb)), OwnV.nil _ _ _, (by intro h; cases h), hgB, hI.trans (six_below W1 g _ _ _ _ _ _ hgB)⟩)
        clear HKO HO hI
        go_wp2_with fail
        refine wp_world (fun W => CopyS w W0 W g k m e s l ks A c A' c' (.slice none 0 0) (.slice B9 ks.length d9) 0) HC.out ?_
        clear HC HBX y0 y1 y2 y3 y4 y5 z0 z1 z2 z3 z4 z5 hgl
        rintro W2 HC
        replace HC := Keep.mk HC
        go_wp2_with fail
        go_loopg [4] l.length (fun gk i wr => ∃ (j : Nat) (vl : Value), j + gk = l.length ∧ i = .int .i64 j ∧ Keep (CopyS w W0 wr g k m e s l ks A c A' c' vl (.slice B9 ks.length d9) j))
        case atStart => exact ⟨0, _, by omega, rfl, HC⟩
        case round =>
          clear HC
          obtain ⟨j, vl, hj, rfl, HC⟩ := hrel
          have hx4 := HC.out.x.cell 4 _ rfl
          have hxl := HC.out.x.lt
          have hbs := HC.out.b.size
          by_cases hlt : j < l.length
          · have hgk : gk ≠ 0 := by omega
            have hcj := hcn j hlt
            have hsj := sizeL_at l j hlt
            obtain ⟨ge, oe, k1, m1, e1, s1, A1, n1, c1, A2, n2, c2, rfl, hge, hJe, y0, y1, y2, y3, y4, y5⟩ := HC.out.v.elem j hlt
            have HIH := Keep.mk (fun (W : World) (h : Below w.heap.size wr W) (hs : wr.heap.size ≤ W.heap.size) => ih l[j] (by omega) (by omega) W _ ((hJe.keep h (Nat.le_refl _)).more (by omega)))
            clear hJe
            have hrow : ∀ b, vl.ownBlock = some b → W0.heap.size ≤ b ∧ b < wr.heap.size := HC.out.vv.lt
            have hgr := lt_of_block HC.out.o
            have hmv : ∀ W, wr.grownBy W vl.ownBlock → Below W0.heap.size wr W := fun W h => (Below.refl _ _).grown h hbs (fun b hb => (hrow b hb).1)
            have hkeepg : ∀ W, wr.grownBy W vl.ownBlock → W.heap[g]? = wr.heap[g]? := fun W h => h.block g hgr (fun e => HC.out.ng e.symm)
            have hg5 : (g : Nat) = g := rfl
            have hoc : ∀ W, wr.grownBy W vl.ownBlock → VBlkT W g [.int .i64 k, .int .i64 m, .int .i64 e, .string s, vl, .slice B9 ks.length d9] := fun W h => (hkeepg W h).trans HC.out.o
            go_upto_region 5 with fail
            refine wp_region_rely 11 (fun L w' => wr.grownBy w' vl.ownBlock ∧ (L 9 = false → Below wr.heap.size wr w')) (fun
              | 0 => fun v _ => v = .pointer (some ⟨g, 4, none⟩)
              | 1 => fun v _ => v = vl
              | 2 => fun v _ => v = .pointer (some ⟨w.heap.size, 4, none⟩)
              | 3 => fun v _ => v = .slice (some ⟨ge, oe, none⟩) l.length c
              | 4 => fun v _ => v = .int .i64 j
              | 5 => fun v _ => v = .pointer (some ⟨ge, oe + j * 6, none⟩)
              | 6 => fun v _ => v = .agg #[.int .i64 k1, .int .i64 m1, .int .i64 e1, .string s1, .slice A1 n1 c1, .slice A2 n2 c2]
              | 7 => fun v w' => ∃ cs', v = .agg (List.toArray cs') ∧ JIn w' (newIn wr w') l[j] cs'
              | 8 => fun v w' => ∃ p cs', v = .slice (some ⟨p, 0, none⟩) 1 1 ∧ wr.heap.size ≤ p ∧ VBlkT w' p cs' ∧ JIn w' (newIn wr w') l[j] cs'
              | 9 => fun v w' => OwnV w' W0.heap.size (fun b => W0.heap.size ≤ b ∧ b < w'.heap.size ∧ b ≠ g ∧ v.ownBlock ≠ some b) v (l.take (j + 1)) ∧ v.ownBlock ≠ some g
              | 10 => fun v _ => v = .pointer (some ⟨g, 4, none⟩)
              | _ => fun _ _ => True) (fun | 9 => fun w1 w2 => w1.grownBy w2 vl.ownBlock | _ => fun w1 w2 => Below w1.heap.size w1 w2) (by kernel_rfl) (by kernel_rfl)
              ⟨⟨rfl, rfl, rfl, Nat.le_refl _, fun _ _ _ => rfl⟩, fun _ => below_drawn wr⟩ ?_ ?_ ?_
            · intro i j v w1 w2 hij hG
              have hst : (∀ b, b < w1.heap.size → vl.ownBlock ≠ some b → w2.heap[b]? = w1.heap[b]?) ∧ w1.heap.size ≤ w2.heap.size := by
                by_cases h9 : i = 9
                · subst h9
                  exact ⟨fun b hb hn => hG.block b hb (fun e => hn e.symm), hG.size⟩
                · have hG : Below w1.heap.size w1 w2 := by
                    match i, h9 with
                    | 0, _ | 1, _ | 2, _ | 3, _ | 4, _ | 5, _ | 6, _ | 7, _ | 8, _ => exact hG
                    | 9, h => exact absurd rfl h
                    | _ + 10, _ => exact hG
                  exact ⟨fun b hb _ => hG.block b hb, hG.size⟩
              have hvr : ∀ b, wr.heap.size ≤ b → vl.ownBlock ≠ some b := fun b hb e => by have := (hrow b e).2; omega
              match j with
              | 0 | 1 | 2 | 3 | 4 | 5 | 6 | 10 => exact fun h => h
              | 7 => rintro ⟨cs', h1, h2⟩; exact ⟨cs', h1, h2.keep (fun b hb => hst.1 b hb.2 (hvr b hb.1)) (fun b hb => ⟨hb.1, Nat.lt_of_lt_of_le hb.2 hst.2⟩)⟩
              | 8 => rintro ⟨p, cs', h1, h2, h3, h4⟩; exact ⟨p, cs', h1, h2, (hst.1 p (lt_of_block h3) (hvr p h2)).trans h3, h4.keep (fun b hb => hst.1 b hb.2 (hvr b hb.1)) (fun b hb => ⟨hb.1, Nat.lt_of_lt_of_le hb.2 hst.2⟩)⟩
              | 9 =>
                have hG : Below w1.heap.size w1 w2 := by
                  match i, hij with
                  | 0, _ | 1, _ | 2, _ | 3, _ | 4, _ | 5, _ | 6, _ | 7, _ | 8, _ => exact hG
                  | 9, h => exact absurd rfl h
                  | _ + 10, _ => exact hG
                rintro ⟨h1, h2⟩
                exact ⟨h1.keep (fun b hb => hG.block b hb.2.1) (fun b hb => hG.block b (h1.lt b hb).2) (fun b hb => ⟨hb.1, Nat.lt_of_lt_of_le hb.2.1 hG.size, hb.2.2⟩), h2⟩
              | _ + 11 => exact fun h => h
            · simp only [List.take, stepHold]
              refine ⟨?_, ?_, ?_, ?_, ?_, ?_, ?_, ?_, ?_, ?_, ?_, trivial⟩
              · intro L a wa _ hI hs _
                have e1 : a.eval (.tmp 3) = .pointer (some ⟨g, 0, none⟩) := hs 3 (by kernel_rfl)
                exact op_val _ (w' := wa) (by unfold execOp; simp only [e1]; go_simp) ⟨_, rfl, rfl, ⟨hI.1, fun h => hI.2 (by simpa using h)⟩, Below.refl _ _⟩
              · intro L a wa _ hI _ hd
                have e1 : a.eval (.tmp 23) = .pointer (some ⟨g, 4, none⟩) := hd.1
                have hga := lt_of_block (hoc wa hI.1)
                have c0 := (hoc wa hI.1).box.cell 4 _ rfl
                obtain ⟨Bv, dv, hvf, _, _⟩ := HC.out.vv.form
                rw [hvf] at c0
                exact op_val vl (w' := wa) (by rw [hvf]; unfold execOp; simp only [e1]; go_simp) ⟨_, rfl, rfl, ⟨hI.1, fun h => hI.2 (by simpa using h)⟩, Below.refl _ _⟩
              · intro L a wa _ hI hs _
                have e1 : a.eval (.tmp 1) = .pointer (some ⟨w.heap.size, 0, none⟩) := hs 1 (by kernel_rfl)
                exact op_val _ (w' := wa) (by unfold execOp; simp only [e1]; go_simp) ⟨_, rfl, rfl, ⟨hI.1, fun h => hI.2 (by simpa using h)⟩, Below.refl _ _⟩
              · intro L a wa _ hI _ hd
                have e1 : a.eval (.tmp 25) = .pointer (some ⟨w.heap.size, 4, none⟩) := hd.1
                have c0 := ((hmv wa hI.1).cell (p := ⟨w.heap.size, 4, none⟩) hx2).trans hx4
                have hxw : w.heap.size < wa.heap.size := by have := hI.1.size; omega
                exact op_val _ (w' := wa) (by unfold execOp; simp only [e1]; go_simp) ⟨_, rfl, rfl, ⟨hI.1, fun h => hI.2 (by simpa using h)⟩, Below.refl _ _⟩
              · intro L a wa _ hI hs _
                have e1 : a.eval (.tmp 4) = .int .i64 j := hs 4 (by kernel_rfl)
                exact op_val _ (w' := wa) (by unfold execOp; simp only [e1]; go_simp) ⟨_, rfl, rfl, ⟨hI.1, fun h => hI.2 (by simpa using h)⟩, Below.refl _ _⟩
              · intro L a wa _ hI _ hd
                have e1 : a.eval (.tmp 26) = .slice (some ⟨ge, oe, none⟩) l.length c := hd.1
                have e2 : a.eval (.tmp 27) = .int .i64 j := hd.2.1
                exact op_val _ (w' := wa) (by unfold execOp; simp only [e1, e2]; go_simp) ⟨_, rfl, rfl, ⟨hI.1, fun h => hI.2 (by simpa using h)⟩, Below.refl _ _⟩
              · intro L a wa _ hI _ hd
                have e1 : a.eval (.tmp 28) = .pointer (some ⟨ge, oe + j * 6, none⟩) := hd.1
                have hgw : ge < W0.heap.size := by omega
                have hga : ge < wa.heap.size := by have := hI.1.size; omega
                have t0 := ((hmv wa hI.1).cell (p := ⟨ge, oe + j * 6, none⟩) hgw).trans y0
                have t1 := ((hmv wa hI.1).cell (p := ⟨ge, oe + j * 6 + 1, none⟩) hgw).trans y1
                have t2 := ((hmv wa hI.1).cell (p := ⟨ge, oe + j * 6 + 2, none⟩) hgw).trans y2
                have t3 := ((hmv wa hI.1).cell (p := ⟨ge, oe + j * 6 + 3, none⟩) hgw).trans y3
                have t4 := ((hmv wa hI.1).cell (p := ⟨ge, oe + j * 6 + 4, none⟩) hgw).trans y4
                have t5 := ((hmv wa hI.1).cell (p := ⟨ge, oe + j * 6 + 5, none⟩) hgw).trans y5
                exact op_val _ (w' := wa) (by unfold execOp; simp only [e1]; go_simp) ⟨_, rfl, rfl, ⟨hI.1, fun h => hI.2 (by simpa using h)⟩, Below.refl _ _⟩
              · intro L a wa _ hI _ hd
                have q1 : a.eval (.tmp 29) = .agg #[.int .i64 k1, .int .i64 m1, .int .i64 e1, .string s1, .slice A1 n1 c1, .slice A2 n2 c2] := hd.1
                have f1 := get_form q1
                refine op_call 9 #[.agg #[.int .i64 k1, .int .i64 m1, .int .i64 e1, .string s1, .slice A1 n1 c1, .slice A2 n2 c2]] (by unfold execOp; go_simp) ((HIH.out wa ((hmv wa hI.1).mono (by omega)) hI.1.size).mono ?_)
                rintro r w1 ⟨cs', rfl, hJ1, hb1⟩
                refine ⟨_, rfl, _, rfl, ⟨cs', rfl, hJ1.more (fun b hb => ⟨Nat.le_trans hI.1.size hb.1, hb.2⟩)⟩, ⟨⟨hb1.os.trans hI.1.os, hb1.tape.trans hI.1.tape, hb1.output.trans hI.1.output, Nat.le_trans hI.1.size hb1.size, fun b hb hn => (hb1.block b (Nat.lt_of_lt_of_le hb hI.1.size)).trans (hI.1.block b hb hn)⟩, fun h => up (hI.2 (by simpa using h)) hb1⟩, hb1⟩
              · intro L a wa _ hI _ hd
                obtain ⟨cs', e1, hJ1⟩ := hd.1
                have e1 : a.eval (.tmp 30) = .agg (List.toArray cs') := e1
                obtain ⟨k9, m9, e9, s9, A9, n9, c9, A8, n8, c8, rfl⟩ := hJ1.cells
                have f1 := get_form e1
                refine op_val _ (w' := wa.alloc (.cells (cells6 k9 m9 e9 s9 A9 n9 c9 A8 n8 c8).toArray 27)) (by unfold execOp; simp only [cells6] at f1; go_simp; rfl) ⟨_, rfl, ⟨wa.heap.size, _, rfl, hI.1.size, VBlkT.new _ rfl, hJ1.keep (fun b hb => (al1 wa _).block b hb.2) (fun b hb => ⟨hb.1, Nat.lt_of_lt_of_le hb.2 (al1 wa _).size⟩)⟩, ⟨⟨hI.1.os, hI.1.tape, hI.1.output, Nat.le_trans hI.1.size (al1 wa _).size, fun b hb hn => ((al1 wa _).block b (Nat.lt_of_lt_of_le hb hI.1.size)).trans (hI.1.block b hb hn)⟩, fun h => up (hI.2 (by simpa using h)) (al1 _ _)⟩, al1 _ _⟩
              · intro L a wa hL hI _ hd
                have e1 : a.eval (.tmp 24) = vl := hd.1
                obtain ⟨p, cs', e2, hp, hpb, hJ1⟩ := hd.2.1
                have e2 : a.eval (.tmp 31) = .slice (some ⟨p, 0, none⟩) 1 1 := e2
                have hB := hI.2 hL
                have hov : OwnV wa W0.heap.size (fun b => W0.heap.size ≤ b ∧ b < wa.heap.size ∧ b ≠ g ∧ vl.ownBlock ≠ some b) vl (l.take j) :=
                  HC.out.vv.keep (fun b hb => hB.block b hb.2.1) (fun b hb => hB.block b (hrow b hb).2) (fun b hb => ⟨hb.1, Nat.lt_of_lt_of_le hb.2.1 hB.size, hb.2.2⟩)
                have hJ2 : JIn wa (fun b => W0.heap.size ≤ b ∧ b < wa.heap.size ∧ b ≠ g ∧ vl.ownBlock ≠ some b) l[j] cs' :=
                  hJ1.more (fun b hb => ⟨Nat.le_trans hbs hb.1, hb.2, (by have := hb.1; omega), fun e => by have := (hrow b e).2; have := hb.1; omega⟩)
                refine op_append_vals (.tmp 24) (.tmp 31) rfl W0.heap.size _ vl (l.take j) e1 hov p l[j] cs' e2 (fun i u hu => hpb.box.cell i u hu) hJ2 (by rw [List.length_take]; omega) (Nat.le_trans hbs hB.size) (fun b hb h => h.2.2.2 hb) (fun b h => h.2.1) fun v2 w2 h1 h2 h3 => ⟨_, rfl, ⟨?_, ?_⟩, ⟨⟨h2.os.trans hI.1.os, h2.tape.trans hI.1.tape, h2.output.trans hI.1.output, Nat.le_trans hI.1.size h2.size, fun b hb hn => (h2.block b (Nat.lt_of_lt_of_le hb hI.1.size) hn).trans (hI.1.block b hb hn)⟩, fun h => by simp at h⟩, h2⟩
                · rw [← List.take_succ_eq_append_getElem hlt] at h1
                  exact h1.keep (fun _ _ => rfl) (fun _ _ => rfl) (fun b hb => ⟨hb.1, Nat.lt_of_lt_of_le hb.2.1 h2.size, hb.2.2.1, fun e => by
                    have e : v2.ownBlock = some b := e
                    rcases h3 with h3 | h3
                    · exact hb.2.2.2 (h3.symm.trans e)
                    · have h4 := h3.symm.trans e
                      injection h4 with h4
                      have := hb.2.1
                      omega⟩)
                · rcases h3 with h3 | h3
                  · show v2.ownBlock ≠ some g
                    rw [h3]; exact HC.out.ng
                  · show v2.ownBlock ≠ some g
                    rw [h3]; intro e; injection e with e; have := hI.1.size; omega
              · intro L a wa _ hI hs _
                have e1 : a.eval (.tmp 3) = .pointer (some ⟨g, 0, none⟩) := hs 3 (by kernel_rfl)
                exact op_val _ (w' := wa) (by unfold execOp; simp only [e1]; go_simp) ⟨_, rfl, rfl, ⟨hI.1, fun h => hI.2 (by simpa using h)⟩, Below.refl _ _⟩
            · intro vs L W1 _ hI hall
              simp only [List.take, allHold, gives] at hall
              obtain ⟨h0, h1, h2, h3, h4, h5, h6, h7, h8, h9, h10, _⟩ := hall
              simp only [List.take, List.drop, putL]
              generalize vs 0 = v0 at *
              generalize vs 1 = v1 at *
              generalize vs 2 = v2 at *
              generalize vs 3 = v3 at *
              generalize vs 4 = v4 at *
              generalize vs 5 = v5 at *
              generalize vs 6 = v6 at *
              generalize vs 7 = v7 at *
              generalize vs 8 = v8 at *
              generalize vs 9 = v9 at *
              generalize vs 10 = v10 at *
              obtain ⟨cs7, rfl, _⟩ := h7
              obtain ⟨p8, cs8, rfl, _⟩ := h8
              obtain ⟨hV9, hng9⟩ := h9
              subst v0 v1 v2 v3 v4 v5 v6 v10
              obtain ⟨B2, d2, e9, _, _⟩ := hV9.form
              rw [show (l.take (j + 1)).length = j + 1 by rw [List.length_take]; omega] at e9
              subst e9
              have hB := hmv W1 hI.1
              have HO := hoc W1 hI.1
              have hkb : ∀ b, (Value.slice B9 ks.length d9).ownBlock = some b → W1.heap[b]? = wr.heap[b]? := fun b hb => hI.1.block b (HC.out.kk.lt b hb).2 (fun e => by
                obtain ⟨c1, hc1⟩ := HC.out.kk.kind b hb
                obtain ⟨c2, hc2⟩ := HC.out.vv.kind b e.symm
                exact kind_ne hc1 hc2 (by decide) rfl)
              have HC2 := Keep.mk (show CopyS w W0 (W1.setCell ⟨g, 4, none⟩ (.slice B2 (j + 1) d2)) g k m e s l ks (some ⟨ge, oe, none⟩) c A' c' (.slice B2 (j + 1) d2) (.slice B9 ks.length d9) (j + 1) from
                ⟨(HC.out.x.below hB hx2).other (show g ≠ w.heap.size by omega) _, (HC.out.v.below hB (by omega)).below (below_set hgB _) (by omega), VBlkT.other ((hB.block _ (by omega)).trans HC.out.r) (by omega) _ _, HO.set (i := 4) _,
                 (HC.out.kk.keep hkb).keep (fun b hb => Below.heap_setCell _ _ _ b (HC.out.kk.apart HC.out.o b hb)),
                 hV9.keep (fun b hb => Below.heap_setCell _ _ _ b hb.2.2.1) (fun b hb => Below.heap_setCell _ _ _ b (fun e => hng9 (by rw [hb, e]))) (fun b hb => by simpa using hb),
                 hng9, hgB, (HC.out.b.trans hB).trans (below_set hgB _)⟩)
              have hgl := lt_of_block HO
              have y4' := HO.box.cell 4 _ rfl
              have z4' := HO.box.froz 4
              clear hI HO hB hV9 hoc hmv hkeepg hkb hng9 hrow HIH y0 y1 y2 y3 y4 y5 HC hx4
              go_wp2
              go_roundg (gk - 1)
              case rel => exact ⟨j + 1, _, by omega, by go_num, HC2⟩
              case measure => omega
          · obtain rfl : j = l.length := by omega
            have hvv := HC.out.vv
            rw [List.take_length] at hvv
            obtain ⟨Bv, dv, rfl, _, _⟩ := hvv.form
            have hob := HC.out.o.box
            have y0 := hob.cell 0 _ rfl
            have y1 := hob.cell 1 _ rfl
            have y2 := hob.cell 2 _ rfl
            have y3 := hob.cell 3 _ rfl
            have y4 := hob.cell 4 _ rfl
            have y5 := hob.cell 5 _ rfl
            have hrb := HC.out.r.box
            have r0 := hrb.cell 0 _ rfl
            have r1 := hrb.cell 1 _ rfl
            have r2 := hrb.cell 2 _ rfl
            have r3 := hrb.cell 3 _ rfl
            have r4 := hrb.cell 4 _ rfl
            have r5 := hrb.cell 5 _ rfl
            have z0 := hrb.froz 0
            have z1 := hrb.froz 1
            have z2 := hrb.froz 2
            have z3 := hrb.froz 3
            have z4 := hrb.froz 4
            have z5 := hrb.froz 5
            have hgl := hob.lt
            have hrl := hrb.lt
            have hgn : g ≠ w.heap.size + 1 := by omega
            have HJ := Keep.mk (show JIn (six wr (w.heap.size + 1) (.int .i64 k) (.int .i64 m) (.int .i64 e) (.string s) (.slice Bv l.length dv) (.slice B9 ks.length d9)) (newIn w (six wr (w.heap.size + 1) (.int .i64 k) (.int .i64 m) (.int .i64 e) (.string s) (.slice Bv l.length dv) (.slice B9 ks.length d9))) (.mk k m e s l ks) (cells6 k m e s Bv l.length dv B9 ks.length d9) from by
              have hsz2 : (six wr (w.heap.size + 1) (.int .i64 k) (.int .i64 m) (.int .i64 e) (.string s) (.slice Bv l.length dv) (.slice B9 ks.length d9)).heap.size = wr.heap.size := by simp [six]
              refine JIn.shut hk hm he hs ?_ ?_
              · refine ((HC.out.kk.keep (fun b hb => six_other wr _ _ _ _ _ _ _ b (by have := (HC.out.kk.lt b hb).1; omega))).strs (by omega) (T := newIn w _) (fun b hb => ?_)).2
                have := HC.out.kk.lt b hb
                exact ⟨by omega, by rw [hsz2]; omega⟩
              · refine ((hvv.keep (T := newIn w _) (fun b hb => six_other wr _ _ _ _ _ _ _ b (by have := hb.1; omega)) (fun b hb => six_other wr _ _ _ _ _ _ _ b (by have := (hvv.lt b hb).1; omega)) (fun b hb => ⟨by have := hb.1; omega, by rw [hsz2]; exact hb.2.1⟩)).vals (by omega) (fun _ h => h) (fun b hb => ?_)).2
                have := hvv.lt b hb
                exact ⟨by omega, by rw [hsz2]; omega⟩)
            have HB2 := Keep.mk (show Below w.heap.size w (six wr (w.heap.size + 1) (.int .i64 k) (.int .i64 m) (.int .i64 e) (.string s) (.slice Bv l.length dv) (.slice B9 ks.length d9)) from
              (HB.out.trans (HC.out.b.mono (by omega))).trans (six_below wr _ _ _ _ _ _ _ (by omega)))
            clear hob hrb hvv HC
            go_wp2
            refine bodyPost_ret (v := .agg #[.int .i64 k, .int .i64 m, .int .i64 e, .string s, .slice Bv l.length dv, .slice B9 ks.length d9]) ?_ rfl ⟨_, rfl, HJ.out, HB2.out⟩
            simp [results, Tryz.results9, go_sem, r0, r1, r2, r3, r4, r5]
end Go.Proofs.YtnkokhpadcgfbaaGreatDoor
