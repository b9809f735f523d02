/- Lemmas and contracts for the laws ReadParses, ReadBytes, part 15 of 50: Slice, Read6Math. Conditions: those that each lemma names. -/
import Derived.Test.YtbngjlkmpdccjaaGreatDoorPack11
import Derived.Test.YtbngjlkmpdccjaaGreatDoorPack12
import Derived.Maps.AppendAt
import Derived.Deep.AppendLies
import Derived.OwnWalk
namespace Go.Proofs.YtbngjlkmpdccjaaGreatDoor
open Go Go.RowKit Go.Proofs Th
structure Box (w : World) (g : Nat) (cs : List Value) : Prop where
  cell : ∀ i v, cs[i]? = some v → w.cell? ⟨g, i, none⟩ = some v
  froz : ∀ i, w.frozen? ⟨g, i, none⟩ = false
  lt : g < w.heap.size
theorem Box.below {w w' : World} {g B : Nat} {cs : List Value} (h : Box w g cs) (hb : Below B w w') (hg : g < B) : Box w' g cs :=
  ⟨fun i v hv => (hb.cell (p := ⟨g, i, none⟩) hg).trans (h.cell i v hv), fun i => (hb.frozen (p := ⟨g, i, none⟩) hg).trans (h.froz i), Nat.lt_of_lt_of_le h.lt hb.size⟩
theorem Box.alloc {w : World} {g : Nat} {cs : List Value} (h : Box w g cs) (o : Obj) : Box (w.alloc o) g cs := h.below ((Below.refl _ _).alloc (Nat.le_refl _) _) h.lt
theorem Box.new {w : World} {n : Nat} (cs : List Value) (t : TypeId) (h : w.heap.size = n) : Box (w.alloc (.cells cs.toArray t)) n cs := by
  subst h
  refine ⟨fun i v hv => ?_, fun i => ?_, by simp⟩
  · simp [go_sem, hv]
  · simp [go_sem]
theorem Box.other {w : World} {g m o : Nat} {cs : List Value} (h : Box w g cs) (hm : m ≠ g) (v : Value) : Box (w.setCell ⟨m, o, none⟩ v) g cs := by
  refine ⟨fun i u hu => ?_, fun i => ?_, by simpa using h.lt⟩
  · rw [World.cell?_setCell_other _ _ _ _ (by intro e; injection e; omega)]; exact h.cell i u hu
  · rw [World.frozen?_setCell]; exact h.froz i
theorem Box.set {w : World} {g i : Nat} {cs : List Value} (h : Box w g cs) (hi : i < cs.length) (v : Value) : Box (w.setCell ⟨g, i, none⟩ v) g (cs.set i v) := by
  refine ⟨fun j u hu => ?_, fun j => ?_, by simpa using h.lt⟩
  · by_cases e : i = j
    · subst e
      have hu' : v = u := by simpa [hi] using hu
      subst hu'
      have := h.cell i _ (List.getElem?_eq_getElem hi)
      exact World.cell?_setCell_same _ _ _ this
    · rw [World.cell?_setCell_other _ _ _ _ (by intro e'; injection e' with e1 e2; exact e e2)]
      exact h.cell j u (by rwa [List.getElem?_set_ne e] at hu)
  · rw [World.frozen?_setCell]; exact h.froz j
theorem below_set {w : World} {B g o : Nat} (hg : B ≤ g) (v : Value) : Below B w (w.setCell ⟨g, o, none⟩ v) := by
  have h : Below B w w := Below.refl _ _
  exact h.setCell (p := ⟨g, o, none⟩) hg v
theorem IntsAt.set {w : World} {B c : Nat} {A : Option Addr} {ds : List Nat} (h : IntsAt w B A c ds) {g o : Nat} (hg : B ≤ g) (v : Value) : IntsAt (w.setCell ⟨g, o, none⟩ v) B A c ds :=
  h.below (below_set hg v) (Nat.le_refl _)
def longV (neg : Bool) (A : Option Addr) (c : Nat) (ds : List Nat) (e : Int) : Value := .agg #[.bool neg, .slice A ds.length c, .int .i64 e]
theorem add_at (g o j : Nat) : (⟨g, o, none⟩ : Addr).add j = ⟨g, o + j, none⟩ := by
  unfold Addr.add
  split
  · rename_i h; subst h; rfl
  · rfl
def iv (d : Nat) : Value := .int .i64 (d : Int)
theorem iv_one (ds : List Nat) : ∀ u ∈ ds.map iv, u.oneCell' = true := by
  intro u hu
  obtain ⟨d, _, rfl⟩ := List.mem_map.1 hu
  rfl
def OwnInts (w : World) (base : Nat) (v : Value) (ds : List Nat) : Prop := w.ownsRow base 3 1 v ds.length (ds.map iv)
theorem OwnInts.nil (w : World) (base : Nat) : OwnInts w base (.slice none 0 0) [] := World.ownsRow_nil w base _ 1
theorem OwnInts.ints {w : World} {base : Nat} {v : Value} {ds : List Nat} (h : OwnInts w base v ds) : ∃ A c, v = .slice A ds.length c ∧ IntsAt w w.heap.size A c ds := by
  have h' := h
  obtain ⟨_, ⟨rfl, h0⟩ | ⟨g, cap, cur, rfl, hb, hh, hn, hm, hs, ht⟩⟩ := h
  · have : ds = [] := List.eq_nil_of_length_eq_zero h0
    subst this
    exact ⟨none, 0, rfl, Nat.le_refl _, by simp [maxLen], fun hp => absurd hp (by simp)⟩
  · have hlt : g < w.heap.size := by
      rcases Nat.lt_or_ge g w.heap.size with h1 | h1
      · exact h1
      · rw [Array.getElem?_eq_none h1] at hh; cases hh
    refine ⟨some ⟨g, 0, none⟩, cap, rfl, hn, hm, fun _ => ⟨g, 0, rfl, hlt, fun j hj => ?_⟩⟩
    have := World.ownsRow.cells h' (g := g) rfl j (iv ds[j]) (by simp [hj])
    rw [add_at] at this
    exact this
theorem OwnInts.read {w : World} {base n c : Nat} {A : Option Addr} {ds : List Nat} (h : OwnInts w base (.slice A n c) ds) : IntsAt w w.heap.size A c ds := by
  obtain ⟨A', c', e, hI⟩ := h.ints
  injection e with e1 e2 e3
  subst e1 e3
  exact hI
theorem OwnInts.alloc {w : World} {base : Nat} {v : Value} {ds : List Nat} (h : OwnInts w base v ds) (o : Obj) : OwnInts (w.alloc o) base v ds := World.ownsRow.alloc h o
theorem OwnInts.set {w : World} {base g o : Nat} {v : Value} {ds : List Nat} (h : OwnInts w base v ds) (hg : g < base) (x : Value) : OwnInts (w.setCell ⟨g, o, none⟩ x) base v ds :=
  World.ownsRow.kept (row := some g) h ⟨rfl, rfl, rfl, by simp, fun k _ hk => Below.heap_setCell w ⟨g, o, none⟩ x k (fun e => hk (by rw [e]))⟩ (by
    cases hv : v.ownBlock with
    | none => exact Or.inl rfl
    | some k => right; intro e; injection e with e; subst e; have := (World.ownsRow.lt h _ hv).1; omega)
theorem OwnInts.below {w w' : World} {base B : Nat} {v : Value} {ds : List Nat} (h : OwnInts w base v ds) (hb : Below B w w') (hB : w.heap.size ≤ B) : OwnInts w' base v ds := by
  obtain ⟨h1, h2⟩ := h
  refine ⟨h1, ?_⟩
  rcases h2 with h2 | ⟨g, cap, cur, h3, h4, h5, h6⟩
  · exact Or.inl h2
  · have hlt : g < w.heap.size := by
      rcases Nat.lt_or_ge g w.heap.size with h1 | h1
      · exact h1
      · rw [Array.getElem?_eq_none h1] at h5; cases h5
    exact Or.inr ⟨g, cap, cur, h3, h4, (hb.block g (by omega)).trans h5, h6⟩
theorem OwnInts.one {w : World} {n base : Nat} (d : Nat) (h : w.heap.size = n) (hb : base ≤ n) : OwnInts (w.alloc (.cells #[.int .i64 d] 3)) base (.slice (some ⟨n, 0, none⟩) 1 1) [d] := by
  subst h
  exact ⟨rfl, Or.inr ⟨w.heap.size, 1, _, rfl, hb, heap_alloc_new w _, Nat.le_refl _, by simp [maxLen], rfl, rfl⟩⟩
theorem IntsAt.one {w : World} {n : Nat} (d : Int) (k : Nat) (hd : d = k) (h : w.heap.size = n) : IntsAt (w.alloc (.cells #[.int .i64 d] 3)) (n + 1) (some ⟨n, 0, none⟩) 1 [k] := by
  subst h hd
  refine ⟨Nat.le_refl _, by simp [maxLen], fun _ => ⟨_, _, rfl, Nat.lt_succ_self _, fun j hj => ?_⟩⟩
  have : j = 0 := by simpa using hj
  subst this
  simp [go_sem]
theorem int_info : (Tryz.prog.info? 3).map (fun i => (i.zero, i.size, i.bytes)) = some (some (.int .i64 0), 1, 8) := by kernel_rfl
set_option maxRecDepth 100000 in
/-- append of a slice that reads onto a slice of the call's own -/
theorem run_append_ints {w : World} (ty : TypeId) (base : Nat) (v : Value) (ds : List Nat) (hown : OwnInts w base v ds) (B : Nat) (A : Option Addr) (c : Nat) (es : List Nat) (hr : IntsAt w B A c es)
    (hl : ds.length + es.length ≤ 1000000) (hbase : base ≤ w.heap.size) :
    ∃ v' w', (Builtin.append_ #[36, 36] ty #[v, .slice A es.length c]).run Tryz.prog w = .ok v' w' ∧ OwnInts w' base v' (ds ++ es) ∧ Below base w w' := by
  obtain ⟨i, hi, hz, hsize, hby⟩ := info_parts int_info
  have ht := Tryz.underlying36
  cases A with
  | none =>
    have hes : es = [] := by
      cases es with
      | nil => rfl
      | cons a b => obtain ⟨_, _, h, _⟩ := hr.at_ (by simp); cases h
    subst hes
    refine ⟨v, w, ?_, by simpa using hown, Below.refl _ _⟩
    rcases hown.2 with ⟨rfl, hx⟩ | ⟨g, cap, cur, rfl, _, _, hnc, _⟩
    · simp [Builtin.append_, run_underlying ht, sizeOf, typeInfo, hi, Builtin.lenOf, Builtin.firstCells]
    · simp [Builtin.append_, run_underlying ht, sizeOf, typeInfo, hi, Builtin.lenOf, Builtin.firstCells, hnc, storeCells]
  | some ad =>
    have hcells : ∀ j u, (es.map iv)[j]? = some u → w.cell? (ad.add j) = some u := by
      intro j u hu
      have hj : j < es.length := by
        rcases Nat.lt_or_ge j es.length with h1 | h1
        · exact h1
        · rw [List.getElem?_eq_none (by simpa using h1)] at hu; cases hu
      obtain ⟨g, o, h, _, hc⟩ := hr.at_ (by omega)
      injection h with h
      subst h
      rw [add_at, hc j hj, ← hu]
      simp [hj, iv]
    obtain ⟨v', w', hrun, h2, h3, _, h5⟩ := run_append_own_at (P := Tryz.prog) w base 36 ty 3 i (.int .i64 0) 1 8 ht hi hz hsize hby rfl (by omega) v ds.length (ds.map iv) hown ad es.length c (es.map iv) (by simp) hcells (iv_one es) (by simp [maxLen]; omega) (by omega) hbase
    refine ⟨v', w', hrun, ?_, (Below.refl _ _).grown h3 hbase fun k hk => (World.ownsRow.lt hown k hk).1⟩
    unfold OwnInts
    rw [List.length_append, List.map_append]
    exact h2
theorem wpList_append_ints {w : World} {ops : Array Oper} {rest : List Oper} {o : Oper} {a : Act} {Q : Exit → Act → World → Prop} (hgd : o.guard = none) (s x : Operand)
    (ho : o.op = .call { callee := .builtin .append, args := #[s, x], argTypes := #[36, 36] })
    (base : Nat) (v : Value) (ds : List Nat) (hs : a.eval s = v) (hown : OwnInts w base v ds) (B : Nat) (A : Option Addr) (n c : Nat) (es : List Nat) (hn : n = es.length) (hx : a.eval x = .slice A n c) (hr : IntsAt w B A c es)
    (hl : ds.length + es.length ≤ 1000000) (hbase : base ≤ w.heap.size)
    (h : ∀ v' w', OwnInts w' base v' (ds ++ es) → Below base w w' → wpList Tryz.prog ops Q rest (a.put o.dst v') w') : wpList Tryz.prog ops Q (o :: rest) a w := by
  subst hn
  refine wpList_plain hgd fun K hK => ?_
  obtain ⟨v', w', hrun, h2, h3⟩ := run_append_ints (w := w) o.type base v ds hown B A c es hr hl hbase
  unfold Oper.wp execOp
  simp only [ho, resolve, invoke, builtin, Sem.run_bind, Sem.run_pure, Result.andThen_ok, List.map_toArray, List.map_cons, List.map_nil, hs, hx, hrun]
  exact hK _ _ (h v' w' h2 h3)
end Go.Proofs.YtbngjlkmpdccjaaGreatDoor
namespace Th
open Go Go.Lib
def exA : List UInt8 := [32, 91, 49, 44, 32, 123, 34, 97, 34, 58, 50, 44, 34, 97, 34, 58, 51, 125, 93, 32]
def exB : List UInt8 := [91, 49, 44, 93]
def exC : List UInt8 := [91, 49]
def numT (m : Int) (a b : Nat) : Tk := ⟨0, 3, m, 0, ⟨#[]⟩, a, b, 0⟩
def sgT (c a b : Nat) : Tk := ⟨c, 0, 0, 0, ⟨#[]⟩, a, b, 0⟩
def keyA : ByteArray := ⟨#[97]⟩
def strT (a b : Nat) : Tk := ⟨0, 4, 0, 0, keyA, a, b, 0⟩
def numJ (m : Int) : JV := .mk 3 m 0 ⟨#[]⟩ [] []
theorem tkA0 : nextT exA 0 = sgT 91 1 2 := rfl
theorem tkA2 : nextT exA 2 = numT 1 2 3 := rfl
theorem tkA3 : nextT exA 3 = sgT 44 3 4 := rfl
theorem tkA4 : nextT exA 4 = sgT 123 5 6 := rfl
theorem tkA6 : nextT exA 6 = strT 6 9 := rfl
theorem tkA9 : nextT exA 9 = sgT 58 9 10 := rfl
theorem tkA10 : nextT exA 10 = numT 2 10 11 := rfl
theorem tkA11 : nextT exA 11 = sgT 44 11 12 := rfl
theorem tkA12 : nextT exA 12 = strT 12 15 := rfl
theorem tkA15 : nextT exA 15 = sgT 58 15 16 := rfl
theorem tkA16 : nextT exA 16 = numT 3 16 17 := rfl
theorem tkA17 : nextT exA 17 = sgT 125 17 18 := rfl
theorem tkA18 : nextT exA 18 = sgT 93 18 19 := rfl
theorem tkA19 : nextT exA 19 = sgT 255 20 20 := rfl
theorem tkB0 : nextT exB 0 = sgT 91 0 1 := rfl
theorem tkB1 : nextT exB 1 = numT 1 1 2 := rfl
theorem tkB2 : nextT exB 2 = sgT 44 2 3 := rfl
theorem tkB3 : nextT exB 3 = sgT 93 3 4 := rfl
theorem tkC0 : nextT exC 0 = sgT 91 0 1 := rfl
theorem tkC1 : nextT exC 1 = numT 1 1 2 := rfl
theorem tkC2 : nextT exC 2 = sgT 255 2 2 := rfl
theorem keys_aa : keysJ [keyA, keyA] = [keyA] := by
  have h : nubB [[97], [97]] = [[97]] := by decide
  unfold keysJ
  show (sortB (nubB [[97], [97]])).map toB = [keyA]
  rw [h]
  unfold sortB
  rw [List.mergeSort_singleton]
  rfl
theorem map_aa : madeJ ⟨6, [keyA, keyA], [numJ 2, numJ 3]⟩ = .mk 6 0 0 ⟨#[]⟩ [numJ 3] [keyA] := by
  have h1 : ([keyA, keyA].all fun k => validD k.data.toList) = true := by decide +kernel
  have h2 : badL [numJ 2, numJ 3] = 0 := by decide +kernel
  have h3 : (keysJ [keyA, keyA]).map (fun k => [numJ 2, numJ 3].getD (lastIx [keyA, keyA] 2 k) zeroJ) = [numJ 3] := by
    rw [keys_aa]
    have : lastIx [keyA, keyA] 2 keyA = 1 := by decide +kernel
    simp [this]
  have h4 : rightJ (.mk 6 0 0 ⟨#[]⟩ [numJ 3] [keyA]) = 0 := by decide +kernel
  unfold madeJ
  rw [if_neg (by decide)]
  show (makeJ [keyA, keyA] [numJ 2, numJ 3]).1 = _
  unfold makeJ
  rw [if_neg (by simp), if_neg (by rw [h1]; simp), if_neg (by rw [h2]; simp)]
  simp only [List.length_cons, List.length_nil, Nat.zero_add, Nat.reduceAdd]
  rw [h3, keys_aa, h4]
  rfl
theorem fuel_more : ∃ f, fuelP = f + 24 := ⟨39976, rfl⟩
theorem read_exA : readV madeJ exA = (.mk 5 0 0 ⟨#[]⟩ [numJ 1, .mk 6 0 0 ⟨#[]⟩ [numJ 3] [keyA]] [], 0, 0) := by
  rw [readV_short _ _ (by decide)]
  obtain ⟨f, hf⟩ := fuel_more
  rw [hf]
  have h5 : madeJ ⟨5, [], [numJ 1, .mk 6 0 0 ⟨#[]⟩ [numJ 3] [keyA]]⟩ = .mk 5 0 0 ⟨#[]⟩ [numJ 1, .mk 6 0 0 ⟨#[]⟩ [numJ 3] [keyA]] [] := rfl
  have hm := map_aa
  simp only [numJ] at h5 hm ⊢
  simp [readP, tkA0, tkA2, tkA3, tkA4, tkA6, tkA9, tkA10, tkA11, tkA12, tkA15, tkA16, tkA17, tkA18, tkA19, sgT, numT, strT, isShut, Tk.v, hm, h5]
theorem read_exB : readV madeJ exB = (zeroJ, 3, 60) := by
  rw [readV_short _ _ (by decide)]
  obtain ⟨f, hf⟩ := fuel_more
  rw [hf]
  simp [readP, tkB0, tkB1, tkB2, tkB3, sgT, numT, isShut]
theorem read_exC : readV madeJ exC = (zeroJ, 2, 60) := by
  rw [readV_short _ _ (by decide)]
  obtain ⟨f, hf⟩ := fuel_more
  rw [hf]
  simp [readP, tkC0, tkC1, tkC2, sgT, numT, isShut]
end Th
