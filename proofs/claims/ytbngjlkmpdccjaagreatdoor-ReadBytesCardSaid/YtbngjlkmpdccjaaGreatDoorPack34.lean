/- Lemmas and contracts for the laws ReadParses, ReadBytes, part 34 of 50: ParsePS. Conditions: those that each lemma names. -/
import Derived.Test.YtbngjlkmpdccjaaGreatDoorPack31
import Derived.Test.YtbngjlkmpdccjaaGreatDoorPack12
import Derived.Test.YtbngjlkmpdccjaaGreatDoorPack28
import Derived.Test.YtbngjlkmpdccjaaGreatDoorPack29
import Derived.Outline
namespace Go.Proofs.YtbngjlkmpdccjaaGreatDoor
open Go Go.RowKit Go.Proofs Th
attribute [local go_sem] Above.cell
theorem StrsIn.up {w W : World} {S : Nat → Prop} {A : Option Addr} {c : Nat} {ks : List ByteArray} (h : StrsIn w S A c ks) (hS : ∀ g, S g → g < w.heap.size) (hb : Below w.heap.size w W) : StrsAt W W.heap.size A c ks :=
  (h.keep (T := (· < W.heap.size)) (fun g hg => hb.block g (hS g hg)) (fun g hg => Nat.lt_of_lt_of_le (hS g hg) hb.size)).at (fun _ h => h)
theorem ValsIn.up {w W : World} {S : Nat → Prop} {A : Option Addr} {c : Nat} {l : List JV} (h : ValsIn w S A c l) (hS : ∀ g, S g → g < w.heap.size) (hb : Below w.heap.size w W) : ValsAt W W.heap.size A c l :=
  (h.keep (T := (· < W.heap.size)) (fun g hg => hb.block g (hS g hg)) (fun g hg => Nat.lt_of_lt_of_le (hS g hg) hb.size)).at (fun _ h => h)
set_option maxRecDepth 100000 in
set_option maxHeartbeats 4000000 in
theorem read_made (k : Int) (ks : List ByteArray) (l : List JV) (A : Option Addr) (c : Nat) (A2 : Option Addr) (c2 : Nat) (S : Nat → Prop) (hz : 1 + keysN ks + sizeL l ≤ 50000) (w : World) (hG : GlobV w) (hS : ∀ g, S g → g < w.heap.size) (hK : StrsIn w S A c ks) (hV : ValsIn w S A2 c2 l) :
    Calls Tryz.prog 12 #[.agg #[.int .i64 k, .slice A ks.length c, .slice A2 l.length c2]] w fun r w' => ∃ cs', r = .returned (.agg (List.toArray cs')) ∧ JIn w' (fun b => S b ∨ newIn w w' b) (madeJ ⟨k, ks, l⟩) cs' ∧ Below w.heap.size w w' := by
  have hkn := keysN_len ks
  have HM := Keep.mk (fun (W : World) (h : Below w.heap.size w W) => value_Make ks l A c A2 c2 (by omega) (by omega) (by omega) W (hG.below h) (hK.up hS h) (hV.up hS h))
  have hlc := hV.cap
  have hlcc := hV.top
  have hle := hK.le
  have hle2 := hV.le
  have hktop := hK.top
  have HV := Keep.mk (fun (W : World) (h : Below w.heap.size w W) => (hV.keep (T := S) (fun g hg => h.block g (hS g hg)) (fun _ hg => hg)))
  clear hK hV hkn hz
  go_enter Tryz.func12, Tryz.ntmps12
  go_upto_region 1 with fail
  refine wp_world (fun W => Box W w.heap.size [.int .i64 k, .slice A ks.length c, .slice A2 l.length c2] ∧ VBlkT W (w.heap.size + 1) zero6 ∧ W.heap.size = w.heap.size + 2 ∧ Below w.heap.size w W)
    ⟨(Box.new [.int .i64 k, .slice A ks.length c, .slice A2 l.length c2] _ rfl).alloc _, VBlkT.new zero6 (by simp), by simp, al2 _ _ _⟩ ?_
  rintro W0 ⟨HX, HR, hsz, HB⟩
  replace HX := Keep.mk HX
  replace HR := Keep.mk HR
  replace HB := Keep.mk HB
  have x0 := HX.out.cell 0 _ rfl
  have x1 := HX.out.cell 1 _ rfl
  have x2 := HX.out.cell 2 _ rfl
  have hxl := HX.out.lt
  by_cases hk : k = 5
  · subst hk
    have hrb := HR.out.box
    have r0 := hrb.cell 0 _ rfl
    have r1 := hrb.cell 1 _ rfl
    have r2 := hrb.cell 2 _ rfl
    have r3 := hrb.cell 3 _ rfl
    have r4 := hrb.cell 4 _ rfl
    have r5 := hrb.cell 5 _ rfl
    have z0 := hrb.froz 0
    have z1 := hrb.froz 1
    have z2 := hrb.froz 2
    have z3 := hrb.froz 3
    have z4 := hrb.froz 4
    have z5 := hrb.froz 5
    have hrl := hrb.lt
    clear hrb
    have HB2 := Keep.mk (HB.out.trans (six_below W0 (w.heap.size + 1) (.int .i64 5) (.int .i64 0) (.int .i64 0) (.string ⟨#[]⟩) (.slice A2 l.length c2) (.slice none 0 0) (by omega)))
    have HJ := Keep.mk (JIn.shut (k := 5) (m := 0) (e := 0) (s := ⟨#[]⟩) ⟨by decide, by decide⟩ ⟨by decide, by decide⟩ ⟨by decide, by decide⟩ (by decide) (StrsIn.none_ _ S) (HV.out _ HB2.out))
    clear HM HV HX HR
    go_wp2_with fail
    refine bodyPost_ret (v := .agg (List.toArray (cells6 5 0 0 ⟨#[]⟩ A2 l.length c2 none 0 0))) ?_ rfl ⟨_, rfl, HJ.out.more (fun _ h => Or.inl h), HB2.out⟩
    simp [cells6, results, Tryz.results12, go_sem, r0, r1, r2, r3, r4, r5]
  · have hk2 : (k == 5) = false := by simpa using hk
    have HE := Keep.mk (show madeJ ⟨k, ks, l⟩ = (makeJ ks l).1 by unfold madeJ; rw [if_neg hk])
    clear hk HV
    go_wp2_with fail
    refine (HM.out _ HB.out).mono ?_
    rintro r w1 ⟨cs', rfl, hJ, hb⟩
    obtain ⟨k9, m9, e9, s9, A9, n9, c9, A8, n8, c8, rfl⟩ := hJ.cells
    have HB1 := Keep.mk (HB.out.trans (hb.mono (by omega)))
    have HR1 := Keep.mk (show VBlkT w1 (w.heap.size + 1) zero6 from (hb.block _ (by omega)).trans HR.out)
    have hs1 : w.heap.size + 2 ≤ w1.heap.size := by have := hb.size; omega
    have HJ1 := Keep.mk (hJ.more (T := fun b => w.heap.size + 2 ≤ b ∧ b < w1.heap.size) (fun b h => ⟨by have := h.1; omega, h.2⟩))
    clear hJ hb HM HX HR x0 x1 x2 hxl HB
    simp only [cells6]
    go_upto_region 4 with fail
    refine wp_world (fun W => VBlkT W (w.heap.size + 1) zero6 ∧ VBlkT W w1.heap.size (cells6 k9 m9 e9 s9 A9 n9 c9 A8 n8 c8) ∧ Below w1.heap.size w1 W ∧ W.heap.size = w1.heap.size + 1) ?_ ?_
    · exact ⟨((al1 w1 _).block _ (by omega)).trans HR1.out, VBlkT.new (cells6 k9 m9 e9 s9 A9 n9 c9 A8 n8 c8) rfl, al1 _ _, by simp⟩
    clear HR1
    rintro W2 ⟨HR2, HT2, HB2, hs2⟩
    have HJ2 := Keep.mk (HJ1.out.keep (W' := six W2 (w.heap.size + 1) (.int .i64 k9) (.int .i64 m9) (.int .i64 e9) (.string s9) (.slice A9 n9 c9) (.slice A8 n8 c8)) (T := fun b => S b ∨ newIn w (six W2 (w.heap.size + 1) (.int .i64 k9) (.int .i64 m9) (.int .i64 e9) (.string s9) (.slice A9 n9 c9) (.slice A8 n8 c8)) b)
      (fun b h => (six_other W2 (w.heap.size + 1) _ _ _ _ _ _ b (by have := h.1; omega)).trans (HB2.block b h.2)) (fun b h => Or.inr ⟨by have := h.1; omega, by have := h.2; simp [six]; omega⟩))
    have HBE := Keep.mk ((HB1.out.trans (HB2.mono (by omega))).trans (six_below W2 (w.heap.size + 1) (.int .i64 k9) (.int .i64 m9) (.int .i64 e9) (.string s9) (.slice A9 n9 c9) (.slice A8 n8 c8) (by omega)))
    have htb := HT2.box
    have y0 := htb.cell 0 _ rfl
    have y1 := htb.cell 1 _ rfl
    have y2 := htb.cell 2 _ rfl
    have y3 := htb.cell 3 _ rfl
    have y4 := htb.cell 4 _ rfl
    have y5 := htb.cell 5 _ rfl
    have hrb := HR2.box
    have r0 := hrb.cell 0 _ rfl
    have r1 := hrb.cell 1 _ rfl
    have r2 := hrb.cell 2 _ rfl
    have r3 := hrb.cell 3 _ rfl
    have r4 := hrb.cell 4 _ rfl
    have r5 := hrb.cell 5 _ rfl
    have z0 := hrb.froz 0
    have z1 := hrb.froz 1
    have z2 := hrb.froz 2
    have z3 := hrb.froz 3
    have z4 := hrb.froz 4
    have z5 := hrb.froz 5
    have htl := htb.lt
    have hrl := hrb.lt
    clear hrb htb HT2 HR2 HB2 HJ1 HB1
    go_wp2
    refine bodyPost_ret (v := .agg (List.toArray (cells6 k9 m9 e9 s9 A9 n9 c9 A8 n8 c8))) ?_ rfl ⟨_, rfl, by rw [HE.out]; exact HJ2.out, HBE.out⟩
    simp [cells6, results, Tryz.results12, go_sem, r0, r1, r2, r3, r4, r5]
end Go.Proofs.YtbngjlkmpdccjaaGreatDoor
namespace Go.Proofs.YtbngjlkmpdccjaaGreatDoor
open Go Go.RowKit Go.Proofs Th
abbrev Row := Int × Value × Value
structure RowOk (W : World) (S : Nat → Prop) (base : Nat) (r : Row) (o : OJ) : Prop where
  k : r.1 = o.kind
  kk : OwnS W base r.2.1 o.keys
  vv : OwnV W base S r.2.2 o.list
def RowsOk (W : World) (S : Nat → Prop) (base : Nat) : List Row → List OJ → Prop
  | [], [] => True
  | r :: rs, o :: os => RowOk W S base r o ∧ RowsOk W S base rs os
  | [], _ :: _ => False
  | _ :: _, [] => False
structure Still (W : World) (base : Nat) (sv : Value) (rs : List Row) (b : Nat) : Prop where
  lo : base ≤ b
  hi : b < W.heap.size
  sv : sv.ownBlock ≠ some b
  rs : ∀ r ∈ rs, r.2.1.ownBlock ≠ some b ∧ r.2.2.ownBlock ≠ some b
def Apart (rs : List Row) : Prop := rs.Pairwise fun a b => ∀ k, (a.2.1.ownBlock = some k → b.2.1.ownBlock ≠ some k) ∧ (a.2.2.ownBlock = some k → b.2.2.ownBlock ≠ some k)
theorem RowOk.keep {W W' : World} {S T : Nat → Prop} {base : Nat} {r : Row} {o : OJ} (h : RowOk W S base r o) (hS : ∀ b, S b → W'.heap[b]? = W.heap[b]?) (hT : ∀ b, S b → T b)
    (hr : ∀ b, r.2.1.ownBlock = some b ∨ r.2.2.ownBlock = some b → W'.heap[b]? = W.heap[b]?) : RowOk W' T base r o :=
  ⟨h.k, h.kk.keep (fun b hb => hr b (Or.inl hb)), h.vv.keep hS (fun b hb => hr b (Or.inr hb)) hT⟩
theorem RowsOk.keep {W W' : World} {S T : Nat → Prop} {base : Nat} : ∀ {rs : List Row} {os : List OJ}, RowsOk W S base rs os → (∀ b, S b → W'.heap[b]? = W.heap[b]?) → (∀ b, S b → T b) →
    (∀ r ∈ rs, ∀ b, r.2.1.ownBlock = some b ∨ r.2.2.ownBlock = some b → W'.heap[b]? = W.heap[b]?) → RowsOk W' T base rs os
  | [], [], _, _, _, _ => trivial
  | r :: _rs, _o :: _os, h, hS, hT, hr => ⟨h.1.keep hS hT (hr r List.mem_cons_self), h.2.keep hS hT (fun x hx => hr x (List.mem_cons_of_mem _ hx))⟩
  | [], _ :: _, h, _, _, _ => h.elim
  | _ :: _, [], h, _, _, _ => h.elim
theorem RowsOk.len {W : World} {S : Nat → Prop} {base : Nat} : ∀ {rs : List Row} {os : List OJ}, RowsOk W S base rs os → rs.length = os.length
  | [], [], _ => rfl
  | r :: rs, o :: os, h => by rw [List.length_cons, List.length_cons, h.2.len]
  | [], _ :: _, h => h.elim
  | _ :: _, [], h => h.elim
theorem RowsOk.own {W : World} {S : Nat → Prop} {base : Nat} : ∀ {rs : List Row} {os : List OJ}, RowsOk W S base rs os → ∀ r ∈ rs, ∃ o, RowOk W S base r o
  | [], [], _, r, h => absurd h List.not_mem_nil
  | r :: rs, o :: os, h, x, hx => by
    rcases List.mem_cons.1 hx with rfl | hx
    · exact ⟨o, h.1⟩
    · exact h.2.own x hx
  | [], _ :: _, h, _, _ => h.elim
  | _ :: _, [], h, _, _ => h.elim
theorem RowOk.lt {W : World} {S : Nat → Prop} {base : Nat} {r : Row} {o : OJ} (h : RowOk W S base r o) : ∀ b, r.2.1.ownBlock = some b ∨ r.2.2.ownBlock = some b → base ≤ b ∧ b < W.heap.size := fun b hb => by
  rcases hb with hb | hb
  · exact h.kk.lt b hb
  · exact h.vv.lt b hb
theorem OpensAt.kind {W : World} {base : Nat} {sv : Value} {rows : List Row} (h : OpensAt W base sv rows) : ∀ g, sv.ownBlock = some g → ∃ cur, W.heap[g]? = some (.cells cur 48 (0, 0)) := by
  intro g hg
  obtain ⟨_, ⟨rfl, _⟩ | ⟨g', cap, cur, rfl, _, h3, _⟩⟩ := h
  · cases hg
  · injection hg with hg; subst hg; exact ⟨cur, h3⟩
theorem OpensAt.lt {W : World} {base : Nat} {sv : Value} {rows : List Row} (h : OpensAt W base sv rows) : ∀ b, sv.ownBlock = some b → base ≤ b ∧ b < W.heap.size := fun b hb => World.ownsRow.lt h b hb
theorem RowOk.sv {W : World} {S : Nat → Prop} {base : Nat} {r : Row} {o : OJ} {sv : Value} {rows : List Row} (h : RowOk W S base r o) (hO : OpensAt W base sv rows) : ∀ b, r.2.1.ownBlock = some b ∨ r.2.2.ownBlock = some b → sv.ownBlock ≠ some b := fun b hb e => by
  obtain ⟨c, hc⟩ := hO.kind b e
  rcases hb with hb | hb
  · obtain ⟨d, hd⟩ := h.kk.kind b hb
    exact kind_ne hc hd (by decide) rfl
  · obtain ⟨d, hd⟩ := h.vv.kind b hb
    exact kind_ne hc hd (by decide) rfl
theorem RowOk.cross {W : World} {S S' : Nat → Prop} {base : Nat} {r r' : Row} {o o' : OJ} (h : RowOk W S base r o) (h' : RowOk W S' base r' o') : ∀ b, r.2.1.ownBlock = some b → r'.2.2.ownBlock ≠ some b := fun b hb e => by
  obtain ⟨c, hc⟩ := h.kk.kind b hb
  obtain ⟨d, hd⟩ := h'.vv.kind b e
  exact kind_ne hc hd (by decide) rfl
structure PS (w W : World) (st : List OJ) (rs : List Row) (sv : Value) (t : Tk) (cs : List Value) : Prop where
  g : GlobV w
  b : Below w.heap.size w W
  v : VBlkT W w.heap.size cs
  s : W.heap[w.heap.size + 1]? = some (.cells #[sv] 42 (0, 0))
  t : W.heap[w.heap.size + 2]? = some (.cells (tokC t).toArray 44 (0, 0))
  o : OpensAt W (w.heap.size + 3) sv rs.reverse
  rows : RowsOk W (Still W (w.heap.size + 3) sv rs) (w.heap.size + 3) rs st
  apart : Apart rs
section
variable {w W W' : World} {st : List OJ} {rs : List Row} {sv : Value} {t : Tk} {cs : List Value}
theorem PS.gg (h : PS w W st rs sv t cs) : GlobV W := h.g.below h.b
theorem PS.size (h : PS w W st rs sv t cs) : w.heap.size + 3 ≤ W.heap.size := lt_of_block h.t
theorem Still.up (h : Below W.heap.size W W') {base b : Nat} (hs : Still W base sv rs b) : Still W' base sv rs b := ⟨hs.lo, Nat.lt_of_lt_of_le hs.hi h.size, hs.sv, hs.rs⟩
theorem PS.below (h : PS w W st rs sv t cs) (hb : Below W.heap.size W W') : PS w W' st rs sv t cs :=
  ⟨h.g, up h.b hb, (hb.block _ (lt_of_block h.v)).trans h.v, (hb.block _ (lt_of_block h.s)).trans h.s, (hb.block _ (lt_of_block h.t)).trans h.t,
   row_keep h.o (fun k hk => hb.block k (h.o.lt k hk).2), h.rows.keep (fun b hs => hb.block b hs.hi) (fun b hs => hs.up hb) (fun r hr b hh => by
    obtain ⟨o, ho⟩ := h.rows.own r hr
    exact hb.block b (ho.lt b hh).2), h.apart⟩
structure Low (w W W' : World) : Prop where
  os : W'.os = W.os
  tape : W'.tape = W.tape
  output : W'.output = W.output
  size : W'.heap.size = W.heap.size
  block : ∀ b, b ≠ w.heap.size → b ≠ w.heap.size + 2 → W'.heap[b]? = W.heap[b]?
theorem PS.low {t' : Tk} {cs' : List Value} (h : PS w W st rs sv t cs) (hl : Low w W W') (hv : VBlkT W' w.heap.size cs') (ht : W'.heap[w.heap.size + 2]? = some (.cells (tokC t').toArray 44 (0, 0))) : PS w W' st rs sv t' cs' :=
  ⟨h.g, ⟨hl.os.trans h.b.os, hl.tape.trans h.b.tape, hl.output.trans h.b.output, by rw [hl.size]; exact h.b.size, fun k hk => (hl.block k (by omega) (by omega)).trans (h.b.block k hk)⟩, hv, (hl.block _ (by omega) (by omega)).trans h.s, ht,
   row_keep h.o (fun k hk => hl.block k (by have := (h.o.lt k hk).1; omega) (by have := (h.o.lt k hk).1; omega)),
   h.rows.keep (fun b hs => hl.block b (by have := hs.lo; omega) (by have := hs.lo; omega)) (fun b hs => ⟨hs.lo, by rw [hl.size]; exact hs.hi, hs.sv, hs.rs⟩) (fun r hr b hh => by
    obtain ⟨o, ho⟩ := h.rows.own r hr
    have := (ho.lt b hh).1
    exact hl.block b (by omega) (by omega)), h.apart⟩
theorem Low.still (hl : Low w W W') {b : Nat} (hs : Still W (w.heap.size + 3) sv rs b) : Still W' (w.heap.size + 3) sv rs b := ⟨hs.lo, by rw [hl.size]; exact hs.hi, hs.sv, hs.rs⟩
theorem Low.jin {v : JV} {c : List Value} (hl : Low w W W') (h : JIn W (Still W (w.heap.size + 3) sv rs) v c) : JIn W' (Still W' (w.heap.size + 3) sv rs) v c :=
  h.keep (fun b hs => hl.block b (by have := hs.lo; omega) (by have := hs.lo; omega)) (fun b hs => hl.still hs)
theorem Still.jin {v : JV} {c : List Value} {base : Nat} (hb : Below W.heap.size W W') (h : JIn W (Still W base sv rs) v c) : JIn W' (Still W' base sv rs) v c :=
  h.keep (fun b hs => hb.block b hs.hi) (fun _b hs => hs.up hb)
def ten (W : World) (g : Nat) (t : Tk) : World := (((((((((W.setCell ⟨g, 0, none⟩ (.int .u8 t.sign)).setCell ⟨g, 1, none⟩ (.int .i64 t.k)).setCell ⟨g, 2, none⟩ (.int .i64 t.m)).setCell ⟨g, 3, none⟩ (.int .i64 t.x)).setCell ⟨g, 4, none⟩ (.string t.s)).setCell ⟨g, 5, none⟩ (.slice none 0 0)).setCell ⟨g, 6, none⟩ (.slice none 0 0)).setCell ⟨g, 7, none⟩ (.int .i64 t.at_)).setCell ⟨g, 8, none⟩ (.int .i64 t.to_)).setCell ⟨g, 9, none⟩ (.int .i64 t.e)
theorem ten_block {g : Nat} {c : Array Value} {ty : TypeId} (t' : Tk) (hc : c.size = 10) (h : W.heap[g]? = some (.cells c ty (0, 0))) : (ten W g t').heap[g]? = some (.cells (tokC t').toArray ty (0, 0)) := by
  obtain ⟨l, rfl⟩ : ∃ l : List Value, c = l.toArray := ⟨c.toList, by simp⟩
  have hl : l.length = 10 := by simpa using hc
  match l, hl with
  | [a0, a1, a2, a3, a4, a5, a6, a7, a8, a9], _ =>
    unfold ten
    rw [heap_setCell_same _ g 9 _ ty _ (heap_setCell_same _ g 8 _ ty _ (heap_setCell_same _ g 7 _ ty _ (heap_setCell_same _ g 6 _ ty _ (heap_setCell_same _ g 5 _ ty _ (heap_setCell_same _ g 4 _ ty _ (heap_setCell_same _ g 3 _ ty _ (heap_setCell_same _ g 2 _ ty _ (heap_setCell_same _ g 1 _ ty _ (heap_setCell_same _ g 0 _ ty _ h)))))))))]
    simp [tokC]
theorem ten_other (g : Nat) (t' : Tk) (b : Nat) (hb : b ≠ g) : (ten W g t').heap[b]? = W.heap[b]? := by
  unfold ten
  repeat rw [Below.heap_setCell _ _ _ b hb]
theorem ten_below (g : Nat) (t : Tk) {B : Nat} (h : B ≤ g) : Below B W (ten W g t) := by
  have h0 : Below B W W := Below.refl _ _
  exact (((((((((h0.setCell (p := ⟨g, 0, none⟩) h (.int .u8 t.sign)).setCell (p := ⟨g, 1, none⟩) h (.int .i64 t.k)).setCell (p := ⟨g, 2, none⟩) h (.int .i64 t.m)).setCell (p := ⟨g, 3, none⟩) h (.int .i64 t.x)).setCell (p := ⟨g, 4, none⟩) h (.string t.s)).setCell (p := ⟨g, 5, none⟩) h (.slice none 0 0)).setCell (p := ⟨g, 6, none⟩) h (.slice none 0 0)).setCell (p := ⟨g, 7, none⟩) h (.int .i64 t.at_)).setCell (p := ⟨g, 8, none⟩) h (.int .i64 t.to_)).setCell (p := ⟨g, 9, none⟩) h (.int .i64 t.e)
theorem low_ten (t' : Tk) : Low w W (ten W (w.heap.size + 2) t') := by
  have h := ten_below (W := W) (w.heap.size + 2) t' (Nat.zero_le _)
  exact ⟨h.os, h.tape, h.output, by simp [ten], fun b _ h2 => ten_other _ _ b h2⟩
theorem low_six (b0 b1 b2 b3 b4 b5 : Value) : Low w W (six W w.heap.size b0 b1 b2 b3 b4 b5) := by
  have h := six_below W w.heap.size b0 b1 b2 b3 b4 b5 (Nat.zero_le _)
  exact ⟨h.os, h.tape, h.output, by simp [six], fun b h1 _ => six_other _ _ _ _ _ _ _ _ b h1⟩
theorem PS.tok (h : PS w W st rs sv t cs) (t' : Tk) : PS w (ten W (w.heap.size + 2) t') st rs sv t' cs :=
  h.low (low_ten t') ((ten_other _ _ _ (by omega)).trans h.v) (ten_block t' rfl h.t)
theorem PS.val (h : PS w W st rs sv t cs) (hc : cs.length = 6) (b0 b1 b2 b3 b4 b5 : Value) : PS w (six W w.heap.size b0 b1 b2 b3 b4 b5) st rs sv t [b0, b1, b2, b3, b4, b5] := by
  match cs, hc with
  | [a0, a1, a2, a3, a4, a5], _ => exact h.low (low_six _ _ _ _ _ _) (h.v.six b0 b1 b2 b3 b4 b5) ((six_other _ _ _ _ _ _ _ _ _ (by omega)).trans h.t)
end
/-! the stack -/
section
variable {w W W' : World} {st : List OJ} {rs : List Row} {sv : Value} {t : Tk} {cs : List Value}
theorem PS.not_sv (h : PS w W st rs sv t cs) : ∀ r ∈ rs, ∀ b, r.2.1.ownBlock = some b ∨ r.2.2.ownBlock = some b → sv.ownBlock ≠ some b := fun r hr b hb => by
  obtain ⟨o, ho⟩ := h.rows.own r hr
  exact ho.sv h.o b hb
theorem PS.turn {sv' : Value} (h : PS w W st rs sv t cs) (hT : Turn (w.heap.size + 1) sv W W') (hs : W'.heap[w.heap.size + 1]? = some (.cells #[sv'] 42 (0, 0))) (hO : OpensAt W' (w.heap.size + 3) sv' rs.reverse)
    (hn : sv'.ownBlock = sv.ownBlock ∨ ∃ g, sv'.ownBlock = some g ∧ W.heap.size ≤ g) : PS w W' st rs sv' t cs := by
  have hbig : ∀ b, sv.ownBlock = some b → w.heap.size + 3 ≤ b := fun b hb => (h.o.lt b hb).1
  have hsz := h.size
  refine ⟨h.g, ⟨hT.os.trans h.b.os, hT.tape.trans h.b.tape, hT.output.trans h.b.output, Nat.le_trans h.b.size hT.size, fun k hk => (hT.block k (by omega) (by omega) (fun e => by have := hbig k e; omega)).trans (h.b.block k hk)⟩,
    (hT.block _ (by omega) (by omega) (fun e => by have := hbig _ e; omega)).trans h.v, hs, (hT.block _ (by omega) (by omega) (fun e => by have := hbig _ e; omega)).trans h.t, hO, ?_, h.apart⟩
  refine h.rows.keep (fun b hs => hT.block b hs.hi (by have := hs.lo; omega) hs.sv) (fun b hs => ⟨hs.lo, Nat.lt_of_lt_of_le hs.hi hT.size, fun e => ?_, hs.rs⟩) (fun r hr b hb => ?_)
  · rcases hn with hn | ⟨g, hn, hg⟩
    · exact hs.sv (hn.symm.trans e)
    · have := hn.symm.trans e
      injection this with this
      have := hs.hi
      omega
  · obtain ⟨o, ho⟩ := h.rows.own r hr
    have := ho.lt b hb
    exact hT.block b this.2 (by omega) (h.not_sv r hr b hb)
theorem Still.cons0 {base b : Nat} (h : Still W base sv rs b) : Still W base sv (open0 :: rs) b :=
  ⟨h.lo, h.hi, h.sv, fun r hr => by
    rcases List.mem_cons.1 hr with rfl | hr
    · exact ⟨by simp [open0, Value.ownBlock], by simp [open0, Value.ownBlock]⟩
    · exact h.rs r hr⟩
theorem PS.push {sv' : Value} (h : PS w W st rs sv t cs) (hT : Turn (w.heap.size + 1) sv W W') (hs : W'.heap[w.heap.size + 1]? = some (.cells #[sv'] 42 (0, 0))) (hO : OpensAt W' (w.heap.size + 3) sv' (rs.reverse ++ [open0]))
    (hn : sv'.ownBlock = sv.ownBlock ∨ ∃ g, sv'.ownBlock = some g ∧ W.heap.size ≤ g ∧ g < W'.heap.size) : PS w W' (⟨5, [], []⟩ :: st) (open0 :: rs) sv' t cs := by
  have hbig : ∀ b, sv.ownBlock = some b → w.heap.size + 3 ≤ b := fun b hb => (h.o.lt b hb).1
  have hsz := h.size
  refine ⟨h.g, ⟨hT.os.trans h.b.os, hT.tape.trans h.b.tape, hT.output.trans h.b.output, Nat.le_trans h.b.size hT.size, fun k hk => (hT.block k (by omega) (by omega) (fun e => by have := hbig k e; omega)).trans (h.b.block k hk)⟩,
    (hT.block _ (by omega) (by omega) (fun e => by have := hbig _ e; omega)).trans h.v, hs, (hT.block _ (by omega) (by omega) (fun e => by have := hbig _ e; omega)).trans h.t, by rw [List.reverse_cons]; exact hO, ⟨⟨rfl, OwnS.nil _ _, OwnV.nil _ _ _⟩, ?_⟩,
    List.pairwise_cons.2 ⟨fun r _ k => ⟨fun e => by simp [open0, Value.ownBlock] at e, fun e => by simp [open0, Value.ownBlock] at e⟩, h.apart⟩⟩
  refine h.rows.keep (fun b hs => hT.block b hs.hi (by have := hs.lo; omega) hs.sv) (fun b hs => Still.cons0 ⟨hs.lo, Nat.lt_of_lt_of_le hs.hi hT.size, fun e => ?_, hs.rs⟩) (fun r hr b hb => ?_)
  · rcases hn with hn | ⟨g, hn, hg, _⟩
    · exact hs.sv (hn.symm.trans e)
    · have := hn.symm.trans e
      injection this with this
      have := hs.hi
      omega
  · obtain ⟨o, ho⟩ := h.rows.own r hr
    have := ho.lt b hb
    exact hT.block b this.2 (by omega) (h.not_sv r hr b hb)
end
/-! the innermost row is another one -/
theorem rowsC_set (a : List Row) (r r' : Row) (i : Nat) (u : Value) (h : cells3 r' = (cells3 r).set i u) : (rowsC (a ++ [r])).set (a.length * 3 + i) u = rowsC (a ++ [r']) := by
  rw [rowsC_append, rowsC_append, List.set_append_right _ _ (by rw [rowsC_len]; omega), rowsC_len, show a.length * 3 + i - a.length * 3 = i by omega]
  simp only [rowsC, List.append_nil, h]
theorem OpensAt.put {W : World} {base g i : Nat} {sv u : Value} {a : List Row} {r r' : Row} (h : OpensAt W base sv (a ++ [r])) (hg : sv.ownBlock = some g) (h3 : cells3 r' = (cells3 r).set i u) :
    OpensAt (W.setCell ⟨g, a.length * 3 + i, none⟩ u) base sv (a ++ [r']) ∧ W.grownBy (W.setCell ⟨g, a.length * 3 + i, none⟩ u) (some g) := by
  obtain ⟨g', c, rfl, _, _, _, _, _, _, _⟩ := h.at (by simp)
  injection hg with hg
  subst hg
  obtain ⟨h1, h2⟩ := World.ownsRow.stored h (a.length * 3 + i) u
  refine ⟨?_, h2⟩
  rw [rowsC_set a r r' i u h3] at h1
  unfold OpensAt
  simp only [List.length_append, List.length_singleton] at h1 ⊢
  exact h1
section
variable {w W W' W1 : World} {st : List OJ} {rs : List Row} {sv : Value} {t : Tk} {cs : List Value} {o o' : OJ} {r r' : Row}
theorem PS.top {X : Option Nat} (h : PS w W (o :: st) (r :: rs) sv t cs) (hos : W'.os = W.os) (htape : W'.tape = W.tape) (hout : W'.output = W.output) (hsize : W.heap.size ≤ W'.heap.size)
    (hX : X = none ∨ X = r.2.1.ownBlock ∨ X = r.2.2.ownBlock) (hblk : ∀ b, b < W.heap.size → sv.ownBlock ≠ some b → X ≠ some b → W'.heap[b]? = W.heap[b]?) (hO : OpensAt W' (w.heap.size + 3) sv (rs.reverse ++ [r']))
    (hrow : RowOk W' (Still W' (w.heap.size + 3) sv (r' :: rs)) (w.heap.size + 3) r' o') (hn1 : r'.2.1.ownBlock = r.2.1.ownBlock ∨ ∃ b, r'.2.1.ownBlock = some b ∧ W.heap.size ≤ b) (hn2 : r'.2.2.ownBlock = r.2.2.ownBlock ∨ ∃ b, r'.2.2.ownBlock = some b ∧ W.heap.size ≤ b) :
    PS w W' (o' :: st) (r' :: rs) sv t cs ∧ ∀ b, Still W (w.heap.size + 3) sv (r :: rs) b → Still W' (w.heap.size + 3) sv (r' :: rs) b ∧ W'.heap[b]? = W.heap[b]? := by
  have hsz := h.size
  have hbig : ∀ b, sv.ownBlock = some b → w.heap.size + 3 ≤ b := fun b hb => (h.o.lt b hb).1
  have hr := h.rows.1
  have hXb : ∀ b, X = some b → w.heap.size + 3 ≤ b := fun b hb => by
    rcases hX with e | e | e
    · rw [e] at hb; cases hb
    · exact (hr.lt b (Or.inl (e ▸ hb))).1
    · exact (hr.lt b (Or.inr (e ▸ hb))).1
  have hlow : ∀ b, b < w.heap.size + 3 → W'.heap[b]? = W.heap[b]? := fun b hb => hblk b (by omega) (fun e => by have := hbig b e; omega) (fun e => by have := hXb b e; omega)
  have hst : ∀ b, Still W (w.heap.size + 3) sv (r :: rs) b → Still W' (w.heap.size + 3) sv (r' :: rs) b ∧ W'.heap[b]? = W.heap[b]? := fun b hs => by
    have hrr := hs.rs r List.mem_cons_self
    refine ⟨⟨hs.lo, Nat.lt_of_lt_of_le hs.hi hsize, hs.sv, fun x hx => ?_⟩, hblk b hs.hi hs.sv (fun e => ?_)⟩
    · rcases List.mem_cons.1 hx with rfl | hx
      · constructor
        · intro e
          rcases hn1 with hn | ⟨c, hn, hc⟩
          · exact hrr.1 (hn.symm.trans e)
          · have := hn.symm.trans e
            injection this with this
            have := hs.hi
            omega
        · intro e
          rcases hn2 with hn | ⟨c, hn, hc⟩
          · exact hrr.2 (hn.symm.trans e)
          · have := hn.symm.trans e
            injection this with this
            have := hs.hi
            omega
      · exact hs.rs x (List.mem_cons_of_mem _ hx)
    · rcases hX with e2 | e2 | e2
      · rw [e2] at e; cases e
      · exact hrr.1 (e2 ▸ e)
      · exact hrr.2 (e2 ▸ e)
  have hap := List.pairwise_cons.1 h.apart
  refine ⟨⟨h.g, ⟨hos.trans h.b.os, htape.trans h.b.tape, hout.trans h.b.output, Nat.le_trans h.b.size hsize, fun k hk => (hlow k (by omega)).trans (h.b.block k hk)⟩, (hlow _ (by omega)).trans h.v, (hlow _ (by omega)).trans h.s, (hlow _ (by omega)).trans h.t,
    by rw [List.reverse_cons]; exact hO, ⟨hrow, ?_⟩, List.pairwise_cons.2 ⟨fun x hx k => ⟨fun e => ?_, fun e => ?_⟩, hap.2⟩⟩, hst⟩
  · refine h.rows.2.keep (fun b hs => (hst b hs).2) (fun b hs => (hst b hs).1) (fun x hx b hb => ?_)
    obtain ⟨ox, hox⟩ := h.rows.2.own x hx
    have hlt := hox.lt b hb
    refine hblk b hlt.2 (hox.sv h.o b hb) (fun e => ?_)
    have hax := hap.1 x hx b
    rcases hX with e2 | e2 | e2
    · rw [e2] at e; cases e
    · rw [e2] at e
      rcases hb with hb | hb
      · exact hax.1 e hb
      · exact hr.cross hox b e hb
    · rw [e2] at e
      rcases hb with hb | hb
      · exact hox.cross hr b hb e
      · exact hax.2 e hb
  · rcases hn1 with hn | ⟨c, hn, hc⟩
    · exact (hap.1 x hx k).1 (hn.symm.trans e)
    · intro e3
      have := hn.symm.trans e
      injection this with this
      obtain ⟨ox, hox⟩ := h.rows.2.own x hx
      have := (hox.lt k (Or.inl e3)).2
      omega
  · rcases hn2 with hn | ⟨c, hn, hc⟩
    · exact (hap.1 x hx k).2 (hn.symm.trans e)
    · intro e3
      have := hn.symm.trans e
      injection this with this
      obtain ⟨ox, hox⟩ := h.rows.2.own x hx
      have := (hox.lt k (Or.inr e3)).2
      omega
theorem PS.kind {g : Nat} (h : PS w W (⟨5, [], []⟩ :: st) (open0 :: rs) sv t cs) (hg : sv.ownBlock = some g) :
    PS w (W.setCell ⟨g, rs.length * 3, none⟩ (.int .i64 6)) (⟨6, [], []⟩ :: st) ((6, .slice none 0 0, .slice none 0 0) :: rs) sv t cs := by
  rw [show rs.length = rs.reverse.length from List.length_reverse.symm]
  have hO := h.o
  rw [List.reverse_cons] at hO
  obtain ⟨h1, h2⟩ := hO.put (i := 0) (u := .int .i64 6) (r' := (6, .slice none 0 0, .slice none 0 0)) hg rfl
  rw [Nat.add_zero] at h1 h2
  exact (h.top (X := none) (r' := (6, .slice none 0 0, .slice none 0 0)) (o' := ⟨6, [], []⟩) h2.os h2.tape h2.output h2.size (Or.inl rfl) (fun b hb hs _ => h2.block b hb (fun e => hs (hg.trans e.symm))) h1
    ⟨rfl, OwnS.nil _ _, OwnV.nil _ _ _⟩ (Or.inl rfl) (Or.inl rfl)).1
theorem PS.keyed {k : Int} {kv lv v' : Value} {x : ByteArray} {g : Nat} (h : PS w W (o :: st) ((k, kv, lv) :: rs) sv t cs) (hgr : W.grownBy W1 kv.ownBlock) (hO : OwnS W1 (w.heap.size + 3) v' (o.keys ++ [x]))
    (hn : v'.ownBlock = kv.ownBlock ∨ ∃ b, v'.ownBlock = some b ∧ W.heap.size ≤ b) (hg : sv.ownBlock = some g) :
    PS w (W1.setCell ⟨g, rs.length * 3 + 1, none⟩ v') (⟨o.kind, o.keys ++ [x], o.list⟩ :: st) ((k, v', lv) :: rs) sv t cs := by
  rw [show rs.length = rs.reverse.length from List.length_reverse.symm]
  have hr := h.rows.1
  have hgk : kv.ownBlock ≠ some g := fun e => hr.sv h.o g (Or.inl e) hg
  have hgl := (h.o.lt g hg).2
  have hO1 : OpensAt W1 (w.heap.size + 3) sv (rs.reverse ++ [(k, kv, lv)]) := by
    have := h.o
    rw [List.reverse_cons] at this
    exact row_keep this (fun b hb => hgr.block b (h.o.lt b hb).2 (fun e => hr.sv h.o b (Or.inl e.symm) hb))
  obtain ⟨h1, h2⟩ := hO1.put (i := 1) (u := v') (r' := (k, v', lv)) hg rfl
  have hvg : v'.ownBlock ≠ some g := fun e => by
    obtain ⟨c, hc⟩ := hO.kind g e
    obtain ⟨d, hd⟩ := hO1.kind g hg
    exact kind_ne hc hd (by decide) rfl
  have hblk : ∀ b, b < W.heap.size → sv.ownBlock ≠ some b → kv.ownBlock ≠ some b → (W1.setCell ⟨g, rs.reverse.length * 3 + 1, none⟩ v').heap[b]? = W.heap[b]? := fun b hb hs hk =>
    (h2.block b (Nat.lt_of_lt_of_le hb hgr.size) (fun e => hs (hg.trans e.symm))).trans (hgr.block b hb (fun e => hk e.symm))
  refine (h.top (X := kv.ownBlock) (r' := (k, v', lv)) (o' := ⟨o.kind, o.keys ++ [x], o.list⟩) (h2.os.trans hgr.os) (h2.tape.trans hgr.tape) (h2.output.trans hgr.output) (Nat.le_trans hgr.size h2.size) (Or.inr (Or.inl rfl)) hblk h1 ⟨hr.k, hO.keep (fun b hb => Below.heap_setCell _ _ _ b (fun e => hvg (by rw [hb, e]))), ?_⟩ hn (Or.inl rfl)).1
  refine hr.vv.keep (fun b hs => hblk b hs.hi hs.sv (hs.rs _ List.mem_cons_self).1) (fun b hb => hblk b (hr.vv.lt b hb).2 (hr.sv h.o b (Or.inr hb)) (fun e => hr.cross hr b e hb)) (fun b hs => ⟨hs.lo, Nat.lt_of_lt_of_le hs.hi (Nat.le_trans hgr.size h2.size), hs.sv, fun y hy => ?_⟩)
  rcases List.mem_cons.1 hy with rfl | hy
  · refine ⟨fun e => ?_, (hs.rs _ List.mem_cons_self).2⟩
    rcases hn with hn | ⟨c, hn, hc⟩
    · exact (hs.rs _ List.mem_cons_self).1 (hn.symm.trans e)
    · have := hn.symm.trans e
      injection this with this
      have := hs.hi
      omega
  · exact hs.rs y (List.mem_cons_of_mem _ hy)
theorem PS.listed {k : Int} {kv lv v' : Value} {x : JV} {g : Nat} (h : PS w W (o :: st) ((k, kv, lv) :: rs) sv t cs) (hgr : W.grownBy W1 lv.ownBlock) (hO : OwnV W1 (w.heap.size + 3) (Still W1 (w.heap.size + 3) sv ((k, kv, v') :: rs)) v' (o.list ++ [x]))
    (hn : v'.ownBlock = lv.ownBlock ∨ ∃ b, v'.ownBlock = some b ∧ W.heap.size ≤ b) (hg : sv.ownBlock = some g) :
    PS w (W1.setCell ⟨g, rs.length * 3 + 2, none⟩ v') (⟨o.kind, o.keys, o.list ++ [x]⟩ :: st) ((k, kv, v') :: rs) sv t cs := by
  rw [show rs.length = rs.reverse.length from List.length_reverse.symm]
  have hr := h.rows.1
  have hgk : lv.ownBlock ≠ some g := fun e => hr.sv h.o g (Or.inr e) hg
  have hgl := (h.o.lt g hg).2
  have hO1 : OpensAt W1 (w.heap.size + 3) sv (rs.reverse ++ [(k, kv, lv)]) := by
    have := h.o
    rw [List.reverse_cons] at this
    exact row_keep this (fun b hb => hgr.block b (h.o.lt b hb).2 (fun e => hr.sv h.o b (Or.inr e.symm) hb))
  obtain ⟨h1, h2⟩ := hO1.put (i := 2) (u := v') (r' := (k, kv, v')) hg rfl
  have hvg : v'.ownBlock ≠ some g := fun e => by
    obtain ⟨c, hc⟩ := hO.kind g e
    obtain ⟨d, hd⟩ := hO1.kind g hg
    exact kind_ne hc hd (by decide) rfl
  have hblk : ∀ b, b < W.heap.size → sv.ownBlock ≠ some b → lv.ownBlock ≠ some b → (W1.setCell ⟨g, rs.reverse.length * 3 + 2, none⟩ v').heap[b]? = W.heap[b]? := fun b hb hs hk =>
    (h2.block b (Nat.lt_of_lt_of_le hb hgr.size) (fun e => hs (hg.trans e.symm))).trans (hgr.block b hb (fun e => hk e.symm))
  refine (h.top (X := lv.ownBlock) (r' := (k, kv, v')) (o' := ⟨o.kind, o.keys, o.list ++ [x]⟩) (h2.os.trans hgr.os) (h2.tape.trans hgr.tape) (h2.output.trans hgr.output) (Nat.le_trans hgr.size h2.size) (Or.inr (Or.inr rfl)) hblk h1 ⟨hr.k, ?_, ?_⟩ (Or.inl rfl) hn).1
  · exact hr.kk.keep (fun b hb => hblk b (hr.kk.lt b hb).2 (hr.sv h.o b (Or.inl hb)) (fun e => hr.cross hr b hb e))
  · exact hO.keep (fun b hs => Below.heap_setCell _ _ _ b (fun e => hs.sv (hg.trans (by rw [e])))) (fun b hb => Below.heap_setCell _ _ _ b (fun e => hvg (by rw [hb, e]))) (fun b hs => ⟨hs.lo, Nat.lt_of_lt_of_le hs.hi h2.size, hs.sv, hs.rs⟩)
theorem PS.pop {k : Int} {A : Option Addr} {n c : Nat} {A' : Option Addr} {n' c' : Nat} {sv' : Value} (h : PS w W (o :: st) ((k, .slice A n c, .slice A' n' c') :: rs) sv t cs) (hT : Turn (w.heap.size + 1) (.slice none 0 0) W W')
    (hs : W'.heap[w.heap.size + 1]? = some (.cells #[sv'] 42 (0, 0))) (hO : OpensAt W' (w.heap.size + 3) sv' rs.reverse) (hn : sv'.ownBlock = sv.ownBlock) (hl1 : o.keys.length ≤ 1000000) (hl2 : o.list.length ≤ 1000000) :
    PS w W' st rs sv' t cs ∧ n = o.keys.length ∧ n' = o.list.length ∧ StrsIn W' (Still W' (w.heap.size + 3) sv' rs) A c o.keys ∧ ValsIn W' (Still W' (w.heap.size + 3) sv' rs) A' c' o.list := by
  have hsz := h.size
  have hr := h.rows.1
  have hap := List.pairwise_cons.1 h.apart
  have hblk : ∀ b, b < W.heap.size → b ≠ w.heap.size + 1 → W'.heap[b]? = W.heap[b]? := fun b hb h1 => hT.block b hb h1 (by simp [Value.ownBlock])
  have hst : ∀ b, Still W (w.heap.size + 3) sv ((k, .slice A n c, .slice A' n' c') :: rs) b → Still W' (w.heap.size + 3) sv' rs b := fun b hs => ⟨hs.lo, Nat.lt_of_lt_of_le hs.hi hT.size, by rw [hn]; exact hs.sv, fun y hy => hs.rs y (List.mem_cons_of_mem _ hy)⟩
  have hown : ∀ b, (Value.slice A n c).ownBlock = some b ∨ (Value.slice A' n' c').ownBlock = some b → Still W' (w.heap.size + 3) sv' rs b := fun b hb => by
    have hlt := hr.lt b hb
    refine ⟨hlt.1, Nat.lt_of_lt_of_le hlt.2 hT.size, by rw [hn]; exact hr.sv h.o b hb, fun y hy => ?_⟩
    obtain ⟨oy, hoy⟩ := h.rows.2.own y hy
    have hay := hap.1 y hy b
    rcases hb with hb | hb
    · exact ⟨hay.1 hb, hr.cross hoy b hb⟩
    · exact ⟨fun e => hoy.cross hr b e hb, hay.2 hb⟩
  refine ⟨⟨h.g, ⟨hT.os.trans h.b.os, hT.tape.trans h.b.tape, hT.output.trans h.b.output, Nat.le_trans h.b.size hT.size, fun j hj => (hblk j (by omega) (by omega)).trans (h.b.block j hj)⟩, (hblk _ (by omega) (by omega)).trans h.v, hs, (hblk _ (by omega) (by omega)).trans h.t, hO, ?_, hap.2⟩, ?_⟩
  · refine h.rows.2.keep (fun b hs => hblk b hs.hi (by have := hs.lo; omega)) hst (fun y hy b hb => ?_)
    obtain ⟨oy, hoy⟩ := h.rows.2.own y hy
    have := hoy.lt b hb
    exact hblk b this.2 (by omega)
  · have hkk := (hr.kk.keep (w' := W') (fun b hb => hblk b (hr.kk.lt b hb).2 (by have := (hr.kk.lt b hb).1; omega))).strs (by omega) (T := Still W' (w.heap.size + 3) sv' rs) (fun b hb => hown b (Or.inl hb))
    have hvv := (hr.vv.keep (w' := W') (T := Still W' (w.heap.size + 3) sv' rs) (fun b hs => hblk b hs.hi (by have := hs.lo; omega)) (fun b hb => hblk b (hr.vv.lt b hb).2 (by have := (hr.vv.lt b hb).1; omega)) hst).vals (by omega) (fun _ h => h) (fun b hb => hown b (Or.inr hb))
    exact ⟨hkk.1, hvv.1, hkk.2, hvv.2⟩
end
end Go.Proofs.YtbngjlkmpdccjaaGreatDoor
