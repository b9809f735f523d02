/- Lemmas and contracts for the laws ReadParses, ReadBytes, part 44 of 50: Works6, Ref3M. Conditions: those that each lemma names. -/
import Derived.Test.YtbngjlkmpdccjaaGreatDoorPack42
import Derived.Test.YtbngjlkmpdccjaaGreatDoorPack15
import Derived.Test.YtbngjlkmpdccjaaGreatDoorPack43
import Derived.Test.YtbngjlkmpdccjaaGreatDoorPack33
import Derived.Test.YtbngjlkmpdccjaaGreatDoorPack14
import Derived.Outline
namespace Go.Proofs.YtbngjlkmpdccjaaGreatDoor
open Go Go.RowKit Go.Proofs Th
attribute [local go_sem] Above.cell
structure NumsAt (W : World) (B : Nat) (A : Option Addr) (c : Nat) (zs : List Int) : Prop where
  le : zs.length ≤ c
  cap : zs.length ≤ 140737488351232
  top : c ≤ 9223372036854775807
  i64 : ∀ z ∈ zs, I64 z
  at_ : 0 < zs.length → ∃ g o, A = some ⟨g, o, none⟩ ∧ g < B ∧ ∀ j (h : j < zs.length), W.cell? ⟨g, o + j, none⟩ = some (.int .i64 zs[j])
theorem NumsAt.below {W W' : World} {B : Nat} {A : Option Addr} {c : Nat} {zs : List Int} (h : NumsAt W B A c zs) (hb : Below B W W') : NumsAt W' B A c zs :=
  ⟨h.le, h.cap, h.top, h.i64, fun hn => by
    obtain ⟨g, o, e, hg, hc⟩ := h.at_ hn
    exact ⟨g, o, e, hg, fun j hj => (cell_block (hb.block g hg)).trans (hc j hj)⟩⟩
structure ExA (W : World) (p g o c g2 o2 c2 : Nat) (A : Option Addr) (n c' : Nat) : Prop where
  box : Box W p [.int .i64 5, .int .i64 0, .int .i64 0, .string ⟨#[]⟩, .slice (some ⟨g, o, none⟩) 2 c, .slice A n c']
  k : W.cell? ⟨g, o + 6, none⟩ = some (.int .i64 6)
  l : W.cell? ⟨g, o + 6 + 4, none⟩ = some (.slice (some ⟨g2, o2, none⟩) 1 c2)
  m : W.cell? ⟨g2, o2 + 1, none⟩ = some (.int .i64 3)
  hg : g < W.heap.size
  hg2 : g2 < W.heap.size
  c : 2 ≤ c ∧ c ≤ 9223372036854775807
  c2 : 1 ≤ c2 ∧ c2 ≤ 9223372036854775807
theorem ExA.below {W W' : World} {p g o c g2 o2 c2 : Nat} {A : Option Addr} {n c' : Nat} (h : ExA W p g o c g2 o2 c2 A n c') (hb : Below W.heap.size W W') : ExA W' p g o c g2 o2 c2 A n c' :=
  ⟨h.box.below hb h.box.lt, (cell_block (hb.block g h.hg)).trans h.k, (cell_block (hb.block g h.hg)).trans h.l, (cell_block (hb.block g2 h.hg2)).trans h.m, Nat.lt_of_lt_of_le h.hg hb.size, Nat.lt_of_lt_of_le h.hg2 hb.size, h.c, h.c2⟩
theorem exA_open {W : World} {S : Nat → Prop} {cs : List Value} (hS : ∀ b, S b → b < W.heap.size) (h : JIn W S (.mk 5 0 0 ⟨#[]⟩ [numJ 1, .mk 6 0 0 ⟨#[]⟩ [numJ 3] [keyA]] []) cs) :
    ∃ g o c g2 o2 c2 A n c', cs = [.int .i64 5, .int .i64 0, .int .i64 0, .string ⟨#[]⟩, .slice (some ⟨g, o, none⟩) 2 c, .slice A n c'] ∧ ∀ t, ExA (W.alloc (.cells cs.toArray t)) W.heap.size g o c g2 o2 c2 A n c' := by
  obtain ⟨A, c, A', c', rfl, _, _, _, _, _, hV⟩ := h.open
  obtain ⟨g, o, cs1, rfl, hg, hc1, hJ1⟩ := hV.at_ 1 (by decide)
  obtain ⟨A2, c2, A3, c3, rfl, _, _, _, _, _, hV2⟩ := JIn.open (k := 6) (m := 0) (e := 0) (s := ⟨#[]⟩) (l := [numJ 3]) (ks := [keyA]) hJ1
  obtain ⟨g2, o2, cs2, rfl, hg2, hc2, hJ2⟩ := hV2.at_ 0 (by decide)
  obtain ⟨A4, c4, A5, c5, rfl, _, _, _, _, _, _⟩ := JIn.open (k := 3) (m := 3) (e := 0) (s := ⟨#[]⟩) (l := []) (ks := []) hJ2
  have hl1 := hS g hg
  have hl2 := hS g2 hg2
  refine ⟨g, o, c, g2, o2, c2, A', 0, c', rfl, fun t => ?_⟩
  have hb := fun t => al1 W (.cells (cells6 5 0 0 ⟨#[]⟩ (some ⟨g, o, none⟩) 2 c A' 0 c').toArray t)
  refine ⟨Box.new (cells6 5 0 0 ⟨#[]⟩ (some ⟨g, o, none⟩) 2 c A' 0 c') t rfl, (cell_block ((hb t).block g hl1)).trans ?_, (cell_block ((hb t).block g hl1)).trans ?_, (cell_block ((hb t).block g2 hl2)).trans ?_, Nat.lt_of_lt_of_le hl1 (hb t).size, Nat.lt_of_lt_of_le hl2 (hb t).size, ⟨hV.le, hV.top⟩, ⟨hV2.le, hV2.top⟩⟩
  · have := hc1 0 _ rfl
    simpa using this
  · have := hc1 4 _ rfl
    simpa using this
  · have := hc2 1 _ rfl
    simpa using this
theorem ex_zero {W : World} {S : Nat → Prop} {cs : List Value} (h : JIn W S zeroJ cs) : ∃ A c A' c', cs = [.int .i64 0, .int .i64 0, .int .i64 0, .string ⟨#[]⟩, .slice A 0 c, .slice A' 0 c'] := by
  obtain ⟨A, c, A', c', rfl, _⟩ := JIn.open (k := 0) (m := 0) (e := 0) (s := ⟨#[]⟩) (l := []) (ks := []) h
  exact ⟨A, c, A', c', rfl⟩
set_option maxRecDepth 100000 in
set_option maxHeartbeats 4000000 in
theorem works6 (w : World) (hG : GlobV w) : Calls Tryz.prog 5 #[] w fun r w' => r = .returned (.bool true) ∧ Below w.heap.size w w' := by
  have HA : Keep (∀ W, GlobV W → Calls Tryz.prog 6 #[.string ⟨#[32, 91, 49, 44, 32, 123, 34, 97, 34, 58, 50, 44, 34, 97, 34, 58, 51, 125, 93, 32]⟩] W fun r w' => ∃ cs, r = .returned (.tuple #[.agg (List.toArray cs), .int .i64 0, .int .i64 0]) ∧ JIn w' (newIn W w') (.mk 5 0 0 ⟨#[]⟩ [numJ 1, .mk 6 0 0 ⟨#[]⟩ [numJ 3] [keyA]] []) cs ∧ Below W.heap.size W w') := ⟨fun W hg => by
    have h := read_Parse ⟨#[32, 91, 49, 44, 32, 123, 34, 97, 34, 58, 50, 44, 34, 97, 34, 58, 51, 125, 93, 32]⟩ (by decide) W hg
    rw [show readV madeJ (⟨#[32, 91, 49, 44, 32, 123, 34, 97, 34, 58, 50, 44, 34, 97, 34, 58, 51, 125, 93, 32]⟩ : ByteArray).data.toList = _ from read_exA] at h
    exact h⟩
  have HB : Keep (∀ W, GlobV W → Calls Tryz.prog 6 #[.string ⟨#[91, 49, 44, 93]⟩] W fun r w' => ∃ cs, r = .returned (.tuple #[.agg (List.toArray cs), .int .i64 3, .int .i64 60]) ∧ JIn w' (newIn W w') zeroJ cs ∧ Below W.heap.size W w') := ⟨fun W hg => by
    have h := read_Parse ⟨#[91, 49, 44, 93]⟩ (by decide) W hg
    rw [show readV madeJ (⟨#[91, 49, 44, 93]⟩ : ByteArray).data.toList = _ from read_exB] at h
    exact h⟩
  have HC : Keep (∀ W, GlobV W → Calls Tryz.prog 6 #[.string ⟨#[91, 49]⟩] W fun r w' => ∃ cs, r = .returned (.tuple #[.agg (List.toArray cs), .int .i64 2, .int .i64 60]) ∧ JIn w' (newIn W w') zeroJ cs ∧ Below W.heap.size W w') := ⟨fun W hg => by
    have h := read_Parse ⟨#[91, 49]⟩ (by decide) W hg
    rw [show readV madeJ (⟨#[91, 49]⟩ : ByteArray).data.toList = _ from read_exC] at h
    exact h⟩
  have HG := Keep.mk hG
  clear hG
  go_enter Tryz.func5, Tryz.ntmps5
  go_wp2_with fail
  refine (HA.out _ HG.out).mono ?_
  rintro r w1 ⟨cs, rfl, hJ, hb1⟩
  obtain ⟨g, o, c, g2, o2, c2, A9, n9, c9, rfl, hX⟩ := exA_open (fun b hb => hb.2) hJ
  have HX := Keep.mk (hX 28)
  have HB1 := Keep.mk (up hb1 (al1 w1 (.cells #[.int .i64 5, .int .i64 0, .int .i64 0, .string ⟨#[]⟩, .slice (some ⟨g, o, none⟩) 2 c, .slice A9 n9 c9] 28)))
  clear hJ hX hb1 HA
  go_upto_region 2 with fail
  refine wp_world (fun W => ExA W w1.heap.size g o c g2 o2 c2 A9 n9 c9 ∧ Below w.heap.size w W) ⟨HX.out, HB1.out⟩ ?_
  generalize w1.heap.size = p
  clear HX HB1
  rintro W2 ⟨HX, HB2⟩
  replace HX := Keep.mk HX
  replace HB2 := Keep.mk HB2
  go_wp2_with fail
  refine (HB.out _ (HG.out.below HB2.out)).mono ?_
  rintro r w3 ⟨cs, rfl, hJ, hb3⟩
  obtain ⟨A4, c4, A5, c5, rfl⟩ := ex_zero hJ
  have HX3 := Keep.mk ((HX.out.below hb3).below (al1 w3 (.cells #[.int .i64 0, .int .i64 0, .int .i64 0, .string ⟨#[]⟩, .slice A4 0 c4, .slice A5 0 c5] 28)))
  have HB3 := Keep.mk (up (up HB2.out hb3) (al1 w3 (.cells #[.int .i64 0, .int .i64 0, .int .i64 0, .string ⟨#[]⟩, .slice A4 0 c4, .slice A5 0 c5] 28)))
  clear hJ hb3 HB HX HB2
  go_upto_region 3 with fail
  refine wp_world (fun W => ExA W p g o c g2 o2 c2 A9 n9 c9 ∧ Below w.heap.size w W) ⟨HX3.out, HB3.out⟩ ?_
  generalize w3.heap.size = p3
  clear HX3 HB3
  rintro W4 ⟨HX, HB4⟩
  replace HX := Keep.mk HX
  replace HB4 := Keep.mk HB4
  go_wp2_with fail
  refine (HC.out _ (HG.out.below HB4.out)).mono ?_
  rintro r w5 ⟨cs, rfl, hJ, hb5⟩
  obtain ⟨A6, c6, A7, c7, rfl⟩ := ex_zero hJ
  have HX5 := Keep.mk ((HX.out.below hb5).below (al1 w5 (.cells #[.int .i64 0, .int .i64 0, .int .i64 0, .string ⟨#[]⟩, .slice A6 0 c6, .slice A7 0 c7] 28)))
  have HB5 := Keep.mk (up (up HB4.out hb5) (al1 w5 (.cells #[.int .i64 0, .int .i64 0, .int .i64 0, .string ⟨#[]⟩, .slice A6 0 c6, .slice A7 0 c7] 28)))
  clear hJ hb5 HC HX HB4
  go_upto_region 4 with fail
  refine wp_world (fun W => ExA W p g o c g2 o2 c2 A9 n9 c9 ∧ Below w.heap.size w W) ⟨HX5.out, HB5.out⟩ ?_
  generalize w5.heap.size = p5
  clear HX5 HB5
  rintro W6 ⟨HX, HB6⟩
  replace HX := Keep.mk HX
  replace HB6 := Keep.mk HB6
  have x0 := HX.out.box.cell 0 _ rfl
  have x4 := HX.out.box.cell 4 _ rfl
  have hxl := HX.out.box.lt
  have y0 := HX.out.k
  have y1 := HX.out.l
  have y2 := HX.out.m
  have hg := HX.out.hg
  have hg2 := HX.out.hg2
  have hc := HX.out.c.1
  have hc2 := HX.out.c2.1
  have hct := HX.out.c.2
  have hct2 := HX.out.c2.2
  clear HX
  go_wp2
  go_ret
  exact ⟨rfl, HB6.out⟩
end Go.Proofs.YtbngjlkmpdccjaaGreatDoor
namespace Go.Proofs.YtbngjlkmpdccjaaGreatDoor
open Go Go.RowKit Go.Proofs Th
attribute [local go_sem] Above.cell
theorem run_slice_high {P : Program} {w : World} {t e : TypeId} {size : Nat} (ht : P.underlying t = some (.slice e)) (hsz : (sizeOf e).run P w = .ok size w) (A : Option Addr) (n c p : Nat) (hp : p ≤ c) :
    (Instr.slice t (.slice A n c) none (some (.int .i64 p)) none).run P w = .ok (.slice (if c = 0 then A else A.map (·.add (0 * size))) p c) w := by
  simp [Instr.slice, Instr.sliceBounds, Instr.sliceBound, run_underlying ht, asIntOf, hp, hsz]
theorem run_slice_low {P : Program} {w : World} {t e : TypeId} {size : Nat} (ht : P.underlying t = some (.slice e)) (hsz : (sizeOf e).run P w = .ok size w) (A : Option Addr) (n c p : Nat) (hp : p ≤ n) :
    (Instr.slice t (.slice A n c) (some (.int .i64 p)) none none).run P w = .ok (.slice (if c = p then A else A.map (·.add (p * size))) (n - p) (c - p)) w := by
  simp [Instr.slice, Instr.sliceBounds, Instr.sliceBound, run_underlying ht, asIntOf, hp, hsz]
theorem op_slice_high {P : Program} {o : Oper} {a : Act} {w : World} {K : Act → World → Prop} {Q : Exit → Act → World → Prop} {t e : TypeId} {size : Nat} (x y : Operand) (ho : o.op = .slice t x none (some y) none) (ht : P.underlying t = some (.slice e)) (hsz : (sizeOf e).run P w = .ok size w)
    (A : Option Addr) (n c p : Nat) (hp : p ≤ c) (hx : a.eval x = .slice A n c) (hy : a.eval y = .int .i64 p) (hK : K (a.put o.dst (.slice (if c = 0 then A else A.map (·.add (0 * size))) p c)) w) : Oper.wp P o a w K Q := by
  refine op_val _ ?_ hK
  have := run_slice_high ht hsz A n c p hp
  simp only [execOp, ho, Instr.sliceAt, hx, hy, Option.map_some, Option.map_none, Sem.run_bind, run_underlying ht, Result.andThen_ok, this]
  rfl
theorem op_slice_low {P : Program} {o : Oper} {a : Act} {w : World} {K : Act → World → Prop} {Q : Exit → Act → World → Prop} {t e : TypeId} {size : Nat} (x y : Operand) (ho : o.op = .slice t x (some y) none none) (ht : P.underlying t = some (.slice e)) (hsz : (sizeOf e).run P w = .ok size w)
    (A : Option Addr) (n c p : Nat) (hp : p ≤ n) (hx : a.eval x = .slice A n c) (hy : a.eval y = .int .i64 p) (hK : K (a.put o.dst (.slice (if c = p then A else A.map (·.add (p * size))) (n - p) (c - p))) w) : Oper.wp P o a w K Q := by
  refine op_val _ ?_ hK
  have := run_slice_low ht hsz A n c p hp
  simp only [execOp, ho, Instr.sliceAt, hx, hy, Option.map_some, Option.map_none, Sem.run_bind, run_underlying ht, Result.andThen_ok, this]
  rfl
theorem sizeOf_str (w : World) : (sizeOf 9).run Tryz.prog w = .ok 1 w := by kernel_rfl
theorem sizeOf_val (w : World) : (sizeOf 28).run Tryz.prog w = .ok 6 w := by kernel_rfl
theorem StrsIn.high {w : World} {S : Nat → Prop} {A : Option Addr} {c : Nat} {ks : List ByteArray} (h : StrsIn w S A c ks) (p : Nat) (hp : p ≤ ks.length) : StrsIn w S (if c = 0 then A else A.map (·.add (0 * 1))) c (ks.take p) := by
  have e : (if c = 0 then A else A.map (·.add (0 * 1))) = A := by
    split
    · rfl
    · cases A with
      | none => rfl
      | some a => simp [Addr.add]
  rw [e]
  refine ⟨by have := h.le; rw [List.length_take]; omega, by have := h.cap; rw [List.length_take]; omega, h.top, fun k hk => h.small k (List.mem_of_mem_take hk), fun hn => ?_⟩
  rw [List.length_take] at hn
  obtain ⟨g, o, ea, hg, hc⟩ := h.at_ (by omega)
  exact ⟨g, o, ea, hg, fun j hj => by rw [List.length_take] at hj; rw [List.getElem_take]; exact hc j (by omega)⟩
theorem StrsIn.low {w : World} {S : Nat → Prop} {A : Option Addr} {c : Nat} {ks : List ByteArray} (h : StrsIn w S A c ks) (p : Nat) (hp : p ≤ ks.length) : StrsIn w S (if c = p then A else A.map (·.add (p * 1))) (c - p) (ks.drop p) := by
  refine ⟨by have := h.le; rw [List.length_drop]; omega, by have := h.cap; rw [List.length_drop]; omega, by have := h.top; omega, fun k hk => h.small k (List.mem_of_mem_drop hk), fun hn => ?_⟩
  rw [List.length_drop] at hn
  obtain ⟨g, o, rfl, hg, hc⟩ := h.at_ (by omega)
  have := h.le
  rw [if_neg (by omega)]
  refine ⟨g, o + p, by simp [Addr.add], hg, fun j hj => ?_⟩
  rw [List.length_drop] at hj
  rw [List.getElem_drop, Nat.add_assoc]
  exact hc (p + j) (by omega)
structure ValsFrom (W : World) (S T : Nat → Prop) (A : Option Addr) (c : Nat) (l : List JV) : Prop where
  le : l.length ≤ c
  cap : l.length ≤ 140737488351232
  top : c ≤ 9223372036854775807
  at_ : ∀ j (h : j < l.length), ∃ g o cs, A = some ⟨g, o, none⟩ ∧ T g ∧ (∀ i v, cs[i]? = some v → W.cell? ⟨g, o + j * 6 + i, none⟩ = some v) ∧ JIn W S l[j] cs
theorem ValsFrom.keep {W W' : World} {S T S' T' : Nat → Prop} {A : Option Addr} {c : Nat} {l : List JV} (h : ValsFrom W S T A c l) (hb : ∀ g, S g → W'.heap[g]? = W.heap[g]?) (hb2 : ∀ g, T g → W'.heap[g]? = W.heap[g]?) (hS : ∀ g, S g → S' g) (hT : ∀ g, T g → T' g) : ValsFrom W' S' T' A c l :=
  ⟨h.le, h.cap, h.top, fun j hj => by
    obtain ⟨g, o, cs, e, hg, hc, hJ⟩ := h.at_ j hj
    exact ⟨g, o, cs, e, hT g hg, fun i v hv => (cell_block (hb2 g hg)).trans (hc i v hv), hJ.keep hb hS⟩⟩
theorem ValsFrom.high {w : World} {S T : Nat → Prop} {A : Option Addr} {c : Nat} {l : List JV} (h : ValsFrom w S T A c l) (p : Nat) (hp : p ≤ l.length) : ValsFrom w S T (if c = 0 then A else A.map (·.add (0 * 6))) c (l.take p) := by
  have e : (if c = 0 then A else A.map (·.add (0 * 6))) = A := by
    split
    · rfl
    · cases A with
      | none => rfl
      | some a => simp [Addr.add]
  rw [e]
  refine ⟨by have := h.le; rw [List.length_take]; omega, by have := h.cap; rw [List.length_take]; omega, h.top, fun j hj => ?_⟩
  rw [List.length_take] at hj
  rw [List.getElem_take]
  exact h.at_ j (by omega)
theorem ValsFrom.low {w : World} {S T : Nat → Prop} {A : Option Addr} {c : Nat} {l : List JV} (h : ValsFrom w S T A c l) (p : Nat) (hp : p ≤ l.length) : ValsFrom w S T (if c = p then A else A.map (·.add (p * 6))) (c - p) (l.drop p) := by
  refine ⟨by have := h.le; rw [List.length_drop]; omega, by have := h.cap; rw [List.length_drop]; omega, by have := h.top; omega, fun j hj => ?_⟩
  rw [List.length_drop] at hj
  obtain ⟨g, o, cs, rfl, hg, hc, hJ⟩ := h.at_ (p + j) (by omega)
  have := h.le
  rw [if_neg (by omega), List.getElem_drop]
  refine ⟨g, o + p * 6, cs, by simp [Addr.add], hg, fun i v hv => ?_, hJ⟩
  have := hc i v hv
  rw [Nat.add_mul] at this
  rw [Nat.add_assoc o]; exact this
theorem OwnV.from_ {w : World} {base : Nat} {S T : Nat → Prop} {A : Option Addr} {n c : Nat} {l : List JV} (h : OwnV w base S (.slice A n c) l) (hl : l.length ≤ 140737488351232) (ho : ∀ k, (Value.slice A n c).ownBlock = some k → T k) : n = l.length ∧ ValsFrom w S T A c l := by
  obtain ⟨A', c', e, h1, h2⟩ := h.form
  injection e with e1 e2 e3
  subst e1 e2 e3
  refine ⟨rfl, h1, hl, h2, fun j hj => ?_⟩
  obtain ⟨xs, h3, h4⟩ := h.ex
  have h3' := h3
  obtain ⟨hx, ⟨_, h0⟩ | ⟨g, cap, cur, e, _, _, _⟩⟩ := h3
  · omega
  · injection e with e1 _ e3
    subst e1
    refine ⟨g, 0, _, rfl, ho g rfl, fun i v hv => ?_, h4 j hj⟩
    have hi : i < 6 := by
      have := (List.getElem?_eq_some_iff.1 hv).1
      rw [List.length_take] at this; omega
    have hc := World.ownsRow.cells h3' (g := g) rfl (j * 6 + i) v (by rw [List.getElem?_take_of_lt hi, List.getElem?_drop] at hv; exact hv)
    rw [add_at] at hc
    rw [← hc]; congr 2; omega
theorem ValsFrom.news {w : World} {S T : Nat → Prop} {ad : Addr} {c : Nat} {l : List JV} (h : ValsFrom w S T (some ad) c l) : ∀ n, n ≤ l.length → ∃ news : List Value, news.length = n * 6 ∧ (∀ j u, news[j]? = some u → w.cell? (ad.add j) = some u) ∧ (∀ u ∈ news, u.oneCell' = true) ∧ ∀ j (hj : j < l.length), j < n → JIn w S l[j] ((news.drop (j * 6)).take 6)
  | 0, _ => ⟨[], rfl, fun _ _ h => by simp at h, fun _ h => absurd h List.not_mem_nil, fun _ _ h => absurd h (Nat.not_lt_zero _)⟩
  | n + 1, hn => by
    obtain ⟨news, h1, h2, h3, h4⟩ := ValsFrom.news h n (by omega)
    obtain ⟨g, o, cs, e, hg, hc, hJ⟩ := h.at_ n (by omega)
    injection e with e
    subst e
    obtain ⟨h6, h7⟩ := hJ.six
    refine ⟨news ++ cs, by rw [List.length_append, h1, h6]; omega, fun j u hu => ?_, fun u hu => (List.mem_append.1 hu).elim (h3 u) (h7 u), fun j hj hjn => ?_⟩
    · by_cases hj : j < news.length
      · rw [List.getElem?_append_left hj] at hu
        exact h2 j u hu
      · rw [List.getElem?_append_right (by omega)] at hu
        have := hc _ _ hu
        rw [add_at]
        rw [h1] at this
        rw [← this]; congr 2; omega
    · by_cases hlt : j < n
      · rw [List.drop_append_of_le_length (by omega), List.take_append_of_le_length (by rw [List.length_drop]; omega)]
        exact h4 j hj hlt
      · obtain rfl : j = n := by omega
        rw [← h1, List.drop_append_of_le_length (Nat.le_refl _), List.drop_length, List.nil_append, List.take_of_length_le (by omega)]
        exact hJ
set_option maxRecDepth 100000 in
/-- append of many values -/
theorem run_append_vals_many {w : World} (ty : TypeId) (base : Nat) (S T : Nat → Prop) (v : Value) (l : List JV) (hown : OwnV w base S v l) (A : Option Addr) (c : Nat) (es : List JV) (hr : ValsFrom w S T A c es)
    (hl : l.length + es.length ≤ 1000000000) (hbase : base ≤ w.heap.size) (hnot : ∀ k, v.ownBlock = some k → ¬ S k) (hS : ∀ k, S k → k < w.heap.size) :
    ∃ v' w', (Builtin.append_ #[25, 25] ty #[v, .slice A es.length c]).run Tryz.prog w = .ok v' w' ∧ OwnV w' base S v' (l ++ es) ∧ w.grownBy w' v.ownBlock ∧ (v'.ownBlock = v.ownBlock ∨ v'.ownBlock = some w.heap.size) := by
  obtain ⟨i, hi, hz, hsize, hby⟩ := info_parts vals_info
  have ht := Tryz.underlying25
  cases A with
  | none =>
    have hes : es = [] := by
      cases es with
      | nil => rfl
      | cons a b => obtain ⟨_, _, _, h, _⟩ := hr.at_ 0 (by simp); cases h
    subst hes
    refine ⟨v, w, ?_, by simpa using hown, ⟨rfl, rfl, rfl, Nat.le_refl _, fun _ _ _ => rfl⟩, Or.inl rfl⟩
    obtain ⟨xs, h1, _⟩ := hown.ex
    rcases h1.2 with ⟨rfl, hx⟩ | ⟨g, cap, cur, rfl, _, _, hnc, _⟩
    · simp [Builtin.append_, run_underlying ht, sizeOf, typeInfo, hi, Builtin.lenOf, Builtin.firstCells]
    · simp [Builtin.append_, run_underlying ht, sizeOf, typeInfo, hi, Builtin.lenOf, Builtin.firstCells, hnc, storeCells]
  | some ad =>
    obtain ⟨news, n1, n2, n3, n4⟩ := hr.news es.length (Nat.le_refl _)
    obtain ⟨xs, h1, h2⟩ := hown.ex
    obtain ⟨v', w', hrun, h3, h4, _, h5⟩ := run_append_own_at (P := Tryz.prog) w base 25 ty 28 i _ 6 88 ht hi hz hsize hby rfl (by omega) v l.length xs h1 ad es.length c news n1 n2 n3 (by simp [maxLen]; omega) (by omega) hbase
    have hb : ∀ g, S g → w'.heap[g]? = w.heap[g]? := fun g hg => h4.block g (hS g hg) (fun e => hnot g e.symm hg)
    refine ⟨v', w', hrun, ⟨xs ++ news, by rw [List.length_append]; exact h3, fun j hj => ?_⟩, h4, h5⟩
    have hx : xs.length = l.length * 6 := h1.1
    by_cases hlt : j < l.length
    · rw [List.getElem_append_left hlt, List.drop_append_of_le_length (by omega), List.take_append_of_le_length (by rw [List.length_drop]; omega)]
      exact (h2 j hlt).keep hb (fun _ h => h)
    · rw [List.length_append] at hj
      rw [List.getElem_append_right (by omega), List.drop_append, List.drop_of_length_le (by omega), List.nil_append]
      have := n4 (j - l.length) (by omega) (by omega)
      rw [show j * 6 - xs.length = (j - l.length) * 6 by rw [hx, Nat.sub_mul]]
      exact this.keep hb (fun _ h => h)
theorem op_append_vals_many {w : World} {o : Oper} {a : Act} {K : Act → World → Prop} {Q : Exit → Act → World → Prop} (s x : Operand)
    (ho : o.op = .call { callee := .builtin .append, args := #[s, x], argTypes := #[25, 25] })
    (base : Nat) (S T : Nat → Prop) (v : Value) (l : List JV) (hs : a.eval s = v) (hown : OwnV w base S v l) (A : Option Addr) (n c : Nat) (es : List JV) (hn : n = es.length) (hx : a.eval x = .slice A n c) (hr : ValsFrom w S T A c es)
    (hl : l.length + es.length ≤ 1000000000) (hbase : base ≤ w.heap.size) (hnot : ∀ k, v.ownBlock = some k → ¬ S k) (hS : ∀ k, S k → k < w.heap.size)
    (h : ∀ v' w', OwnV w' base S v' (l ++ es) → w.grownBy w' v.ownBlock → (v'.ownBlock = v.ownBlock ∨ v'.ownBlock = some w.heap.size) → K (a.put o.dst v') w') : Oper.wp Tryz.prog o a w K Q := by
  subst hn
  obtain ⟨v', w', hrun, h2, h3, h4⟩ := run_append_vals_many (w := w) o.type base S T v l hown A c es hr hl hbase hnot hS
  unfold Oper.wp execOp
  simp only [ho, resolve, invoke, builtin, Sem.run_bind, Sem.run_pure, Result.andThen_ok, List.map_toArray, List.map_cons, List.map_nil, hs, hx, hrun]
  exact h _ _ h2 h3 h4
theorem OwnV.fresh {w : World} {base g : Nat} {S : Nat → Prop} (h : w.heap[g]? = some (.cells #[] 28 (0, 0))) (hg : base ≤ g) : OwnV w base S (.slice (some ⟨g, 0, none⟩) 0 0) [] :=
  ⟨[], ⟨rfl, Or.inr ⟨g, 0, #[], rfl, hg, h, Nat.le_refl _, by simp [maxLen], rfl, rfl⟩⟩, fun _ h => absurd h (Nat.not_lt_zero _)⟩
def sixAt (W : World) (g o : Nat) (b0 b1 b2 b3 b4 b5 : Value) : World := (((((W.setCell ⟨g, o, none⟩ b0).setCell ⟨g, o + 1, none⟩ b1).setCell ⟨g, o + 2, none⟩ b2).setCell ⟨g, o + 3, none⟩ b3).setCell ⟨g, o + 4, none⟩ b4).setCell ⟨g, o + 5, none⟩ b5
theorem sixAt_other (W : World) (g o : Nat) (b0 b1 b2 b3 b4 b5 : Value) (p : Nat) (h : p ≠ g) : (sixAt W g o b0 b1 b2 b3 b4 b5).heap[p]? = W.heap[p]? := by
  unfold sixAt
  repeat rw [Below.heap_setCell _ _ _ p h]
theorem sixAt_below (W : World) (g o : Nat) (b0 b1 b2 b3 b4 b5 : Value) {B : Nat} (h : B ≤ g) : Below B W (sixAt W g o b0 b1 b2 b3 b4 b5) := by
  have h0 : Below B W W := Below.refl _ _
  exact (((((h0.setCell (p := ⟨g, o, none⟩) h b0).setCell (p := ⟨g, o + 1, none⟩) h b1).setCell (p := ⟨g, o + 2, none⟩) h b2).setCell (p := ⟨g, o + 3, none⟩) h b3).setCell (p := ⟨g, o + 4, none⟩) h b4).setCell (p := ⟨g, o + 5, none⟩) h b5
theorem sixAt_block (W : World) (g o : Nat) (b0 b1 b2 b3 b4 b5 : Value) (cur : Array Value) (t : TypeId) (h : W.heap[g]? = some (.cells cur t (0, 0))) :
    (sixAt W g o b0 b1 b2 b3 b4 b5).heap[g]? = some (.cells ((((((cur.setIfInBounds o b0).setIfInBounds (o + 1) b1).setIfInBounds (o + 2) b2).setIfInBounds (o + 3) b3).setIfInBounds (o + 4) b4).setIfInBounds (o + 5) b5) t (0, 0)) := by
  unfold sixAt
  have h0 := heap_setCell_same W g o cur _ b0 h
  have h1 := heap_setCell_same _ g (o + 1) _ _ b1 h0
  have h2 := heap_setCell_same _ g (o + 2) _ _ b2 h1
  have h3 := heap_setCell_same _ g (o + 3) _ _ b3 h2
  have h4 := heap_setCell_same _ g (o + 4) _ _ b4 h3
  exact heap_setCell_same _ g (o + 5) _ _ b5 h4
def setSix (xs : List Value) (o : Nat) (b0 b1 b2 b3 b4 b5 : Value) : List Value := (((((xs.set o b0).set (o + 1) b1).set (o + 2) b2).set (o + 3) b3).set (o + 4) b4).set (o + 5) b5
theorem setSix_len (xs : List Value) (o : Nat) (b0 b1 b2 b3 b4 b5 : Value) : (setSix xs o b0 b1 b2 b3 b4 b5).length = xs.length := by simp [setSix]
theorem setSix_other (xs : List Value) (o : Nat) (b0 b1 b2 b3 b4 b5 : Value) (k : Nat) (h : k < o ∨ o + 6 ≤ k) : (setSix xs o b0 b1 b2 b3 b4 b5)[k]? = xs[k]? := by
  unfold setSix
  rw [List.getElem?_set_ne (by omega), List.getElem?_set_ne (by omega), List.getElem?_set_ne (by omega), List.getElem?_set_ne (by omega), List.getElem?_set_ne (by omega), List.getElem?_set_ne (by omega)]
theorem setSix_in (xs : List Value) (o : Nat) (b0 b1 b2 b3 b4 b5 : Value) (h : o + 6 ≤ xs.length) : ((setSix xs o b0 b1 b2 b3 b4 b5).drop o).take 6 = [b0, b1, b2, b3, b4, b5] := by
  refine List.ext_getElem? fun i => ?_
  by_cases hi : i < 6
  · rw [List.getElem?_take_of_lt hi, List.getElem?_drop]
    unfold setSix
    match i, hi with
    | 0, _ => simp [List.getElem?_set]; omega
    | 1, _ => simp [List.getElem?_set]; omega
    | 2, _ => simp [List.getElem?_set]; omega
    | 3, _ => simp [List.getElem?_set]; omega
    | 4, _ => simp [List.getElem?_set]; omega
    | 5, _ => simp [List.getElem?_set]; omega
  · rw [List.getElem?_eq_none (by rw [List.length_take]; omega), List.getElem?_eq_none (by simp; omega)]
theorem OwnV.set {w : World} {base g n c : Nat} {S : Nat → Prop} {L : List JV} (h : OwnV w base S (.slice (some ⟨g, 0, none⟩) n c) L) (p : Nat) (hp : p < L.length) (t : JV) (b0 b1 b2 b3 b4 b5 : Value) (hJ : JIn w S t [b0, b1, b2, b3, b4, b5]) (hg : ¬ S g) :
    OwnV (sixAt w g (p * 6) b0 b1 b2 b3 b4 b5) base S (.slice (some ⟨g, 0, none⟩) n c) (L.set p t) := by
  obtain ⟨xs, h1, h2⟩ := h.ex
  have hk : ∀ q, S q → (sixAt w g (p * 6) b0 b1 b2 b3 b4 b5).heap[q]? = w.heap[q]? := fun q hq => sixAt_other _ _ _ _ _ _ _ _ _ q (fun e => hg (e ▸ hq))
  have hxl : xs.length = L.length * 6 := h1.1
  refine ⟨setSix xs (p * 6) b0 b1 b2 b3 b4 b5, ?_, fun j hj => ?_⟩
  · obtain ⟨hx, ⟨e, _⟩ | ⟨g', cap, cur, e, hb, hh, h3, h4, h5, h6⟩⟩ := h1
    · cases e
    · injection e with e1 e2 e3
      injection e1 with e1
      injection e1 with e1 _ _
      subst e1 e3
      refine ⟨by rw [setSix_len, List.length_set]; exact hx, Or.inr ⟨g, c, _, by rw [List.length_set, e2], hb, sixAt_block _ _ _ _ _ _ _ _ _ _ _ hh, by rw [List.length_set]; exact h3, h4, by simpa using h5, ?_⟩⟩
      rw [← h6]
      simp only [Array.toList_setIfInBounds, List.take_set, setSix, List.length_set]
  · rw [List.length_set] at hj
    by_cases hjp : p = j
    · subst hjp
      rw [List.getElem_set_self, setSix_in _ _ _ _ _ _ _ _ (by omega)]
      exact hJ.keep hk (fun _ h => h)
    · rw [List.getElem_set_ne hjp]
      have : ((setSix xs (p * 6) b0 b1 b2 b3 b4 b5).drop (j * 6)).take 6 = (xs.drop (j * 6)).take 6 := by
        refine List.ext_getElem? fun i => ?_
        by_cases hi : i < 6
        · rw [List.getElem?_take_of_lt hi, List.getElem?_drop, List.getElem?_take_of_lt hi, List.getElem?_drop, setSix_other]
          omega
        · rw [List.getElem?_eq_none (by rw [List.length_take]; omega), List.getElem?_eq_none (by rw [List.length_take]; omega)]
      rw [this]
      exact (h2 j hj).keep hk (fun _ h => h)
theorem ValsFrom.elem {W : World} {S T : Nat → Prop} {A : Option Addr} {c : Nat} {l : List JV} (h : ValsFrom W S T A c l) (j : Nat) (hj : j < l.length) :
    ∃ g o k m e s A1 n1 c1 A2 n2 c2, A = some ⟨g, o, none⟩ ∧ T g ∧ JIn W S l[j] (cells6 k m e s A1 n1 c1 A2 n2 c2) ∧
      W.cell? ⟨g, o + j * 6, none⟩ = some (.int .i64 k) ∧ W.cell? ⟨g, o + j * 6 + 1, none⟩ = some (.int .i64 m) ∧ W.cell? ⟨g, o + j * 6 + 2, none⟩ = some (.int .i64 e) ∧
      W.cell? ⟨g, o + j * 6 + 3, none⟩ = some (.string s) ∧ W.cell? ⟨g, o + j * 6 + 4, none⟩ = some (.slice A1 n1 c1) ∧ W.cell? ⟨g, o + j * 6 + 5, none⟩ = some (.slice A2 n2 c2) := by
  obtain ⟨g, o, cs, ea, hg, hc, hJ⟩ := h.at_ j hj
  obtain ⟨k, m, e, s, A1, n1, c1, A2, n2, c2, rfl⟩ := hJ.cells
  exact ⟨g, o, k, m, e, s, A1, n1, c1, A2, n2, c2, ea, hg, hJ, hc 0 _ rfl, hc 1 _ rfl, hc 2 _ rfl, hc 3 _ rfl, hc 4 _ rfl, hc 5 _ rfl⟩
end Go.Proofs.YtbngjlkmpdccjaaGreatDoor
