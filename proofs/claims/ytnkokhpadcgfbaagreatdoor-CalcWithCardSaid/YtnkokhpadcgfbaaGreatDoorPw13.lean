/- Lemmas and contracts for the laws CalcWith, part 13 of 50: Slice, Fmt. Conditions: those that each lemma names. -/
import Derived.Test.YtnkokhpadcgfbaaGreatDoorPw12
import Derived.Test.YtnkokhpadcgfbaaGreatDoorPw2
import Derived.Test.YtnkokhpadcgfbaaGreatDoorPw5
import Derived.Test.YtnkokhpadcgfbaaGreatDoorPw6
import Derived.Maps.AppendAt
import Derived.Deep.AppendLies
import Derived.OwnWalk
import Derived.Sort.Grow
namespace Go.Proofs.YtnkokhpadcgfbaaGreatDoor
open Go Go.RowKit Go.Proofs Th
structure Box (w : World) (g : Nat) (cs : List Value) : Prop where
  cell : ∀ i v, cs[i]? = some v → w.cell? ⟨g, i, none⟩ = some v
  froz : ∀ i, w.frozen? ⟨g, i, none⟩ = false
  lt : g < w.heap.size
theorem Box.below {w w' : World} {g B : Nat} {cs : List Value} (h : Box w g cs) (hb : Below B w w') (hg : g < B) : Box w' g cs :=
  ⟨fun i v hv => (hb.cell (p := ⟨g, i, none⟩) hg).trans (h.cell i v hv), fun i => (hb.frozen (p := ⟨g, i, none⟩) hg).trans (h.froz i), Nat.lt_of_lt_of_le h.lt hb.size⟩
theorem Box.alloc {w : World} {g : Nat} {cs : List Value} (h : Box w g cs) (o : Obj) : Box (w.alloc o) g cs := h.below ((Below.refl _ _).alloc (Nat.le_refl _) _) h.lt
theorem Box.new {w : World} {n : Nat} (cs : List Value) (t : TypeId) (h : w.heap.size = n) : Box (w.alloc (.cells cs.toArray t)) n cs := by
  subst h
  refine ⟨fun i v hv => ?_, fun i => ?_, by simp⟩
  · simp [go_sem, hv]
  · simp [go_sem]
theorem Box.other {w : World} {g m o : Nat} {cs : List Value} (h : Box w g cs) (hm : m ≠ g) (v : Value) : Box (w.setCell ⟨m, o, none⟩ v) g cs := by
  refine ⟨fun i u hu => ?_, fun i => ?_, by simpa using h.lt⟩
  · rw [World.cell?_setCell_other _ _ _ _ (by intro e; injection e; omega)]; exact h.cell i u hu
  · rw [World.frozen?_setCell]; exact h.froz i
theorem Box.set {w : World} {g i : Nat} {cs : List Value} (h : Box w g cs) (hi : i < cs.length) (v : Value) : Box (w.setCell ⟨g, i, none⟩ v) g (cs.set i v) := by
  refine ⟨fun j u hu => ?_, fun j => ?_, by simpa using h.lt⟩
  · by_cases e : i = j
    · subst e
      have hu' : v = u := by simpa [hi] using hu
      subst hu'
      have := h.cell i _ (List.getElem?_eq_getElem hi)
      exact World.cell?_setCell_same _ _ _ this
    · rw [World.cell?_setCell_other _ _ _ _ (by intro e'; injection e' with e1 e2; exact e e2)]
      exact h.cell j u (by rwa [List.getElem?_set_ne e] at hu)
  · rw [World.frozen?_setCell]; exact h.froz j
theorem below_set {w : World} {B g o : Nat} (hg : B ≤ g) (v : Value) : Below B w (w.setCell ⟨g, o, none⟩ v) := by
  have h : Below B w w := Below.refl _ _
  exact h.setCell (p := ⟨g, o, none⟩) hg v
theorem IntsAt.set {w : World} {B c : Nat} {A : Option Addr} {ds : List Nat} (h : IntsAt w B A c ds) {g o : Nat} (hg : B ≤ g) (v : Value) : IntsAt (w.setCell ⟨g, o, none⟩ v) B A c ds :=
  h.below (below_set hg v) (Nat.le_refl _)
def longV (neg : Bool) (A : Option Addr) (c : Nat) (ds : List Nat) (e : Int) : Value := .agg #[.bool neg, .slice A ds.length c, .int .i64 e]
theorem add_at (g o j : Nat) : (⟨g, o, none⟩ : Addr).add j = ⟨g, o + j, none⟩ := by
  unfold Addr.add
  split
  · rename_i h; subst h; rfl
  · rfl
def iv (d : Nat) : Value := .int .i64 (d : Int)
theorem iv_one (ds : List Nat) : ∀ u ∈ ds.map iv, u.oneCell' = true := by
  intro u hu
  obtain ⟨d, _, rfl⟩ := List.mem_map.1 hu
  rfl
def OwnInts (w : World) (base : Nat) (v : Value) (ds : List Nat) : Prop := w.ownsRow base 3 1 v ds.length (ds.map iv)
theorem OwnInts.nil (w : World) (base : Nat) : OwnInts w base (.slice none 0 0) [] := World.ownsRow_nil w base _ 1
theorem OwnInts.ints {w : World} {base : Nat} {v : Value} {ds : List Nat} (h : OwnInts w base v ds) : ∃ A c, v = .slice A ds.length c ∧ IntsAt w w.heap.size A c ds := by
  have h' := h
  obtain ⟨_, ⟨rfl, h0⟩ | ⟨g, cap, cur, rfl, hb, hh, hn, hm, hs, ht⟩⟩ := h
  · have : ds = [] := List.eq_nil_of_length_eq_zero h0
    subst this
    exact ⟨none, 0, rfl, Nat.le_refl _, by simp [maxLen], fun hp => absurd hp (by simp)⟩
  · have hlt : g < w.heap.size := by
      rcases Nat.lt_or_ge g w.heap.size with h1 | h1
      · exact h1
      · rw [Array.getElem?_eq_none h1] at hh; cases hh
    refine ⟨some ⟨g, 0, none⟩, cap, rfl, hn, hm, fun _ => ⟨g, 0, rfl, hlt, fun j hj => ?_⟩⟩
    have := World.ownsRow.cells h' (g := g) rfl j (iv ds[j]) (by simp [hj])
    rw [add_at] at this
    exact this
theorem OwnInts.read {w : World} {base n c : Nat} {A : Option Addr} {ds : List Nat} (h : OwnInts w base (.slice A n c) ds) : IntsAt w w.heap.size A c ds := by
  obtain ⟨A', c', e, hI⟩ := h.ints
  injection e with e1 e2 e3
  subst e1 e3
  exact hI
theorem OwnInts.set {w : World} {base g o : Nat} {v : Value} {ds : List Nat} (h : OwnInts w base v ds) (hg : g < base) (x : Value) : OwnInts (w.setCell ⟨g, o, none⟩ x) base v ds :=
  World.ownsRow.kept (row := some g) h ⟨rfl, rfl, rfl, by simp, fun k _ hk => Below.heap_setCell w ⟨g, o, none⟩ x k (fun e => hk (by rw [e]))⟩ (by
    cases hv : v.ownBlock with
    | none => exact Or.inl rfl
    | some k => right; intro e; injection e with e; subst e; have := (World.ownsRow.lt h _ hv).1; omega)
theorem OwnInts.one {w : World} {n base : Nat} (d : Nat) (h : w.heap.size = n) (hb : base ≤ n) : OwnInts (w.alloc (.cells #[.int .i64 d] 3)) base (.slice (some ⟨n, 0, none⟩) 1 1) [d] := by
  subst h
  exact ⟨rfl, Or.inr ⟨w.heap.size, 1, _, rfl, hb, heap_alloc_new w _, Nat.le_refl _, by simp [maxLen], rfl, rfl⟩⟩
theorem int_info : (Tryz.prog.info? 3).map (fun i => (i.zero, i.size, i.bytes)) = some (some (.int .i64 0), 1, 8) := by kernel_rfl
set_option maxRecDepth 100000 in
/-- append of a slice that reads onto a slice of the call's own -/
theorem run_append_ints {w : World} (ty : TypeId) (base : Nat) (v : Value) (ds : List Nat) (hown : OwnInts w base v ds) (B : Nat) (A : Option Addr) (c : Nat) (es : List Nat) (hr : IntsAt w B A c es)
    (hl : ds.length + es.length ≤ 1000000) (hbase : base ≤ w.heap.size) :
    ∃ v' w', (Builtin.append_ #[160, 160] ty #[v, .slice A es.length c]).run Tryz.prog w = .ok v' w' ∧ OwnInts w' base v' (ds ++ es) ∧ Below base w w' := by
  obtain ⟨i, hi, hz, hsize, hby⟩ := info_parts int_info
  have ht := Tryz.underlying160
  cases A with
  | none =>
    have hes : es = [] := by
      cases es with
      | nil => rfl
      | cons a b => obtain ⟨_, _, h, _⟩ := hr.at_ (by simp); cases h
    subst hes
    refine ⟨v, w, ?_, by simpa using hown, Below.refl _ _⟩
    rcases hown.2 with ⟨rfl, hx⟩ | ⟨g, cap, cur, rfl, _, _, hnc, _⟩
    · simp [Builtin.append_, run_underlying ht, sizeOf, typeInfo, hi, Builtin.lenOf, Builtin.firstCells]
    · simp [Builtin.append_, run_underlying ht, sizeOf, typeInfo, hi, Builtin.lenOf, Builtin.firstCells, hnc, storeCells]
  | some ad =>
    have hcells : ∀ j u, (es.map iv)[j]? = some u → w.cell? (ad.add j) = some u := by
      intro j u hu
      have hj : j < es.length := by
        rcases Nat.lt_or_ge j es.length with h1 | h1
        · exact h1
        · rw [List.getElem?_eq_none (by simpa using h1)] at hu; cases hu
      obtain ⟨g, o, h, _, hc⟩ := hr.at_ (by omega)
      injection h with h
      subst h
      rw [add_at, hc j hj, ← hu]
      simp [hj, iv]
    obtain ⟨v', w', hrun, h2, h3, _, h5⟩ := run_append_own_at (P := Tryz.prog) w base 160 ty 3 i (.int .i64 0) 1 8 ht hi hz hsize hby rfl (by omega) v ds.length (ds.map iv) hown ad es.length c (es.map iv) (by simp) hcells (iv_one es) (by simp [maxLen]; omega) (by omega) hbase
    refine ⟨v', w', hrun, ?_, (Below.refl _ _).grown h3 hbase fun k hk => (World.ownsRow.lt hown k hk).1⟩
    unfold OwnInts
    rw [List.length_append, List.map_append]
    exact h2
theorem wpList_append_ints {w : World} {ops : Array Oper} {rest : List Oper} {o : Oper} {a : Act} {Q : Exit → Act → World → Prop} (hgd : o.guard = none) (s x : Operand)
    (ho : o.op = .call { callee := .builtin .append, args := #[s, x], argTypes := #[160, 160] })
    (base : Nat) (v : Value) (ds : List Nat) (hs : a.eval s = v) (hown : OwnInts w base v ds) (B : Nat) (A : Option Addr) (n c : Nat) (es : List Nat) (hn : n = es.length) (hx : a.eval x = .slice A n c) (hr : IntsAt w B A c es)
    (hl : ds.length + es.length ≤ 1000000) (hbase : base ≤ w.heap.size)
    (h : ∀ v' w', OwnInts w' base v' (ds ++ es) → Below base w w' → wpList Tryz.prog ops Q rest (a.put o.dst v') w') : wpList Tryz.prog ops Q (o :: rest) a w := by
  subst hn
  refine wpList_plain hgd fun K hK => ?_
  obtain ⟨v', w', hrun, h2, h3⟩ := run_append_ints (w := w) o.type base v ds hown B A c es hr hl hbase
  unfold Oper.wp execOp
  simp only [ho, resolve, invoke, builtin, Sem.run_bind, Sem.run_pure, Result.andThen_ok, List.map_toArray, List.map_cons, List.map_nil, hs, hx, hrun]
  exact hK _ _ (h v' w' h2 h3)
end Go.Proofs.YtnkokhpadcgfbaaGreatDoor
namespace Go.Proofs.YtnkokhpadcgfbaaGreatDoor
open Go Go.RowKit Go.Proofs Th Go.Sort
attribute [local go_sem] Above.cell
theorem below_grow (w : World) (k : Nat) (os : Array Obj) : Below w.heap.size w (grow (w.drewN k) os) :=
  ⟨rfl, rfl, rfl, by simp [grow, World.drewN], fun i hi => heap_grow_old (w.drewN k) os hi⟩
theorem holds_zero0 (w : World) (T : TypeId) (nd : Nat) (hs : nd ≤ 24) : Holds (fun (b : UInt8) => Value.int .u8 (b.toNat : Int)) (w.alloc (.cells Lib.zeros24 T)) w.heap.size 0 (Array.replicate nd (0 : UInt8)) := fun j hj => by
  have hj' : j < nd := by simpa using hj
  refine ⟨?_, World.frozen?_alloc_new _ _ _ _⟩
  rw [World.cell?_alloc_new, Lib.zeros24_at _ (by omega), getElem!_pos _ j hj]
  simp
theorem iformat_small (u : Nat) (hu : u < 100) (w : World) : Calls Tryz.prog 172 #[.int .u64 u, .int .i64 10] w fun r w' =>
    r = .returned (.string ⟨(Lib.decDigits u).toArray⟩) ∧ Below w.heap.size w w' := by
  go_enter Tryz.func172, Tryz.ntmps172
  go_wp2_with (go_at_call 213; refine (Tryz.internal_strconv_small u hu _).mono ?_; rintro e w' ⟨rfl, rfl⟩)
  go_ret
  exact ⟨rfl, Below.refl _ _⟩
set_option maxHeartbeats 1000000 in
set_option maxRecDepth 100000 in
theorem iformat_big (u : Nat) (hu : 100 ≤ u) (hu64 : u < 18446744073709551616) (w : World) (hg : GlobP w) : Calls Tryz.prog 172 #[.int .u64 u, .int .i64 10] w fun r w' =>
    r = .returned (.string ⟨(Lib.decDigits u).toArray⟩) ∧ Below w.heap.size w w' := by
  have hu1 : 1 ≤ u := by omega
  have hnd20 : Lib.nDigits u ≤ 20 := by have := Lib.numDigits_eq u hu1 hu64; split at this <;> omega
  have hal : Tryz.prog.arrayLen 224 = 24 := by kernel_rfl
  have hel : Tryz.prog.elem 224 = 5 := by kernel_rfl
  have hsl : ∀ W, (Instr.sliceAt 224 (.pointer (some ⟨w.heap.size, 0, none⟩)) none (some (.int .i64 (Lib.nDigits u : Int))) none).run Tryz.prog W = .ok (.slice (some ⟨w.heap.size, 0, none⟩) (Lib.nDigits u) 24) W := fun W => by
    rw [run_sliceAt_array_h W 224 ⟨w.heap.size, 0, none⟩ (by simp [Program.arrayLen, Program.elem, Tryz.underlying224]) .i64 (Lib.nDigits u : Int) (by omega) (by rw [hal]; omega), hal, hel, Tryz.sizeOf5]
    simp [slicedAt, Lib.add_plain]
  have hH0 := holds_zero0 w 224 (Lib.nDigits u) (by omega)
  have hfmt := Tryz.internal_strconv_formatBase10 w.heap.size 0 24 u (Array.replicate (Lib.nDigits u) 0) (w.alloc (.cells Lib.zeros24 224)) hH0 (by rw [Array.size_replicate]; exact Lib.lt_pow_nDigits u) hu64 (by rw [Array.size_replicate]; omega)
  rw [Array.size_replicate] at hfmt
  have HH0 := Keep.mk hH0
  have HU := Keep.mk hu64
  have HND := Keep.mk hnd20
  clear hH0 hal hel hu64 hnd20
  have hlt : ¬ u < 100 := by omega
  go_enter Tryz.func172, Tryz.ntmps172
  go_wp2_with (first
    | (go_at_call 214; refine (Tryz.internal_strconv_numDigits u hu1 HU.out _ (Lib.tabIs_alloc hg.pows _)).mono ?_; rintro e w' ⟨rfl, rfl⟩))
  go_at_call 215
  refine hfmt.mono ?_
  rintro e w' ⟨rfl, k, v', dk, rfl, hF⟩
  have hcv : (convert 104 9 (.slice (some ⟨w.heap.size, 0, none⟩) (Lib.nDigits u) 24)).run Tryz.prog ((putRow (fun (b : UInt8) => Value.int .u8 (b.toNat : Int)) (w.alloc (.cells Lib.zeros24 224)) w.heap.size 0 dk).drewN k) = .ok (.string ⟨(Lib.decDigits u).toArray⟩) ((putRow (fun (b : UInt8) => Value.int .u8 (b.toNat : Int)) (w.alloc (.cells Lib.zeros24 224)) w.heap.size 0 dk).drewN k) := by
    have h := run_convert_bytes_back (P := Tryz.prog) ((putRow (fun (b : UInt8) => Value.int .u8 (b.toNat : Int)) (w.alloc (.cells Lib.zeros24 224)) w.heap.size 0 dk).drewN k) 104 9 5 ⟨w.heap.size, 0, none⟩ 24 (Lib.decDigits u) Tryz.underlying104 Tryz.underlying5 Tryz.underlying9 (fun j hj => by
      rw [Lib.row_is_numeral hF j hj, Lib.add_plain, World.cell?_drewN]
      exact cell?_putRow (fun (b : UInt8) => Value.int .u8 (b.toNat : Int)) _ w.heap.size 0 _ dk HH0.out (by rw [hF.size, Array.size_replicate]) j (by rw [hF.size]; rw [Lib.decDigits_length] at hj; exact hj))
    rw [Lib.decDigits_length] at h
    exact h
  go_wp2
  go_ret
  refine ⟨rfl, ?_⟩
  rw [alloc_eq_grow]
  obtain ⟨os', _, e⟩ := putRow_grow_new (fun (b : UInt8) => Value.int .u8 (b.toNat : Int)) w #[.cells Lib.zeros24 224] w.heap.size 0 dk (Nat.le_refl _)
  rw [e]
  exact below_grow w k os'
theorem formatUint (u : Nat) (hu64 : u < 18446744073709551616) (w : World) (hg : GlobP w) : Calls Tryz.prog 119 #[.int .u64 u, .int .i64 10] w fun r w' =>
    r = .returned (.string ⟨(Lib.decDigits u).toArray⟩) ∧ Below w.heap.size w w' := by
  have key : Calls Tryz.prog 172 #[.int .u64 u, .int .i64 10] w fun r w' => r = .returned (.string ⟨(Lib.decDigits u).toArray⟩) ∧ Below w.heap.size w w' := by
    by_cases h : u < 100
    · exact iformat_small u h w
    · exact iformat_big u (by omega) hu64 w hg
  have KEY := Keep.mk key
  clear key hu64
  go_enter Tryz.func119, Tryz.ntmps119
  go_wp2_with fail
  refine KEY.out.mono ?_
  rintro e w' ⟨rfl, hb⟩
  go_wp2
  go_ret
  exact ⟨rfl, hb⟩
theorem itoa (n : Int) (h0 : -9223372036854775808 ≤ n) (h1 : n ≤ 9223372036854775807) (w : World) (hg : GlobP w) : Calls Tryz.prog 183 #[.int .i64 n] w fun r w' =>
    r = .returned (.string ⟨(Lib.itoa n).toArray⟩) ∧ Below w.heap.size w w' :=
  (Tryz.strconv_Itoa n h0 h1 w hg.pows).mono fun e w' ⟨he, k, os, hw⟩ => ⟨he, by rw [hw]; exact below_grow w k os⟩
theorem fmt_size (m e : Int) (hm : I64 m) (hr : right m e = true) : ∃ (A : Int) (S : ByteArray), (m.natAbs : Int) = A ∧ S = ⟨(Lib.decDigits m.natAbs).toArray⟩ ∧ S.size = nd m ∧
    (∀ w, Calls Tryz.prog 72 #[.agg #[.int .i64 m, .int .i64 e]] w fun r w' => r = .returned (.int .u64 A) ∧ Below w.heap.size w w') ∧
    (∀ w, GlobP w → Calls Tryz.prog 119 #[.int .u64 A, .int .i64 10] w fun r w' => r = .returned (.string S) ∧ Below w.heap.size w w') := by
  refine ⟨_, _, rfl, rfl, ?_, fun w => num_size m e hm.lo hm.hi w, fun w hg => formatUint m.natAbs (by have := right_size hr; omega) w hg⟩
  show (Lib.decDigits m.natAbs).toArray.size = _
  rw [List.size_toArray, Lib.decDigits_length]; rfl
theorem pow_le_of_nd (u : Nat) (h : u ≠ 0) : 10 ^ (Lib.nDigits u - 1) ≤ u := by
  induction u using Nat.strongRecOn with
  | _ u ih =>
    by_cases h9 : u < 10
    · rw [Lib.nDigits_small h9]; simp; omega
    · rw [Lib.nDigits_big h9, Nat.add_sub_cancel]
      have := ih (u / 10) (by omega) (by omega)
      have h1 : Lib.nDigits (u / 10) = (Lib.nDigits (u / 10) - 1) + 1 := by
        have : 1 ≤ Lib.nDigits (u / 10) := by
          by_cases h9' : u / 10 < 10
          · rw [Lib.nDigits_small h9']; omega
          · rw [Lib.nDigits_big h9']; omega
        omega
      rw [h1, Nat.pow_succ]
      omega
theorem nd_le {m e : Int} (h : right m e = true) : nd m ≤ 18 := by
  have h1 := right_size h
  unfold nd
  by_cases h0 : m.natAbs = 0
  · rw [h0, Lib.nDigits_small (by omega)]; omega
  · have h2 := Lib.numDigits_eq m.natAbs (by omega) (by omega)
    have h3 : Lib.nDigits m.natAbs ≤ 18 := by
      rcases Nat.lt_or_ge 18 (Lib.nDigits m.natAbs) with h4 | h4
      · exfalso
        have h5 := pow_le_of_nd m.natAbs (by omega)
        have h6 : (10 : Nat) ^ 18 ≤ 10 ^ (Lib.nDigits m.natAbs - 1) := Nat.pow_le_pow_right (by omega) (by omega)
        omega
      · exact h4
    exact h3
end Go.Proofs.YtnkokhpadcgfbaaGreatDoor
