/- Lemmas and contracts. Conditions: those that each lemma names. -/
import Derived.Test.YtakncilicoefdaaGreatDoorPz2
set_option maxRecDepth 100000
set_option maxHeartbeats 4000000
namespace Go.Proofs.YtakncilicoefdaaGreatDoor
open Go Go.RowKit Go.Proofs Th
theorem TO {P : Program} {w w' : World} {name : String} {k : IntKind} {zs : List Int} (h : Lib.TabIs P w name k zs) (b : Below w.heap.size w w') : Lib.TabIs P w' name k zs := by
 unfold Lib.TabIs World.var? at *; cases hg : P.globalNamed name with
 | none => simp [hg] at h
 | some g =>
  simp only [hg, Option.bind_some] at h ⊢; have hlt : g < w.heap.size := by
   rcases Nat.lt_or_ge g w.heap.size with h' | h'
   ·exact h'
   rw [Array.getElem?_eq_none h'] at h; simp at h
  rw [b.block g hlt]; exact h
structure Glob (w : World) : Prop where
 tens : ∀ i, i < 20 → w.cell? ⟨0, i, none⟩ = some (.int .u64 ((10 ^ i : Nat) : Int))
theorem Glob.below {w w' : World} (h : Glob w) (b : Below w.heap.size w w') : Glob w' :=
 ⟨fun i hi => (b.cell (BX (h.tens i hi))).trans (h.tens i hi)⟩
structure GlobP (w : World) : Prop where
 weak : Glob w
 pows : Lib.TabIs Tryz.prog w "internal/strconv.uint64pow10" .u64 Lib.pow10Tab
theorem GlobP.below {w w' : World} (h : GlobP w) (b : Below w.heap.size w w') : GlobP w' := ⟨h.weak.below b, TO h.pows b⟩
instance globP_weak (w : World) : Coe (GlobP w) (Glob w) := ⟨fun h => h.weak⟩
attribute [local go_sem] Above.cell
theorem Dj (w : World) : Calls Tryz.prog 81 #[] w fun e w' => e = .returned (.agg #[.int .i64 0, .int .i64 0]) ∧ Below w.heap.size w w' := by
 go_enter Tryz.func81, Tryz.ntmps81
 go_wp2
 refine bodyPost_ret (v := .agg #[.int .i64 0, .int .i64 0]) (by simp [results, Tryz.results81, go_sem]) rfl ⟨rfl, ?_⟩; exact (Below.refl _ _).alloc (Nat.le_refl _) _
theorem Rb {a b : Int} (h : a = b) : Ending.returned (.int .u64 a) = .returned (.int .u64 b) := by rw [h]
theorem OO (m e : Int) (h0 : -9223372036854775808 ≤ m) (h1 : m ≤ 9223372036854775807) (w : World) :
  Calls Tryz.prog 52 #[.agg #[.int .i64 m, .int .i64 e]] w fun r w' => r = .returned (.int .u64 m.natAbs) ∧ Below w.heap.size w w' := by
 by_cases h : m < 0
 ·have k : IntKind.u64.wrap (-IntKind.u64.wrap m) = m.natAbs := by rw [IntKind.wrap_u64, IntKind.wrap_u64]; omega
  have K := Lib.hid k; clear k; go_enter Tryz.func52, Tryz.ntmps52
  go_wp2
  go_ret
  exact ⟨Rb K.out, (Below.refl _ _).alloc (Nat.le_refl _) _⟩
 have k : IntKind.u64.wrap m = m.natAbs := by rw [IntKind.wrap_u64]; omega
 have K := Lib.hid k; clear k; go_enter Tryz.func52, Tryz.ntmps52
 go_wp2
 go_ret
 exact ⟨Rb (by omega), (Below.refl _ _).alloc (Nat.le_refl _) _⟩
theorem M3 (e : Int) (w : World) : Calls Tryz.prog 50 #[.agg #[.int .i64 0, .int .i64 e]] w fun r w' => r = .returned (.bool (e == 0)) ∧ Below w.heap.size w w' := by
 go_enter Tryz.func50, Tryz.ntmps50
 go_wp2
 refine A9 (by kernel_rfl) (by kernel_rfl) ?_; repeat (go_big_quiet_step ((go_at_call 81; exact FM (Dj _))))
 refine wpQuiet_nil ?_; rintro _ ⟨x, rfl⟩; go_wp2
 go_ret
 exact ⟨rfl, ((Below.refl _ _).alloc (Nat.le_refl _) _).trans (x.property.mono (by simp))⟩
theorem VI {a b : Bool} (h : a = b) : Ending.returned (.bool a) = .returned (.bool b) := by rw [h]
theorem N4 (m e : Int) (h0 : -9223372036854775808 ≤ m) (h1 : m ≤ 9223372036854775807) (hm : (m == 0) = false) (w : World) (hg : Glob w) :
  Calls Tryz.prog 50 #[.agg #[.int .i64 m, .int .i64 e]] w fun r w' => r = .returned (.bool (right m e)) ∧ Below w.heap.size w w' := by
 have c18 := hg.tens 18 (by omega); have b18 : 0 < w.heap.size := BX c18; have b0 : 0 < w.heap.size := by omega
 rcases QL m e (by simpa using hm) with ⟨h2, hr⟩ | ⟨h2, h3, hr⟩ | ⟨h2, h3, h4, hr⟩ | ⟨h2, h3, h4, hr⟩
 all_goals
  have HR := Lib.hid hr; clear hr; go_enter Tryz.func50, Tryz.ntmps50
  go_wp2
  refine A9 (by kernel_rfl) (by kernel_rfl) ?_; repeat (go_big_quiet_step ((go_at_call 52; exact FM (OO _ _ h0 h1 _))))
  refine wpQuiet_nil ?_; rintro _ ⟨x, rfl⟩; go_wp2
  go_ret
  exact ⟨VI HR.out.symm, ((Below.refl _ _).alloc (Nat.le_refl _) _).trans (x.property.mono (by simp))⟩
theorem CU (m e : Int) (h0 : -9223372036854775808 ≤ m) (h1 : m ≤ 9223372036854775807) (w : World) (hg : Glob w) :
  Calls Tryz.prog 50 #[.agg #[.int .i64 m, .int .i64 e]] w fun r w' => r = .returned (.bool (right m e)) ∧ Below w.heap.size w w' := by
 by_cases hm : m = 0
 ·subst hm
  exact M3 e w
 exact N4 m e h0 h1 (by simpa using hm) w hg
open Go Go.RowKit Go.Proofs Th
theorem M5 (b : ByteArray) : b.toList = b.data.toList := ByteArray.toList_eq b
theorem EK (s : ByteArray) (k : Nat) : (s.extract k s.size).data.toList = s.data.toList.drop k := by
 rw [ByteArray.data_extract, Array.toList_extract, List.extract_eq_take_drop, List.take_of_length_le (by simp)]
theorem XR (s : ByteArray) (k : Nat) : (s.extract 0 k).data.toList = s.data.toList.take k := by
 rw [ByteArray.data_extract, Array.toList_extract, List.extract_eq_take_drop, List.drop_zero, Nat.sub_zero]
theorem Xr (l : List UInt8) : (⟨l.toArray⟩ : ByteArray).data.toList = l := rfl
theorem GH {a b : ByteArray} (h : a.data.toList = b.data.toList) : a = b := ByteArray.ext (Array.toList_inj.1 h)
theorem Nb (a b : ByteArray) : (a ++ b).data.toList = a.data.toList ++ b.data.toList := by rw [ByteArray.data_append, Array.toList_append]
open Go Go.RowKit Go.Proofs Th
def OwnB (w : World) (base : Nat) (v : Value) (bs : List UInt8) : Prop := w.ownsRow base 5 1 v bs.length (Lib.byteCells bs)
def Iter (w : World) (k : Nat) (s : ByteArray) (pos : Nat) : Prop := w.heap[k]? = some (.stringIter s pos)
theorem V8 (bs : List UInt8) : ∀ u ∈ Lib.byteCells bs, u.oneCell' = true := by
 intro u hu; unfold Lib.byteCells at hu; obtain ⟨d, _, rfl⟩ := List.mem_map.1 hu; rfl
theorem OwnB.nil (w : World) (base : Nat) : OwnB w base (.slice none 0 0) [] := World.ownsRow_nil w base _ 1
theorem OwnB.alloc {w : World} {base : Nat} {v : Value} {bs : List UInt8} (h : OwnB w base v bs) (o : Obj) : OwnB (w.alloc o) base v bs := World.ownsRow.alloc h o
theorem OwnB.below {w w' : World} {base B : Nat} {v : Value} {bs : List UInt8} (h : OwnB w base v bs) (hb : Below B w w') (hB : w.heap.size ≤ B) : OwnB w' base v bs := by
 obtain ⟨h1, h2⟩ := h; refine ⟨h1, ?_⟩; rcases h2 with h2 | ⟨g, cap, cur, h3, h4, h5, h6⟩
 ·exact Or.inl h2
 have hlt : g < w.heap.size := by
  rcases Nat.lt_or_ge g w.heap.size with h1 | h1
  ·exact h1
  rw [Array.getElem?_eq_none h1] at h5; cases h5
 exact Or.inr ⟨g, cap, cur, h3, h4, (hb.block g (by omega)).trans h5, h6⟩
theorem OwnB.new {w : World} {n base m : Nat} (bs : List UInt8) (h : w.heap.size = n) (hb : base ≤ n) (hl : bs.length ≤ maxLen) (hm : bs.length = m) : OwnB (w.alloc (.cells (Lib.byteCells bs).toArray 5)) base (.slice (some ⟨n, 0, none⟩) m m) bs := by
 subst h hm; exact ⟨by rw [Lib.byteCells_length]; omega, Or.inr ⟨w.heap.size, bs.length, _, rfl, hb, heap_alloc_new w _, Nat.le_refl _, hl, by simp [Lib.byteCells_length], by simpa using List.take_of_length_le (Nat.le_of_eq (Lib.byteCells_length bs))⟩⟩
theorem OwnB.kind {w : World} {base : Nat} {v : Value} {bs : List UInt8} (h : OwnB w base v bs) : ∀ g, v.ownBlock = some g → ∃ cur, w.heap[g]? = some (.cells cur 5 (0, 0)) := by
 intro g hg; obtain ⟨_, ⟨rfl, _⟩ | ⟨g', cap, cur, rfl, _, hh, _⟩⟩ := h
 ·simp [Value.ownBlock] at hg
 simp [Value.ownBlock] at hg; subst hg; exact ⟨cur, hh⟩
theorem OwnB.form {w : World} {base : Nat} {v : Value} {bs : List UInt8} (h : OwnB w base v bs) : ∃ A c, v = .slice A bs.length c := by
 obtain ⟨_, ⟨rfl, h0⟩ | ⟨g', cap, cur, rfl, _⟩⟩ := h
 ·exact ⟨_, _, by rw [h0]⟩
 exact ⟨_, _, rfl⟩
theorem SA (bs : List UInt8) : strOfNums (bs.map fun b => (b.toNat : Int)) = ⟨bs.toArray⟩ := by
 apply GH; rw [strOfNums_data, List.map_map]; show bs.map _ = bs
 conv => rhs; rw [← List.map_id bs]
 apply List.map_congr_left; intro b _; show UInt8.ofNat ((b.toNat : Int).toNat) = b
 rw [Int.toNat_natCast]; exact (Lib.byteOfM b).symm
theorem OwnB.string {w : World} {base : Nat} {v : Value} {bs : List UInt8} (h : OwnB w base v bs) : (convert 101 9 v).run Tryz.prog w = .ok (.string ⟨bs.toArray⟩) w := by
 have h' := h; obtain ⟨_, ⟨rfl, h0⟩ | ⟨g, cap, cur, rfl, hb, hh, hn, hm, hs, ht⟩⟩ := h
 ·have : bs = [] := List.eq_nil_of_length_eq_zero h0
  subst this; exact run_convert_bytes_nil w 101 5 Tryz.underlying101 Tryz.underlying5 0 0 9 Tryz.underlying9
 have key := run_convert_bytes_arg w 101 5 Tryz.underlying101 Tryz.underlying5 g 0 bs.length cap (bs.map fun b => (b.toNat : Int)) (by simp) (fun i hi => by
  have := World.ownsRow.cells h' (g := g) rfl i (.int .u8 (bs[i].toNat : Int)) (by simp [Lib.byteCells, hi]); rw [show (⟨g, 0, none⟩ : Addr).add i = ⟨g, 0 + i, none⟩ by unfold Addr.add; split <;> simp_all] at this; rw [this]; simp [hi]) 9 Tryz.underlying9
 rw [key, SA]
theorem ED (W : World) : Below W.heap.size W W.drew := ⟨rfl, rfl, rfl, Nat.le_refl _, fun _ _ => rfl⟩
theorem Iter.lt {w : World} {k : Nat} {s : ByteArray} {pos : Nat} (hi : Iter w k s pos) : k < w.heap.size := by
 rcases Nat.lt_or_ge k w.heap.size with h1 | h1
 ·exact h1
 unfold Iter at hi; rw [Array.getElem?_eq_none h1] at hi; cases hi
theorem Iter.grown {w w' : World} {base k : Nat} {v : Value} {bs : List UInt8} {s : ByteArray} {pos : Nat} (hi : Iter w k s pos) (h : OwnB w base v bs) (hg : w.grownBy w' v.ownBlock) : Iter w' k s pos := by
 have hk : k < w.heap.size := by
  rcases Nat.lt_or_ge k w.heap.size with h1 | h1
  ·exact h1
  unfold Iter at hi; rw [Array.getElem?_eq_none h1] at hi; cases hi
 refine (hg.block k hk ?_).trans hi; intro e; obtain ⟨cur, hc⟩ := h.kind k e.symm; unfold Iter at hi; rw [hc] at hi; cases hi
theorem Iter.alloc {w : World} {k : Nat} {s : ByteArray} {pos : Nat} (hi : Iter w k s pos) (o : Obj) : Iter (w.alloc o) k s pos := by
 have hk : k < w.heap.size := by
  rcases Nat.lt_or_ge k w.heap.size with h1 | h1
  ·exact h1
  unfold Iter at hi; rw [Array.getElem?_eq_none h1] at hi; cases hi
 exact ((al1 w o).block k hk).trans hi
theorem OwnB.iter {w : World} {base k : Nat} {v : Value} {bs : List UInt8} {s : ByteArray} {pos : Nat} (h : OwnB w base v bs) (hi : Iter w k s pos) (pos' : Nat) : OwnB (w.iterAt k s pos') base v bs := by
 have hkd := h.kind; obtain ⟨h1, h2⟩ := h; refine ⟨h1, ?_⟩; rcases h2 with h2 | ⟨g, cap, cur, h3, h4, h5, h6⟩
 ·exact Or.inl h2
 refine Or.inr ⟨g, cap, cur, h3, h4, ?_, h6⟩; rw [Lib.iterAt_other]
 ·exact h5
 rintro rfl; unfold Iter at hi; rw [h5] at hi; cases hi
theorem M9 : (Tryz.prog.info? 5).map (fun i => (i.zero, i.size, i.bytes)) = some (some (.int .u8 0), 1, 1) := by kernel_rfl
theorem GO {w : World} (ty : TypeId) (base : Nat) (v : Value) (bs : List UInt8) (hown : OwnB w base v bs) (A : Addr) (c n : Nat) (es : List UInt8) (hn : n = es.length) (hc : ∀ j u, (Lib.byteCells es)[j]? = some u → w.cell? (A.add j) = some u)
  (hl : bs.length + es.length ≤ 140737488355328) (hbase : base ≤ w.heap.size) :
  ∃ v' w', (Builtin.append_ #[101, 101] ty #[v, .slice (some A) n c]).run Tryz.prog w = .ok v' w' ∧ OwnB w' base v' (bs ++ es) ∧ Below base w w' ∧ (∀ k s pos, Iter w k s pos → Iter w' k s pos) := by
 subst hn; obtain ⟨i, hi, hz, hsize, hby⟩ := info_parts M9; obtain ⟨v', w', hrun, h2, h3, _, h5⟩ := run_append_own_at (P := Tryz.prog) w base 101 ty 5 i (.int .u8 0) 1 1 Tryz.underlying101 hi hz hsize hby rfl (by omega) v bs.length (Lib.byteCells bs) hown A es.length c (Lib.byteCells es) (by rw [Lib.byteCells_length]; omega) hc (V8 es) (by simp [maxLen]; omega) (by omega) hbase; refine ⟨v', w', hrun, ?_, (Below.refl _ _).grown h3 hbase fun k hk => (World.ownsRow.lt hown k hk).1, fun k s pos hit => hit.grown hown h3⟩; unfold OwnB; rw [List.length_append, Lib.byteCells_append]; exact h2
theorem Me {w : World} (ty : TypeId) (base : Nat) (v : Value) (bs : List UInt8) (hown : OwnB w base v bs) (s : ByteArray)
  (hl : bs.length + s.size ≤ 140737488355328) (hbase : base ≤ w.heap.size) :
  ∃ v' w', (Builtin.append_ #[101, 9] ty #[v, .string s]).run Tryz.prog w = .ok v' w' ∧ OwnB w' base v' (bs ++ s.data.toList) ∧ Below base w w' ∧ (∀ b, Lib.OthersKept 5 b w w') := by
 obtain ⟨i, hi, hz, hsize, hby⟩ := info_parts M9; obtain ⟨v', w', hrun, h2, h3, _⟩ := Lib.run_append_own_string (P := Tryz.prog) w base 101 9 ty 5 i Tryz.underlying101 Tryz.underlying9 hi hz hsize hby v bs.length (Lib.byteCells bs) hown s (by simp [maxLen]; omega) (by omega) hbase; refine ⟨v', w', hrun, ?_, (Below.refl _ _).grown h3 hbase fun k hk => (World.ownsRow.lt hown k hk).1, fun b => (Lib.OthersKept.refl _ b w).grown h3 fun g hg => by
  obtain ⟨cur, hc⟩ := hown.kind g hg; exact ⟨cur, _, hc⟩⟩
 unfold OwnB; rw [List.length_append, Lib.byteCells_append, Ai]; exact h2
theorem BQ {w : World} {ops : Array Oper} {rest : List Oper} {o : Oper} {a : Act} {Q : Exit → Act → World → Prop} (hgd : o.guard = none) (s x : Operand)
  (ho : o.op = .call { callee := .builtin .append, args := #[s, x], argTypes := #[101, 101] })
  (base : Nat) (v : Value) (bs : List UInt8) (hs : a.eval s = v) (hown : OwnB w base v bs) (A : Addr) (n c : Nat) (es : List UInt8) (hn : n = es.length) (hx : a.eval x = .slice (some A) n c) (hc : ∀ j u, (Lib.byteCells es)[j]? = some u → w.cell? (A.add j) = some u)
  (hl : bs.length + es.length ≤ 140737488355328) (hbase : base ≤ w.heap.size)
  (h : ∀ v' w', OwnB w' base v' (bs ++ es) → Below base w w' → (∀ k s pos, Iter w k s pos → Iter w' k s pos) → wpList Tryz.prog ops Q rest (a.put o.dst v') w') : wpList Tryz.prog ops Q (o :: rest) a w := by
 refine wpList_plain hgd fun K hK => ?_
 obtain ⟨v', w', hrun, h2, h3, h4⟩ := GO (w := w) o.type base v bs hown A c n es hn hc hl hbase; unfold Oper.wp execOp; simp only [ho, resolve, invoke, builtin, Sem.run_bind, Sem.run_pure, Result.andThen_ok, List.map_toArray, List.map_cons, List.map_nil, hs, hx, hrun]; exact hK _ _ (h v' w' h2 h3 h4)
theorem FU {w : World} {ops : Array Oper} {rest : List Oper} {o : Oper} {a : Act} {Q : Exit → Act → World → Prop} (hgd : o.guard = none) (s x : Operand)
  (ho : o.op = .call { callee := .builtin .append, args := #[s, x], argTypes := #[101, 9] })
  (base : Nat) (v : Value) (bs : List UInt8) (hs : a.eval s = v) (hown : OwnB w base v bs) (t : ByteArray) (hx : a.eval x = .string t)
  (hl : bs.length + t.size ≤ 140737488355328) (hbase : base ≤ w.heap.size)
  (h : ∀ v' w', OwnB w' base v' (bs ++ t.data.toList) → Below base w w' → (∀ b, Lib.OthersKept 5 b w w') → wpList Tryz.prog ops Q rest (a.put o.dst v') w') : wpList Tryz.prog ops Q (o :: rest) a w := by
 refine wpList_plain hgd fun K hK => ?_
 obtain ⟨v', w', hrun, h2, h3, h4⟩ := Me (w := w) o.type base v bs hown t hl hbase; unfold Oper.wp execOp; simp only [ho, resolve, invoke, builtin, Sem.run_bind, Sem.run_pure, Result.andThen_ok, List.map_toArray, List.map_cons, List.map_nil, hs, hx, hrun]; exact hK _ _ (h v' w' h2 h3 h4)
theorem Do {w : World} {n : Nat} (es : List UInt8) (t : TypeId) (h : w.heap.size = n) : ∀ j u, (Lib.byteCells es)[j]? = some u → (w.alloc (.cells (Lib.byteCells es).toArray t)).cell? ((⟨n, 0, none⟩ : Addr).add j) = some u := by
 subst h; intro j u hu; rw [show (⟨w.heap.size, 0, none⟩ : Addr).add j = ⟨w.heap.size, j, none⟩ by unfold Addr.add; split <;> simp_all]; simp [go_sem, hu]
theorem My {w : World} {n : Nat} (es : List UInt8) (t : TypeId) (h : w.heap.size = n) : ∀ j u, (Lib.byteCells es)[j]? = some u → (w.alloc (.cells (Lib.byteCells es).toArray t)).drew.cell? ((⟨n, 0, none⟩ : Addr).add j) = some u := Do es t h
theorem Kl {w : World} {ops : Array Oper} {o : Oper} {a : Act} {K : Act → World → Prop} {Q : Exit → Act → World → Prop} {E : Prop} (hgd : o.guard = none) (s x : Operand)
  (ho : o.op = .call { callee := .builtin .append, args := #[s, x], argTypes := #[101, 101] })
  (base : Nat) (v : Value) (bs : List UInt8) (hs : a.eval s = v) (hown : OwnB w base v bs) (A : Addr) (n c : Nat) (es : List UInt8) (hn : n = es.length) (hx : a.eval x = .slice (some A) n c) (hc : ∀ j u, (Lib.byteCells es)[j]? = some u → w.cell? (A.add j) = some u)
  (hl : bs.length + es.length ≤ 140737488355328) (hbase : base ≤ w.heap.size)
  (h : ∀ v' w', OwnB w' base v' (bs ++ es) → Below base w w' → (∀ k s pos, Iter w k s pos → Iter w' k s pos) → K (a.put o.dst v') w') : if Region.wanted o (yielded ops a.tmps) = true then Oper.wp Tryz.prog o a w K Q else E := by
 have hw : Region.wanted o (yielded ops a.tmps) = true := by simp [Region.wanted, hgd]
 rw [if_pos hw]; obtain ⟨v', w', hrun, h2, h3, h4⟩ := GO (w := w) o.type base v bs hown A c n es hn hc hl hbase; unfold Oper.wp execOp; simp only [ho, resolve, invoke, builtin, Sem.run_bind, Sem.run_pure, Result.andThen_ok, List.map_toArray, List.map_cons, List.map_nil, hs, hx, hrun]; exact h v' w' h2 h3 h4
end Go.Proofs.YtakncilicoefdaaGreatDoor
namespace Th
open Go Go.Lib
def EQ (c : UInt8) : Option Nat := if 48 ≤ c.toNat ∧ c.toNat ≤ 57 then some (c.toNat - 48) else if 97 ≤ c.toNat ∧ c.toNat ≤ 102 then some (c.toNat - 87) else if 65 ≤ c.toNat ∧ c.toNat ≤ 70 then some (c.toNat - 55) else none
theorem YG {c : UInt8} {x : Nat} (h : EQ c = some x) : x < 16 := by
 unfold EQ at h; repeat' split at h
 all_goals first | (cases h; done) | (injection h with h; omega)
def Ex : Nat → List UInt8 → Nat → Option Nat
 | 0, _, r => some r
 | _ + 1, [], _ => none
 | n + 1, c :: l, r => match EQ c with | some x => Ex n l (r * 16 + x) | none => none
def CY (l : List UInt8) : Option Nat := Ex 4 l 0
theorem P8 : ∀ (n : Nat) (l : List UInt8) (r x : Nat), Ex n l r = some x → x < (r + 1) * 16 ^ n
 | 0, _, r, x, h => by injection h with h; omega
 | n + 1, [], _, _, h => by cases h
 | n + 1, c :: l, r, x, h => by
  simp only [Ex] at h; cases hc : EQ c with
  | none => rw [hc] at h; cases h
  | some y =>
   rw [hc] at h; have h1 := P8 n l _ x h; have h2 := YG hc; rw [Nat.pow_succ]; have : (r * 16 + y + 1) * 16 ^ n ≤ (r + 1) * 16 * 16 ^ n := Nat.mul_le_mul_right _ (by omega); rw [Nat.mul_assoc, Nat.mul_comm 16] at this; omega
theorem IL {l : List UInt8} {x : Nat} (h : CY l = some x) : x < 65536 := by
 have := P8 4 l 0 x h; omega
theorem Ho : ∀ (n : Nat) (l : List UInt8) (r : Nat), l.length < n → Ex n l r = none
 | 0, _, _, h => by omega
 | _ + 1, [], _, _ => rfl
 | n + 1, c :: l, r, h => by
  simp only [Ex]; cases EQ c with
  | none => rfl
  | some y => exact Ho n l _ (by simpa using h)
theorem NG {l : List UInt8} {x : Nat} (h : CY l = some x) : 4 ≤ l.length := by
 rcases Nat.lt_or_ge l.length 4 with h1 | h1
 ·have := Ho 4 l 0 h1; unfold CY at h; rw [this] at h; cases h
 exact h1
theorem RW (n : Nat) (l : List UInt8) (i : Nat) (r : Nat) (h : i < l.length) : Ex (n + 1) (l.drop i) r = match EQ l[i] with | some x => Ex n (l.drop (i + 1)) (r * 16 + x) | none => none := by
 rw [List.drop_eq_getElem_cons h]; rfl
def DJ (l : List UInt8) : Option (Nat × Nat) := match CY l with
 | none => none
 | some a => if 56320 ≤ a ∧ a < 57344 then none else if a < 55296 ∨ 57344 ≤ a then some (a, 4)
  else if l.getD 4 0 = 92 ∧ l.getD 5 0 = 117 then (match CY (l.drop 6) with
   | none => none
   | some b => if b < 56320 ∨ 57344 ≤ b then none else some (65536 + (a - 55296) * 1024 + (b - 56320), 10)) else none
def CK : List UInt8 → Option (Nat × Nat)
 | [] => none
 | c :: r => if c = 34 ∨ c = 92 ∨ c = 47 then some (c.toNat, 1) else if c = 98 then some (8, 1) else if c = 102 then some (12, 1) else if c = 110 then some (10, 1) else if c = 114 then some (13, 1) else if c = 116 then some (9, 1)
  else if c = 117 then (match DJ r with | none => none | some (x, n) => some (x, n + 1)) else none
theorem Ri {l : List UInt8} {x n : Nat} (h : DJ l = some (x, n)) : (x < 55296 ∨ (57343 < x ∧ x ≤ 1114111)) ∧ n ≤ l.length ∧ n ≤ 10 := by
 unfold DJ at h; cases ha : CY l with
 | none => rw [ha] at h; cases h
 | some a =>
  have h4 := NG ha; have hl := IL ha; simp only [ha] at h; split at h
  ·cases h
  split at h
  ·injection h with h; injection h with h1 h2; subst h1 h2; omega
  split at h
  ·cases hb : CY (l.drop 6) with
   | none => rw [hb] at h; cases h
   | some b =>
    have h5 := NG hb; have h6 := IL hb; rw [List.length_drop] at h5; simp only [hb] at h; split at h
    ·cases h
    injection h with h; injection h with h1 h2; subst h1 h2; omega
  cases h
theorem Mw {l : List UInt8} {x n : Nat} (h : CK l = some (x, n)) : (x < 55296 ∨ (57343 < x ∧ x ≤ 1114111)) ∧ 1 ≤ n ∧ n ≤ l.length ∧ n ≤ 11 := by
 cases l with
 | nil => cases h
 | cons c r =>
  have := c.toNat_lt; simp only [CK] at h; repeat' split at h
  all_goals first
   | (cases h; done)
   | (injection h with h; injection h with h1 h2; subst h1 h2; rw [List.length_cons]; omega)
   | skip
  rename_i x' n' hu
  injection h with h; injection h with h1 h2; subst h1 h2; have := Ri hu; rw [List.length_cons]; omega
def Iy : Nat → List UInt8 → Option (List UInt8 × Nat)
 | 0, _ => none
 | _ + 1, [] => none
 | f + 1, c :: r => if c = 34 then some ([], 1) else if c.toNat < 32 then none
  else if c = 92 then (match CK r with
   | none => none
   | some (x, n) => (Iy f (r.drop n)).map fun p => (encodeRune x ++ p.1, p.2 + n + 1))
  else if CV (c :: r) then none else (Iy f ((c :: r).drop (decodeL (c :: r)).2)).map fun p => ((c :: r).take (decodeL (c :: r)).2 ++ p.1, p.2 + (decodeL (c :: r)).2)
def CB (l : List UInt8) : Option (List UInt8 × Nat) := Iy l.length l
theorem Gn : ∀ (f g : Nat) (l : List UInt8), l.length ≤ f → l.length ≤ g → Iy f l = Iy g l
 | 0, 0, _, _, _ => rfl
 | 0, g + 1, l, h, _ => by
  obtain rfl : l = [] := List.eq_nil_of_length_eq_zero (by omega); rfl
 | f + 1, 0, l, _, h => by
  obtain rfl : l = [] := List.eq_nil_of_length_eq_zero (by omega); rfl
 | f + 1, g + 1, [], _, _ => rfl
 | f + 1, g + 1, c :: r, hf, hg => by
  rw [List.length_cons] at hf hg; have hw := decodeL_width (c :: r); simp only [Iy]; rw [Gn f g ((c :: r).drop (decodeL (c :: r)).2) (by rw [List.length_drop, List.length_cons]; omega) (by rw [List.length_drop, List.length_cons]; omega)]; cases he : CK r with
  | none => rfl
  | some p =>
   obtain ⟨x, n⟩ := p; have := Mw he; simp only; rw [Gn f g (r.drop n) (by rw [List.length_drop]; omega) (by rw [List.length_drop]; omega)]
theorem DF (c : UInt8) (r : List UInt8) : CB (c :: r) = if c = 34 then some ([], 1) else if c.toNat < 32 then none
  else if c = 92 then (match CK r with
   | none => none
   | some (x, n) => (CB (r.drop n)).map fun p => (encodeRune x ++ p.1, p.2 + n + 1))
  else if CV (c :: r) then none else (CB ((c :: r).drop (decodeL (c :: r)).2)).map fun p => ((c :: r).take (decodeL (c :: r)).2 ++ p.1, p.2 + (decodeL (c :: r)).2) := by
 unfold CB; have hw := decodeL_width (c :: r); rw [List.length_cons]; simp only [Iy]; rw [Gn r.length _ ((c :: r).drop (decodeL (c :: r)).2) (by rw [List.length_drop, List.length_cons]; omega) (Nat.le_refl _)]; cases he : CK r with
 | none => rfl
 | some p =>
  obtain ⟨x, n⟩ := p; have := Mw he; simp only; rw [Gn r.length _ (r.drop n) (by rw [List.length_drop]; omega) (Nat.le_refl _)]
def BA (l : List UInt8) : List UInt8 × Nat × Int := match l with
 | [] => ([], 0, 20)
 | c :: r => if c = 34 then (match CB r with | some (t, k) => (t, k + 1, 0) | none => ([], 0, 20)) else ([], 0, 20)
end Th
namespace Th
open Go Go.Lib
theorem Ws : ∀ (n : Nat) (l : List UInt8), l.length ≤ n → validD l = true → l.length ≤ (Bk l).length := by
 intro n; induction n with
 | zero => intro l h _; omega
 | succ n ih =>
  intro l h hv; by_cases hne : l = []
  ·subst hne; exact Nat.zero_le _
  rw [CM l hne] at hv; by_cases hb : CV l
  ·rw [if_pos hb] at hv; cases hv
  rw [if_neg hb] at hv; have hw := decodeL_width l; have hle := decodeL_le l hne; have hl : 0 < l.length := List.length_pos_iff.2 hne; have hi := ih (l.drop (decodeL l).2) (by rw [List.length_drop]; omega) hv; have he : encodeRune ((decodeL l).1 : Int) = l.take (decodeL l).2 := encode_decode l hne hb; have hlen := congrArg List.length he; rw [List.length_take, Nat.min_eq_left hle] at hlen; rw [Fo l hne, List.length_append]; rw [List.length_drop] at hi; have key : (decodeL l).2 ≤ (CA (decodeL l).1).length := by
   have small : (decodeL l).1 < 128 → (decodeL l).2 = 1 := fun h1 => by
    rw [← hlen]; unfold encodeRune; rw [encodeRuneZ_one (by omega) (by omega)]; rfl
   unfold CA; by_cases c1 : (decodeL l).1 = 34 ∨ (decodeL l).1 = 92
   ·rw [if_pos c1, small (by omega)]; simp
   rw [if_neg c1]; by_cases c2 : (decodeL l).1 < 32
   ·rw [small (by omega)]
    repeat' split
    all_goals first | (simp; done) | omega
   rw [if_neg (by omega), if_neg (by omega), if_neg (by omega), if_neg (by omega), if_neg (by omega), if_neg c2]; omega
  omega
end Th
