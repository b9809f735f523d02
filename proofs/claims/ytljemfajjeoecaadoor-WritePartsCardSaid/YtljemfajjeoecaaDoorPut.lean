/- The contracts of package write's sinks: (*text).take, (*count).take. Conditions: those that each names.
What put over either sink shares. Conditions: those that each names. -/
import Derived.Test.YtljemfajjeoecaaDoorBytes
import Derived.Test.YtljemfajjeoecaaDoorVal
import Derived.Test.YtljemfajjeoecaaDoorLaw
import Derived.Test.YtljemfajjeoecaaDoorValMath
import Derived.Test.YtljemfajjeoecaaDoorValD
import Derived.Test.YtljemfajjeoecaaDoorPrint
import Derived.Test.YtljemfajjeoecaaDoorBack
import Derived.OneCell
import Derived.Outline
namespace Go.Proofs.YtljemfajjeoecaaDoor
open Go Go.RowKit Go.Proofs Th

theorem Box.of_heap {w : World} {g : Nat} {cs : List Value} {t : TypeId} (h : w.heap[g]? = some (.cells cs.toArray t (0, 0))) : Box w g cs :=
  ⟨fun i v hv => by simp [World.cell?, h, hv], fun i => by simp [World.frozen?, h], lt_of_block h⟩
theorem OwnB.set {w : World} {base g : Nat} {v : Value} {bs : List UInt8} (h : OwnB w base v bs) (hg : g < base) (x : Value) : OwnB (w.setCell ⟨g, 0, none⟩ x) base v bs := by
  refine ownsRow_setCell_other h ?_ x
  intro e
  have := (World.ownsRow.lt h g e).1
  omega
/-- all blocks stand but block g, and rows of bytes -/
abbrev Kept (g : Nat) (w w' : World) : Prop := Lib.OthersKept 5 (some g) w w'
/-- the sink that keeps a text -/
structure TxtS (w : World) (g : Nat) (bs : List UInt8) : Prop where
  ex : ∃ v, w.heap[g]? = some (.cells #[v] 69 (0, 0)) ∧ OwnB w (g + 1) v bs
/-- the sink that counts -/
structure CntS (w : World) (g : Nat) (bs : List UInt8) : Prop where
  ex : w.heap[g]? = some (.cells #[.int .i64 bs.length] 75 (0, 0))
theorem TxtS.lt {w : World} {g : Nat} {bs : List UInt8} (h : TxtS w g bs) : g < w.heap.size := by obtain ⟨v, h, _⟩ := h.ex; exact lt_of_block h
theorem CntS.lt {w : World} {g : Nat} {bs : List UInt8} (h : CntS w g bs) : g < w.heap.size := lt_of_block h.ex
theorem TxtS.below {w w' : World} {g : Nat} {bs : List UInt8} (h : TxtS w g bs) (hb : Below w.heap.size w w') : TxtS w' g bs := by
  obtain ⟨v, h1, h2⟩ := h.ex
  exact ⟨v, (hb.block g h.lt).trans h1, h2.below hb (Nat.le_refl _)⟩
theorem CntS.below {w w' : World} {g : Nat} {bs : List UInt8} (h : CntS w g bs) (hb : Below w.heap.size w w') : CntS w' g bs := ⟨(hb.block g h.lt).trans h.ex⟩
theorem kept_below {g : Nat} {w w' : World} (hb : Below w.heap.size w w') : Kept g w w' := fun _ _ hk _ _ => (hb.block _ (lt_of_block hk)).trans hk
set_option maxRecDepth 100000 in
theorem text_take (g : Nat) (bs : List UInt8) (s : ByteArray) (w : World) (hT : TxtS w g bs) (hl : bs.length + s.size ≤ 100000000000) :
    Calls Tryd.prog 208 #[.pointer (some ⟨g, 0, none⟩), .string s] w fun r w' => r = .returned (.tuple #[]) ∧ TxtS w' g (bs ++ s.data.toList) ∧ Kept g w w' ∧ Below g w w' := by
  obtain ⟨v, h1, h2⟩ := hT.ex
  have hgl := hT.lt
  have c0 := cell_of_one h1
  have f0 := free_of_one h1
  have H1 := Keep.mk h1
  clear h1 hT
  go_enter Tryd.func208, Tryd.ntmps208
  go_wp2_with (at_builtin; refine wpList_append_text rfl (.tmp 8) (.tmp 9) rfl (g + 1) v bs rfl h2 s rfl (by omega) (by omega) ?_)
  intro v9 w9 hO9 hb9 hk9
  have h9 := (hb9.block g (Nat.lt_succ_self g)).trans H1.out
  have c9 := cell_of_one h9
  have f9 := free_of_one h9
  have H9 := Keep.mk h9
  obtain ⟨A9, cap9, rfl⟩ := hO9.form
  have HO := Keep.mk hO9
  have HB := Keep.mk hb9
  have HK := Keep.mk (hk9 (some g))
  clear hk9
  clear h9 hO9 hb9 c0 f0
  go_wp2
  go_end0
  refine ⟨rfl, ⟨_, one_setCell H9.out, by have h := HO.out.set (Nat.lt_succ_self g) (.slice A9 (bs ++ s.data.toList).length cap9); rw [List.length_append, size_listU] at h; exact h⟩, HK.out.setCell ⟨g, 0, none⟩ rfl _, (HB.out.mono (Nat.le_succ g)).setCell (p := ⟨g, 0, none⟩) (Nat.le_refl _) _⟩
set_option maxRecDepth 100000 in
theorem count_take (g : Nat) (bs : List UInt8) (s : ByteArray) (w : World) (hT : CntS w g bs) (hl : bs.length + s.size ≤ 100000000000) :
    Calls Tryd.prog 209 #[.pointer (some ⟨g, 0, none⟩), .string s] w fun r w' => r = .returned (.tuple #[]) ∧ CntS w' g (bs ++ s.data.toList) ∧ Kept g w w' ∧ Below g w w' := by
  have h1 := hT.ex
  have hgl := hT.lt
  have c0 := cell_of_one h1
  have f0 := free_of_one h1
  have H1 := Keep.mk h1
  clear h1 hT
  go_enter Tryd.func209, Tryd.ntmps209
  go_wp2
  go_end0
  refine ⟨rfl, ⟨?_⟩, (Lib.OthersKept.refl _ _ _).setCell ⟨g, 0, none⟩ rfl _, (Below.refl g w).setCell (p := ⟨g, 0, none⟩) (Nat.le_refl _) _⟩
  rw [one_setCell H1.out, List.length_append, size_listU]
  push_cast
  rfl
end Go.Proofs.YtljemfajjeoecaaDoor
namespace Go.Proofs.YtljemfajjeoecaaDoor
open Go Go.RowKit Go.Proofs Th

theorem meth_text (a : Addr) (w : World) : (method 338 66 (.pointer (some a)) "thimble/write.take").run Tryd.prog w = .ok (208, .pointer (some a)) w := by kernel_rfl
theorem meth_count (a : Addr) (w : World) : (method 338 73 (.pointer (some a)) "thimble/write.take").run Tryd.prog w = .ok (209, .pointer (some a)) w := by kernel_rfl
/-- a value's block, whole -/
def VBlk (w : World) (p : Nat) (cs : List Value) : Prop := w.heap[p]? = some (.cells cs.toArray 27 (0, 0))
theorem VBlk.kept {g p : Nat} {w w' : World} {cs : List Value} (h : VBlk w p cs) (hk : Kept g w w') (hp : p ≠ g) : VBlk w' p cs := by
  refine hk p _ h (fun e => hp (Option.some.inj e)) fun c fz e => ?_
  injection e with _ e2 _
  revert e2; decide
theorem VBlk.below {p : Nat} {w w' : World} {cs : List Value} (h : VBlk w p cs) (hb : Below w.heap.size w w') : VBlk w' p cs := (hb.block p (lt_of_block h)).trans h
theorem VBlk.new {w : World} {p : Nat} (k m e : Int) (s : ByteArray) (A : Option Addr) (n c : Nat) (A' : Option Addr) (n' c' : Nat) (h : w.heap.size = p) : VBlk (w.alloc (.cells #[.int .i64 k, .int .i64 m, .int .i64 e, .string s, .slice A n c, .slice A' n' c'] 27)) p (cells6 k m e s A n c A' n' c') := by
  subst h; exact heap_alloc_new w _
theorem VBlk.box {w : World} {p : Nat} {cs : List Value} (h : VBlk w p cs) : Box w p cs := Box.of_heap h
theorem sizeL_get : ∀ (l : List JV) (j : Nat) (h : j < l.length), sizeJ l[j] ≤ sizeL l
  | v :: r, 0, _ => by show sizeJ v ≤ sizeJ v + sizeL r; omega
  | v :: r, j + 1, h => by
    have := sizeL_get r j (by simpa using h)
    show sizeJ (r[j]'(by simpa using h)) ≤ sizeJ v + sizeL r
    omega
theorem keysN_get : ∀ (ks : List ByteArray) (j : Nat) (h : j < ks.length), ks[j].size ≤ keysN ks
  | v :: r, 0, _ => by show v.size ≤ 1 + v.size + keysN r; omega
  | v :: r, j + 1, h => by
    have := keysN_get r j (by simpa using h)
    show (r[j]'(by simpa using h)).size ≤ 1 + v.size + keysN r
    omega
theorem allL_get : ∀ (l : List JV) (j : Nat) (h : j < l.length), allL l = true → allJ l[j] = true
  | v :: r, 0, _, h => by simp only [allL, Bool.and_eq_true] at h; exact h.1
  | v :: r, j + 1, hj, h => by simp only [allL, Bool.and_eq_true] at h; exact allL_get r j (by simpa using hj) h.2
theorem ok_parts {k m e : Int} {s : ByteArray} {l : List JV} {ks : List ByteArray} (h : okOne (.mk k m e s l ks) = true) : (0 ≤ k ∧ k ≤ 6) ∧ right m e = true ∧ Lib.validD s.data.toList = true ∧ riseK ks = true ∧ (k = 6 → ks.length = l.length) := by
  simp only [okOne, Bool.and_eq_true, decide_eq_true_eq, Bool.or_eq_true] at h
  obtain ⟨⟨⟨⟨h1, h2⟩, h3⟩, h4⟩, h5⟩ := h
  exact ⟨h1.1.1.1.1, h3, h4, h5, fun hk => h2.resolve_left (fun h => h hk)⟩
theorem getD_K (ks : List ByteArray) (j : Nat) (h : j < ks.length) : ks.getD j ⟨#[]⟩ = ks[j] := by
  rw [List.getD_eq_getElem?_getD, List.getElem?_eq_getElem h]; rfl
theorem key_valid {ks : List ByteArray} (h : riseK ks = true) (j : Nat) (hj : j < ks.length) : Lib.validD (ks[j]).data.toList = true := by
  have := (rise_iff ks).1 h j hj
  unfold keyOk at this
  rw [getD_K ks j hj, Bool.and_eq_true] at this
  exact this.1
theorem len5 {bs P C1 : List UInt8} {tb : ByteArray} {q t : Nat} (h : bs.length + 1 + P.length + C1.length + q + 1 + t ≤ 10000000000) (h2 : tb.size = q) : (bs ++ [123] ++ P ++ C1).length + (tb ++ ⟨#[58]⟩ : ByteArray).size ≤ 100000000000 := by
  rw [ByteArray.size_append, h2, show (⟨#[58]⟩ : ByteArray).size = 1 from rfl]
  simp only [List.length_append, List.length_cons, List.length_nil]
  omega
theorem len6 {bs P C1 Q1 : List UInt8} {t : Nat} (h : bs.length + 1 + P.length + C1.length + Q1.length + 1 + t ≤ 10000000000) : (bs ++ [123] ++ P ++ C1 ++ (Q1 ++ [58])).length + t ≤ 10000000000 := by
  simp only [List.length_append, List.length_cons, List.length_nil]
  omega
theorem app4 (bs P C1 T1 : List UInt8) (x : UInt8) : bs ++ [x] ++ (P ++ C1 ++ T1) = bs ++ [x] ++ P ++ C1 ++ T1 := by simp
theorem app5 (bs P C1 Q1 T1 : List UInt8) (x y : UInt8) : bs ++ [x] ++ (P ++ C1 ++ (Q1 ++ [y]) ++ T1) = bs ++ [x] ++ P ++ C1 ++ (Q1 ++ [y]) ++ T1 := by simp
theorem print_ok {m e : Int} (h : right m e = true) : printRes (printN m e) = .tuple #[.string ⟨(textN m e).toArray⟩, .int .i64 0] := by
  unfold printN; rw [if_pos h]; rfl
end Go.Proofs.YtljemfajjeoecaaDoor
