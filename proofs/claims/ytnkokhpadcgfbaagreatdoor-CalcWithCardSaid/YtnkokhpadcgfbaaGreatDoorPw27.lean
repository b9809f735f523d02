/- Lemmas and contracts for the laws CalcWith, part 27 of 50: Put. Conditions: those that each lemma names. -/
import Derived.Test.YtnkokhpadcgfbaaGreatDoorPw6
import Derived.Test.YtnkokhpadcgfbaaGreatDoorPw14
import Derived.Test.YtnkokhpadcgfbaaGreatDoorPw9
import Derived.Test.YtnkokhpadcgfbaaGreatDoorPw4
import Derived.Test.YtnkokhpadcgfbaaGreatDoorPw21
import Derived.Test.YtnkokhpadcgfbaaGreatDoorPw17
import Derived.Test.YtnkokhpadcgfbaaGreatDoorPw5
import Derived.OneCell
import Derived.Outline
namespace Go.Proofs.YtnkokhpadcgfbaaGreatDoor
open Go Go.RowKit Go.Proofs Th
theorem Box.of_heap {w : World} {g : Nat} {cs : List Value} {t : TypeId} (h : w.heap[g]? = some (.cells cs.toArray t (0, 0))) : Box w g cs :=
  ⟨fun i v hv => by simp [World.cell?, h, hv], fun i => by simp [World.frozen?, h], lt_of_block h⟩
theorem OwnB.set {w : World} {base g : Nat} {v : Value} {bs : List UInt8} (h : OwnB w base v bs) (hg : g < base) (x : Value) : OwnB (w.setCell ⟨g, 0, none⟩ x) base v bs := by
  refine ownsRow_setCell_other h ?_ x
  intro e
  have := (World.ownsRow.lt h g e).1
  omega
abbrev Kept (g : Nat) (w w' : World) : Prop := Lib.OthersKept 5 (some g) w w'
structure TxtS (w : World) (g : Nat) (bs : List UInt8) : Prop where
  ex : ∃ v, w.heap[g]? = some (.cells #[v] 106 (0, 0)) ∧ OwnB w (g + 1) v bs
structure CntS (w : World) (g : Nat) (bs : List UInt8) : Prop where
  ex : w.heap[g]? = some (.cells #[.int .i64 bs.length] 129 (0, 0))
theorem TxtS.lt {w : World} {g : Nat} {bs : List UInt8} (h : TxtS w g bs) : g < w.heap.size := by obtain ⟨v, h, _⟩ := h.ex; exact lt_of_block h
theorem CntS.lt {w : World} {g : Nat} {bs : List UInt8} (h : CntS w g bs) : g < w.heap.size := lt_of_block h.ex
theorem TxtS.below {w w' : World} {g : Nat} {bs : List UInt8} (h : TxtS w g bs) (hb : Below w.heap.size w w') : TxtS w' g bs := by
  obtain ⟨v, h1, h2⟩ := h.ex
  exact ⟨v, (hb.block g h.lt).trans h1, h2.below hb (Nat.le_refl _)⟩
theorem CntS.below {w w' : World} {g : Nat} {bs : List UInt8} (h : CntS w g bs) (hb : Below w.heap.size w w') : CntS w' g bs := ⟨(hb.block g h.lt).trans h.ex⟩
theorem kept_below {g : Nat} {w w' : World} (hb : Below w.heap.size w w') : Kept g w w' := fun _ _ hk _ _ => (hb.block _ (lt_of_block hk)).trans hk
set_option maxRecDepth 100000 in
theorem text_take (g : Nat) (bs : List UInt8) (s : ByteArray) (w : World) (hT : TxtS w g bs) (hl : bs.length + s.size ≤ 100000000000) :
    Calls Tryz.prog 274 #[.pointer (some ⟨g, 0, none⟩), .string s] w fun r w' => r = .returned (.tuple #[]) ∧ TxtS w' g (bs ++ s.data.toList) ∧ Kept g w w' ∧ Below g w w' := by
  obtain ⟨v, h1, h2⟩ := hT.ex
  have hgl := hT.lt
  have c0 := cell_of_one h1
  have f0 := free_of_one h1
  have H1 := Keep.mk h1
  clear h1 hT
  go_enter Tryz.func274, Tryz.ntmps274
  go_wp2_with (at_builtin; refine wpList_append_text rfl (.tmp 8) (.tmp 9) rfl (g + 1) v bs rfl h2 s rfl (by omega) (by omega) ?_)
  intro v9 w9 hO9 hb9 hk9
  have h9 := (hb9.block g (Nat.lt_succ_self g)).trans H1.out
  have c9 := cell_of_one h9
  have f9 := free_of_one h9
  have H9 := Keep.mk h9
  obtain ⟨A9, cap9, rfl⟩ := hO9.form
  have HO := Keep.mk hO9
  have HB := Keep.mk hb9
  have HK := Keep.mk (hk9 (some g))
  clear hk9
  clear h9 hO9 hb9 c0 f0
  go_wp2
  go_end0
  refine ⟨rfl, ⟨_, one_setCell H9.out, by have h := HO.out.set (Nat.lt_succ_self g) (.slice A9 (bs ++ s.data.toList).length cap9); rw [List.length_append, size_listU] at h; exact h⟩, HK.out.setCell ⟨g, 0, none⟩ rfl _, (HB.out.mono (Nat.le_succ g)).setCell (p := ⟨g, 0, none⟩) (Nat.le_refl _) _⟩
set_option maxRecDepth 100000 in
theorem count_take (g : Nat) (bs : List UInt8) (s : ByteArray) (w : World) (hT : CntS w g bs) (hl : bs.length + s.size ≤ 100000000000) :
    Calls Tryz.prog 275 #[.pointer (some ⟨g, 0, none⟩), .string s] w fun r w' => r = .returned (.tuple #[]) ∧ CntS w' g (bs ++ s.data.toList) ∧ Kept g w w' ∧ Below g w w' := by
  have h1 := hT.ex
  have hgl := hT.lt
  have c0 := cell_of_one h1
  have f0 := free_of_one h1
  have H1 := Keep.mk h1
  clear h1 hT
  go_enter Tryz.func275, Tryz.ntmps275
  go_wp2
  go_end0
  refine ⟨rfl, ⟨?_⟩, (Lib.OthersKept.refl _ _ _).setCell ⟨g, 0, none⟩ rfl _, (Below.refl g w).setCell (p := ⟨g, 0, none⟩) (Nat.le_refl _) _⟩
  rw [one_setCell H1.out, List.length_append, size_listU]
  push_cast
  rfl
end Go.Proofs.YtnkokhpadcgfbaaGreatDoor
namespace Go.Proofs.YtnkokhpadcgfbaaGreatDoor
open Go Go.RowKit Go.Proofs Th
def VBlk (w : World) (p : Nat) (cs : List Value) : Prop := w.heap[p]? = some (.cells cs.toArray 27 (0, 0))
theorem VBlk.kept {g p : Nat} {w w' : World} {cs : List Value} (h : VBlk w p cs) (hk : Kept g w w') (hp : p ≠ g) : VBlk w' p cs := by
  refine hk p _ h (fun e => hp (Option.some.inj e)) fun c fz e => ?_
  injection e with _ e2 _
  revert e2; decide
theorem VBlk.below {p : Nat} {w w' : World} {cs : List Value} (h : VBlk w p cs) (hb : Below w.heap.size w w') : VBlk w' p cs := (hb.block p (lt_of_block h)).trans h
theorem VBlk.new {w : World} {p : Nat} (k m e : Int) (s : ByteArray) (A : Option Addr) (n c : Nat) (A' : Option Addr) (n' c' : Nat) (h : w.heap.size = p) : VBlk (w.alloc (.cells #[.int .i64 k, .int .i64 m, .int .i64 e, .string s, .slice A n c, .slice A' n' c'] 27)) p (cells6 k m e s A n c A' n' c') := by
  subst h; exact heap_alloc_new w _
theorem VBlk.box {w : World} {p : Nat} {cs : List Value} (h : VBlk w p cs) : Box w p cs := Box.of_heap h
theorem sizeL_get : ∀ (l : List JV) (j : Nat) (h : j < l.length), sizeJ l[j] ≤ sizeL l
  | v :: r, 0, _ => by show sizeJ v ≤ sizeJ v + sizeL r; omega
  | v :: r, j + 1, h => by
    have := sizeL_get r j (by simpa using h)
    show sizeJ (r[j]'(by simpa using h)) ≤ sizeJ v + sizeL r
    omega
theorem keysN_get : ∀ (ks : List ByteArray) (j : Nat) (h : j < ks.length), ks[j].size ≤ keysN ks
  | v :: r, 0, _ => by show v.size ≤ 1 + v.size + keysN r; omega
  | v :: r, j + 1, h => by
    have := keysN_get r j (by simpa using h)
    show (r[j]'(by simpa using h)).size ≤ 1 + v.size + keysN r
    omega
theorem allL_get : ∀ (l : List JV) (j : Nat) (h : j < l.length), allL l = true → allJ l[j] = true
  | v :: r, 0, _, h => by simp only [allL, Bool.and_eq_true] at h; exact h.1
  | v :: r, j + 1, hj, h => by simp only [allL, Bool.and_eq_true] at h; exact allL_get r j (by simpa using hj) h.2
theorem ok_parts {k m e : Int} {s : ByteArray} {l : List JV} {ks : List ByteArray} (h : okOne (.mk k m e s l ks) = true) : (0 ≤ k ∧ k ≤ 6) ∧ right m e = true ∧ Lib.validD s.data.toList = true ∧ riseK ks = true ∧ (k = 6 → ks.length = l.length) := by
  simp only [okOne, Bool.and_eq_true, decide_eq_true_eq, Bool.or_eq_true] at h
  obtain ⟨⟨⟨⟨h1, h2⟩, h3⟩, h4⟩, h5⟩ := h
  exact ⟨h1.1.1.1.1, h3, h4, h5, fun hk => h2.resolve_left (fun h => h hk)⟩
theorem getD_K (ks : List ByteArray) (j : Nat) (h : j < ks.length) : ks.getD j ⟨#[]⟩ = ks[j] := by
  rw [List.getD_eq_getElem?_getD, List.getElem?_eq_getElem h]; rfl
theorem key_valid {ks : List ByteArray} (h : riseK ks = true) (j : Nat) (hj : j < ks.length) : Lib.validD (ks[j]).data.toList = true := by
  have := (rise_iff ks).1 h j hj
  unfold keyOk at this
  rw [getD_K ks j hj, Bool.and_eq_true] at this
  exact this.1
theorem len5 {bs P C1 : List UInt8} {tb : ByteArray} {q t : Nat} (h : bs.length + 1 + P.length + C1.length + q + 1 + t ≤ 10000000000) (h2 : tb.size = q) : (bs ++ [123] ++ P ++ C1).length + (tb ++ ⟨#[58]⟩ : ByteArray).size ≤ 100000000000 := by
  rw [ByteArray.size_append, h2, show (⟨#[58]⟩ : ByteArray).size = 1 from rfl]
  simp only [List.length_append, List.length_cons, List.length_nil]
  omega
theorem len6 {bs P C1 Q1 : List UInt8} {t : Nat} (h : bs.length + 1 + P.length + C1.length + Q1.length + 1 + t ≤ 10000000000) : (bs ++ [123] ++ P ++ C1 ++ (Q1 ++ [58])).length + t ≤ 10000000000 := by
  simp only [List.length_append, List.length_cons, List.length_nil]
  omega
theorem app4 (bs P C1 T1 : List UInt8) (x : UInt8) : bs ++ [x] ++ (P ++ C1 ++ T1) = bs ++ [x] ++ P ++ C1 ++ T1 := by simp
theorem app5 (bs P C1 Q1 T1 : List UInt8) (x y : UInt8) : bs ++ [x] ++ (P ++ C1 ++ (Q1 ++ [y]) ++ T1) = bs ++ [x] ++ P ++ C1 ++ (Q1 ++ [y]) ++ T1 := by simp
theorem print_ok {m e : Int} (h : right m e = true) : printRes (printN m e) = .tuple #[.string ⟨(textN m e).toArray⟩, .int .i64 0] := by
  unfold printN; rw [if_pos h]; rfl
end Go.Proofs.YtnkokhpadcgfbaaGreatDoor
namespace Go.Proofs.YtnkokhpadcgfbaaGreatDoor
open Go Go.RowKit Go.Proofs Th
attribute [local go_sem] Above.cell
structure PutTxt (w0 w wr : World) (g p : Nat) (cs : List Value) (bs : List UInt8) : Prop where
  s : TxtS wr g bs
  x : VBlk wr p cs
  k : Kept g w wr
  b : Below g w wr
  o : Below w0.heap.size w0 wr
theorem PutTxt.step {w0 w wr w' : World} {g p : Nat} {cs : List Value} {bs bs' : List UInt8} (h : PutTxt w0 w wr g p cs bs) (hg : w0.heap.size ≤ g) (hp : p ≠ g) (h1 : TxtS w' g bs') (h2 : Kept g wr w') (h3 : Below g wr w') : PutTxt w0 w w' g p cs bs' :=
  ⟨h1, h.x.kept h2 hp, h.k.trans h2, h.b.trans h3, h.o.trans (h3.mono hg)⟩
theorem PutTxt.below {w0 w wr w' : World} {g p : Nat} {cs : List Value} {bs : List UInt8} (h : PutTxt w0 w wr g p cs bs) (hb : Below wr.heap.size wr w') : PutTxt w0 w w' g p cs bs :=
  ⟨h.s.below hb, h.x.below hb, h.k.trans (kept_below hb), h.b.trans (hb.mono (Nat.le_of_lt h.s.lt)), up h.o hb⟩
set_option maxRecDepth 100000 in
theorem comma_text (g : Nat) (bs : List UInt8) (i : Nat) (hi : i ≤ 140737488351232) (w : World) (hT : TxtS w g bs) (hl : bs.length + 1 ≤ 100000000000) :
    Calls Tryz.prog 137 #[.iface 103 (.pointer (some ⟨g, 0, none⟩)), .int .i64 i] w fun r w' => r = .returned (.tuple #[]) ∧ TxtS w' g (bs ++ if i = 0 then [] else [44]) ∧ Kept g w w' ∧ Below g w w' := by
  by_cases h0 : i = 0
  · subst h0
    go_enter Tryz.func137, Tryz.ntmps137
    go_wp2
    go_end0
    exact ⟨rfl, by simpa using hT, Lib.OthersKept.refl _ _ _, Below.refl _ _⟩
  · have h02 : (0 : Int) < i := by omega
    have HT := Keep.mk (text_take g bs ⟨#[44]⟩ w hT (by show bs.length + 1 ≤ _; omega))
    go_enter Tryz.func137, Tryz.ntmps137
    go_wp2_with fail
    refine HT.out.mono ?_
    rintro r w1 ⟨rfl, h1, h2, h3⟩
    go_wp2
    go_end0
    exact ⟨rfl, by first | exact h1 | (rw [if_neg h0]; exact h1), h2, h3⟩
set_option maxRecDepth 100000 in
set_option maxHeartbeats 4000000 in
theorem put_text : ∀ (n : Nat) (t : JV), countJ t ≤ n → sizeJ t ≤ 1000000 → allJ t = true → ∀ (w0 : World) (cs : List Value) (g : Nat), GlobW w0 → JAt w0 w0.heap.size t cs → w0.heap.size ≤ g → ∀ (w : World) (bs : List UInt8), TxtS w g bs → Below w0.heap.size w0 w → bs.length + (textJ textN t).length ≤ 10000000000 →
    Calls Tryz.prog 86 #[.iface 103 (.pointer (some ⟨g, 0, none⟩)), .agg cs.toArray] w fun r w' => r = .returned (.tuple #[]) ∧ TxtS w' g (bs ++ textJ textN t) ∧ Kept g w w' ∧ Below g w w' := by
  intro n
  induction n with
  | zero => intro t h; cases t; unfold countJ at h; omega
  | succ n ih =>
    intro t hn hz hall w0 cs g hG hJ hg w bs hS hb hlen
    cases t with
    | mk k m e s l ks =>
      obtain ⟨A, c, A', c', rfl, hk, hm, he, hs, hK, hV⟩ := hJ.open
      show Calls _ _ #[_, .agg #[.int .i64 k, .int .i64 m, .int .i64 e, .string s, .slice A l.length c, .slice A' ks.length c']] w _
      have hcn := countL_get l
      have hcl : countL l ≤ n := by have : 1 + countL l ≤ n + 1 := hn; omega
      have hal : okOne (.mk k m e s l ks) = true ∧ allL l = true := by simpa only [allJ, Bool.and_eq_true] using hall
      obtain ⟨hk06, hri, hva, hrk, hkl⟩ := ok_parts hal.1
      have hz2 : 1 + s.size + keysN ks + sizeL l ≤ 1000000 := hz
      have hlc := hV.cap
      have hkc := hK.cap
      have HG := Keep.mk hG
      have HV := Keep.mk hV
      have HK := Keep.mk hK
      have hgl := hS.lt
      have HP := Keep.mk (show PutTxt w0 w (w.alloc (.cells #[.int .i64 k, .int .i64 m, .int .i64 e, .string s, .slice A l.length c, .slice A' ks.length c'] 27)) g w.heap.size (cells6 k m e s A l.length c A' ks.length c') bs from
        ⟨hS.below (al1 _ _), VBlk.new _ _ _ _ _ _ _ _ _ _ rfl, kept_below (al1 _ _), (al1 _ _).mono (Nat.le_of_lt hgl), up hb (al1 _ _)⟩)
      have HAL := Keep.mk hal.2
      have HRK := Keep.mk hrk
      have HVA := Keep.mk hva
      have HRI := Keep.mk hri
      have HKL := Keep.mk hkl
      clear hkl
      clear hJ hV hK hG hS hb hn hz hall hal hrk hva hri
      have hpg : w.heap.size ≠ g := by omega
      have hk7 : k = 0 ∨ k = 1 ∨ k = 2 ∨ k = 3 ∨ k = 4 ∨ k = 5 ∨ k = 6 := by omega
      rcases hk7 with rfl | rfl | rfl | rfl | rfl | rfl | rfl
      · have HT := Keep.mk (show textJ textN (.mk 0 m e s l ks) = [110, 117, 108, 108] by simp [textJ])
        rw [HT.out] at hlen
        rw [HT.out]
        have HC := Keep.mk (text_take g bs ⟨#[110, 117, 108, 108]⟩ _ HP.out.s (by have : bs.length + 4 ≤ 10000000000 := hlen; show bs.length + 4 ≤ _; omega))
        go_enter Tryz.func86, Tryz.ntmps86
        go_wp2_with fail
        refine HC.out.mono ?_
        rintro r w1 ⟨rfl, h1, h2, h3⟩
        have HQ := Keep.mk (HP.out.step hg hpg h1 h2 h3)
        clear h1 h2 h3
        go_wp2
        go_end0
        exact ⟨rfl, HQ.out.s, HQ.out.k, HQ.out.b⟩
      · have HT := Keep.mk (show textJ textN (.mk 1 m e s l ks) = [102, 97, 108, 115, 101] by simp [textJ])
        rw [HT.out] at hlen
        rw [HT.out]
        have HC := Keep.mk (text_take g bs ⟨#[102, 97, 108, 115, 101]⟩ _ HP.out.s (by have : bs.length + 5 ≤ 10000000000 := hlen; show bs.length + 5 ≤ _; omega))
        go_enter Tryz.func86, Tryz.ntmps86
        go_wp2_with fail
        refine HC.out.mono ?_
        rintro r w1 ⟨rfl, h1, h2, h3⟩
        have HQ := Keep.mk (HP.out.step hg hpg h1 h2 h3)
        clear h1 h2 h3
        go_wp2
        go_end0
        exact ⟨rfl, HQ.out.s, HQ.out.k, HQ.out.b⟩
      · have HT := Keep.mk (show textJ textN (.mk 2 m e s l ks) = [116, 114, 117, 101] by simp [textJ])
        rw [HT.out] at hlen
        rw [HT.out]
        have HC := Keep.mk (text_take g bs ⟨#[116, 114, 117, 101]⟩ _ HP.out.s (by have : bs.length + 4 ≤ 10000000000 := hlen; show bs.length + 4 ≤ _; omega))
        go_enter Tryz.func86, Tryz.ntmps86
        go_wp2_with fail
        refine HC.out.mono ?_
        rintro r w1 ⟨rfl, h1, h2, h3⟩
        have HQ := Keep.mk (HP.out.step hg hpg h1 h2 h3)
        clear h1 h2 h3
        go_wp2
        go_end0
        exact ⟨rfl, HQ.out.s, HQ.out.k, HQ.out.b⟩
      · have HT := Keep.mk (show textJ textN (.mk 3 m e s l ks) = textN m e by simp [textJ])
        rw [HT.out] at hlen
        rw [HT.out]
        have HC := Keep.mk (num_print m e hm _ (HG.out.below HP.out.o).num)
        rw [print_ok HRI.out] at HC
        obtain ⟨tb, htb⟩ : ∃ b : ByteArray, ⟨(textN m e).toArray⟩ = b := ⟨_, rfl⟩
        have htl : tb.data.toList = textN m e := by rw [← htb]
        have hts : tb.size = (textN m e).length := by rw [← size_listU, htl]
        rw [htb] at HC
        rw [← htl]
        clear htb
        have HTL := Keep.mk htl
        clear htl
        go_enter Tryz.func86, Tryz.ntmps86
        go_wp2_with fail
        refine HC.out.mono ?_
        rintro r w1 ⟨rfl, hb1⟩
        have HQ := Keep.mk (HP.out.below hb1)
        clear hb1
        go_wp2_with fail
        refine (text_take g bs tb _ HQ.out.s (by omega)).mono ?_
        rintro r w2 ⟨rfl, h1, h2, h3⟩
        have HQ2 := Keep.mk (HQ.out.step hg hpg h1 h2 h3)
        clear h1 h2 h3
        go_wp2
        go_end0
        exact ⟨rfl, HQ2.out.s, HQ2.out.k, HQ2.out.b⟩
      · have HT := Keep.mk (show textJ textN (.mk 4 m e s l ks) = quoteD s.data.toList by simp [textJ])
        rw [HT.out] at hlen
        rw [HT.out]
        have HC := Keep.mk (quote_Write s (by omega) HVA.out _ (HG.out.below HP.out.o).utf)
        go_enter Tryz.func86, Tryz.ntmps86
        go_wp2_with fail
        refine HC.out.mono ?_
        rintro r w1 ⟨tb, rfl, htl, hb1⟩
        have HQ := Keep.mk (HP.out.below hb1)
        have hts : tb.size = (quoteD s.data.toList).length := by rw [← size_listU, htl]
        have HTL := Keep.mk htl
        clear hb1 htl
        go_wp2_with fail
        refine (text_take g bs tb _ HQ.out.s (by omega)).mono ?_
        rintro r w2 ⟨rfl, h1, h2, h3⟩
        have HQ2 := Keep.mk (HQ.out.step hg hpg h1 h2 h3)
        clear h1 h2 h3
        go_wp2
        go_end0
        exact ⟨rfl, by rw [← HTL.out]; exact HQ2.out.s, HQ2.out.k, HQ2.out.b⟩
      · have HT := Keep.mk (textJ_list textN 5 m e s l ks rfl)
        rw [HT.out] at hlen
        rw [HT.out]
        have hln : bs.length + (1 + (textL textN true false l ks).length + 1) ≤ 10000000000 := by
          rw [List.cons_append, List.length_cons, List.length_append] at hlen
          simp only [List.length_cons, List.length_nil] at hlen
          omega
        clear hlen
        have HC := Keep.mk (text_take g bs ⟨#[91]⟩ _ HP.out.s (by show bs.length + 1 ≤ _; omega))
        go_enter Tryz.func86, Tryz.ntmps86
        go_wp2_with fail
        refine HC.out.mono ?_
        rintro r w1 ⟨rfl, h1, h2, h3⟩
        have HQ := Keep.mk (HP.out.step hg hpg h1 h2 h3)
        clear h1 h2 h3
        have x4 := HQ.out.x.box.cell 4 _ rfl
        go_upto_block 1 with fail
        go_cut [] (fun wx => Keep (PutTxt w0 w wx g w.heap.size (cells6 5 m e s A l.length c A' ks.length c') (bs ++ [91] ++ textL textN true false l ks)))
        case first =>
          clear x4
          go_wp2_with fail
          go_loopg [57] l.length (fun gk i wr => ∃ j : Nat, j + gk = l.length ∧ i = .int .i64 j ∧ Keep (PutTxt w0 w wr g w.heap.size (cells6 5 m e s A l.length c A' ks.length c') (bs ++ [91] ++ textL textN true false (l.take j) ks)))
          case atStart => exact ⟨0, by omega, rfl, ⟨by have h := HQ.out; rw [List.take_zero]; simpa [textL] using h⟩⟩
          case round =>
            clear HQ HP HC
            obtain ⟨j, hj, rfl, HQ⟩ := hrel
            by_cases hlt : j < l.length
            · have hgk : gk ≠ 0 := by omega
              have HS := Keep.mk (textL_take textN false l ks j hlt)
              have hp1 := textL_le_take textN false l ks (j + 1)
              have hcj := hcn j hlt
              have hsj := sizeL_get l j hlt
              have haj := allL_get l j hlt HAL.out
              obtain ⟨gx, ox, k1', m1', e1', s1', A1', n1', c1', A2', n2', c2', rfl, hgx, hJ0, y0', y1', y2', y3', y4', y5'⟩ := HV.out.elem j hlt
              have z0 := (HQ.out.o.cell (p := ⟨gx, ox + j * 6, none⟩) hgx).trans y0'
              have z1 := (HQ.out.o.cell (p := ⟨gx, ox + j * 6 + 1, none⟩) hgx).trans y1'
              have z2 := (HQ.out.o.cell (p := ⟨gx, ox + j * 6 + 2, none⟩) hgx).trans y2'
              have z3 := (HQ.out.o.cell (p := ⟨gx, ox + j * 6 + 3, none⟩) hgx).trans y3'
              have z4 := (HQ.out.o.cell (p := ⟨gx, ox + j * 6 + 4, none⟩) hgx).trans y4'
              have z5 := (HQ.out.o.cell (p := ⟨gx, ox + j * 6 + 5, none⟩) hgx).trans y5'
              have hgs := HQ.out.o.size
              have hgx2 : gx < wr.heap.size := by omega
              have hwg := HQ.out.s.lt
              have hwr : wr.heap.size ≠ g := by omega
              have HS2 := Keep.mk (show textL textN true false (l.take (j + 1)) ks = textL textN true false (l.take j) ks ++ (if j = 0 then [] else [44]) ++ textJ textN l[j] by have h := HS.out; simpa using h)
              have hll : (textL textN true false (l.take j) ks).length + (if j = 0 then ([] : List UInt8) else [44]).length + (textJ textN l[j]).length ≤ (textL textN true false l ks).length := by
                have h := congrArg List.length HS2.out
                rw [List.length_append, List.length_append] at h
                omega
              have hcm : (if j = 0 then ([] : List UInt8) else [44]).length ≤ 1 := by split <;> simp
              have HQ1 := Keep.mk (fun o9 => HQ.out.below (al1 wr o9))
              have HXN := Keep.mk (VBlk.new (w := wr) k1' m1' e1' s1' A1' n1' c1' A2' n2' c2' rfl)
              have HCM := Keep.mk (fun o9 => comma_text g _ j (by omega) _ (HQ1.out o9).s (by simp only [List.length_append, List.length_cons, List.length_nil]; omega))
              have HIH := Keep.mk (fun (w3 : World) (bs3 : List UInt8) (hs3 : TxtS w3 g bs3) (ho3 : Below w0.heap.size w0 w3) (hl3 : bs3.length + (textJ textN l[j]).length ≤ 10000000000) => ih l[j] (by omega) (by omega) haj w0 _ g HG.out hJ0 hg w3 bs3 hs3 ho3 hl3)
              clear hJ0 y0' y1' y2' y3' y4' y5' HS haj
              have HLEN := Keep.mk (show bs.length + 1 + (textL textN true false (l.take j) ks).length + (if j = 0 then ([] : List UInt8) else [44]).length + (textJ textN l[j]).length ≤ 10000000000 by omega)
              clear hll hp1 hcm
              generalize textJ textN l[j] = T1 at *
              generalize (if j = 0 then ([] : List UInt8) else [44]) = C1 at *
              go_wp2_with fail
              refine (HCM.out _).mono ?_
              rintro r w3 ⟨rfl, h1, h2, h3⟩
              have HQ2 := Keep.mk ((HQ1.out _).step hg hpg h1 h2 h3)
              have HX := Keep.mk (HXN.out.kept h2 hwr)
              clear h1 h2 h3 z0 z1 z2 z3 z4 z5
              have t0 := HX.out.box.cell 0 _ rfl
              have t1 := HX.out.box.cell 1 _ rfl
              have t2 := HX.out.box.cell 2 _ rfl
              have t3 := HX.out.box.cell 3 _ rfl
              have t4 := HX.out.box.cell 4 _ rfl
              have t5 := HX.out.box.cell 5 _ rfl
              go_wp2_with fail
              refine (HIH.out w3 _ HQ2.out.s HQ2.out.o (by have h := HLEN.out; simp only [List.length_append, List.length_cons, List.length_nil]; omega)).mono ?_
              rintro r w4 ⟨rfl, h1, h2, h3⟩
              have HQ3 := Keep.mk (HQ2.out.step hg hpg h1 h2 h3)
              clear h1 h2 h3
              go_wp2
              go_roundg (gk - 1)
              case rel => exact ⟨j + 1, by omega, by go_num, ⟨by have h := HQ3.out; rw [HS2.out, app4]; exact h⟩⟩
              case measure => omega
            · have HE := Keep.mk (show l.take j = l from List.take_of_length_le (by omega))
              rw [HE.out] at HQ
              go_wp2_with fail
              go_meet
              exact HQ
        case rest =>
          clear HQ HP HC
          have HQ := hcut
          clear hcut
          go_wp2_with fail
          refine (text_take g _ ⟨#[93]⟩ _ HQ.out.s (by simp only [List.length_append, List.length_cons, List.length_nil]; show _ + 1 ≤ _; omega)).mono ?_
          rintro r w2 ⟨rfl, h1, h2, h3⟩
          have HQ2 := Keep.mk (HQ.out.step hg hpg h1 h2 h3)
          clear h1 h2 h3
          go_wp2
          go_end0
          exact ⟨rfl, by have h := HQ2.out.s; simpa using h, HQ2.out.k, HQ2.out.b⟩
      · have HT := Keep.mk (textJ_map textN 6 m e s l ks rfl)
        rw [HT.out] at hlen
        rw [HT.out]
        have hln : bs.length + (1 + (textL textN true true l ks).length + 1) ≤ 10000000000 := by
          rw [List.cons_append, List.length_cons, List.length_append] at hlen
          simp only [List.length_cons, List.length_nil] at hlen
          omega
        clear hlen
        have HC := Keep.mk (text_take g bs ⟨#[123]⟩ _ HP.out.s (by show bs.length + 1 ≤ _; omega))
        go_enter Tryz.func86, Tryz.ntmps86
        go_wp2_with fail
        refine HC.out.mono ?_
        rintro r w1 ⟨rfl, h1, h2, h3⟩
        have HQ := Keep.mk (HP.out.step hg hpg h1 h2 h3)
        clear h1 h2 h3
        have x4 := HQ.out.x.box.cell 4 _ rfl
        go_upto_block 3 with fail
        go_cut [] (fun wx => Keep (PutTxt w0 w wx g w.heap.size (cells6 6 m e s A l.length c A' ks.length c') (bs ++ [123] ++ textL textN true true l ks)))
        case first =>
          clear x4
          go_wp2_with fail
          go_loopg [78] l.length (fun gk i wr => ∃ j : Nat, j + gk = l.length ∧ i = .int .i64 j ∧ Keep (PutTxt w0 w wr g w.heap.size (cells6 6 m e s A l.length c A' ks.length c') (bs ++ [123] ++ textL textN true true (l.take j) ks)))
          case atStart => exact ⟨0, by omega, rfl, ⟨by have h := HQ.out; rw [List.take_zero]; simpa [textL] using h⟩⟩
          case round =>
            clear HQ HP HC
            obtain ⟨j, hj, rfl, HQ⟩ := hrel
            by_cases hlt : j < l.length
            · have hgk : gk ≠ 0 := by omega
              have HS := Keep.mk (textL_take textN true l ks j hlt)
              have hp1 := textL_le_take textN true l ks (j + 1)
              have hcj := hcn j hlt
              have hjk : j < ks.length := by have := HKL.out (by trivial); omega
              have hvk := key_valid HRK.out j hjk
              have hsk := keysN_get ks j hjk
              obtain ⟨gy, oy, rfl, hgy, hcy⟩ := HK.out.at_ (by omega)
              have cy := hcy j hjk
              clear hcy
              have hsj := sizeL_get l j hlt
              have haj := allL_get l j hlt HAL.out
              obtain ⟨gx, ox, k1', m1', e1', s1', A1', n1', c1', A2', n2', c2', rfl, hgx, hJ0, y0', y1', y2', y3', y4', y5'⟩ := HV.out.elem j hlt
              have z0 := (HQ.out.o.cell (p := ⟨gx, ox + j * 6, none⟩) hgx).trans y0'
              have z1 := (HQ.out.o.cell (p := ⟨gx, ox + j * 6 + 1, none⟩) hgx).trans y1'
              have z2 := (HQ.out.o.cell (p := ⟨gx, ox + j * 6 + 2, none⟩) hgx).trans y2'
              have z3 := (HQ.out.o.cell (p := ⟨gx, ox + j * 6 + 3, none⟩) hgx).trans y3'
              have z4 := (HQ.out.o.cell (p := ⟨gx, ox + j * 6 + 4, none⟩) hgx).trans y4'
              have z5 := (HQ.out.o.cell (p := ⟨gx, ox + j * 6 + 5, none⟩) hgx).trans y5'
              have hgs := HQ.out.o.size
              have hgx2 : gx < wr.heap.size := by omega
              have hwg := HQ.out.s.lt
              have hwr : wr.heap.size ≠ g := by omega
              have HS2 := Keep.mk (show textL textN true true (l.take (j + 1)) ks = textL textN true true (l.take j) ks ++ (if j = 0 then [] else [44]) ++ (quoteD (ks[j]'hjk).data.toList ++ [58]) ++ textJ textN l[j] by have h := HS.out; rw [getD_K ks j hjk] at h; simpa using h)
              have hll : (textL textN true true (l.take j) ks).length + (if j = 0 then ([] : List UInt8) else [44]).length + (quoteD (ks[j]'hjk).data.toList).length + 1 + (textJ textN l[j]).length ≤ (textL textN true true l ks).length := by
                have h := congrArg List.length HS2.out
                rw [List.length_append, List.length_append, List.length_append, List.length_append, List.length_singleton] at h
                omega
              have hcm : (if j = 0 then ([] : List UInt8) else [44]).length ≤ 1 := by split <;> simp
              have HQ1 := Keep.mk (fun o9 => HQ.out.below (al1 wr o9))
              have HXN := Keep.mk (VBlk.new (w := wr) k1' m1' e1' s1' A1' n1' c1' A2' n2' c2' rfl)
              have HCM := Keep.mk (fun o9 => comma_text g _ j (by omega) _ (HQ1.out o9).s (by simp only [List.length_append, List.length_cons, List.length_nil]; omega))
              have HIH := Keep.mk (fun (w3 : World) (bs3 : List UInt8) (hs3 : TxtS w3 g bs3) (ho3 : Below w0.heap.size w0 w3) (hl3 : bs3.length + (textJ textN l[j]).length ≤ 10000000000) => ih l[j] (by omega) (by omega) haj w0 _ g HG.out hJ0 hg w3 bs3 hs3 ho3 hl3)
              have HQW := Keep.mk (fun (w3 : World) (hu : Utf w3) => quote_Write ks[j] (by omega) hvk w3 hu)
              clear hvk hJ0 y0' y1' y2' y3' y4' y5' HS haj
              have HLEN := Keep.mk (show bs.length + 1 + (textL textN true true (l.take j) ks).length + (if j = 0 then ([] : List UInt8) else [44]).length + (quoteD (ks[j]'hjk).data.toList).length + 1 + (textJ textN l[j]).length ≤ 10000000000 by omega)
              clear hll hp1 hcm
              generalize textJ textN l[j] = T1 at *
              generalize ks[j] = kb at *
              generalize quoteD kb.data.toList = Q1 at *
              generalize (if j = 0 then ([] : List UInt8) else [44]) = C1 at *
              go_wp2_with fail
              refine (HCM.out _).mono ?_
              rintro r w3 ⟨rfl, h1, h2, h3⟩
              have HQ2 := Keep.mk ((HQ1.out _).step hg hpg h1 h2 h3)
              have HX := Keep.mk (HXN.out.kept h2 hwr)
              clear h1 h2 h3 z0 z1 z2 z3 z4 z5
              have t0 := HX.out.box.cell 0 _ rfl
              have t1 := HX.out.box.cell 1 _ rfl
              have t2 := HX.out.box.cell 2 _ rfl
              have t3 := HX.out.box.cell 3 _ rfl
              have t4 := HX.out.box.cell 4 _ rfl
              have t5 := HX.out.box.cell 5 _ rfl
              have x5 := HQ2.out.x.box.cell 5 _ rfl
              have cy3 := (HQ2.out.o.cell (p := ⟨gy, oy + j, none⟩) hgy).trans cy
              have hgs3 := HQ2.out.o.size
              have hgy3 : gy < w3.heap.size := by omega
              go_wp2_with fail
              refine (HQW.out w3 (HG.out.below HQ2.out.o).utf).mono ?_
              rintro r w5 ⟨tb, rfl, htl, hb5⟩
              have HTS := Keep.mk (show tb.size = Q1.length by rw [← size_listU, htl])
              have htb9 : tb.size ≤ 10000000000 := by have h := HLEN.out; rw [HTS.out]; omega
              have HTL := Keep.mk htl
              replace HQ2 := Keep.mk (HQ2.out.below hb5)
              replace HX := Keep.mk (HX.out.below hb5)
              clear htl hb5 x5 cy3 t0 t1 t2 t3 t4 t5
              have hwr5 : wr.heap.size ≠ g := hwr
              go_wp2_with fail
              have hlen9 : (bs ++ [123] ++ textL textN true true (l.take j) ks ++ C1).length + (tb ++ ⟨#[58]⟩ : ByteArray).size ≤ 100000000000 := len5 HLEN.out HTS.out
              have HTK := Keep.mk (text_take g _ (tb ++ ⟨#[58]⟩) _ HQ2.out.s hlen9)
              clear hlen9
              refine HTK.out.mono ?_
              rintro r w6 ⟨rfl, h1, h2, h3⟩
              replace HQ2 := Keep.mk (HQ2.out.step hg hpg h1 h2 h3)
              replace HX := Keep.mk (HX.out.kept h2 hwr)
              rw [ba_append, HTL.out, show (⟨#[58]⟩ : ByteArray).data.toList = [58] from rfl] at HQ2
              clear h1 h2 h3
              have t0 := HX.out.box.cell 0 _ rfl
              have t1 := HX.out.box.cell 1 _ rfl
              have t2 := HX.out.box.cell 2 _ rfl
              have t3 := HX.out.box.cell 3 _ rfl
              have t4 := HX.out.box.cell 4 _ rfl
              have t5 := HX.out.box.cell 5 _ rfl
              go_wp2_with fail
              have hlen8 : (bs ++ [123] ++ textL textN true true (l.take j) ks ++ C1 ++ (Q1 ++ [58])).length + T1.length ≤ 10000000000 := len6 HLEN.out
              have HI6 := Keep.mk (HIH.out w6 _ HQ2.out.s HQ2.out.o hlen8)
              clear hlen8
              refine HI6.out.mono ?_
              rintro r w4 ⟨rfl, h1, h2, h3⟩
              have HQ3 := Keep.mk (HQ2.out.step hg hpg h1 h2 h3)
              clear h1 h2 h3
              go_wp2
              go_roundg (gk - 1)
              case rel => exact ⟨j + 1, by omega, by go_num, ⟨by have h := HQ3.out; rw [HS2.out, app5]; exact h⟩⟩
              case measure => omega
            · have HE := Keep.mk (show l.take j = l from List.take_of_length_le (by omega))
              rw [HE.out] at HQ
              go_wp2_with fail
              go_meet
              exact HQ
        case rest =>
          clear HQ HP HC
          have HQ := hcut
          clear hcut
          go_wp2_with fail
          refine (text_take g _ ⟨#[125]⟩ _ HQ.out.s (by simp only [List.length_append, List.length_cons, List.length_nil]; show _ + 1 ≤ _; omega)).mono ?_
          rintro r w2 ⟨rfl, h1, h2, h3⟩
          have HQ2 := Keep.mk (HQ.out.step hg hpg h1 h2 h3)
          clear h1 h2 h3
          go_wp2
          go_end0
          exact ⟨rfl, by have h := HQ2.out.s; simpa using h, HQ2.out.k, HQ2.out.b⟩
end Go.Proofs.YtnkokhpadcgfbaaGreatDoor
namespace Go.Proofs.YtnkokhpadcgfbaaGreatDoor
open Go Go.RowKit Go.Proofs Th
attribute [local go_sem] Above.cell
structure PutCnt (w0 w wr : World) (g p : Nat) (cs : List Value) (bs : List UInt8) : Prop where
  s : CntS wr g bs
  x : VBlk wr p cs
  k : Kept g w wr
  b : Below g w wr
  o : Below w0.heap.size w0 wr
theorem PutCnt.step {w0 w wr w' : World} {g p : Nat} {cs : List Value} {bs bs' : List UInt8} (h : PutCnt w0 w wr g p cs bs) (hg : w0.heap.size ≤ g) (hp : p ≠ g) (h1 : CntS w' g bs') (h2 : Kept g wr w') (h3 : Below g wr w') : PutCnt w0 w w' g p cs bs' :=
  ⟨h1, h.x.kept h2 hp, h.k.trans h2, h.b.trans h3, h.o.trans (h3.mono hg)⟩
theorem PutCnt.below {w0 w wr w' : World} {g p : Nat} {cs : List Value} {bs : List UInt8} (h : PutCnt w0 w wr g p cs bs) (hb : Below wr.heap.size wr w') : PutCnt w0 w w' g p cs bs :=
  ⟨h.s.below hb, h.x.below hb, h.k.trans (kept_below hb), h.b.trans (hb.mono (Nat.le_of_lt h.s.lt)), up h.o hb⟩
set_option maxRecDepth 100000 in
theorem comma_count (g : Nat) (bs : List UInt8) (i : Nat) (hi : i ≤ 140737488351232) (w : World) (hT : CntS w g bs) (hl : bs.length + 1 ≤ 100000000000) :
    Calls Tryz.prog 137 #[.iface 127 (.pointer (some ⟨g, 0, none⟩)), .int .i64 i] w fun r w' => r = .returned (.tuple #[]) ∧ CntS w' g (bs ++ if i = 0 then [] else [44]) ∧ Kept g w w' ∧ Below g w w' := by
  by_cases h0 : i = 0
  · subst h0
    go_enter Tryz.func137, Tryz.ntmps137
    go_wp2
    go_end0
    exact ⟨rfl, by simpa using hT, Lib.OthersKept.refl _ _ _, Below.refl _ _⟩
  · have h02 : (0 : Int) < i := by omega
    have HT := Keep.mk (count_take g bs ⟨#[44]⟩ w hT (by show bs.length + 1 ≤ _; omega))
    go_enter Tryz.func137, Tryz.ntmps137
    go_wp2_with fail
    refine HT.out.mono ?_
    rintro r w1 ⟨rfl, h1, h2, h3⟩
    go_wp2
    go_end0
    exact ⟨rfl, by first | exact h1 | (rw [if_neg h0]; exact h1), h2, h3⟩
set_option maxRecDepth 100000 in
set_option maxHeartbeats 4000000 in
theorem put_count : ∀ (n : Nat) (t : JV), countJ t ≤ n → sizeJ t ≤ 1000000 → allJ t = true → ∀ (w0 : World) (cs : List Value) (g : Nat), GlobW w0 → JAt w0 w0.heap.size t cs → w0.heap.size ≤ g → ∀ (w : World) (bs : List UInt8), CntS w g bs → Below w0.heap.size w0 w → bs.length + (textJ textN t).length ≤ 10000000000 →
    Calls Tryz.prog 86 #[.iface 127 (.pointer (some ⟨g, 0, none⟩)), .agg cs.toArray] w fun r w' => r = .returned (.tuple #[]) ∧ CntS w' g (bs ++ textJ textN t) ∧ Kept g w w' ∧ Below g w w' := by
  intro n
  induction n with
  | zero => intro t h; cases t; unfold countJ at h; omega
  | succ n ih =>
    intro t hn hz hall w0 cs g hG hJ hg w bs hS hb hlen
    cases t with
    | mk k m e s l ks =>
      obtain ⟨A, c, A', c', rfl, hk, hm, he, hs, hK, hV⟩ := hJ.open
      show Calls _ _ #[_, .agg #[.int .i64 k, .int .i64 m, .int .i64 e, .string s, .slice A l.length c, .slice A' ks.length c']] w _
      have hcn := countL_get l
      have hcl : countL l ≤ n := by have : 1 + countL l ≤ n + 1 := hn; omega
      have hal : okOne (.mk k m e s l ks) = true ∧ allL l = true := by simpa only [allJ, Bool.and_eq_true] using hall
      obtain ⟨hk06, hri, hva, hrk, hkl⟩ := ok_parts hal.1
      have hz2 : 1 + s.size + keysN ks + sizeL l ≤ 1000000 := hz
      have hlc := hV.cap
      have hkc := hK.cap
      have HG := Keep.mk hG
      have HV := Keep.mk hV
      have HK := Keep.mk hK
      have hgl := hS.lt
      have HP := Keep.mk (show PutCnt w0 w (w.alloc (.cells #[.int .i64 k, .int .i64 m, .int .i64 e, .string s, .slice A l.length c, .slice A' ks.length c'] 27)) g w.heap.size (cells6 k m e s A l.length c A' ks.length c') bs from
        ⟨hS.below (al1 _ _), VBlk.new _ _ _ _ _ _ _ _ _ _ rfl, kept_below (al1 _ _), (al1 _ _).mono (Nat.le_of_lt hgl), up hb (al1 _ _)⟩)
      have HAL := Keep.mk hal.2
      have HRK := Keep.mk hrk
      have HVA := Keep.mk hva
      have HRI := Keep.mk hri
      have HKL := Keep.mk hkl
      clear hkl
      clear hJ hV hK hG hS hb hn hz hall hal hrk hva hri
      have hpg : w.heap.size ≠ g := by omega
      have hk7 : k = 0 ∨ k = 1 ∨ k = 2 ∨ k = 3 ∨ k = 4 ∨ k = 5 ∨ k = 6 := by omega
      rcases hk7 with rfl | rfl | rfl | rfl | rfl | rfl | rfl
      · have HT := Keep.mk (show textJ textN (.mk 0 m e s l ks) = [110, 117, 108, 108] by simp [textJ])
        rw [HT.out] at hlen
        rw [HT.out]
        have HC := Keep.mk (count_take g bs ⟨#[110, 117, 108, 108]⟩ _ HP.out.s (by have : bs.length + 4 ≤ 10000000000 := hlen; show bs.length + 4 ≤ _; omega))
        go_enter Tryz.func86, Tryz.ntmps86
        go_wp2_with fail
        refine HC.out.mono ?_
        rintro r w1 ⟨rfl, h1, h2, h3⟩
        have HQ := Keep.mk (HP.out.step hg hpg h1 h2 h3)
        clear h1 h2 h3
        go_wp2
        go_end0
        exact ⟨rfl, HQ.out.s, HQ.out.k, HQ.out.b⟩
      · have HT := Keep.mk (show textJ textN (.mk 1 m e s l ks) = [102, 97, 108, 115, 101] by simp [textJ])
        rw [HT.out] at hlen
        rw [HT.out]
        have HC := Keep.mk (count_take g bs ⟨#[102, 97, 108, 115, 101]⟩ _ HP.out.s (by have : bs.length + 5 ≤ 10000000000 := hlen; show bs.length + 5 ≤ _; omega))
        go_enter Tryz.func86, Tryz.ntmps86
        go_wp2_with fail
        refine HC.out.mono ?_
        rintro r w1 ⟨rfl, h1, h2, h3⟩
        have HQ := Keep.mk (HP.out.step hg hpg h1 h2 h3)
        clear h1 h2 h3
        go_wp2
        go_end0
        exact ⟨rfl, HQ.out.s, HQ.out.k, HQ.out.b⟩
      · have HT := Keep.mk (show textJ textN (.mk 2 m e s l ks) = [116, 114, 117, 101] by simp [textJ])
        rw [HT.out] at hlen
        rw [HT.out]
        have HC := Keep.mk (count_take g bs ⟨#[116, 114, 117, 101]⟩ _ HP.out.s (by have : bs.length + 4 ≤ 10000000000 := hlen; show bs.length + 4 ≤ _; omega))
        go_enter Tryz.func86, Tryz.ntmps86
        go_wp2_with fail
        refine HC.out.mono ?_
        rintro r w1 ⟨rfl, h1, h2, h3⟩
        have HQ := Keep.mk (HP.out.step hg hpg h1 h2 h3)
        clear h1 h2 h3
        go_wp2
        go_end0
        exact ⟨rfl, HQ.out.s, HQ.out.k, HQ.out.b⟩
      · have HT := Keep.mk (show textJ textN (.mk 3 m e s l ks) = textN m e by simp [textJ])
        rw [HT.out] at hlen
        rw [HT.out]
        have HC := Keep.mk (num_print m e hm _ (HG.out.below HP.out.o).num)
        rw [print_ok HRI.out] at HC
        obtain ⟨tb, htb⟩ : ∃ b : ByteArray, ⟨(textN m e).toArray⟩ = b := ⟨_, rfl⟩
        have htl : tb.data.toList = textN m e := by rw [← htb]
        have hts : tb.size = (textN m e).length := by rw [← size_listU, htl]
        rw [htb] at HC
        rw [← htl]
        clear htb
        have HTL := Keep.mk htl
        clear htl
        go_enter Tryz.func86, Tryz.ntmps86
        go_wp2_with fail
        refine HC.out.mono ?_
        rintro r w1 ⟨rfl, hb1⟩
        have HQ := Keep.mk (HP.out.below hb1)
        clear hb1
        go_wp2_with fail
        refine (count_take g bs tb _ HQ.out.s (by omega)).mono ?_
        rintro r w2 ⟨rfl, h1, h2, h3⟩
        have HQ2 := Keep.mk (HQ.out.step hg hpg h1 h2 h3)
        clear h1 h2 h3
        go_wp2
        go_end0
        exact ⟨rfl, HQ2.out.s, HQ2.out.k, HQ2.out.b⟩
      · have HT := Keep.mk (show textJ textN (.mk 4 m e s l ks) = quoteD s.data.toList by simp [textJ])
        rw [HT.out] at hlen
        rw [HT.out]
        have HC := Keep.mk (quote_Write s (by omega) HVA.out _ (HG.out.below HP.out.o).utf)
        go_enter Tryz.func86, Tryz.ntmps86
        go_wp2_with fail
        refine HC.out.mono ?_
        rintro r w1 ⟨tb, rfl, htl, hb1⟩
        have HQ := Keep.mk (HP.out.below hb1)
        have hts : tb.size = (quoteD s.data.toList).length := by rw [← size_listU, htl]
        have HTL := Keep.mk htl
        clear hb1 htl
        go_wp2_with fail
        refine (count_take g bs tb _ HQ.out.s (by omega)).mono ?_
        rintro r w2 ⟨rfl, h1, h2, h3⟩
        have HQ2 := Keep.mk (HQ.out.step hg hpg h1 h2 h3)
        clear h1 h2 h3
        go_wp2
        go_end0
        exact ⟨rfl, by rw [← HTL.out]; exact HQ2.out.s, HQ2.out.k, HQ2.out.b⟩
      · have HT := Keep.mk (textJ_list textN 5 m e s l ks rfl)
        rw [HT.out] at hlen
        rw [HT.out]
        have hln : bs.length + (1 + (textL textN true false l ks).length + 1) ≤ 10000000000 := by
          rw [List.cons_append, List.length_cons, List.length_append] at hlen
          simp only [List.length_cons, List.length_nil] at hlen
          omega
        clear hlen
        have HC := Keep.mk (count_take g bs ⟨#[91]⟩ _ HP.out.s (by show bs.length + 1 ≤ _; omega))
        go_enter Tryz.func86, Tryz.ntmps86
        go_wp2_with fail
        refine HC.out.mono ?_
        rintro r w1 ⟨rfl, h1, h2, h3⟩
        have HQ := Keep.mk (HP.out.step hg hpg h1 h2 h3)
        clear h1 h2 h3
        have x4 := HQ.out.x.box.cell 4 _ rfl
        go_upto_block 1 with fail
        go_cut [] (fun wx => Keep (PutCnt w0 w wx g w.heap.size (cells6 5 m e s A l.length c A' ks.length c') (bs ++ [91] ++ textL textN true false l ks)))
        case first =>
          clear x4
          go_wp2_with fail
          go_loopg [57] l.length (fun gk i wr => ∃ j : Nat, j + gk = l.length ∧ i = .int .i64 j ∧ Keep (PutCnt w0 w wr g w.heap.size (cells6 5 m e s A l.length c A' ks.length c') (bs ++ [91] ++ textL textN true false (l.take j) ks)))
          case atStart => exact ⟨0, by omega, rfl, ⟨by have h := HQ.out; rw [List.take_zero]; simpa [textL] using h⟩⟩
          case round =>
            clear HQ HP HC
            obtain ⟨j, hj, rfl, HQ⟩ := hrel
            by_cases hlt : j < l.length
            · have hgk : gk ≠ 0 := by omega
              have HS := Keep.mk (textL_take textN false l ks j hlt)
              have hp1 := textL_le_take textN false l ks (j + 1)
              have hcj := hcn j hlt
              have hsj := sizeL_get l j hlt
              have haj := allL_get l j hlt HAL.out
              obtain ⟨gx, ox, k1', m1', e1', s1', A1', n1', c1', A2', n2', c2', rfl, hgx, hJ0, y0', y1', y2', y3', y4', y5'⟩ := HV.out.elem j hlt
              have z0 := (HQ.out.o.cell (p := ⟨gx, ox + j * 6, none⟩) hgx).trans y0'
              have z1 := (HQ.out.o.cell (p := ⟨gx, ox + j * 6 + 1, none⟩) hgx).trans y1'
              have z2 := (HQ.out.o.cell (p := ⟨gx, ox + j * 6 + 2, none⟩) hgx).trans y2'
              have z3 := (HQ.out.o.cell (p := ⟨gx, ox + j * 6 + 3, none⟩) hgx).trans y3'
              have z4 := (HQ.out.o.cell (p := ⟨gx, ox + j * 6 + 4, none⟩) hgx).trans y4'
              have z5 := (HQ.out.o.cell (p := ⟨gx, ox + j * 6 + 5, none⟩) hgx).trans y5'
              have hgs := HQ.out.o.size
              have hgx2 : gx < wr.heap.size := by omega
              have hwg := HQ.out.s.lt
              have hwr : wr.heap.size ≠ g := by omega
              have HS2 := Keep.mk (show textL textN true false (l.take (j + 1)) ks = textL textN true false (l.take j) ks ++ (if j = 0 then [] else [44]) ++ textJ textN l[j] by have h := HS.out; simpa using h)
              have hll : (textL textN true false (l.take j) ks).length + (if j = 0 then ([] : List UInt8) else [44]).length + (textJ textN l[j]).length ≤ (textL textN true false l ks).length := by
                have h := congrArg List.length HS2.out
                rw [List.length_append, List.length_append] at h
                omega
              have hcm : (if j = 0 then ([] : List UInt8) else [44]).length ≤ 1 := by split <;> simp
              have HQ1 := Keep.mk (fun o9 => HQ.out.below (al1 wr o9))
              have HXN := Keep.mk (VBlk.new (w := wr) k1' m1' e1' s1' A1' n1' c1' A2' n2' c2' rfl)
              have HCM := Keep.mk (fun o9 => comma_count g _ j (by omega) _ (HQ1.out o9).s (by simp only [List.length_append, List.length_cons, List.length_nil]; omega))
              have HIH := Keep.mk (fun (w3 : World) (bs3 : List UInt8) (hs3 : CntS w3 g bs3) (ho3 : Below w0.heap.size w0 w3) (hl3 : bs3.length + (textJ textN l[j]).length ≤ 10000000000) => ih l[j] (by omega) (by omega) haj w0 _ g HG.out hJ0 hg w3 bs3 hs3 ho3 hl3)
              clear hJ0 y0' y1' y2' y3' y4' y5' HS haj
              have HLEN := Keep.mk (show bs.length + 1 + (textL textN true false (l.take j) ks).length + (if j = 0 then ([] : List UInt8) else [44]).length + (textJ textN l[j]).length ≤ 10000000000 by omega)
              clear hll hp1 hcm
              generalize textJ textN l[j] = T1 at *
              generalize (if j = 0 then ([] : List UInt8) else [44]) = C1 at *
              go_wp2_with fail
              refine (HCM.out _).mono ?_
              rintro r w3 ⟨rfl, h1, h2, h3⟩
              have HQ2 := Keep.mk ((HQ1.out _).step hg hpg h1 h2 h3)
              have HX := Keep.mk (HXN.out.kept h2 hwr)
              clear h1 h2 h3 z0 z1 z2 z3 z4 z5
              have t0 := HX.out.box.cell 0 _ rfl
              have t1 := HX.out.box.cell 1 _ rfl
              have t2 := HX.out.box.cell 2 _ rfl
              have t3 := HX.out.box.cell 3 _ rfl
              have t4 := HX.out.box.cell 4 _ rfl
              have t5 := HX.out.box.cell 5 _ rfl
              go_wp2_with fail
              refine (HIH.out w3 _ HQ2.out.s HQ2.out.o (by have h := HLEN.out; simp only [List.length_append, List.length_cons, List.length_nil]; omega)).mono ?_
              rintro r w4 ⟨rfl, h1, h2, h3⟩
              have HQ3 := Keep.mk (HQ2.out.step hg hpg h1 h2 h3)
              clear h1 h2 h3
              go_wp2
              go_roundg (gk - 1)
              case rel => exact ⟨j + 1, by omega, by go_num, ⟨by have h := HQ3.out; rw [HS2.out, app4]; exact h⟩⟩
              case measure => omega
            · have HE := Keep.mk (show l.take j = l from List.take_of_length_le (by omega))
              rw [HE.out] at HQ
              go_wp2_with fail
              go_meet
              exact HQ
        case rest =>
          clear HQ HP HC
          have HQ := hcut
          clear hcut
          go_wp2_with fail
          refine (count_take g _ ⟨#[93]⟩ _ HQ.out.s (by simp only [List.length_append, List.length_cons, List.length_nil]; show _ + 1 ≤ _; omega)).mono ?_
          rintro r w2 ⟨rfl, h1, h2, h3⟩
          have HQ2 := Keep.mk (HQ.out.step hg hpg h1 h2 h3)
          clear h1 h2 h3
          go_wp2
          go_end0
          exact ⟨rfl, by have h := HQ2.out.s; simpa using h, HQ2.out.k, HQ2.out.b⟩
      · have HT := Keep.mk (textJ_map textN 6 m e s l ks rfl)
        rw [HT.out] at hlen
        rw [HT.out]
        have hln : bs.length + (1 + (textL textN true true l ks).length + 1) ≤ 10000000000 := by
          rw [List.cons_append, List.length_cons, List.length_append] at hlen
          simp only [List.length_cons, List.length_nil] at hlen
          omega
        clear hlen
        have HC := Keep.mk (count_take g bs ⟨#[123]⟩ _ HP.out.s (by show bs.length + 1 ≤ _; omega))
        go_enter Tryz.func86, Tryz.ntmps86
        go_wp2_with fail
        refine HC.out.mono ?_
        rintro r w1 ⟨rfl, h1, h2, h3⟩
        have HQ := Keep.mk (HP.out.step hg hpg h1 h2 h3)
        clear h1 h2 h3
        have x4 := HQ.out.x.box.cell 4 _ rfl
        go_upto_block 3 with fail
        go_cut [] (fun wx => Keep (PutCnt w0 w wx g w.heap.size (cells6 6 m e s A l.length c A' ks.length c') (bs ++ [123] ++ textL textN true true l ks)))
        case first =>
          clear x4
          go_wp2_with fail
          go_loopg [78] l.length (fun gk i wr => ∃ j : Nat, j + gk = l.length ∧ i = .int .i64 j ∧ Keep (PutCnt w0 w wr g w.heap.size (cells6 6 m e s A l.length c A' ks.length c') (bs ++ [123] ++ textL textN true true (l.take j) ks)))
          case atStart => exact ⟨0, by omega, rfl, ⟨by have h := HQ.out; rw [List.take_zero]; simpa [textL] using h⟩⟩
          case round =>
            clear HQ HP HC
            obtain ⟨j, hj, rfl, HQ⟩ := hrel
            by_cases hlt : j < l.length
            · have hgk : gk ≠ 0 := by omega
              have HS := Keep.mk (textL_take textN true l ks j hlt)
              have hp1 := textL_le_take textN true l ks (j + 1)
              have hcj := hcn j hlt
              have hjk : j < ks.length := by have := HKL.out (by trivial); omega
              have hvk := key_valid HRK.out j hjk
              have hsk := keysN_get ks j hjk
              obtain ⟨gy, oy, rfl, hgy, hcy⟩ := HK.out.at_ (by omega)
              have cy := hcy j hjk
              clear hcy
              have hsj := sizeL_get l j hlt
              have haj := allL_get l j hlt HAL.out
              obtain ⟨gx, ox, k1', m1', e1', s1', A1', n1', c1', A2', n2', c2', rfl, hgx, hJ0, y0', y1', y2', y3', y4', y5'⟩ := HV.out.elem j hlt
              have z0 := (HQ.out.o.cell (p := ⟨gx, ox + j * 6, none⟩) hgx).trans y0'
              have z1 := (HQ.out.o.cell (p := ⟨gx, ox + j * 6 + 1, none⟩) hgx).trans y1'
              have z2 := (HQ.out.o.cell (p := ⟨gx, ox + j * 6 + 2, none⟩) hgx).trans y2'
              have z3 := (HQ.out.o.cell (p := ⟨gx, ox + j * 6 + 3, none⟩) hgx).trans y3'
              have z4 := (HQ.out.o.cell (p := ⟨gx, ox + j * 6 + 4, none⟩) hgx).trans y4'
              have z5 := (HQ.out.o.cell (p := ⟨gx, ox + j * 6 + 5, none⟩) hgx).trans y5'
              have hgs := HQ.out.o.size
              have hgx2 : gx < wr.heap.size := by omega
              have hwg := HQ.out.s.lt
              have hwr : wr.heap.size ≠ g := by omega
              have HS2 := Keep.mk (show textL textN true true (l.take (j + 1)) ks = textL textN true true (l.take j) ks ++ (if j = 0 then [] else [44]) ++ (quoteD (ks[j]'hjk).data.toList ++ [58]) ++ textJ textN l[j] by have h := HS.out; rw [getD_K ks j hjk] at h; simpa using h)
              have hll : (textL textN true true (l.take j) ks).length + (if j = 0 then ([] : List UInt8) else [44]).length + (quoteD (ks[j]'hjk).data.toList).length + 1 + (textJ textN l[j]).length ≤ (textL textN true true l ks).length := by
                have h := congrArg List.length HS2.out
                rw [List.length_append, List.length_append, List.length_append, List.length_append, List.length_singleton] at h
                omega
              have hcm : (if j = 0 then ([] : List UInt8) else [44]).length ≤ 1 := by split <;> simp
              have HQ1 := Keep.mk (fun o9 => HQ.out.below (al1 wr o9))
              have HXN := Keep.mk (VBlk.new (w := wr) k1' m1' e1' s1' A1' n1' c1' A2' n2' c2' rfl)
              have HCM := Keep.mk (fun o9 => comma_count g _ j (by omega) _ (HQ1.out o9).s (by simp only [List.length_append, List.length_cons, List.length_nil]; omega))
              have HIH := Keep.mk (fun (w3 : World) (bs3 : List UInt8) (hs3 : CntS w3 g bs3) (ho3 : Below w0.heap.size w0 w3) (hl3 : bs3.length + (textJ textN l[j]).length ≤ 10000000000) => ih l[j] (by omega) (by omega) haj w0 _ g HG.out hJ0 hg w3 bs3 hs3 ho3 hl3)
              have HQW := Keep.mk (fun (w3 : World) (hu : Utf w3) => quote_Write ks[j] (by omega) hvk w3 hu)
              clear hvk hJ0 y0' y1' y2' y3' y4' y5' HS haj
              have HLEN := Keep.mk (show bs.length + 1 + (textL textN true true (l.take j) ks).length + (if j = 0 then ([] : List UInt8) else [44]).length + (quoteD (ks[j]'hjk).data.toList).length + 1 + (textJ textN l[j]).length ≤ 10000000000 by omega)
              clear hll hp1 hcm
              generalize textJ textN l[j] = T1 at *
              generalize ks[j] = kb at *
              generalize quoteD kb.data.toList = Q1 at *
              generalize (if j = 0 then ([] : List UInt8) else [44]) = C1 at *
              go_wp2_with fail
              refine (HCM.out _).mono ?_
              rintro r w3 ⟨rfl, h1, h2, h3⟩
              have HQ2 := Keep.mk ((HQ1.out _).step hg hpg h1 h2 h3)
              have HX := Keep.mk (HXN.out.kept h2 hwr)
              clear h1 h2 h3 z0 z1 z2 z3 z4 z5
              have t0 := HX.out.box.cell 0 _ rfl
              have t1 := HX.out.box.cell 1 _ rfl
              have t2 := HX.out.box.cell 2 _ rfl
              have t3 := HX.out.box.cell 3 _ rfl
              have t4 := HX.out.box.cell 4 _ rfl
              have t5 := HX.out.box.cell 5 _ rfl
              have x5 := HQ2.out.x.box.cell 5 _ rfl
              have cy3 := (HQ2.out.o.cell (p := ⟨gy, oy + j, none⟩) hgy).trans cy
              have hgs3 := HQ2.out.o.size
              have hgy3 : gy < w3.heap.size := by omega
              go_wp2_with fail
              refine (HQW.out w3 (HG.out.below HQ2.out.o).utf).mono ?_
              rintro r w5 ⟨tb, rfl, htl, hb5⟩
              have HTS := Keep.mk (show tb.size = Q1.length by rw [← size_listU, htl])
              have htb9 : tb.size ≤ 10000000000 := by have h := HLEN.out; rw [HTS.out]; omega
              have HTL := Keep.mk htl
              replace HQ2 := Keep.mk (HQ2.out.below hb5)
              replace HX := Keep.mk (HX.out.below hb5)
              clear htl hb5 x5 cy3 t0 t1 t2 t3 t4 t5
              have hwr5 : wr.heap.size ≠ g := hwr
              go_wp2_with fail
              have hlen9 : (bs ++ [123] ++ textL textN true true (l.take j) ks ++ C1).length + (tb ++ ⟨#[58]⟩ : ByteArray).size ≤ 100000000000 := len5 HLEN.out HTS.out
              have HTK := Keep.mk (count_take g _ (tb ++ ⟨#[58]⟩) _ HQ2.out.s hlen9)
              clear hlen9
              refine HTK.out.mono ?_
              rintro r w6 ⟨rfl, h1, h2, h3⟩
              replace HQ2 := Keep.mk (HQ2.out.step hg hpg h1 h2 h3)
              replace HX := Keep.mk (HX.out.kept h2 hwr)
              rw [ba_append, HTL.out, show (⟨#[58]⟩ : ByteArray).data.toList = [58] from rfl] at HQ2
              clear h1 h2 h3
              have t0 := HX.out.box.cell 0 _ rfl
              have t1 := HX.out.box.cell 1 _ rfl
              have t2 := HX.out.box.cell 2 _ rfl
              have t3 := HX.out.box.cell 3 _ rfl
              have t4 := HX.out.box.cell 4 _ rfl
              have t5 := HX.out.box.cell 5 _ rfl
              go_wp2_with fail
              have hlen8 : (bs ++ [123] ++ textL textN true true (l.take j) ks ++ C1 ++ (Q1 ++ [58])).length + T1.length ≤ 10000000000 := len6 HLEN.out
              have HI6 := Keep.mk (HIH.out w6 _ HQ2.out.s HQ2.out.o hlen8)
              clear hlen8
              refine HI6.out.mono ?_
              rintro r w4 ⟨rfl, h1, h2, h3⟩
              have HQ3 := Keep.mk (HQ2.out.step hg hpg h1 h2 h3)
              clear h1 h2 h3
              go_wp2
              go_roundg (gk - 1)
              case rel => exact ⟨j + 1, by omega, by go_num, ⟨by have h := HQ3.out; rw [HS2.out, app5]; exact h⟩⟩
              case measure => omega
            · have HE := Keep.mk (show l.take j = l from List.take_of_length_le (by omega))
              rw [HE.out] at HQ
              go_wp2_with fail
              go_meet
              exact HQ
        case rest =>
          clear HQ HP HC
          have HQ := hcut
          clear hcut
          go_wp2_with fail
          refine (count_take g _ ⟨#[125]⟩ _ HQ.out.s (by simp only [List.length_append, List.length_cons, List.length_nil]; show _ + 1 ≤ _; omega)).mono ?_
          rintro r w2 ⟨rfl, h1, h2, h3⟩
          have HQ2 := Keep.mk (HQ.out.step hg hpg h1 h2 h3)
          clear h1 h2 h3
          go_wp2
          go_end0
          exact ⟨rfl, by have h := HQ2.out.s; simpa using h, HQ2.out.k, HQ2.out.b⟩
end Go.Proofs.YtnkokhpadcgfbaaGreatDoor
