/- Lemmas and contracts for the laws CalcCompares, part 20 of 33: WriteP, Make. Conditions: those that each lemma names. -/
import Derived.Test.YtmacgdcmgbkfnaaGreatDoorPack3
import Derived.Test.YtmacgdcmgbkfnaaGreatDoorPack17
import Derived.Test.YtmacgdcmgbkfnaaGreatDoorPack18
import Derived.Test.YtmacgdcmgbkfnaaGreatDoorPack7
import Derived.Test.YtmacgdcmgbkfnaaGreatDoorPack12
import Derived.Test.YtmacgdcmgbkfnaaGreatDoorPack2
import Derived.Outline
import Derived.Maps.OwnOps
import Derived.StringKeys
import Derived.Maps.RangeWalk
import Derived.Sort.OwnSorted
namespace Go.Proofs.YtmacgdcmgbkfnaaGreatDoor
open Go Go.RowKit Go.Proofs Th
def textR (m e : Int) : List UInt8 := if right m e = true then textN m e else []
theorem textR_le (m e : Int) : (textR m e).length ≤ 3000 := by
  unfold textR
  split
  · rename_i h; exact text_short h
  · simp
mutual
theorem textJ_right : ∀ v : JV, allJ v = true → textJ textN v = textJ textR v
  | .mk k m e s l ks => by
    intro h
    simp only [allJ, okOne, Bool.and_eq_true] at h
    have hr : right m e = true := h.1.1.1.2
    have hl := h.2
    simp only [textJ, textL_right true false l [] hl, textL_right true true l ks hl, show textR m e = textN m e by unfold textR; rw [if_pos hr]]
theorem textL_right (first named : Bool) : ∀ (l : List JV) (ks : List ByteArray), allL l = true → textL textN first named l ks = textL textR first named l ks
  | [], ks => fun _ => rfl
  | v :: r, ks => by
    intro h
    simp only [allL, Bool.and_eq_true] at h
    simp only [textL, textJ_right v h.1, textL_right false named r (ks.drop 1) h.2]
end
theorem textJ_len (t : JV) (h : allJ t = true) : (textJ textN t).length ≤ 4000 * sizeJ t := by
  have := textJ_le textR textR_le t
  rw [textJ_right t h]; omega
end Go.Proofs.YtmacgdcmgbkfnaaGreatDoor
namespace Go.Proofs.YtmacgdcmgbkfnaaGreatDoor
open Go Go.RowKit Go.Proofs Th
attribute [local go_sem] Above.cell
def printJ (t : JV) : List UInt8 := if rightJ t = 0 then textJ textN t else []
theorem right_ok {t : JV} (h : rightJ t = 0) : allJ t = true ∧ depthJ t ≤ 48 := by
  unfold rightJ at h
  by_cases hd : 48 < depthJ t
  · rw [if_pos hd] at h; omega
  · rw [if_neg hd] at h
    refine ⟨?_, by omega⟩
    cases ha : allJ t
    · rw [ha] at h; simp at h
    · rfl
theorem text_bound (t : JV) (hz : sizeJ t ≤ 1000000) (h : rightJ t = 0) : (textJ textN t).length ≤ 10000000000 := by
  have := textJ_len t (right_ok h).1
  omega
set_option maxRecDepth 100000 in
theorem write_Print (t : JV) (hz : sizeJ t ≤ 1000000) (w : World) (cs : List Value) (hG : GlobW w) (hJ : JAt w w.heap.size t cs) :
    Calls Tryz.prog 37 #[.agg cs.toArray] w fun r w' => ∃ b : ByteArray, r = .returned (.tuple #[.string b, .int .i64 (rightJ t)]) ∧ b.data.toList = printJ t ∧ Below w.heap.size w w' := by
  have HJ := Keep.mk hJ
  have HGW := Keep.mk hG
  have HC := Keep.mk (value_Right t)
  have HP := Keep.mk (put_text _ t (Nat.le_refl _) hz)
  have HR := Keep.mk (right_ok (t := t))
  have HL := Keep.mk (text_bound t hz)
  have HPR := Keep.mk (show printJ t = if rightJ t = 0 then textJ textN t else [] from rfl)
  generalize rightJ t = rr at *
  cases t with
  | mk k m e s l ks =>
    obtain ⟨A, c, A', c', rfl, hk, hm, he, hs, hK, hV⟩ := hJ.open
    show Calls _ _ #[.agg #[.int .i64 k, .int .i64 m, .int .i64 e, .string s, .slice A l.length c, .slice A' ks.length c']] w _
    have HO := Keep.mk (One6.start (k := k) (m := m) (e := e) (s := s) 27 hG hV hK)
    clear hJ hV hK hG
    go_enter Tryz.func37, Tryz.ntmps37
    go_wp2_with fail
    refine calls_world (fun W => One6 w W k m e s l ks A c A' c' ∧ JAt W W.heap.size (.mk k m e s l ks) (cells6 k m e s A l.length c A' ks.length c')) ⟨HO.out, (HJ.out.keep (al1 _ _) (Nat.le_refl _)).more (al1 _ _).size⟩ ?_
    clear HJ HO
    rintro W0 ⟨HO, HJ⟩
    replace HO := Keep.mk HO
    replace HJ := Keep.mk HJ
    refine (HC.out _ _ HO.out.g HJ.out).mono ?_
    rintro r w1 ⟨rfl, hb1⟩
    replace HO := Keep.mk (HO.out.below hb1)
    replace HJ := Keep.mk ((HJ.out.keep hb1 (Nat.le_refl _)).more hb1.size)
    clear hb1
    by_cases hrr : rr = 0
    · subst hrr
      obtain ⟨hall, hdep⟩ := HR.out rfl
      have hl := HL.out rfl
      have x0 := HO.out.x.cell 0 _ rfl
      have x1 := HO.out.x.cell 1 _ rfl
      have x2 := HO.out.x.cell 2 _ rfl
      have x3 := HO.out.x.cell 3 _ rfl
      have x4 := HO.out.x.cell 4 _ rfl
      have x5 := HO.out.x.cell 5 _ rfl
      have xl := HO.out.x.lt
      have HPT := Keep.mk (HP.out hall w1 _ w1.heap.size (HGW.out.below HO.out.b) HJ.out (Nat.le_refl _))
      have HE := Keep.mk (show printJ (.mk k m e s l ks) = textJ textN (.mk k m e s l ks) by rw [HPR.out, if_pos rfl])
      clear hall HP HPR HR
      have HTS := Keep.mk (show TxtS (w1.alloc (.cells #[.slice none 0 0] 97)) w1.heap.size [] from ⟨⟨_, heap_alloc_new w1 _, OwnB.nil _ _⟩⟩)
      go_wp2_with fail
      refine (HPT.out _ [] HTS.out (al1 _ _) (by simp only [List.length_nil]; omega)).mono ?_
      rintro r w2 ⟨rfl, h1, h2, h3⟩
      obtain ⟨v, hv, ho⟩ := h1.ex
      have hc0 := cell_of_one hv
      have hst := ho.string
      have HB2 := Keep.mk (HO.out.b.trans (((al1 w1 _).mono HO.out.b.size).trans (h3.mono HO.out.b.size)))
      clear hv ho h1 h2 h3 x0 x1 x2 x3 x4 x5
      go_wp2
      go_ret2
      exact ⟨_, rfl, by rw [HE.out], HB2.out⟩
    · have hr2 : (rr != 0) = true := by simpa using hrr
      have HE := Keep.mk (show printJ (.mk k m e s l ks) = [] by rw [HPR.out, if_neg hrr])
      clear hrr HPR HR HP
      go_wp2
      go_ret2
      exact ⟨⟨#[]⟩, rfl, by rw [HE.out], HO.out.b⟩
set_option maxRecDepth 100000 in
theorem write_Size (t : JV) (hz : sizeJ t ≤ 1000000) (w : World) (cs : List Value) (hG : GlobW w) (hJ : JAt w w.heap.size t cs) :
    Calls Tryz.prog 42 #[.agg cs.toArray] w fun r w' => r = .returned (.tuple #[.int .i64 (printJ t).length, .int .i64 (rightJ t)]) ∧ Below w.heap.size w w' := by
  have HJ := Keep.mk hJ
  have HGW := Keep.mk hG
  have HC := Keep.mk (value_Right t)
  have HP := Keep.mk (put_count _ t (Nat.le_refl _) hz)
  have HR := Keep.mk (right_ok (t := t))
  have HL := Keep.mk (text_bound t hz)
  have HPR := Keep.mk (show printJ t = if rightJ t = 0 then textJ textN t else [] from rfl)
  generalize rightJ t = rr at *
  cases t with
  | mk k m e s l ks =>
    obtain ⟨A, c, A', c', rfl, hk, hm, he, hs, hK, hV⟩ := hJ.open
    show Calls _ _ #[.agg #[.int .i64 k, .int .i64 m, .int .i64 e, .string s, .slice A l.length c, .slice A' ks.length c']] w _
    have HO := Keep.mk (One6.start (k := k) (m := m) (e := e) (s := s) 27 hG hV hK)
    clear hJ hV hK hG
    go_enter Tryz.func42, Tryz.ntmps42
    go_wp2_with fail
    refine calls_world (fun W => One6 w W k m e s l ks A c A' c' ∧ JAt W W.heap.size (.mk k m e s l ks) (cells6 k m e s A l.length c A' ks.length c')) ⟨HO.out, (HJ.out.keep (al1 _ _) (Nat.le_refl _)).more (al1 _ _).size⟩ ?_
    clear HJ HO
    rintro W0 ⟨HO, HJ⟩
    replace HO := Keep.mk HO
    replace HJ := Keep.mk HJ
    refine (HC.out _ _ HO.out.g HJ.out).mono ?_
    rintro r w1 ⟨rfl, hb1⟩
    replace HO := Keep.mk (HO.out.below hb1)
    replace HJ := Keep.mk ((HJ.out.keep hb1 (Nat.le_refl _)).more hb1.size)
    clear hb1
    by_cases hrr : rr = 0
    · subst hrr
      obtain ⟨hall, hdep⟩ := HR.out rfl
      have hl := HL.out rfl
      have x0 := HO.out.x.cell 0 _ rfl
      have x1 := HO.out.x.cell 1 _ rfl
      have x2 := HO.out.x.cell 2 _ rfl
      have x3 := HO.out.x.cell 3 _ rfl
      have x4 := HO.out.x.cell 4 _ rfl
      have x5 := HO.out.x.cell 5 _ rfl
      have xl := HO.out.x.lt
      have HPT := Keep.mk (HP.out hall w1 _ w1.heap.size (HGW.out.below HO.out.b) HJ.out (Nat.le_refl _))
      have HE := Keep.mk (show printJ (.mk k m e s l ks) = textJ textN (.mk k m e s l ks) by rw [HPR.out, if_pos rfl])
      clear hall HP HPR HR
      have HTS := Keep.mk (show CntS (w1.alloc (.cells #[.int .i64 0] 108)) w1.heap.size [] from ⟨heap_alloc_new w1 _⟩)
      go_wp2_with fail
      refine (HPT.out _ [] HTS.out (al1 _ _) (by simp only [List.length_nil]; omega)).mono ?_
      rintro r w2 ⟨rfl, h1, h2, h3⟩
      have hc0 := cell_of_one h1.ex
      have HB2 := Keep.mk (HO.out.b.trans (((al1 w1 _).mono HO.out.b.size).trans (h3.mono HO.out.b.size)))
      clear h1 h2 h3 x0 x1 x2 x3 x4 x5
      go_wp2
      go_ret2
      exact ⟨by rw [HE.out]; rfl, HB2.out⟩
    · have hr2 : (rr != 0) = true := by simpa using hrr
      have HE := Keep.mk (show printJ (.mk k m e s l ks) = [] by rw [HPR.out, if_neg hrr])
      clear hrr HPR HR HP
      go_wp2
      go_ret2
      exact ⟨by rw [HE.out]; rfl, HO.out.b⟩
end Go.Proofs.YtmacgdcmgbkfnaaGreatDoor
namespace Go.Proofs.YtmacgdcmgbkfnaaGreatDoor
open Go Go.RowKit Go.Proofs Th
attribute [local go_sem] Above.cell
def c12 : List Value := [.int .i64 5, .int .i64 0, .int .i64 0, .string ⟨#[]⟩, .slice none 0 0, .slice none 0 0, .int .i64 3, .int .i64 1, .int .i64 0, .string ⟨#[]⟩, .slice none 0 0, .slice none 0 0]
def w7 (w : World) : World := ((w.alloc (.cells #[.string ⟨#[97]⟩, .string ⟨#[98]⟩] 9)).alloc (.cells c12.toArray 27)).alloc
  (.cells (cells6 6 0 0 ⟨#[]⟩ (some ⟨w.heap.size + 1, 0, none⟩) 2 2 (some ⟨w.heap.size, 0, none⟩) 2 2).toArray 27)
end Go.Proofs.YtmacgdcmgbkfnaaGreatDoor
namespace Go.Proofs.YtmacgdcmgbkfnaaGreatDoor
open Go Go.RowKit Go.Proofs Th
attribute [local go_sem] Above.cell
theorem wpList_append_strs {w : World} {ops : Array Oper} {rest : List Oper} {o : Oper} {a : Act} {Q : Exit → Act → World → Prop} (hgd : o.guard = none) (s x : Operand)
    (ho : o.op = .call { callee := .builtin .append, args := #[s, x], argTypes := #[25, 25] })
    (base : Nat) (v : Value) (ks : List ByteArray) (hs : a.eval s = v) (hown : OwnS w base v ks) (S : Nat → Prop) (A : Option Addr) (n c : Nat) (es : List ByteArray) (hn : n = es.length) (hx : a.eval x = .slice A n c) (hr : StrsIn w S A c es)
    (hl : ks.length + es.length ≤ 1000000000) (hbase : base ≤ w.heap.size)
    (h : ∀ v' w', OwnS w' base v' (ks ++ es) → w.grownBy w' v.ownBlock → wpList Tryz.prog ops Q rest (a.put o.dst v') w') : wpList Tryz.prog ops Q (o :: rest) a w := by
  subst hn
  refine wpList_plain hgd fun K hK => ?_
  obtain ⟨v', w', hrun, h2, h3, _⟩ := run_append_strs (w := w) o.type base v ks hown S A c es hr hl hbase
  unfold Oper.wp execOp
  simp only [ho, resolve, invoke, builtin, Sem.run_bind, Sem.run_pure, Result.andThen_ok, List.map_toArray, List.map_cons, List.map_nil, hs, hx, hrun]
  exact hK _ _ (h v' w' h2 h3)
theorem strs_single (w : World) (x : ByteArray) (hx : x.size ≤ 140737488351232) (o : TypeId) : StrsIn (w.alloc (.cells #[.string x] o)) (fun _ => True) (some ⟨w.heap.size, 0, none⟩) 1 [x] :=
  ⟨by simp, by simp, by simp, fun k hk => by rw [List.mem_singleton.1 hk]; exact hx, fun _ => ⟨w.heap.size, 0, rfl, trivial, fun j hj => by
    obtain rfl : j = 0 := by simpa using hj
    have h := heap_alloc_new w (.cells #[.string x] o)
    show World.cell? _ ⟨w.heap.size, 0 + 0, none⟩ = _
    unfold World.cell?
    simp only [h]
    rfl⟩⟩
theorem zero_in (W : World) (S : Nat → Prop) : JIn W S zeroJ zero6 :=
  JIn.shut (l := []) (ks := []) ⟨by decide, by decide⟩ ⟨by decide, by decide⟩ ⟨by decide, by decide⟩ (by decide) (StrsIn.none_ _ _) (ValsIn.none_ _ _)
end Go.Proofs.YtmacgdcmgbkfnaaGreatDoor
