/- Plain law: the text of a value that may be: how long, clean, a text. No conditions.
The contracts of write.Print and write.Size. Conditions: those that each names.
The chapter's example of layer 7. Conditions: GlobW. -/
import Derived.Test.YtohhnkmfgfgpjaaGreatDoorValMath
import Derived.Test.YtohhnkmfgfgpjaaGreatDoorPut
import Derived.Outline
namespace Go.Proofs.YtohhnkmfgfgpjaaGreatDoor
open Go Go.RowKit Go.Proofs Th

theorem dig_clean {l : List UInt8} (h : AllDig l) : ∀ c ∈ l, 32 < c.toNat ∧ c.toNat ≠ 34 ∧ c.toNat < 128 := fun c hc => by have := h c hc; omega
theorem itoa_clean (e : Int) : ∀ c ∈ Lib.itoa e, 32 < c.toNat ∧ c.toNat ≠ 34 ∧ c.toNat < 128 := by
  intro c hc
  unfold Lib.itoa at hc
  split at hc
  · rcases List.mem_cons.1 hc with rfl | h
    · decide
    · exact dig_clean (dec_all _).1 c h
  · exact dig_clean (dec_all _).1 c hc
theorem sgn_clean (m : Int) : ∀ c ∈ sgn m, 32 < c.toNat ∧ c.toNat ≠ 34 ∧ c.toNat < 128 := by
  intro c hc
  unfold sgn at hc
  split at hc
  · rw [List.mem_singleton.1 hc]; decide
  · cases hc
theorem pad_dig (m e : Int) : AllDig (pad m e) := by
  unfold pad
  split
  · exact allDig_append (all_zeros _) (dec_all _).1
  · exact (dec_all _).1
theorem text_clean (m e : Int) : ∀ c ∈ textN m e, 32 < c.toNat ∧ c.toNat ≠ 34 ∧ c.toNat < 128 := by
  intro c hc
  unfold textN at hc
  split at hc
  · simp only [List.mem_append] at hc
    rcases hc with (h | h) | h
    · exact sgn_clean m c h
    · exact dig_clean (dec_all _).1 c h
    · exact dig_clean (all_zeros _) c h
  · split at hc
    · simp only [List.mem_append] at hc
      rcases hc with ((h | h) | h) | h
      · exact sgn_clean m c h
      · exact dig_clean (pad_dig m e) c (List.mem_of_mem_take h)
      · rw [List.mem_singleton.1 h]; decide
      · exact dig_clean (pad_dig m e) c (List.mem_of_mem_drop h)
    · simp only [List.mem_append] at hc
      rcases hc with ((h | h) | h) | h
      · exact sgn_clean m c h
      · exact dig_clean (dec_all _).1 c h
      · rw [List.mem_singleton.1 h]; decide
      · exact itoa_clean e c h
/-- the text of a number that may be, none of one that may not -/
def textR (m e : Int) : List UInt8 := if right m e = true then textN m e else []
theorem textR_le (m e : Int) : (textR m e).length ≤ 3000 := by
  unfold textR
  split
  · rename_i h; exact text_short h
  · simp
mutual
theorem textJ_right : ∀ v : JV, allJ v = true → textJ textN v = textJ textR v
  | .mk k m e s l ks => by
    intro h
    simp only [allJ, okOne, Bool.and_eq_true] at h
    have hr : right m e = true := h.1.1.1.2
    have hl := h.2
    simp only [textJ, textL_right true false l [] hl, textL_right true true l ks hl, show textR m e = textN m e by unfold textR; rw [if_pos hr]]
theorem textL_right (first named : Bool) : ∀ (l : List JV) (ks : List ByteArray), allL l = true → textL textN first named l ks = textL textR first named l ks
  | [], ks => fun _ => rfl
  | v :: r, ks => by
    intro h
    simp only [allL, Bool.and_eq_true] at h
    simp only [textL, textJ_right v h.1, textL_right false named r (ks.drop 1) h.2]
end
theorem textJ_len (t : JV) (h : allJ t = true) : (textJ textN t).length ≤ 4000 * sizeJ t := by
  have := textJ_le textR textR_le t
  rw [textJ_right t h]; omega
end Go.Proofs.YtohhnkmfgfgpjaaGreatDoor
namespace Go.Proofs.YtohhnkmfgfgpjaaGreatDoor
open Go Go.RowKit Go.Proofs Th
attribute [local go_sem] Above.cell Above.frozen

theorem text_3000 (m e : Int) (h : right m e = true) : (textN m e).length ≤ 3000 := text_short h
/-- what Print hands back -/
def printJ (t : JV) : List UInt8 := if rightJ t = 0 then textJ textN t else []
theorem right_ok {t : JV} (h : rightJ t = 0) : allJ t = true ∧ depthJ t ≤ 48 := by
  unfold rightJ at h
  by_cases hd : 48 < depthJ t
  · rw [if_pos hd] at h; omega
  · rw [if_neg hd] at h
    refine ⟨?_, by omega⟩
    cases ha : allJ t
    · rw [ha] at h; simp at h
    · rfl
theorem text_bound (t : JV) (hz : sizeJ t ≤ 1000000) (h : rightJ t = 0) : (textJ textN t).length ≤ 10000000000 := by
  have := textJ_len t (right_ok h).1
  omega
set_option maxRecDepth 100000 in
theorem write_Print (t : JV) (hz : sizeJ t ≤ 1000000) (w : World) (cs : List Value) (hG : GlobW w) (hJ : JAt w w.heap.size t cs) :
    Calls Tryz.prog 13 #[.agg cs.toArray] w fun r w' => ∃ b : ByteArray, r = .returned (.tuple #[.string b, .int .i64 (rightJ t)]) ∧ b.data.toList = printJ t ∧ Below w.heap.size w w' := by
  have HJ := Keep.mk hJ
  have HGW := Keep.mk hG
  have HC := Keep.mk (value_Right t)
  have HP := Keep.mk (put_text _ t (Nat.le_refl _) hz)
  have HR := Keep.mk (right_ok (t := t))
  have HL := Keep.mk (text_bound t hz)
  have HPR := Keep.mk (show printJ t = if rightJ t = 0 then textJ textN t else [] from rfl)
  generalize rightJ t = rr at *
  cases t with
  | mk k m e s l ks =>
    obtain ⟨A, c, A', c', rfl, hk, hm, he, hs, hK, hV⟩ := hJ.open
    show Calls _ _ #[.agg #[.int .i64 k, .int .i64 m, .int .i64 e, .string s, .slice A l.length c, .slice A' ks.length c']] w _
    have HO := Keep.mk (One6.start (k := k) (m := m) (e := e) (s := s) 28 hG hV hK)
    clear hJ hV hK hG
    go_enter Tryz.func13, Tryz.ntmps13
    go_wp2_with fail
    refine calls_world (fun W => One6 w W k m e s l ks A c A' c' ∧ JAt W W.heap.size (.mk k m e s l ks) (cells6 k m e s A l.length c A' ks.length c')) ⟨HO.out, (HJ.out.keep (al1 _ _) (Nat.le_refl _)).more (al1 _ _).size⟩ ?_
    clear HJ HO
    rintro W0 ⟨HO, HJ⟩
    replace HO := Keep.mk HO
    replace HJ := Keep.mk HJ
    refine (HC.out _ _ HO.out.g HJ.out).mono ?_
    rintro r w1 ⟨rfl, hb1⟩
    replace HO := Keep.mk (HO.out.below hb1)
    replace HJ := Keep.mk ((HJ.out.keep hb1 (Nat.le_refl _)).more hb1.size)
    clear hb1
    by_cases hrr : rr = 0
    · subst hrr
      obtain ⟨hall, hdep⟩ := HR.out rfl
      have hl := HL.out rfl
      have x0 := HO.out.x.cell 0 _ rfl
      have x1 := HO.out.x.cell 1 _ rfl
      have x2 := HO.out.x.cell 2 _ rfl
      have x3 := HO.out.x.cell 3 _ rfl
      have x4 := HO.out.x.cell 4 _ rfl
      have x5 := HO.out.x.cell 5 _ rfl
      have xl := HO.out.x.lt
      have HPT := Keep.mk (HP.out hall w1 _ w1.heap.size (HGW.out.below HO.out.b) HJ.out (Nat.le_refl _))
      have HE := Keep.mk (show printJ (.mk k m e s l ks) = textJ textN (.mk k m e s l ks) by rw [HPR.out, if_pos rfl])
      clear hall HP HPR HR
      have HTS := Keep.mk (show TxtS (w1.alloc (.cells #[.slice none 0 0] 71)) w1.heap.size [] from ⟨⟨_, heap_alloc_new w1 _, OwnB.nil _ _⟩⟩)
      go_wp2_with fail
      refine (HPT.out _ [] HTS.out (al1 _ _) (by simp only [List.length_nil]; omega)).mono ?_
      rintro r w2 ⟨rfl, h1, h2, h3⟩
      obtain ⟨v, hv, ho⟩ := h1.ex
      have hc0 := cell_of_one hv
      have hst := ho.string
      have HB2 := Keep.mk (HO.out.b.trans (((al1 w1 _).mono HO.out.b.size).trans (h3.mono HO.out.b.size)))
      clear hv ho h1 h2 h3 x0 x1 x2 x3 x4 x5
      go_wp2
      go_ret2
      exact ⟨_, rfl, by rw [HE.out], HB2.out⟩
    · have hr2 : (rr != 0) = true := by simpa using hrr
      have HE := Keep.mk (show printJ (.mk k m e s l ks) = [] by rw [HPR.out, if_neg hrr])
      clear hrr HPR HR HP
      go_wp2
      go_ret2
      exact ⟨⟨#[]⟩, rfl, by rw [HE.out], HO.out.b⟩
set_option maxRecDepth 100000 in
theorem write_Size (t : JV) (hz : sizeJ t ≤ 1000000) (w : World) (cs : List Value) (hG : GlobW w) (hJ : JAt w w.heap.size t cs) :
    Calls Tryz.prog 22 #[.agg cs.toArray] w fun r w' => r = .returned (.tuple #[.int .i64 (printJ t).length, .int .i64 (rightJ t)]) ∧ Below w.heap.size w w' := by
  have HJ := Keep.mk hJ
  have HGW := Keep.mk hG
  have HC := Keep.mk (value_Right t)
  have HP := Keep.mk (put_count _ t (Nat.le_refl _) hz)
  have HR := Keep.mk (right_ok (t := t))
  have HL := Keep.mk (text_bound t hz)
  have HPR := Keep.mk (show printJ t = if rightJ t = 0 then textJ textN t else [] from rfl)
  generalize rightJ t = rr at *
  cases t with
  | mk k m e s l ks =>
    obtain ⟨A, c, A', c', rfl, hk, hm, he, hs, hK, hV⟩ := hJ.open
    show Calls _ _ #[.agg #[.int .i64 k, .int .i64 m, .int .i64 e, .string s, .slice A l.length c, .slice A' ks.length c']] w _
    have HO := Keep.mk (One6.start (k := k) (m := m) (e := e) (s := s) 28 hG hV hK)
    clear hJ hV hK hG
    go_enter Tryz.func22, Tryz.ntmps22
    go_wp2_with fail
    refine calls_world (fun W => One6 w W k m e s l ks A c A' c' ∧ JAt W W.heap.size (.mk k m e s l ks) (cells6 k m e s A l.length c A' ks.length c')) ⟨HO.out, (HJ.out.keep (al1 _ _) (Nat.le_refl _)).more (al1 _ _).size⟩ ?_
    clear HJ HO
    rintro W0 ⟨HO, HJ⟩
    replace HO := Keep.mk HO
    replace HJ := Keep.mk HJ
    refine (HC.out _ _ HO.out.g HJ.out).mono ?_
    rintro r w1 ⟨rfl, hb1⟩
    replace HO := Keep.mk (HO.out.below hb1)
    replace HJ := Keep.mk ((HJ.out.keep hb1 (Nat.le_refl _)).more hb1.size)
    clear hb1
    by_cases hrr : rr = 0
    · subst hrr
      obtain ⟨hall, hdep⟩ := HR.out rfl
      have hl := HL.out rfl
      have x0 := HO.out.x.cell 0 _ rfl
      have x1 := HO.out.x.cell 1 _ rfl
      have x2 := HO.out.x.cell 2 _ rfl
      have x3 := HO.out.x.cell 3 _ rfl
      have x4 := HO.out.x.cell 4 _ rfl
      have x5 := HO.out.x.cell 5 _ rfl
      have xl := HO.out.x.lt
      have HPT := Keep.mk (HP.out hall w1 _ w1.heap.size (HGW.out.below HO.out.b) HJ.out (Nat.le_refl _))
      have HE := Keep.mk (show printJ (.mk k m e s l ks) = textJ textN (.mk k m e s l ks) by rw [HPR.out, if_pos rfl])
      clear hall HP HPR HR
      have HTS := Keep.mk (show CntS (w1.alloc (.cells #[.int .i64 0] 89)) w1.heap.size [] from ⟨heap_alloc_new w1 _⟩)
      go_wp2_with fail
      refine (HPT.out _ [] HTS.out (al1 _ _) (by simp only [List.length_nil]; omega)).mono ?_
      rintro r w2 ⟨rfl, h1, h2, h3⟩
      have hc0 := cell_of_one h1.ex
      have HB2 := Keep.mk (HO.out.b.trans (((al1 w1 _).mono HO.out.b.size).trans (h3.mono HO.out.b.size)))
      clear h1 h2 h3 x0 x1 x2 x3 x4 x5
      go_wp2
      go_ret2
      exact ⟨by rw [HE.out]; rfl, HB2.out⟩
    · have hr2 : (rr != 0) = true := by simpa using hrr
      have HE := Keep.mk (show printJ (.mk k m e s l ks) = [] by rw [HPR.out, if_neg hrr])
      clear hrr HPR HR HP
      go_wp2
      go_ret2
      exact ⟨by rw [HE.out]; rfl, HO.out.b⟩
end Go.Proofs.YtohhnkmfgfgpjaaGreatDoor
namespace Go.Proofs.YtohhnkmfgfgpjaaGreatDoor
open Go Go.RowKit Go.Proofs Th
attribute [local go_sem] Above.cell Above.frozen

def jL : JV := .mk 5 0 0 ⟨#[]⟩ [] []
def jD : JV := .mk 3 1 0 ⟨#[]⟩ [] []
def jW : JV := .mk 6 0 0 ⟨#[]⟩ [jL, jD] [⟨#[97]⟩, ⟨#[98]⟩]
set_option maxRecDepth 100000 in
theorem jW_right : rightJ jW = 0 := by decide +kernel
set_option maxRecDepth 100000 in
theorem jW_text : textJ textN jW = [123, 34, 97, 34, 58, 91, 93, 44, 34, 98, 34, 58, 49, 125] := by decide +kernel
set_option maxRecDepth 100000 in
theorem jW_size : sizeJ jW ≤ 1000000 := by decide +kernel
theorem nil_strs (W : World) (B : Nat) : StrsAt W B none 0 [] := ⟨Nat.le_refl _, by decide, by decide, fun _ h => absurd h List.not_mem_nil, fun h => absurd h (by decide)⟩
theorem nil_vals (W : World) (B : Nat) : ValsAt W B none 0 [] := ⟨Nat.le_refl _, by decide, by decide, fun _ h => absurd h (Nat.not_lt_zero _)⟩
theorem jW_print : printJ jW = [123, 34, 97, 34, 58, 91, 93, 44, 34, 98, 34, 58, 49, 125] := by unfold printJ; rw [if_pos jW_right, jW_text]
theorem of_list {b : ByteArray} {l : List UInt8} (h : b.data.toList = l) : b = ⟨⟨l⟩⟩ := by subst h; rfl
theorem jL_at (W : World) (B : Nat) : JAt W B jL (cells6 5 0 0 ⟨#[]⟩ none 0 0 none 0 0) :=
  JAt.shut (l := []) (ks := []) ⟨by decide, by decide⟩ ⟨by decide, by decide⟩ ⟨by decide, by decide⟩ (by decide) (nil_strs ..) (nil_vals ..)
theorem jD_at (W : World) (B : Nat) : JAt W B jD (cells6 3 1 0 ⟨#[]⟩ none 0 0 none 0 0) :=
  JAt.shut (l := []) (ks := []) ⟨by decide, by decide⟩ ⟨by decide, by decide⟩ ⟨by decide, by decide⟩ (by decide) (nil_strs ..) (nil_vals ..)
def c12 : List Value := [.int .i64 5, .int .i64 0, .int .i64 0, .string ⟨#[]⟩, .slice none 0 0, .slice none 0 0, .int .i64 3, .int .i64 1, .int .i64 0, .string ⟨#[]⟩, .slice none 0 0, .slice none 0 0]
theorem c12_left : ∀ i v, (cells6 5 0 0 ⟨#[]⟩ none 0 0 none 0 0)[i]? = some v → c12[0 + 0 * 6 + i]? = some v
  | 0, _, h | 1, _, h | 2, _, h | 3, _, h | 4, _, h | 5, _, h => h
  | _ + 6, _, h => by cases h
theorem c12_right : ∀ i v, (cells6 3 1 0 ⟨#[]⟩ none 0 0 none 0 0)[i]? = some v → c12[0 + 1 * 6 + i]? = some v
  | 0, _, h | 1, _, h | 2, _, h | 3, _, h | 4, _, h | 5, _, h => h
  | _ + 6, _, h => by cases h
theorem jw_strs {W : World} {B g : Nat} (h : Box W g [.string ⟨#[97]⟩, .string ⟨#[98]⟩]) (hg : g < B) : StrsAt W B (some ⟨g, 0, none⟩) 2 [⟨#[97]⟩, ⟨#[98]⟩] :=
  ⟨Nat.le_refl _, by decide, by decide, fun k hk => by
    rcases List.mem_cons.1 hk with rfl | hk
    · decide
    · rw [List.mem_singleton.1 hk]; decide, fun _ => ⟨g, 0, rfl, hg, fun j hj => by
    match j, hj with
    | 0, _ => exact h.cell 0 _ rfl
    | 1, _ => exact h.cell 1 _ rfl⟩⟩
theorem jw_vals {W : World} {B g : Nat} (h : Box W g c12) (hg : g < B) : ValsAt W B (some ⟨g, 0, none⟩) 2 [jL, jD] :=
  ⟨Nat.le_refl _, by decide, by decide, fun j hj => by
    match j, hj with
    | 0, _ => exact ⟨g, 0, _, rfl, hg, fun i v hv => h.cell _ _ (c12_left i v hv), jL_at _ _⟩
    | 1, _ => exact ⟨g, 0, _, rfl, hg, fun i v hv => h.cell _ _ (c12_right i v hv), jD_at _ _⟩⟩
/-- what works has laid, as the world is then -/
def w7 (w : World) : World := ((w.alloc (.cells #[.string ⟨#[97]⟩, .string ⟨#[98]⟩] 9)).alloc (.cells c12.toArray 28)).alloc
  (.cells (cells6 6 0 0 ⟨#[]⟩ (some ⟨w.heap.size + 1, 0, none⟩) 2 2 (some ⟨w.heap.size, 0, none⟩) 2 2).toArray 28)
structure At7 (w W : World) : Prop where
  x : Box W (w.heap.size + 1 + 1) (cells6 6 0 0 ⟨#[]⟩ (some ⟨w.heap.size + 1, 0, none⟩) 2 2 (some ⟨w.heap.size, 0, none⟩) 2 2)
  j : JAt W W.heap.size jW (cells6 6 0 0 ⟨#[]⟩ (some ⟨w.heap.size + 1, 0, none⟩) 2 2 (some ⟨w.heap.size, 0, none⟩) 2 2)
  g : GlobW W
  b : Below w.heap.size w W
theorem At7.below {w W W' : World} (h : At7 w W) (hb : Below W.heap.size W W') : At7 w W' :=
  ⟨h.x.below hb h.x.lt, (h.j.keep hb (Nat.le_refl _)).more hb.size, h.g.below hb, up h.b hb⟩
theorem at7 (w : World) (hG : GlobW w) : At7 w (w7 w) := by
  unfold w7
  generalize hw1 : w.alloc (.cells #[.string ⟨#[97]⟩, .string ⟨#[98]⟩] 9) = w1
  have h1 : Box w1 w.heap.size [.string ⟨#[97]⟩, .string ⟨#[98]⟩] := by rw [← hw1]; exact Box.new [.string ⟨#[97]⟩, .string ⟨#[98]⟩] _ rfl
  have z1 : w1.heap.size = w.heap.size + 1 := by rw [← hw1]; simp
  have b1 : Below w.heap.size w w1 := by rw [← hw1]; exact al1 _ _
  clear hw1
  generalize hw2 : w1.alloc (.cells c12.toArray 28) = w2
  have h2 : Box w2 (w.heap.size + 1) c12 := by rw [← hw2, ← z1]; exact Box.new c12 _ rfl
  have z2 : w2.heap.size = w.heap.size + 2 := by rw [← hw2]; simp [z1]
  have b2 : Below w1.heap.size w1 w2 := by rw [← hw2]; exact al1 _ _
  clear hw2
  have h3 := h1.below b2 h1.lt
  have hJ : JAt w2 w2.heap.size jW (cells6 6 0 0 ⟨#[]⟩ (some ⟨w.heap.size + 1, 0, none⟩) 2 2 (some ⟨w.heap.size, 0, none⟩) 2 2) :=
    JAt.shut (k := 6) (m := 0) (e := 0) (s := ⟨#[]⟩) (l := [jL, jD]) (ks := [⟨#[97]⟩, ⟨#[98]⟩]) ⟨by decide, by decide⟩ ⟨by decide, by decide⟩ ⟨by decide, by decide⟩ (by decide) (jw_strs h3 h3.lt) (jw_vals h2 h2.lt)
  exact ⟨Box.new _ _ z2, (hJ.keep (al1 _ _) (Nat.le_refl _)).more (al1 _ _).size, (hG.below b1).below b2 |>.below (al1 _ _), up (up b1 b2) (al1 _ _)⟩
set_option maxRecDepth 100000 in
theorem works7 (w : World) (hG : GlobW w) : Calls Tryz.prog 11 #[] w fun r w' => r = .returned (.bool true) ∧ Below w.heap.size w w' := by
  have HX := Keep.mk (at7 w hG)
  clear hG
  go_enter Tryz.func11, Tryz.ntmps11
  go_wp2_with fail
  refine calls_world (fun W => At7 w W) HX.out ?_
  clear HX
  rintro W0 HX
  replace HX := Keep.mk HX
  refine (write_Print jW jW_size _ _ HX.out.g HX.out.j).mono ?_
  rw [jW_print, jW_right]
  rintro r w1 ⟨b, rfl, hb, hb1⟩
  obtain rfl := of_list hb
  replace HX := Keep.mk (HX.out.below hb1)
  clear hb hb1
  have x0 := HX.out.x.cell 0 _ rfl
  have x1 := HX.out.x.cell 1 _ rfl
  have x2 := HX.out.x.cell 2 _ rfl
  have x3 := HX.out.x.cell 3 _ rfl
  have x4 := HX.out.x.cell 4 _ rfl
  have x5 := HX.out.x.cell 5 _ rfl
  go_wp2_with fail
  refine (write_Size jW jW_size _ _ HX.out.g HX.out.j).mono ?_
  rw [jW_print, jW_right]
  rintro r w2 ⟨rfl, hb1⟩
  replace HX := Keep.mk (HX.out.below hb1)
  clear x0 x1 x2 x3 x4 x5 hb1
  go_wp2
  go_ret
  exact ⟨rfl, HX.out.b⟩
end Go.Proofs.YtohhnkmfgfgpjaaGreatDoor
