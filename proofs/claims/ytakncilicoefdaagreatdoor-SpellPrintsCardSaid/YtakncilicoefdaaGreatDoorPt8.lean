/- Lemmas and contracts. Conditions: those that each lemma names. -/
import Derived.Test.YtakncilicoefdaaGreatDoorPt7
set_option maxRecDepth 100000
set_option maxHeartbeats 4000000
namespace Go.Proofs.YtakncilicoefdaaGreatDoor
open Go Go.RowKit Go.Proofs Th
structure StrsAt (W : World) (B : Nat) (A : Option Addr) (c : Nat) (ks : List ByteArray) : Prop where
 le : ks.length ≤ c
 cap : ks.length ≤ 140737488351232
 top : c ≤ 9223372036854775807
 small : ∀ k ∈ ks, k.size ≤ 140737488351232
 at_ : 0 < ks.length → ∃ g o, A = some ⟨g, o, none⟩ ∧ g < B ∧ ∀ j (h : j < ks.length), W.cell? ⟨g, o + j, none⟩ = some (.string ks[j])
theorem StrsAt.below {w w' : World} {B B' : Nat} {A : Option Addr} {c : Nat} {ks : List ByteArray} (h : StrsAt w B A c ks) (hb : Below B' w w') (hB : B ≤ B') : StrsAt w' B A c ks :=
 ⟨h.le, h.cap, h.top, h.small, fun hn => by
  obtain ⟨g, o, e, hg, hc⟩ := h.at_ hn; exact ⟨g, o, e, hg, fun j hj => (hb.cell (p := ⟨g, o + j, none⟩) (Nat.lt_of_lt_of_le hg hB)).trans (hc j hj)⟩⟩
theorem StrsAt.more {w : World} {B B' : Nat} {A : Option Addr} {c : Nat} {ks : List ByteArray} (h : StrsAt w B A c ks) (hB : B ≤ B') : StrsAt w B' A c ks :=
 ⟨h.le, h.cap, h.top, h.small, fun hn => by
  obtain ⟨g, o, e, hg, hc⟩ := h.at_ hn; exact ⟨g, o, e, Nat.lt_of_lt_of_le hg hB, hc⟩⟩
def Et (k m e : Int) (s : ByteArray) (A : Option Addr) (n c : Nat) (A' : Option Addr) (n' c' : Nat) : List Value :=
 [.int .i64 k, .int .i64 m, .int .i64 e, .string s, .slice A n c, .slice A' n' c']
inductive JAt (W : World) (B : Nat) : JV → List Value → Prop
 | mk {k m e : Int} {s : ByteArray} {l : List JV} {ks : List ByteArray} {A : Option Addr} {c : Nat} {A' : Option Addr} {c' : Nat} (f : Nat → List Value)
  (hk : I64 k) (hm : I64 m) (he : I64 e) (hs : s.size ≤ 140737488351232) (hl : l.length ≤ c) (hc : l.length ≤ 140737488351232) (hcc : c ≤ 9223372036854775807) (hK : StrsAt W B A' c' ks)
  (hL : 0 < l.length → ∃ g o, A = some ⟨g, o, none⟩ ∧ g < B ∧ ∀ j, j < l.length → ∀ i v, (f j)[i]? = some v → W.cell? ⟨g, o + j * 6 + i, none⟩ = some v)
  (hT : ∀ j (h : j < l.length), JAt W B l[j] (f j)) :
  JAt W B (.mk k m e s l ks) (Et k m e s A l.length c A' ks.length c')
theorem JAt.keep {W W' : World} {B B' : Nat} {t : JV} {cs : List Value} (h : JAt W B t cs) (hb : Below B' W W') (hB : B ≤ B') : JAt W' B t cs := by
 induction h with
 | mk f hk hm he hs hl hc hcc hK hL hT ih =>
  refine .mk f hk hm he hs hl hc hcc (hK.below hb hB) (fun hn => ?_) (fun j hj => ih j hj); obtain ⟨g, o, e, hg, h⟩ := hL hn; exact ⟨g, o, e, hg, fun j hj i v hv => (hb.cell (p := ⟨g, o + j * 6 + i, none⟩) (Nat.lt_of_lt_of_le hg hB)).trans (h j hj i v hv)⟩
theorem JAt.more {W : World} {B B' : Nat} {t : JV} {cs : List Value} (h : JAt W B t cs) (hB : B ≤ B') : JAt W B' t cs := by
 induction h with
 | mk f hk hm he hs hl hc hcc hK hL hT ih =>
  refine .mk f hk hm he hs hl hc hcc (hK.more hB) (fun hn => ?_) (fun j hj => ih j hj); obtain ⟨g, o, e, hg, h⟩ := hL hn; exact ⟨g, o, e, Nat.lt_of_lt_of_le hg hB, h⟩
structure ValsAt (W : World) (B : Nat) (A : Option Addr) (c : Nat) (l : List JV) : Prop where
 le : l.length ≤ c
 cap : l.length ≤ 140737488351232
 top : c ≤ 9223372036854775807
 at_ : ∀ j (h : j < l.length), ∃ g o cs, A = some ⟨g, o, none⟩ ∧ g < B ∧ (∀ i v, cs[i]? = some v → W.cell? ⟨g, o + j * 6 + i, none⟩ = some v) ∧ JAt W B l[j] cs
theorem ValsAt.below {w w' : World} {B B' : Nat} {A : Option Addr} {c : Nat} {l : List JV} (h : ValsAt w B A c l) (hb : Below B' w w') (hB : B ≤ B') : ValsAt w' B A c l :=
 ⟨h.le, h.cap, h.top, fun j hj => by
  obtain ⟨g, o, cs, e, hg, hc, hJ⟩ := h.at_ j hj; exact ⟨g, o, cs, e, hg, fun i v hv => (hb.cell (p := ⟨g, o + j * 6 + i, none⟩) (Nat.lt_of_lt_of_le hg hB)).trans (hc i v hv), hJ.keep hb hB⟩⟩
theorem ValsAt.more {w : World} {B B' : Nat} {A : Option Addr} {c : Nat} {l : List JV} (h : ValsAt w B A c l) (hB : B ≤ B') : ValsAt w B' A c l :=
 ⟨h.le, h.cap, h.top, fun j hj => by
  obtain ⟨g, o, cs, e, hg, hc, hJ⟩ := h.at_ j hj; exact ⟨g, o, cs, e, Nat.lt_of_lt_of_le hg hB, hc, hJ.more hB⟩⟩
theorem JAt.open {W : World} {B : Nat} {k m e : Int} {s : ByteArray} {l : List JV} {ks : List ByteArray} {cs : List Value} (h : JAt W B (.mk k m e s l ks) cs) :
  ∃ A c A' c', cs = Et k m e s A l.length c A' ks.length c' ∧ I64 k ∧ I64 m ∧ I64 e ∧ s.size ≤ 140737488351232 ∧ StrsAt W B A' c' ks ∧ ValsAt W B A c l := by
 cases h with
 | mk f hk hm he hs hl hc hcc hK hL hT =>
  refine ⟨_, _, _, _, rfl, hk, hm, he, hs, hK, hl, hc, hcc, fun j hj => ?_⟩; obtain ⟨g, o, e, hg, h⟩ := hL (by omega); exact ⟨g, o, f j, e, hg, h j hj, hT j hj⟩
theorem ValsAt.elem {W : World} {B : Nat} {A : Option Addr} {c : Nat} {l : List JV} (h : ValsAt W B A c l) (j : Nat) (hj : j < l.length) :
  ∃ g o k m e s A1 n1 c1 A2 n2 c2, A = some ⟨g, o, none⟩ ∧ g < B ∧ JAt W B l[j] (Et k m e s A1 n1 c1 A2 n2 c2) ∧
   W.cell? ⟨g, o + j * 6, none⟩ = some (.int .i64 k) ∧ W.cell? ⟨g, o + j * 6 + 1, none⟩ = some (.int .i64 m) ∧ W.cell? ⟨g, o + j * 6 + 2, none⟩ = some (.int .i64 e) ∧
   W.cell? ⟨g, o + j * 6 + 3, none⟩ = some (.string s) ∧ W.cell? ⟨g, o + j * 6 + 4, none⟩ = some (.slice A1 n1 c1) ∧ W.cell? ⟨g, o + j * 6 + 5, none⟩ = some (.slice A2 n2 c2) := by
 obtain ⟨g, o, cs, ea, hg, hc, hJ⟩ := h.at_ j hj; have hJ' := hJ; cases ht : l[j] with
 | mk k m e s l' ks =>
  rw [ht] at hJ; obtain ⟨A1, c1, A2, c2, rfl, _⟩ := hJ.open; rw [ht] at hJ'; exact ⟨g, o, k, m, _, s, A1, _, c1, A2, _, c2, ea, hg, hJ', hc 0 _ rfl, hc 1 _ rfl, hc 2 _ rfl, hc 3 _ rfl, hc 4 _ rfl, hc 5 _ rfl⟩
open Go Go.RowKit Go.Proofs Th
structure Two (w wr : World) (neg : Bool) (A : Option Addr) (c : Nat) (ds : List Nat) (e : Int) : Prop where
 x : Box wr w.heap.size [.bool neg, .slice A ds.length c, .int .i64 e]
 r : Box wr (w.heap.size + 1) [.int .i64 0, .int .i64 0]
 ints : IntsAt wr w.heap.size A c ds
 old : Below w.heap.size w wr
theorem Two.start (neg : Bool) (A : Option Addr) (c : Nat) (ds : List Nat) (e : Int) (w : World) (hI : IntsAt w w.heap.size A c ds) (t t' : TypeId) :
  Two w ((w.alloc (.cells #[.bool neg, .slice A ds.length c, .int .i64 e] t)).alloc (.cells #[.int .i64 0, .int .i64 0] t')) neg A c ds e :=
 ⟨(Box.new [.bool neg, .slice A ds.length c, .int .i64 e] _ rfl).alloc _, Box.new [.int .i64 0, .int .i64 0] _ (by simp), hI.below (al2 w _ _) (Nat.le_refl _), al2 w _ _⟩
theorem Two.tail {w wr : World} {neg : Bool} {g o c : Nat} {d : Nat} {ds : List Nat} {e : Int} (h : Two w wr neg (some ⟨g, o, none⟩) c (d :: ds) e) :
  Two w (wr.setCell ⟨w.heap.size, 1, none⟩ (.slice (if c = 1 then some ⟨g, o, none⟩ else some ⟨g, o + 1, none⟩) ds.length (c - 1))) neg (if c = 1 then some ⟨g, o, none⟩ else some ⟨g, o + 1, none⟩) (c - 1) ds e :=
 ⟨h.x.set (by simp) _, h.r.other (by omega) _, h.ints.tail.set (Nat.le_refl _) _, st1 h.old _ _ _ (Nat.le_refl _)⟩
theorem Two.init {w wr : World} {neg : Bool} {A : Option Addr} {c : Nat} {rest : List Nat} {x : Nat} {e : Int} (h : Two w wr neg A c (rest ++ [x]) e) :
  Two w ((wr.setCell ⟨w.heap.size, 1, none⟩ (.slice A rest.length c)).setCell ⟨w.heap.size, 2, none⟩ (.int .i64 (e + 1))) neg A c rest (e + 1) := by
 have hi := h.ints.init rest.length (by simp); rw [List.take_left] at hi; exact ⟨(h.x.set (by simp) _).set (by simp) _, (h.r.other (by omega) _).other (by omega) _, (hi.set (Nat.le_refl _) _).set (Nat.le_refl _) _, st1 (st1 h.old _ _ _ (Nat.le_refl _)) _ _ _ (Nat.le_refl _)⟩
structure Lead (w wr : World) (neg : Bool) (ds : List Nat) (e : Int) (A' : Option Addr) (c' : Nat) (ds' : List Nat) : Prop where
 two : Two w wr neg A' c' ds' e
 dig : Digs ds'
 len : ds'.length ≤ 1000000
 same : val ds' = val ds
structure Trail (w wr : World) (neg : Bool) (ds : List Nat) (e : Int) (A' : Option Addr) (c' : Nat) (ds' : List Nat) (e' : Int) : Prop where
 two : Two w wr neg A' c' ds' e'
 dig : Digs ds'
 len : ds'.length ≤ 1000000
 head : ds'.head? ≠ some 0
 e0 : -1000000000 ≤ e'
 e1 : e' + ds'.length ≤ 1001000000
 same : Bq neg (val ds') e' = Bq neg (val ds) e
theorem UC {ds : List Nat} (h : ds ≠ []) : ∃ t x, ds = t ++ [x] := ⟨ds.dropLast, ds.getLast h, (List.dropLast_concat_getLast h).symm⟩
theorem Rq (neg : Bool) (A : Option Addr) (c : Nat) (ds : List Nat) (e : Int) (hd : Digs ds) (hl : ds.length ≤ 1000000) (e0 : -1000000000 ≤ e) (e1 : e ≤ 1000000000) (w : World) (hI : IntsAt w w.heap.size A c ds) :
  Calls Tryz.prog 91 #[.agg #[.bool neg, .slice A ds.length c, .int .i64 e]] w fun r w' => r = .returned (AA (Bq neg (val ds) e)) ∧ Below w.heap.size w w' := by
 have HS := Keep.mk (Two.start neg A c ds e w hI 81 23); clear hI; go_enter Tryz.func91, Tryz.ntmps91
 go_upto_block 0 with fail
 go_cut [] (fun wx => ∃ (A' : Option Addr) (c' : Nat) (ds' : List Nat), Keep (Lead w wx neg ds e A' c' ds') ∧ Keep (ds'.head? ≠ some 0))
 case first =>
  go_wp2_with fail
  go_loopg [] ds.length (fun gk wr => ∃ (A' : Option Addr) (c' : Nat) (ds' : List Nat), Keep (ds'.length = gk) ∧ Keep (Lead w wr neg ds e A' c' ds'))
  case atStart => exact ⟨A, c, ds, ⟨rfl⟩, ⟨HS.out, hd, hl, rfl⟩⟩
  case round =>
   obtain ⟨A', c', ds', HK, HL⟩ := hrel; have T := HL.out.two; have x1 := T.x.cell 1 _ rfl; have f1 := T.x.froz 1; have lt0 := T.x.lt; cases ds' with
   | nil =>
    clear T; go_wp2_with fail
    go_meet
    exact ⟨A', c', [], HL, ⟨by simp⟩⟩
   | cons d t =>
    obtain ⟨g, o, rfl, hg, hc⟩ := T.ints.at_ (by simp); have hc0 := hc 0 (by simp); have hg2 := Nat.lt_of_lt_of_le hg T.old.size; have hcap := T.ints.le; have hcm := T.ints.cap; unfold maxLen at hcm; simp only [List.getElem_cons_zero, Nat.add_zero] at hc0; simp only [List.length_cons] at x1 hcap; clear hc; obtain rfl : t.length + 1 = gk := HK.out; clear HK; have hl6 := HL.out.len; simp only [List.length_cons] at hl6; by_cases hd0 : d = 0
    ·subst hd0
     have T2 := T.tail; have HV := Keep.mk (show val t = val ds by rw [← HL.out.same, Mh]); have HD := Keep.mk HL.out.dig.tail; clear T; by_cases hc1 : c' = 1
     ·rw [if_pos hc1] at T2
      have HT2 := Keep.mk T2; clear T2; subst hc1; have ht : t = [] := List.eq_nil_of_length_eq_zero (by omega); subst ht; go_wp2_with fail
      go_roundg 0
      case rel => exact ⟨_, _, [], ⟨rfl⟩, ⟨HT2.out, HD.out, by simp, HV.out⟩⟩
      case measure => simp
     rw [if_neg hc1] at T2; have HT2 := Keep.mk T2; clear T2; go_wp2_with fail
     go_roundg t.length
     case rel => exact ⟨_, _, t, ⟨rfl⟩, ⟨HT2.out, HD.out, by omega, HV.out⟩⟩
     case measure => omega
    have hdb : ((d : Int) == 0) = false := by simpa using hd0
    clear T; have HD0 := Keep.mk hd0; clear hd0; go_wp2_with fail
    go_meet
    exact ⟨_, _, d :: t, HL, ⟨by simpa using HD0.out⟩⟩
 case rest =>
  obtain ⟨A1, c1, ds1, HL1, HH1⟩ := hcut; go_upto_block 2 with fail
  go_cut [] (fun wx => ∃ (A' : Option Addr) (c' : Nat) (ds' : List Nat) (e' : Int), Keep (Trail w wx neg ds e A' c' ds' e') ∧ Keep (ds' ≠ [] → val ds' % 10 ≠ 0))
  case first =>
   go_wp2_with fail
   go_loopg [] ds1.length (fun gk wr => ∃ (A' : Option Addr) (c' : Nat) (ds' : List Nat) (e' : Int), Keep (ds'.length = gk) ∧ Keep (Trail w wr neg ds e A' c' ds' e'))
   case atStart =>
    have L := HL1.out; exact ⟨A1, c1, ds1, e, ⟨rfl⟩, ⟨L.two, L.dig, L.len, HH1.out, e0, by have := L.len; omega, by rw [L.same]⟩⟩
   case round =>
    obtain ⟨A', c', ds', e', HK, HL⟩ := hrel; have T := HL.out.two; have x1 := T.x.cell 1 _ rfl; have x2 := T.x.cell 2 _ rfl; have f1 := T.x.froz 1; have f2 := T.x.froz 2; have lt0 := T.x.lt; have g0 := HL.out.e0; have g1 := HL.out.e1; by_cases hn : ds' = []
    ·subst hn
     clear T; go_wp2_with fail
     go_meet
     exact ⟨A', c', [], e', HL, ⟨fun h => absurd rfl h⟩⟩
    obtain ⟨t, x, rfl⟩ := UC hn; clear hn; obtain ⟨g, o, rfl, hg, hc⟩ := T.ints.at_ (by simp); have hc0 := hc t.length (by simp); have hg2 := Nat.lt_of_lt_of_le hg T.old.size; have hcap := T.ints.le; have hcm := T.ints.cap; unfold maxLen at hcm; simp only [List.getElem_concat_length] at hc0; simp only [List.length_append, List.length_cons, List.length_nil, Nat.zero_add] at x1 hcap g1; clear hc; obtain rfl : t.length + 1 = gk := by have := HK.out; simpa using this
    clear HK; have hl6 := HL.out.len; simp only [List.length_append, List.length_cons, List.length_nil, Nat.zero_add] at hl6; by_cases hx0 : x = 0
    ·subst hx0
     have HT2 := Keep.mk T.init; have HV := Keep.mk (show Bq neg (val t) (e' + 1) = Bq neg (val ds) e by
      rw [← HL.out.same, D2, ← Qv]; simp)
     have HD := Keep.mk (show Digs t from fun d hd => HL.out.dig d (by simp [hd])); have HH := Keep.mk (show t.head? ≠ some 0 from fun h => HL.out.head (by cases t with | nil => cases h | cons a b => simpa using h)); clear T; go_wp2_with fail
     go_roundg t.length
     case rel => exact ⟨_, _, t, _, ⟨rfl⟩, ⟨HT2.out, HD.out, by omega, HH.out, by omega, by omega, HV.out⟩⟩
     case measure => omega
    have hdb : ((x : Int) == 0) = false := by simpa using hx0
    have HE := Keep.mk (show val (t ++ [x]) % 10 ≠ 0 by
     have := HL.out.dig x (by simp); rw [D2]; omega)
    clear T hx0; go_wp2_with fail
    go_meet
    exact ⟨_, _, t ++ [x], e', HL, ⟨fun _ => HE.out⟩⟩
  case rest =>
   obtain ⟨A2, c2, ds2, e2, HL, HE⟩ := hcut; have T := HL.out.two; obtain ⟨x0, x1, x2⟩ := T.x.p3; obtain ⟨s0, r0, s1, r1⟩ := T.r.q2; have lt0 := T.x.lt; have lt1 := T.r.lt; have B := T.old; cases ds2 with
   | nil =>
    have HR := Keep.mk (show Bq neg (val ds) e = ((0, 0), 0) by rw [← HL.out.same]; rfl); clear T HL; go_wp2_with fail
    refine bodyPost_ret (v := AA ((0, 0), 0)) ?_ rfl ⟨Dn HR.out.symm, st1 (st1 B _ _ _ (by omega)) _ _ _ (by omega)⟩; simp [AA, results, Tryz.results91, go_sem, s0, s1]
   | cons d t =>
    have hcap := T.ints.le; have hcm := T.ints.cap; unfold maxLen at hcm; have hd0 : d ≠ 0 := fun h => HL.out.head (by simp [h])
    have hsame := HL.out.same; rcases Oc neg (d :: t) e2 HL.out.dig d t rfl hd0 (HE.out (by simp)) with ⟨hlen, hr⟩ | ⟨hlen, hx, hr⟩ | ⟨hlen, h0, h1, hv, hr⟩
    ·have HR := Keep.mk (hsame.symm.trans hr)
     have hlb : decide (18 < ((d :: t).length : Int)) = true := by simp only [decide_eq_true_eq]; omega
     clear hr hsame T HL hd0 HE; generalize (d :: t).length = N at *; go_wp2_with fail
     refine bodyPost_ret (v := AA ((0, 0), 11)) ?_ rfl ⟨Dn HR.out.symm, st1 (st1 B _ _ _ (by omega)) _ _ _ (by omega)⟩; simp [AA, results, Tryz.results91, go_sem, s0, s1]
    ·have HR := Keep.mk (hsame.symm.trans hr)
     clear hr hsame T HL HE; have hlb : decide (18 < ((d :: t).length : Int)) = false := by simp only [decide_eq_false_iff_not]; omega
     have hn1 : ((d :: t).length : Int) ≤ 18 := by omega
     have hn0 : 1 ≤ ((d :: t).length : Int) := by simp only [List.length_cons]; omega
     generalize (d :: t).length = N at *; rcases hx with hx | hx
     all_goals
      go_wp2_with fail
      refine bodyPost_ret (v := AA ((0, 0), 11)) ?_ rfl ⟨Dn HR.out.symm, st1 (st1 B _ _ _ (by omega)) _ _ _ (by omega)⟩; simp [AA, results, Tryz.results91, go_sem, s0, s1]
    have HR := Keep.mk (hsame.symm.trans hr); have hlb : decide (18 < ((d :: t).length : Int)) = false := by simp only [decide_eq_false_iff_not]; omega
    have hn1 : ((d :: t).length : Int) ≤ 18 := by omega
    have hn0 : 1 ≤ ((d :: t).length : Int) := by simp only [List.length_cons]; omega
    obtain ⟨g, o, rfl, hg, hc⟩ := T.ints.at_ (by simp); have hg2 := Nat.lt_of_lt_of_le hg T.old.size; have HC := Keep.mk hc; have HD := Keep.mk HL.out.dig; clear hr hsame T HL hd0 HE hc; generalize hds : d :: t = xs at *; clear hds; go_wp2_with fail
    go_loop [4, 5] (fun m i => ∃ k : Nat, k ≤ xs.length ∧ i = .int .i64 k ∧ m = .int .i64 (val (xs.take k))) (fun _ i => xs.length - (intOf i).toNat)
    case atStart => exact ⟨0, Nat.zero_le _, rfl, rfl⟩
    case round =>
     obtain ⟨k, hk, rfl, rfl⟩ := hrel; have HB := Keep.mk (show val (xs.take k) < 1000000000000000000 by
      have h := Hw _ (HD.out.take k); rw [List.length_take] at h; have h2 : (10 : Nat) ^ (min k xs.length) ≤ 10 ^ 18 := Nat.pow_le_pow_right (by omega) (by omega); omega)
     by_cases hlt : k < xs.length
     ·have hck := HC.out k hlt
      have HV := Keep.mk (show val (xs.take (k + 1)) = val (xs.take k) * 10 + xs[k] by rw [List.take_succ_eq_append_getElem hlt, D2]); have h9 := HD.out _ (List.getElem_mem hlt); have HW := Keep.mk (show val (xs.take k) < 100000000000000000 by
       have h := Hw _ (HD.out.take k); rw [List.length_take] at h; have h2 : (10 : Nat) ^ (min k xs.length) ≤ 10 ^ 17 := Nat.pow_le_pow_right (by omega) (by omega); omega)
      generalize xs[k] = y at *; have hw := HW.out; generalize val (xs.take k) = q at *; go_wp2
      go_round
      case rel => exact ⟨k + 1, by omega, by go_num, by rw [HV.out]; go_num⟩
      case measure => simp [intOf]; omega
     have HE := Keep.mk (show val (xs.take k) = val xs by rw [List.take_of_length_le (by omega)]); have hb := HB.out; generalize val (xs.take k) = q at *; have hq := HE.out; rw [← hq] at HR; clear hq; cases neg
     ·have HR2 := Keep.mk (show Bq false (val ds) e = (((q : Int), e2), 0) by have h := HR.out; rw [if_neg (by decide)] at h; exact h)
      clear HR; go_wp2
      refine bodyPost_ret (v := AA ((q, e2), 0)) ?_ rfl ⟨Dn HR2.out.symm, st1 (st1 B _ _ _ (by omega)) _ _ _ (by omega)⟩; simp [AA, results, Tryz.results91, go_sem, s0, s1]
     have HR2 := Keep.mk (show Bq true (val ds) e = ((-(q : Int), e2), 0) by have h := HR.out; rw [if_pos rfl] at h; exact h); clear HR; go_wp2
     refine bodyPost_ret (v := AA ((-q, e2), 0)) ?_ rfl ⟨Dn HR2.out.symm, st1 (st1 B _ _ _ (by omega)) _ _ _ (by omega)⟩; simp [AA, results, Tryz.results91, go_sem, s0, s1]
open Go Go.RowKit Go.Proofs Th
structure Lng (w wr : World) (neg : Bool) (n : Nat) (e : Int) (k : Nat) (v : Value) (xs : List Nat) : Prop where
 x : Box wr (w.heap.size + 2) [.bool neg, v, .int .i64 e]
 r : Box wr (w.heap.size + 1) [.bool false, .slice none 0 0, .int .i64 0]
 own : OwnInts wr (w.heap.size + 3) v xs
 same : Ap n = Ap k ++ xs
 old : Below w.heap.size w wr
 len : xs.length ≤ 20
theorem BR (n : Nat) (h : n ≤ 9223372036854775808) : (Ap n).length ≤ 19 := Lk n 19 (by omega)
theorem LN {n k : Nat} {xs : List Nat} (hk : k ≠ 0) (hn : n ≤ 9223372036854775808) (h : Ap n = Ap k ++ xs) : Ap n = Ap (k / 10) ++ (k % 10 :: xs) ∧ xs.length + 1 ≤ 19 := by
 have h1 : Ap n = Ap (k / 10) ++ (k % 10 :: xs) := by rw [h, Eu k hk]; simp
 have h2 := BR n hn; rw [h1] at h2; simp at h2; exact ⟨h1, by omega⟩
theorem Nv (m e : Int) (h0 : 0 ≤ m) (h1 : m ≤ 9223372036854775807) (w : World) :
  Calls Tryz.prog 59 #[.agg #[.int .i64 m, .int .i64 e]] w fun r w' => ∃ A c, r = .returned (FJ false A c (Ap m.natAbs) e) ∧ IntsAt w' w'.heap.size A c (Ap m.natAbs) ∧ Below w.heap.size w w' := by
 obtain ⟨n, rfl⟩ := Int.eq_ofNat_of_zero_le h0; have hn : n ≤ 9223372036854775808 := by omega
 rw [Int.natAbs_natCast]; have hnb : decide ((n : Int) < 0) = false := by simp
 go_enter Tryz.func59, Tryz.ntmps59
 go_wp2_with fail
 go_loopg [4, 5] n (fun gk m d wr => ∃ (v : Value) (xs : List Nat), m = .int .i64 gk ∧ gk ≤ 9223372036854775807 ∧ Keep (Lng w wr false n e gk v xs))
 case atStart =>
  refine ⟨.slice none 0 0, [], rfl, by omega, ⟨?_, ?_, OwnInts.nil _ _, by simp, al3 _ _ _ _, by simp⟩⟩
  ·exact Box.new [.bool false, .slice none 0 0, .int .i64 e] _ (by simp)
  refine Box.alloc ?_ _; exact Box.new [.bool false, .slice none 0 0, .int .i64 0] _ (by simp)
 case round =>
  obtain ⟨v, xs, rfl, hgk, HL⟩ := hrel; have L := HL.out; have x1 := L.x.cell 1 _ rfl; have f1 := L.x.froz 1; have lt := L.x.lt; by_cases hz : gk = 0
  ·subst hz
   have x0 := L.x.cell 0 _ rfl; have x2 := L.x.cell 2 _ rfl; obtain ⟨r0, q0, r1, q1, r2, q2⟩ := L.r.q3; obtain ⟨A, c, rfl, hI⟩ := L.own.ints; have hs := L.same; rw [C6, List.nil_append] at hs; subst hs; have HO := Keep.mk L.own; have B := L.old; clear L HL hI; go_wp2
   refine bodyPost_ret (v := FJ false A c (Ap n) e) ?_ rfl ⟨A, c, rfl, ?_, st1 (st1 (st1 B _ _ _ (by omega)) _ _ _ (by omega)) _ _ _ (by omega)⟩
   ·simp [FJ, results, Tryz.results59, go_sem, r0, r1, r2]
   exact (((HO.out.set (by omega) _).set (by omega) _).set (by omega) _).read
  have hgb : ((gk : Int) != 0) = true := by simpa using hz
  have HO := Keep.mk L.own; obtain ⟨A, c, rfl, hI⟩ := L.own.ints; have HI := Keep.mk hI; have hl := L.len; have ⟨s1, s2⟩ := LN hz hn L.same; have HS := Keep.mk s1; have hlt : 0 < gk := by omega
  have hB := L.old.size; have HX := Keep.mk (L.x.alloc (.cells #[.int .i64 ((gk % 10 : Nat) : Int)] 3)); have HR := Keep.mk (L.r.alloc (.cells #[.int .i64 ((gk % 10 : Nat) : Int)] 3)); have HB := Keep.mk (up L.old (al1 wr (.cells #[.int .i64 ((gk % 10 : Nat) : Int)] 3))); clear L hI s1; go_wp2_with (at_builtin; refine Dz rfl (.tmp 23) (.tmp 25) rfl (w.heap.size + 3) _ [gk % 10] rfl (OwnInts.one _ rfl (by omega)) wr.heap.size A xs.length c xs rfl rfl (HI.out.below ((Below.refl _ _).alloc (Nat.le_refl _) _) (Nat.le_refl _)) (by simp; omega) (by simp; omega) ?_; intro v1 w1 hown1 hb1; obtain ⟨A1, c1, rfl, hI1⟩ := hown1.ints; have HO1 := Keep.mk hown1; have bx := HX.out.below hb1 (by omega); have br := HR.out.below hb1 (by omega); have x1' := bx.cell 1 _ rfl; have f1' := bx.froz 1; have lt' := bx.lt; have HX1 := Keep.mk bx; have HR1 := Keep.mk br; have HB1 := Keep.mk hb1; clear hown1 hI1 bx br hb1 HX HR)
  go_roundg (gk / 10)
  case rel => exact ⟨_, [gk % 10] ++ xs, by go_num, by omega, ⟨HX1.out.set (by simp) _, HR1.out.other (by omega) _, HO1.out.set (by omega) _, HS.out, st1 (HB.out.trans (HB1.out.mono (by omega))) _ _ _ (by omega), by simp; omega⟩⟩
  case measure => omega
theorem NY (m e : Int) (h0 : m < 0) (h1 : -9223372036854775808 ≤ m) (w : World) :
  Calls Tryz.prog 59 #[.agg #[.int .i64 m, .int .i64 e]] w fun r w' => ∃ A c, r = .returned (FJ true A c (Ap m.natAbs) e) ∧ IntsAt w' w'.heap.size A c (Ap m.natAbs) ∧ Below w.heap.size w w' := by
 obtain ⟨n, hm⟩ := Int.eq_ofNat_of_zero_le (show 0 ≤ -m by omega); obtain rfl : m = -(n : Int) := by omega
 have hn : n ≤ 9223372036854775808 := by omega
 rw [Int.natAbs_neg, Int.natAbs_natCast]; clear hm; have hnp : 0 < n := by omega
 have hnb : decide (-(n : Int) < 0) = true := decide_eq_true h0; go_enter Tryz.func59, Tryz.ntmps59
 go_wp2_with fail
 go_loopg [4, 5] n (fun gk m d wr => ∃ (v : Value) (xs : List Nat), m = .int .i64 (-(gk : Int)) ∧ gk ≤ 9223372036854775808 ∧ Keep (Lng w wr true n e gk v xs))
 case atStart =>
  refine ⟨.slice none 0 0, [], rfl, by omega, ⟨?_, ?_, OwnInts.nil _ _, by simp, al3 _ _ _ _, by simp⟩⟩
  ·exact Box.new [.bool true, .slice none 0 0, .int .i64 e] _ (by simp)
  refine Box.alloc ?_ _; exact Box.new [.bool false, .slice none 0 0, .int .i64 0] _ (by rw [World.size_alloc])
 case round =>
  obtain ⟨v, xs, rfl, hgk, HL⟩ := hrel; have L := HL.out; have x1 := L.x.cell 1 _ rfl; have f1 := L.x.froz 1; have lt := L.x.lt; by_cases hz : gk = 0
  ·subst hz
   have x0 := L.x.cell 0 _ rfl; have x2 := L.x.cell 2 _ rfl; obtain ⟨r0, q0, r1, q1, r2, q2⟩ := L.r.q3; obtain ⟨A, c, rfl, hI⟩ := L.own.ints; have hs := L.same; rw [C6, List.nil_append] at hs; subst hs; have HO := Keep.mk L.own; have B := L.old; clear L HL hI; go_wp2
   refine bodyPost_ret (v := FJ true A c (Ap n) e) ?_ rfl ⟨A, c, rfl, ?_, st1 (st1 (st1 B _ _ _ (by omega)) _ _ _ (by omega)) _ _ _ (by omega)⟩
   ·simp [FJ, results, Tryz.results59, go_sem, r0, r1, r2]
   exact (((HO.out.set (by omega) _).set (by omega) _).set (by omega) _).read
  have hgb : ((-(gk : Int)) != 0) = true := by rw [bne_iff_ne]; omega
  have ht : (-(gk : Int)).tmod 10 = -((gk % 10 : Nat) : Int) := by rw [Int.neg_tmod]; rfl
  have hq : (-(gk : Int)).tdiv 10 = -((gk / 10 : Nat) : Int) := by rw [Int.neg_tdiv]; rfl
  have hr9 : gk % 10 ≤ 9 := by omega
  have hqlt : gk / 10 < gk := by omega
  have HO := Keep.mk L.own; obtain ⟨A, c, rfl, hI⟩ := L.own.ints; have HI := Keep.mk hI; have hl := L.len; have ⟨s1, s2⟩ := LN hz hn L.same; have HS := Keep.mk s1; have hB := L.old.size; generalize gk % 10 = r at *; generalize gk / 10 = q at *; have HX := Keep.mk (L.x.alloc (.cells #[.int .i64 (r : Int)] 3)); have HR := Keep.mk (L.r.alloc (.cells #[.int .i64 (r : Int)] 3)); have HB := Keep.mk (up L.old (al1 wr (.cells #[.int .i64 (r : Int)] 3))); clear L HL hI s1 hz; by_cases hr0 : r = 0
  ·subst hr0
   go_wp2_with (at_builtin; refine Dz rfl (.tmp 23) (.tmp 25) rfl (w.heap.size + 3) _ [0] rfl (OwnInts.one _ rfl (by omega)) wr.heap.size A xs.length c xs rfl rfl (HI.out.below ((Below.refl _ _).alloc (Nat.le_refl _) _) (Nat.le_refl _)) (by simp; omega) (by simp; omega) ?_; intro v1 w1 hown1 hb1; obtain ⟨A1, c1, rfl, hI1⟩ := hown1.ints; have HO1 := Keep.mk hown1; have bx := HX.out.below hb1 (by omega); have br := HR.out.below hb1 (by omega); have x1' := bx.cell 1 _ rfl; have f1' := bx.froz 1; have lt' := bx.lt; have HX1 := Keep.mk bx; have HR1 := Keep.mk br; have HB1 := Keep.mk hb1; clear hown1 hI1 bx br hb1 HX HR)
   go_roundg q
   case rel => exact ⟨_, [0] ++ xs, by go_num, by omega, ⟨HX1.out.set (by simp) _, HR1.out.other (by omega) _, HO1.out.set (by omega) _, HS.out, st1 (HB.out.trans (HB1.out.mono (by omega))) _ _ _ (by omega), by simp; omega⟩⟩
   case measure => omega
  have hrp : 0 < r := by omega
  clear hr0; go_wp2_with (at_builtin; refine Dz rfl (.tmp 23) (.tmp 25) rfl (w.heap.size + 3) _ [r] rfl (OwnInts.one _ rfl (by omega)) wr.heap.size A xs.length c xs rfl rfl (HI.out.below ((Below.refl _ _).alloc (Nat.le_refl _) _) (Nat.le_refl _)) (by simp; omega) (by simp; omega) ?_; intro v1 w1 hown1 hb1; obtain ⟨A1, c1, rfl, hI1⟩ := hown1.ints; have HO1 := Keep.mk hown1; have bx := HX.out.below hb1 (by omega); have br := HR.out.below hb1 (by omega); have x1' := bx.cell 1 _ rfl; have f1' := bx.froz 1; have lt' := bx.lt; have HX1 := Keep.mk bx; have HR1 := Keep.mk br; have HB1 := Keep.mk hb1; clear hown1 hI1 bx br hb1 HX HR)
  go_roundg q
  case rel => exact ⟨_, [r] ++ xs, by go_num, by omega, ⟨HX1.out.set (by simp) _, HR1.out.other (by omega) _, HO1.out.set (by omega) _, HS.out, st1 (HB.out.trans (HB1.out.mono (by omega))) _ _ _ (by omega), by simp; omega⟩⟩
  case measure => omega
theorem NR (m e : Int) (hm : I64 m) (w : World) :
  Calls Tryz.prog 59 #[.agg #[.int .i64 m, .int .i64 e]] w fun r w' => ∃ A c, r = .returned (FJ (decide (m < 0)) A c (Ap m.natAbs) e) ∧ IntsAt w' w'.heap.size A c (Ap m.natAbs) ∧ Below w.heap.size w w' := by
 by_cases h : m < 0
 ·rw [decide_eq_true h]; exact NY m e h hm.lo w
 rw [decide_eq_false h]; exact Nv m e (by omega) hm.hi w
end Go.Proofs.YtakncilicoefdaaGreatDoor
namespace Th
open Go Go.Lib
def Cv {α : Type} (a : Nat → Option α) (b : Option α) : Prop := ∀ x, b = some x → ∃ f0, ∀ f, f0 ≤ f → a f = some x
theorem Cv.const {α : Type} (b : Option α) : Cv (fun _ => b) b := fun _ h => ⟨0, fun _ _ => h⟩
theorem Cv.ite {α : Type} {c : Prop} [Decidable c] {a a' : Nat → Option α} {b b' : Option α} (h1 : Cv a b) (h2 : Cv a' b') : Cv (fun f => if c then a f else a' f) (if c then b else b') := by
 by_cases hc : c
 ·simp only [if_pos hc]; exact h1
 simp only [if_neg hc]; exact h2
theorem Cv.bind {α β : Type} {a : Nat → Option (PR α)} {b : Option (PR α)} {k : Nat → α → Nat → Option (PR β)} {k' : α → Nat → Option (PR β)} (h : Cv a b) (hk : ∀ n j, Cv (fun f => k f n j) (k' n j)) :
  Cv (fun f => AX (a f) (k f)) (AX b k') := by
 intro x hx; cases b with
 | none => cases hx
 | some p =>
  obtain ⟨f0, h0⟩ := h p rfl; cases p with
  | bad u v => exact ⟨f0, fun f hf => by simp only [h0 f hf]; exact hx⟩
  | ok n j =>
   obtain ⟨f1, h1⟩ := hk n j x hx; exact ⟨max f0 f1, fun f hf => by simp only [h0 f (by omega)]; exact h1 f (by omega)⟩
theorem Cv.want {β : Type} {E : Env} {i t : Nat} {s : ByteArray} {k : Nat → Nat → Option (PR β)} {k' : Nat → Option (PR β)} (hk : ∀ j, Cv (fun f => k f j) (k' j)) : Cv (fun f => Bs E i t s (k f)) (Bs E i t s k') := by
 unfold Bs; exact Cv.ite (hk _) (Cv.const _)
theorem Cv.kind {β : Type} {E : Env} {i t : Nat} {k : Nat → ByteArray → Nat → Option (PR β)} {k' : ByteArray → Nat → Option (PR β)} (hk : ∀ n j, Cv (fun f => k f n j) (k' n j)) : Cv (fun f => D1 E i t (k f)) (D1 E i t k') := by
 unfold D1; exact Cv.ite (Cv.const _) (hk _ _)
theorem Cv.args {β : Type} {E : Env} {k : Nat → List ByteArray → Nat → Option (PR β)} {k' : List ByteArray → Nat → Option (PR β)} (hk : ∀ n j, Cv (fun f => k f n j) (k' n j)) : ∀ (n : Nat) (acc : List ByteArray) (i : Nat), Cv (fun f => FL E (k f) n acc i) (FL E k' n acc i) := by
 intro n; induction n with
 | zero => intro acc i; exact Cv.const _
 | succ n ih =>
  intro acc i; simp only [FL]; exact Cv.ite (Cv.ite (ih _ _) (hk _ _)) (Cv.kind fun s j => Cv.ite (ih _ _) (hk _ _))
open Classical in
/-- what the parser tells with enough fuel -/
noncomputable def evP (E : Env) (job : Job) (i : Nat) : Option (PR NJ) := if h : ∃ x f, BO f E job i = some x then some h.choose else none
end Th
namespace Th
open Go Go.Lib
structure St where
 i : Nat
 err : Nat
 at_ : Nat
def Po {α : Type} (x : Option (NJ × St)) (f : NJ → St → Option α) : Option α := match x with
 | none => none
 | some (n, s) => f n s
def T5 {α : Type} (x : Option (List ByteArray × St)) (f : List ByteArray → St → Option α) : Option α := match x with
 | none => none
 | some (a, s) => f a s
def Mn (E : Env) (s : St) (e : Nat) : St := if s.err = 0 then ⟨E.l.length, e, DA E s.i⟩ else ⟨E.l.length, s.err, s.at_⟩
def isR (E : Env) (s : St) (x : ByteArray) : Prop := ((Aj E s.i).kind = 1 ∨ (Aj E s.i).kind = 6) ∧ (Aj E s.i).text = x
instance (E : Env) (s : St) (x : ByteArray) : Decidable (isR E s x) := by unfold isR; exact inferInstance
def P5 (E : Env) (s : St) (x : ByteArray) : Prop := s.err = 0 ∧ isR E s x
instance (E : Env) (s : St) (x : ByteArray) : Decidable (P5 E s x) := by unfold P5; exact inferInstance
def St.next (s : St) : St := ⟨s.i + 1, s.err, s.at_⟩
def Un (E : Env) (s : St) (x : ByteArray) : St := if P5 E s x then s.next else Mn E s 60
def Gb (E : Env) (s : St) (k : Nat) : ByteArray × St :=
 if s.err ≠ 0 ∨ (Aj E s.i).kind ≠ k ∨ (k = 1 ∧ inB words13 (Aj E s.i).text = true) then (⟨#[]⟩, Mn E s 60) else ((Aj E s.i).text, s.next)
def JJ (E : Env) : Nat → List ByteArray → St → Option (List ByteArray × St)
 | 0, _, _ => none
 | n + 1, acc, s =>
  let a : ByteArray := if (Aj E s.i).kind = 2 then ⟨#[36]⟩ ++ (Gb E s 2).1 else (Gb E s 1).1
  let s2 := if (Aj E s.i).kind = 2 then (Gb E s 2).2 else (Gb E s 1).2
  if P5 E s2 ⟨#[59]⟩ then JJ E n (acc ++ [a]) s2.next else some (acc ++ [a], s2)
end Th
namespace Th
open Go Go.Lib
theorem Pr (l : List UInt8) : 0 ≤ (CO l).2 := by
 have hf : ∀ neg m e, 0 ≤ (fin neg m e).2 := fun neg m e => by unfold fin; split <;> first | exact Int.le_refl 0 | exact (show (0 : Int) ≤ 11 by decide)
 have hn : ∀ neg m e, 0 ≤ (Bq neg m e).2 := fun neg m e => by
  unfold Bq; split
  ·decide
  exact hf _ _ _
 have hc : ∀ neg u, 0 ≤ (DJ neg u).2 := fun neg u => by
  unfold DJ; split
  ·decide
  exact hn _ _ _
 unfold CO; split
 ·exact hc _ _
 exact hc _ _
end Th
namespace Th
open Go Go.Lib
def Bd {α : Type} (E : Env) (i : Nat) (o : Option (PR α)) : Prop := ∀ a j, o = some (.ok a j) → i ≤ j ∧ j ≤ E.l.length
theorem Bd.fail {α : Type} {E : Env} {i k e : Nat} : Bd (α := α) E i (DH E k e) := fun a j h => by cases h
theorem Bd.ok {α : Type} {E : Env} {i k : Nat} {n : α} (h1 : i ≤ k) (h2 : k ≤ E.l.length) : Bd E i (okP n k) := fun a j h => by cases h; exact ⟨h1, h2⟩
theorem Bd.up {α : Type} {E : Env} {i k : Nat} {o : Option (PR α)} (h1 : i ≤ k) (h : Bd E k o) : Bd E i o := fun a j hj => ⟨Nat.le_trans h1 (h a j hj).1, (h a j hj).2⟩
theorem Bd.bind {α β : Type} {E : Env} {i : Nat} {x : Option (PR α)} {f : α → Nat → Option (PR β)} (h : Bd E i x) (hf : ∀ a j, i ≤ j → j ≤ E.l.length → Bd E j (f a j)) : Bd E i (AX x f) := by
 cases x with
 | none => intro a j h; cases h
 | some y =>
  cases y with
  | bad a e => intro a j h; cases h
  | ok n j => exact (hf n j (h n j rfl).1 (h n j rfl).2).up (h n j rfl).1
theorem G9 {E : Env} {i : Nat} (h : (Aj E i).kind ≠ 0) : i < E.l.length := by
 rcases Nat.lt_or_ge i E.l.length with h1 | h1
 ·exact h1
 unfold Aj at h; rw [List.getD_eq_getElem?_getD, List.getElem?_eq_none h1] at h; exact absurd rfl h
theorem R3 {E : Env} {i k : Nat} {s : ByteArray} (hk : k ≠ 0) (h : isT E i k s) : i < E.l.length := G9 (by rw [h.1]; exact hk)
theorem R9 {α β : Type} {E : Env} {i : Nat} {x : Option (PR α)} {f : α → Nat → Option (PR β)} (h : Bd E i x) (hf : ∀ a j, i ≤ j → j ≤ E.l.length → Bd E i (f a j)) : Bd E i (AX x f) := by
 cases x with
 | none => intro a j h; cases h
 | some y =>
  cases y with
  | bad a e => intro a j h; cases h
  | ok n j => exact hf n j (h n j rfl).1 (h n j rfl).2
theorem Bd.want {β : Type} {E : Env} {i p k : Nat} {s : ByteArray} {f : Nat → Option (PR β)} (hk : k ≠ 0) (h : p + 1 ≤ E.l.length → Bd E i (f (p + 1))) : Bd E i (Bs E p k s f) := by
 unfold Bs; split
 ·rename_i hT; exact h (R3 hk hT)
 exact Bd.fail
theorem Bd.kind {β : Type} {E : Env} {i p k : Nat} {f : ByteArray → Nat → Option (PR β)} (hk : k ≠ 0) (h : ∀ s, p + 1 ≤ E.l.length → Bd E i (f s (p + 1))) : Bd E i (D1 E p k f) := by
 unfold D1; split
 ·exact Bd.fail
 rename_i hT
 exact h _ (G9 (fun h0 => hT (Or.inl (by rw [h0]; exact Ne.symm hk))))
theorem M6 {β : Type} {E : Env} {i p k : Nat} {s : ByteArray} {x y : Option (PR β)} (hk : k ≠ 0) (h : p + 1 ≤ E.l.length → Bd E i x) (h2 : Bd E i y) : Bd E i (if Th.isT E p k s then x else y) := by
 split
 ·rename_i hT; exact h (R3 hk hT)
 exact h2
theorem Qy {β : Type} {E : Env} {i p k : Nat} {x y : Option (PR β)} (hk : k ≠ 0) (h : p + 1 ≤ E.l.length → Bd E i x) (h2 : Bd E i y) : Bd E i (if (Aj E p).kind = k then x else y) := by
 split
 ·rename_i hT; exact h (G9 (by rw [hT]; exact hk))
 exact h2
theorem IY {E : Env} {i : Nat} (h : AD (Aj E i) ≠ 0) : i < E.l.length := G9 fun h0 => h (by unfold AD; rw [if_neg (by omega), if_pos (by omega)])
def Mr (E : Env) (i : Nat) : Job → Prop
 | .sign _ => i < E.l.length
 | .word _ => i < E.l.length
 | .parts _ _ _ _ => i < E.l.length
 | _ => i ≤ E.l.length
theorem U8 {β : Type} (E : Env) (b : Nat) (k : List ByteArray → Nat → Option (PR β)) (hk : ∀ a j, b ≤ j → j ≤ E.l.length → Bd E b (k a j)) : ∀ (n : Nat) (acc : List ByteArray) (i : Nat), b ≤ i → i ≤ E.l.length → Bd E b (FL E k n acc i) := by
 intro n; induction n with
 | zero => intro acc i _ _ a j h; cases h
 | succ n ih =>
  intro acc i hb hi; simp only [FL]; refine Qy (by decide) (fun h => M6 (by decide) (fun h2 => ih _ _ (by omega) h2) (hk _ _ (by omega) h)) (Bd.kind (by decide) fun s h => M6 (by decide) (fun h2 => ih _ _ (by omega) h2) (hk _ _ (by omega) h))
theorem QV : ∀ (f : Nat) (E : Env) (job : Job) (i : Nat), Mr E i job → Bd E i (BO f E job i) := by
 intro f; induction f with
 | zero => intro E job i _ a j h; cases h
 | succ f ih =>
  intro E job i hi; have run : ∀ job i, Mr E i job → Bd E i (BO f E job i) := ih E
  cases job <;> simp only [Mr] at hi <;> simp only [BO, BP]
  case parts texts filters places kids =>
   cases texts with
   | nil => exact Bd.ok (Nat.le_succ i) hi
   | cons t texts =>
    simp only; split
    ·exact Bd.fail
    cases filters with
    | nil => exact run (.parts _ _ _ _) _ hi
    | cons g filters =>
     simp only; intro a j h; cases hx : BO f (G1 g (E.base + (Aj E i).at_ + places.headD 0)) .whole 0 with
     | none => rw [hx] at h; cases h
     | some y =>
      rw [hx] at h; cases y with
      | bad a e => cases h
      | ok n j2 => exact run (.parts _ _ _ _) _ hi a j h
  case binLoop least top n =>
   by_cases h0 : AD (Aj E i) < least ∨ top < AD (Aj E i) ∨ AD (Aj E i) = 0
   ·rw [if_pos h0]; exact Bd.ok (Nat.le_refl i) hi
   rw [if_neg h0]; have hlt := IY (E := E) (i := i) (fun h => h0 (Or.inr (Or.inr h))); refine Bd.up (Nat.le_succ i) ?_; repeat' split
   all_goals exact Bd.bind (run _ _ hlt) fun a j _ h => run _ _ h
  case quoted =>
   split
   ·exact Bd.fail
   rename_i hq; exact run (.parts _ _ _ _) _ (G9 fun h0 => hq (by rw [h0]; decide))
  all_goals (repeat' first
   | with_reducible exact Bd.fail
   | (with_reducible refine Bd.ok ?_ ?_ <;> omega)
   | (with_reducible refine Bd.want (by decide) fun _ => ?_)
   | (with_reducible refine Bd.kind (by decide) fun _ _ => ?_)
   | (with_reducible refine M6 (by decide) (fun _ => ?_) ?_)
   | (with_reducible refine Qy (by decide) (fun _ => ?_) ?_)
   | (with_reducible refine R9 ?_ fun _ _ _ _ => ?_)
   | (with_reducible refine U8 _ _ _ (fun _ _ _ _ => ?_) _ _ _ ?_ ?_ <;> try omega)
   | (with_reducible refine Bd.up ?_ (run _ _ ?_) <;> (try simp only [Mr]) <;> omega)
   | split)
end Th
namespace Th
open Go Go.Lib
theorem UQ (L : List UInt8) (quote : Nat → Nat × Nat) (a : Nat) (ha : a ≤ L.length) : (Cf L quote a).1.at_ + (Cf L quote a).1.text.size ≤ L.length := by
 unfold Cf; cases hd : L.drop a with
 | nil => exact Nat.zero_le _
 | cons c r =>
  have hlen : (c :: r).length = L.length - a := by rw [← hd, List.length_drop]
  dsimp only; split
  ·split
   ·exact Nat.zero_le _
   show a + ByteArray.size _ ≤ _
   rw [DE, List.length_take]; omega
  split
  ·exact Nat.zero_le _
  show a + ByteArray.size _ ≤ _
  rw [DE, List.length_drop, List.length_take]; omega
theorem UV (L : List UInt8) (d a : Nat) (ha : a ≤ L.length) : (AQ L d a).1.at_ + (AQ L d a).1.text.size ≤ L.length := by
 rw [ED]; exact UQ _ _ _ (D4 L a ha).2
theorem RB (L : List UInt8) : ∀ (n a : Nat) (acc : List Tf), a ≤ L.length → (∀ t ∈ acc, t.at_ + t.text.size ≤ L.length) → ∀ t ∈ (CE L n a acc).1, t.at_ + t.text.size ≤ L.length := by
 intro n; induction n with
 | zero => intro a acc _ h; exact h
 | succ n ih =>
  intro a acc ha h; simp only [CE]; split
  ·intro t ht; cases ht
  split
  ·exact h
  refine ih _ _ (Fc L 48 a ha).le fun t ht => ?_
  rcases List.mem_append.1 ht with ht | ht
  ·exact h t ht
  rw [List.mem_singleton.1 ht]; exact UV L 48 a ha
theorem Su (L : List UInt8) : ∀ t ∈ (B5 L).1, t.at_ + t.text.size ≤ L.length := by
 unfold B5; split
 ·intro t ht; cases ht
 exact RB L _ _ _ (Nat.zero_le _) (fun t ht => by cases ht)
theorem LF : ∀ (l : List Tf), (∀ t ∈ l, 1 ≤ t.text.size) → l.length ≤ EE l
 | [], _ => Nat.zero_le _
 | t :: r, h => by
  have h1 := h t List.mem_cons_self; have h2 := LF r fun x hx => h x (List.mem_cons_of_mem _ hx)
  have h3 : EE (t :: r) = t.text.size + EE r := by unfold EE; rw [List.map_cons, List.sum_cons]
  rw [List.length_cons, h3]; omega
theorem RT (L : List UInt8) : (B5 L).1.length ≤ L.length := Nat.le_trans (LF _ (LD L).2) (LD L).1
structure PrtOk (n : Nat) (r : PartsR) : Prop where
 len : r.places.length = r.filters.length
 tx : ∀ t ∈ r.texts, t.length ≤ n
 pl : ∀ p ∈ r.places.zip r.filters, p.1 + p.2.length ≤ n
theorem PrtOk.at_ {n : Nat} {r : PartsR} (h : PrtOk n r) {k : Nat} (hf : k < r.filters.length) : ∃ hp : k < r.places.length, r.places[k] + r.filters[k].length ≤ n := by
 have hp : k < r.places.length := by rw [h.len]; exact hf
 refine ⟨hp, ?_⟩; have := h.pl (r.places[k], r.filters[k]) (by
  have hz : k < (r.places.zip r.filters).length := by rw [List.length_zip]; omega
  have := List.getElem_mem hz; rwa [List.getElem_zip] at this)
 exact this
end Th
namespace Go.Proofs.YtakncilicoefdaaGreatDoor
open Go Go.RowKit Go.Proofs Th
attribute [local go_sem] Above.cell Above.frozen
def signsK : List UInt8 := [32, 124, 61, 32, 43, 61, 32, 45, 61, 32, 42, 61, 32, 47, 61, 32, 61, 61, 32, 33, 61, 32, 60, 61, 32, 62, 61, 32, 47, 47, 32, 46, 46, 32]
theorem LL : ∀ l ∈ Ev, Lib.contains signsK (32 :: l ++ [32]) = true := by decide +kernel
def Xd (l : List UInt8) : Bool := match l with
 | a :: b :: c :: d :: _ => decide (a = 32 ∧ d = 32 ∧ b ≠ 32 ∧ c ≠ 32 → [b, c] ∈ Ev)
 | _ => true
theorem PB : ∀ i, i < 35 → Xd (signsK.drop i) = true := by decide +kernel
theorem QA (b c : UInt8) (hb : b ≠ 32) (hc : c ≠ 32) : Lib.contains signsK [32, b, c, 32] = decide ([b, c] ∈ Ev) := by
 by_cases h : [b, c] ∈ Ev
 ·rw [decide_eq_true h]; exact LL _ h
 rw [decide_eq_false h]; unfold Lib.contains; rw [decide_eq_false_iff_not]; intro h0; rcases Lib.index_spec signsK [32, b, c, 32] with ⟨h1, _⟩ | ⟨i, h1, h2, h3, _⟩
 ·rw [h1] at h0; exact absurd h0 (by decide)
 have h4 := PB i (by have : signsK.length = 34 := rfl; omega); unfold Lib.occAt at h3; have h5 := List.isPrefixOf_iff_prefix.1 h3; obtain ⟨t, ht⟩ := h5; rw [← ht] at h4; exact h (of_decide_eq_true h4 ⟨rfl, rfl, hb, hc⟩)
theorem Rl (c : UInt8) : decide (0 ≤ Lib.indexByte oneL c) = decide (c ∈ oneL) := by
 have : ∀ n, n < 256 → decide (0 ≤ Lib.indexByte oneL (UInt8.ofNat n)) = decide (UInt8.ofNat n ∈ oneL) := by decide +kernel
 have h := this c.toNat c.toNat_lt; simpa using h
theorem PQ (l : List UInt8) (h : Lib.hasPrefix l [47, 47, 61] = true) : AY l = 3 := by
 obtain ⟨t, ht⟩ := List.isPrefixOf_iff_prefix.1 h; unfold AY; rw [if_pos (by rw [← ht]; rfl)]
theorem RX (l : List UInt8) (h : Lib.hasPrefix l [47, 47, 61] = false) : ¬ l.take 3 = [47, 47, 61] := by
 intro h2; have : Lib.hasPrefix l [47, 47, 61] = true := List.isPrefixOf_iff_prefix.2 ⟨l.drop 3, by rw [← h2, List.take_append_drop]⟩; rw [h] at this; cases this
theorem SX {l : List UInt8} (h3 : ¬ l.take 3 = [47, 47, 61]) (h : l.take 2 ∈ Ev) : AY l = 2 := by unfold AY; rw [if_neg h3, if_pos h]
theorem TA {c : UInt8} {r : List UInt8} (h3 : ¬ (c :: r).take 3 = [47, 47, 61]) (h : ¬ (c :: r).take 2 ∈ Ev) : AY (c :: r) = if c ∈ oneL then 1 else 0 := by unfold AY; rw [if_neg h3, if_neg h]
theorem TK : ∀ l ∈ Ev, ∀ c ∈ l, c ≠ 32 := by decide
theorem N0 {s : ByteArray} (h : 1 < s.size) : ∃ r, s.data.toList = s[0] :: s[1] :: r := by
 obtain ⟨r, hr⟩ := EA (s := s) (by omega); have hl := Al s; rw [hr, List.length_cons] at hl; cases hr2 : r with
 | nil => rw [hr2] at hl; simp at hl; omega
 | cons d x =>
  refine ⟨x, ?_⟩; have : s[1] = s.data.toList[1]'(by rw [Al]; exact h) := rfl; rw [hr, hr2, this]; congr 2
  simp [hr, hr2]
theorem JB (c : UInt8) (w : World) : Calls Tryz.prog 102 #[.string ⟨#[124, 44, 46, 91, 93, 40, 41, 123, 125, 58, 59, 61, 60, 62, 43, 45, 42, 47, 37, 63]⟩, .int .u8 c.toNat] w fun r w' => ∃ z : Int, r = .returned (.int .i64 z) ∧ w' = w ∧ (0 ≤ z ↔ c ∈ oneL) := by
 refine (Tryz.strings_IndexByte ⟨#[124, 44, 46, 91, 93, 40, 41, 123, 125, 58, 59, 61, 60, 62, 43, 45, 42, 47, 37, 63]⟩ (c.toNat : Int) w).mono ?_; rintro r w' ⟨rfl, rfl⟩; refine ⟨_, rfl, rfl, ?_⟩; have h := Rl c; have e : ((c.toNat : Int)).toNat.toUInt8 = c := by simp
 rw [e]; show 0 ≤ Lib.indexByte oneL c ↔ _
 rw [decide_eq_decide] at h; exact h
theorem UJ {s : ByteArray} (h1 : 1 < s.size) : (⟨#[32]⟩ ++ s.extract 0 2 ++ ⟨#[32]⟩ : ByteArray).data.toList = ([32, s[0], s[1], 32] : List UInt8) := by
 obtain ⟨r1, hr1⟩ := N0 h1; rw [Dx, Dx, OQ, hr1]; rfl
def sgB : ByteArray := ⟨#[32, 124, 61, 32, 43, 61, 32, 45, 61, 32, 42, 61, 32, 47, 61, 32, 61, 61, 32, 33, 61, 32, 60, 61, 32, 62, 61, 32, 47, 47, 32, 46, 46, 32]⟩
theorem SF : sgB.size = 34 := rfl
theorem SL : sgB.data.toList = signsK := rfl
theorem Lb {s : ByteArray} (h1 : 1 < s.size) (w : World) (m : Int) (hm : w.cell? ⟨4, 0, none⟩ = some (.int .i64 m)) :
  Calls Tryz.prog 105 #[.string sgB, .string (⟨#[32]⟩ ++ s.extract 0 2 ++ ⟨#[32]⟩)] w fun e w' => e = .returned (.bool (Lib.contains signsK ([32, s[0], s[1], 32] : List UInt8))) ∧ w' = w := by
 have hz : sgB.size < 4294967281 := by rw [SF]; decide
 have hl := SL; have hc := UJ h1; generalize sgB = z at *; generalize (⟨#[32]⟩ ++ s.extract 0 2 ++ ⟨#[32]⟩ : ByteArray) = y at *; have h := Tryz.strings_Contains z y m w hz hm; rw [hl, hc] at h; exact h
theorem EU (s : ByteArray) (b : Bool) (hp : Lib.hasPrefix s.data.toList [47, 47, 61] = b) (w : World) : Calls Tryz.prog 84 #[.string s, .string ⟨#[47, 47, 61]⟩] w fun e w' => e = .returned (.bool b) ∧ w' = w := by
 refine (Tryz.strings_HasPrefix s ⟨#[47, 47, 61]⟩ w).mono ?_; rintro r w' ⟨rfl, rfl⟩; exact ⟨congrArg (fun x => Ending.returned (.bool x)) hp, rfl⟩
theorem Tg {c : UInt8} (h : c ≠ 32) : ¬ (c.toNat : Int) = 32 := by
 intro h2; apply h; apply UInt8.toNat_inj.1; show c.toNat = 32; omega
theorem P4 (s : ByteArray) (w : World) (hp : Lib.hasPrefix s.data.toList [47, 47, 61] = true) : Calls Tryz.prog 77 #[.string s] w fun r w' => r = .returned (.int .i64 (AY s.data.toList : Int)) ∧ w' = w := by
 have HP2 := Keep.mk (EU s true hp w); have HN := Keep.mk (PQ _ hp); clear hp; go_enter Tryz.func77, Tryz.ntmps77
 go_wp2_with fail
 refine HP2.out.mono ?_; rintro r w1 ⟨rfl, rfl⟩; go_wp2
 go_ret
 exact ⟨by rw [HN.out]; rfl, rfl⟩
theorem Px (s : ByteArray) (h0 : 0 < s.size) (w : World) (h1 : ¬ 1 < s.size) (hp : Lib.hasPrefix s.data.toList [47, 47, 61] = false)
  (hN : AY s.data.toList = if s[0] ∈ oneL then 1 else 0) : Calls Tryz.prog 77 #[.string s] w fun r w' => r = .returned (.int .i64 (AY s.data.toList : Int)) ∧ w' = w := by
 have HP2 := Keep.mk (EU s false hp w); have HI := Keep.mk (JB s[0] w); by_cases ho : s[0] ∈ oneL
 ·have HN2 := Keep.mk (show AY s.data.toList = 1 by rw [hN, if_pos ho])
  have HI2 := Keep.mk (show Calls Tryz.prog 102 #[.string ⟨#[124, 44, 46, 91, 93, 40, 41, 123, 125, 58, 59, 61, 60, 62, 43, 45, 42, 47, 37, 63]⟩, .int .u8 s[0].toNat] w fun r w' => ∃ z : Int, r = .returned (.int .i64 z) ∧ 0 ≤ z ∧ w' = w from HI.out.mono fun r w' ⟨z, h1, h2, h3⟩ => ⟨z, h1, h3.2 ho, h2⟩); clear HI ho hN hp; go_enter Tryz.func77, Tryz.ntmps77
  go_wp2_with fail
  refine HP2.out.mono ?_; rintro r w1 ⟨rfl, rfl⟩; go_wp2_with fail
  refine HI2.out.mono ?_; rintro r w2 ⟨z, rfl, hz, rfl⟩; go_wp2
  go_ret
  exact ⟨by rw [HN2.out]; rfl, rfl⟩
 have HN2 := Keep.mk (show AY s.data.toList = 0 by rw [hN, if_neg ho]); have HI2 := Keep.mk (show Calls Tryz.prog 102 #[.string ⟨#[124, 44, 46, 91, 93, 40, 41, 123, 125, 58, 59, 61, 60, 62, 43, 45, 42, 47, 37, 63]⟩, .int .u8 s[0].toNat] w fun r w' => ∃ z : Int, r = .returned (.int .i64 z) ∧ z < 0 ∧ w' = w from HI.out.mono fun r w' ⟨z, h1, h2, h3⟩ => ⟨z, h1, by rcases Int.lt_or_le z 0 with h | h; exact h; exact absurd (h3.1 h) ho, h2⟩); clear HI ho hN hp; go_enter Tryz.func77, Tryz.ntmps77
 go_wp2_with fail
 refine HP2.out.mono ?_; rintro r w1 ⟨rfl, rfl⟩; go_wp2_with fail
 refine HI2.out.mono ?_; rintro r w2 ⟨z, rfl, hz, rfl⟩; go_wp2
 go_ret
 exact ⟨by rw [HN2.out]; rfl, rfl⟩
theorem Ql (s : ByteArray) (h1 : 1 < s.size) (w : World) (m : Int) (hm : w.cell? ⟨4, 0, none⟩ = some (.int .i64 m)) (hb : Lib.contains signsK ([32, s[0], s[1], 32] : List UInt8) = false) (hp : Lib.hasPrefix s.data.toList [47, 47, 61] = false)
  (hN : AY s.data.toList = if s[0] ∈ oneL then 1 else 0) : Calls Tryz.prog 77 #[.string s] w fun r w' => r = .returned (.int .i64 (AY s.data.toList : Int)) ∧ w' = w := by
 have HP2 := Keep.mk (EU s false hp w); have HI := Keep.mk (JB s[0] w); have HC := Keep.mk (Lb h1 w m hm); rw [hb] at HC; by_cases ho : s[0] ∈ oneL
 ·have HN2 := Keep.mk (show AY s.data.toList = 1 by rw [hN, if_pos ho])
  have HI2 := Keep.mk (show Calls Tryz.prog 102 #[.string ⟨#[124, 44, 46, 91, 93, 40, 41, 123, 125, 58, 59, 61, 60, 62, 43, 45, 42, 47, 37, 63]⟩, .int .u8 s[0].toNat] w fun r w' => ∃ z : Int, r = .returned (.int .i64 z) ∧ 0 ≤ z ∧ w' = w from HI.out.mono fun r w' ⟨z, h1, h2, h3⟩ => ⟨z, h1, h3.2 ho, h2⟩); clear HI ho hN hp hb hm; go_enter Tryz.func77, Tryz.ntmps77
  go_wp2_with fail
  refine HP2.out.mono ?_; rintro r w1 ⟨rfl, rfl⟩; go_wp2_with fail
  refine HC.out.mono ?_; rintro r w3 ⟨rfl, rfl⟩; go_wp2_with fail
  refine HI2.out.mono ?_; rintro r w2 ⟨z, rfl, hz, rfl⟩; go_wp2
  go_ret
  exact ⟨by rw [HN2.out]; rfl, rfl⟩
 have HN2 := Keep.mk (show AY s.data.toList = 0 by rw [hN, if_neg ho]); have HI2 := Keep.mk (show Calls Tryz.prog 102 #[.string ⟨#[124, 44, 46, 91, 93, 40, 41, 123, 125, 58, 59, 61, 60, 62, 43, 45, 42, 47, 37, 63]⟩, .int .u8 s[0].toNat] w fun r w' => ∃ z : Int, r = .returned (.int .i64 z) ∧ z < 0 ∧ w' = w from HI.out.mono fun r w' ⟨z, h1, h2, h3⟩ => ⟨z, h1, by rcases Int.lt_or_le z 0 with h | h; exact h; exact absurd (h3.1 h) ho, h2⟩); clear HI ho hN hp hb hm; go_enter Tryz.func77, Tryz.ntmps77
 go_wp2_with fail
 refine HP2.out.mono ?_; rintro r w1 ⟨rfl, rfl⟩; go_wp2_with fail
 refine HC.out.mono ?_; rintro r w3 ⟨rfl, rfl⟩; go_wp2_with fail
 refine HI2.out.mono ?_; rintro r w2 ⟨z, rfl, hz, rfl⟩; go_wp2
 go_ret
 exact ⟨by rw [HN2.out]; rfl, rfl⟩
theorem P8 (s : ByteArray) (h1 : 1 < s.size) (w : World) (m : Int) (hm : w.cell? ⟨4, 0, none⟩ = some (.int .i64 m)) (hb : Lib.contains signsK ([32, s[0], s[1], 32] : List UInt8) = true) (h32 : s[0] ≠ 32) (h132 : s[1] = 32) (hp : Lib.hasPrefix s.data.toList [47, 47, 61] = false)
  (hN : AY s.data.toList = if s[0] ∈ oneL then 1 else 0) : Calls Tryz.prog 77 #[.string s] w fun r w' => r = .returned (.int .i64 (AY s.data.toList : Int)) ∧ w' = w := by
 have HP2 := Keep.mk (EU s false hp w); have HI := Keep.mk (JB s[0] w); have HC := Keep.mk (Lb h1 w m hm); rw [hb] at HC; have b032 := Tg h32; have b132 : (s[1].toNat : Int) = 32 := by rw [h132]; rfl
 by_cases ho : s[0] ∈ oneL
 ·have HN2 := Keep.mk (show AY s.data.toList = 1 by rw [hN, if_pos ho])
  have HI2 := Keep.mk (show Calls Tryz.prog 102 #[.string ⟨#[124, 44, 46, 91, 93, 40, 41, 123, 125, 58, 59, 61, 60, 62, 43, 45, 42, 47, 37, 63]⟩, .int .u8 s[0].toNat] w fun r w' => ∃ z : Int, r = .returned (.int .i64 z) ∧ 0 ≤ z ∧ w' = w from HI.out.mono fun r w' ⟨z, h1, h2, h3⟩ => ⟨z, h1, h3.2 ho, h2⟩); clear HI ho hN hp hb hm h32 h132; go_enter Tryz.func77, Tryz.ntmps77
  go_wp2_with fail
  refine HP2.out.mono ?_; rintro r w1 ⟨rfl, rfl⟩; go_wp2_with fail
  refine HC.out.mono ?_; rintro r w3 ⟨rfl, rfl⟩; go_wp2_with fail
  refine HI2.out.mono ?_; rintro r w2 ⟨z, rfl, hz, rfl⟩; go_wp2
  go_ret
  exact ⟨by rw [HN2.out]; rfl, rfl⟩
 have HN2 := Keep.mk (show AY s.data.toList = 0 by rw [hN, if_neg ho]); have HI2 := Keep.mk (show Calls Tryz.prog 102 #[.string ⟨#[124, 44, 46, 91, 93, 40, 41, 123, 125, 58, 59, 61, 60, 62, 43, 45, 42, 47, 37, 63]⟩, .int .u8 s[0].toNat] w fun r w' => ∃ z : Int, r = .returned (.int .i64 z) ∧ z < 0 ∧ w' = w from HI.out.mono fun r w' ⟨z, h1, h2, h3⟩ => ⟨z, h1, by rcases Int.lt_or_le z 0 with h | h; exact h; exact absurd (h3.1 h) ho, h2⟩); clear HI ho hN hp hb hm h32 h132; go_enter Tryz.func77, Tryz.ntmps77
 go_wp2_with fail
 refine HP2.out.mono ?_; rintro r w1 ⟨rfl, rfl⟩; go_wp2_with fail
 refine HC.out.mono ?_; rintro r w3 ⟨rfl, rfl⟩; go_wp2_with fail
 refine HI2.out.mono ?_; rintro r w2 ⟨z, rfl, hz, rfl⟩; go_wp2
 go_ret
 exact ⟨by rw [HN2.out]; rfl, rfl⟩
theorem Rx (s : ByteArray) (h1 : 1 < s.size) (w : World) (m : Int) (hm : w.cell? ⟨4, 0, none⟩ = some (.int .i64 m)) (hb : Lib.contains signsK ([32, s[0], s[1], 32] : List UInt8) = true) (h32 : s[0] ≠ 32) (h132 : s[1] ≠ 32) (hp : Lib.hasPrefix s.data.toList [47, 47, 61] = false)
  (hN : AY s.data.toList = 2) : Calls Tryz.prog 77 #[.string s] w fun r w' => r = .returned (.int .i64 (AY s.data.toList : Int)) ∧ w' = w := by
 have HP2 := Keep.mk (EU s false hp w); have HC := Keep.mk (Lb h1 w m hm); rw [hb] at HC; have b032 := Tg h32; have b132 := Tg h132; have c032 : ((s[0].toNat : Int) != 32) = true := by rw [bne_iff_ne]; exact b032
 have c132 : ((s[1].toNat : Int) != 32) = true := by rw [bne_iff_ne]; exact b132
 have HN := Keep.mk hN; clear hb hm h32 h132 hp hN; go_enter Tryz.func77, Tryz.ntmps77
 go_wp2_with fail
 refine HP2.out.mono ?_; rintro r w1 ⟨rfl, rfl⟩; go_wp2_with fail
 refine HC.out.mono ?_; rintro r w3 ⟨rfl, rfl⟩; go_wp2
 go_ret
 exact ⟨by rw [HN.out]; rfl, rfl⟩
theorem MY (s : ByteArray) (h0 : 0 < s.size) (h32 : s[0] ≠ 32) (w : World) (m : Int) (hm : w.cell? ⟨4, 0, none⟩ = some (.int .i64 m)) : Calls Tryz.prog 77 #[.string s] w fun r w' => r = .returned (.int .i64 (AY s.data.toList : Int)) ∧ w' = w := by
 cases hp : Lib.hasPrefix s.data.toList [47, 47, 61]
 ·have h3 := RX _ hp
  obtain ⟨r0, hr0⟩ := EA h0; have H1 : ¬ s.data.toList.take 2 ∈ Ev → AY s.data.toList = if s[0] ∈ oneL then 1 else 0 := fun h2 => by rw [hr0] at h3 h2 ⊢; exact TA h3 h2
  by_cases h1 : 1 < s.size
  ·obtain ⟨r1, hr1⟩ := N0 h1
   have htk : s.data.toList.take 2 = [s[0], s[1]] := by rw [hr1]; rfl
   cases hb : Lib.contains signsK ([32, s[0], s[1], 32] : List UInt8)
   ·refine Ql s h1 w m hm hb hp (H1 fun h => ?_)
    rw [htk] at h; have := LL _ h; have this : Lib.contains signsK ([32, s[0], s[1], 32] : List UInt8) = true := this; rw [hb] at this; cases this
   by_cases h132 : s[1] = 32
   ·exact P8 s h1 w m hm hb h32 h132 hp (H1 fun h => by rw [htk] at h; exact TK _ h s[1] (by simp) h132)
   refine Rx s h1 w m hm hb h32 h132 hp (SX h3 ?_); rw [htk]; rw [QA _ _ h32 h132] at hb; exact of_decide_eq_true hb
  exact Px s h0 w h1 hp (H1 fun h => by
   have := (GB _ h).1; rw [List.length_take, Al] at this; omega)
 exact P4 s w hp
open Go Go.RowKit Go.Proofs Th
theorem Fs (s : ByteArray) : AU s.data.toList = true ↔ 0 < s.size ∧ ∀ i (h : i < s.size), (if i = 0 then Ba s[i] else Bg s[i]) = true := by
 by_cases h0 : s.size = 0
 ·have : s.data.toList = [] := List.eq_nil_of_length_eq_zero (by rw [Al]; exact h0)
  rw [this]; exact ⟨fun h => (by cases h), fun h => (by omega)⟩
 obtain ⟨r, hr⟩ := EA (s := s) (by omega); have hg : ∀ i (h : i < s.size), s[i] = s.data.toList[i]'(by rw [Al]; exact h) := fun _ _ => rfl
 have hl := Al s; rw [hr, List.length_cons] at hl; rw [hr]; simp only [AU, Bool.and_eq_true, List.all_eq_true]; refine ⟨fun ⟨h1, h2⟩ => ⟨by omega, fun i hi => ?_⟩, fun ⟨h1, h2⟩ => ⟨?_, fun c hc => ?_⟩⟩
 ·by_cases hi0 : i = 0
  ·subst hi0; exact h1
  rw [if_neg hi0, hg i hi]; obtain ⟨k, rfl⟩ : ∃ k, i = k + 1 := ⟨i - 1, by omega⟩
  have : s.data.toList[k + 1]'(by rw [Al]; exact hi) = r[k]'(by omega) := by simp [hr]
  rw [this]; exact h2 _ (List.getElem_mem _)
 ·have := h2 0 h1
  simpa using this
 obtain ⟨k, hk, rfl⟩ := List.mem_iff_getElem.1 hc; have := h2 (k + 1) (by omega); rw [if_neg (by omega), hg (k + 1) (by omega)] at this; have e : s.data.toList[k + 1]'(by rw [Al]; omega) = r[k] := by simp [hr]
 rw [e] at this; exact this
theorem Uu (s : ByteArray) (hs : s.size ≤ 100000000) (w : World) : Calls Tryz.prog 69 #[.string s] w fun r w' => r = .returned (.bool (AU s.data.toList)) ∧ w' = w := by
 have HE := Keep.mk (fun (h : ∀ i (h : i < s.size), (if i = 0 then Ba s[i] else Bg s[i]) = true) => show decide (0 < s.size) = AU s.data.toList by
  by_cases h0 : 0 < s.size
  ·rw [decide_eq_true (by omega), (Fs s).2 ⟨h0, h⟩]
  rw [decide_eq_false (by omega)]; cases hn : AU s.data.toList with
  | false => rfl
  | true => exact absurd ((Fs s).1 hn).1 h0)
 have HN := Keep.mk (fun j (hj : j < s.size) (h : (if j = 0 then Ba s[j] else Bg s[j]) = false) => show false = AU s.data.toList by
  cases hn : AU s.data.toList with
  | false => rfl
  | true => rw [((Fs s).1 hn).2 j hj] at h; cases h)
 go_enter Tryz.func69, Tryz.ntmps69
 go_wp2_with fail
 go_loopg [3] s.size (fun gk i wr => ∃ j : Nat, j + gk = s.size ∧ i = .int .i64 j ∧ Keep (∀ i (h : i < s.size), i < j → (if i = 0 then Ba s[i] else Bg s[i]) = true) ∧ w = wr)
 case atStart => exact ⟨0, by omega, rfl, ⟨fun _ _ h => absurd h (by omega)⟩, rfl⟩
 case round =>
  obtain ⟨j, hj, rfl, HD, rfl⟩ := hrel; by_cases hlt : j < s.size
  ·have hgk : gk ≠ 0 := by omega
   have HC := Keep.mk (Rv s[j] w); have HC2 := Keep.mk (TV s[j] w); have HM := Keep.mk (fun (h : (if j = 0 then Ba s[j] else Bg s[j]) = true) i (hi : i < s.size) (hij : i < j + 1) => show (if i = 0 then Ba s[i] else Bg s[i]) = true by
    by_cases h2 : i < j
    ·exact HD.out i hi h2
    obtain rfl : i = j := by omega
    exact h)
   cases hl : Ba s[j]
   ·rw [hl] at HC
    by_cases hj0 : j = 0
    ·have HR := Keep.mk (HN.out j hlt (by rw [if_pos hj0, hl]))
     subst hj0; clear hl HD HM HE HN HC2; go_wp2_with fail
     refine HC.out.mono ?_; rintro r w1 ⟨rfl, rfl⟩; go_wp2
     go_ret
     exact ⟨Da HR.out, rfl⟩
    have hjz : ¬ (j : Int) = 0 := by omega
    have hjb : ((j : Int) == 0) = false := by rw [beq_eq_false_iff_ne]; exact hjz
    cases hd : Bo s[j]
    ·rw [hd] at HC2
     have HR := Keep.mk (HN.out j hlt (by rw [if_neg hj0]; unfold Bg; rw [hl, hd]; rfl)); clear hl hd HD HM HE HN hj0; go_wp2_with fail
     refine HC.out.mono ?_; rintro r w1 ⟨rfl, rfl⟩; go_wp2_with fail
     refine HC2.out.mono ?_; rintro r w2 ⟨rfl, rfl⟩; go_wp2
     go_ret
     exact ⟨Da HR.out, rfl⟩
    rw [hd] at HC2; have HM2 := Keep.mk (HM.out (by rw [if_neg hj0]; unfold Bg; rw [hl, hd]; rfl)); clear hl hd HD HM hj0; go_wp2_with fail
    refine HC.out.mono ?_; rintro r w1 ⟨rfl, rfl⟩; go_wp2_with fail
    refine HC2.out.mono ?_; rintro r w2 ⟨rfl, rfl⟩; go_wp2
    go_roundg (gk - 1)
    case rel => exact ⟨j + 1, by omega, by go_num, HM2, rfl⟩
    case measure => omega
   rw [hl] at HC; have HM2 := Keep.mk (HM.out (by by_cases h : j = 0; rw [if_pos h, hl]; rw [if_neg h]; unfold Bg; rw [hl]; rfl)); clear hl HD HM; go_wp2_with fail
   refine HC.out.mono ?_; rintro r w1 ⟨rfl, rfl⟩; go_wp2
   go_roundg (gk - 1)
   case rel => exact ⟨j + 1, by omega, by go_num, HM2, rfl⟩
   case measure => omega
  have hjs : j = s.size := by omega
  have HR := Keep.mk (HE.out (fun i hi => HD.out i hi (by omega))); clear HD HE HN; go_wp2
  go_ret
  exact ⟨Da HR.out, rfl⟩
open Go Go.RowKit Go.Proofs Th
def E0 (c : Int) : ByteArray := ⟨(List.replicate c.toNat (48 : UInt8)).toArray⟩
theorem Kn (c : Int) : (E0 c).size = c.toNat := by unfold E0; show (List.replicate _ _).toArray.size = _; simp
theorem JM (c : Int) : (E0 c).data.toList = List.replicate c.toNat 48 := by unfold E0; simp
theorem OK (c : Nat) : Lib.repeatL [48] c = List.replicate c 48 := by
 induction c with
 | zero => rfl
 | succ c ih =>
  have : Lib.repeatL [48] (c + 1) = [48] ++ Lib.repeatL [48] c := by simp [Lib.repeatL]
  rw [this, ih]; rfl
theorem Pf (c : Int) (h0 : 0 ≤ c) (h1 : c ≤ 1000) (w : World) : Calls Tryz.prog 53 #[.string ⟨#[48]⟩, .int .i64 c] w fun r w' => r = .returned (.string (E0 c)) ∧ Below w.heap.size w w' := by
 obtain ⟨c, rfl⟩ := Int.eq_ofNat_of_zero_le h0; have h := Tryz.strings_Repeat ⟨#[48]⟩ c w (by omega) (by show 1 * c ≤ _; omega); refine h.mono ?_; rintro e w' ⟨rfl, hb⟩; refine ⟨?_, hb⟩; unfold E0; show Ending.returned (.string ⟨(Lib.repeatL [48] c).toArray⟩) = _
 rw [OK]; rfl
def F3 (m e : Int) : List UInt8 × Int := if right m e then (AL m e, 0) else ([], 10)
def Bl (p : List UInt8 × Int) : Value := .tuple #[.string ⟨p.1.toArray⟩, .int .i64 p.2]
theorem Bj {a : ByteArray} {l : List UInt8} {c : Int} (h : a.data.toList = l) : Ending.returned (.tuple #[.string a, .int .i64 c]) = .returned (Bl (l, c)) := by
 unfold Bl; rw [← h]
theorem Gp (p d D : ByteArray) (k n : Nat) (hn : n = D.size) : (p ++ D.extract 0 k ++ d ++ D.extract k n).data.toList = p.data.toList ++ D.data.toList.take k ++ d.data.toList ++ D.data.toList.drop k := by
 subst hn; have e1 : (D.extract 0 k).data.toList = D.data.toList.take k := by rw [Lib.extract_data]; simp
 have e2 : (D.extract k D.size).data.toList = D.data.toList.drop k := by
  rw [Lib.extract_data, List.take_of_length_le]; simp
 simp only [ByteArray.data_append, Array.toList_append, e1, e2]
theorem Ow (m e : Int) (hm : I64 m) (h : right m e = false) (w : World) (hg : GlobP w) : Calls Tryz.prog 27 #[.agg #[.int .i64 m, .int .i64 e]] w fun r w' =>
  r = .returned (Bl ([], 10)) ∧ Below w.heap.size w w' := by
 go_enter Tryz.func27, Tryz.ntmps27
 go_wp2_with fail
 refine (Cd m e hm.lo hm.hi _ (hg.weak.below (al1 _ _))).mono ?_; rw [h]; rintro r w1 ⟨rfl, hb1⟩; obtain ⟨hc, hf⟩ := An hb1; go_wp2
 go_ret2
 exact ⟨rfl, up (al1 _ _) hb1⟩
theorem UB (m e : Int) (hm : I64 m) (h : right m e = true) (he : 0 ≤ e) (hk : (nd m : Int) + e ≤ 21) (w : World) (hg : GlobP w) : Calls Tryz.prog 27 #[.agg #[.int .i64 m, .int .i64 e]] w fun r w' =>
  r = .returned (Bl (AL m e, 0)) ∧ Below w.heap.size w w' := by
 obtain ⟨A, S, hA1, hA2, hA3, hA4, hA5⟩ := Fw m e hm h; have hx := Bz h; have hS : S.size ≤ 18 := by rw [hA3]; exact Km h
 have hS1 : 1 ≤ S.size := by rw [hA3]; exact Ct m
 have HL := Keep.mk (show S.data.toList = Lib.decDigits m.natAbs by rw [hA2]); rw [← hA3] at hk; have HA4 := Keep.mk hA4; have HA5 := Keep.mk hA5; have HA3 := Keep.mk hA3; clear hA1 hA2 hA3 hA4 hA5; obtain ⟨Z, hZ⟩ : ∃ Z, Z = E0 e := ⟨_, rfl⟩
 have hz3 : Z.size ≤ 1000 := by rw [hZ, Kn]; omega
 have hrep : Keep (∀ w, Calls Tryz.prog 53 #[.string ⟨#[48]⟩, .int .i64 e] w fun r w' => r = .returned (.string Z) ∧ Below w.heap.size w w') := ⟨fun w => by rw [hZ]; exact Pf _ (by omega) (by omega) w⟩; have HZ := Keep.mk (show Z.data.toList = List.replicate e.toNat 48 by rw [hZ, JM]); clear hZ; have HF := Keep.mk (show AL m e = sgn m ++ S.data.toList ++ List.replicate e.toNat 48 by unfold AL; rw [if_pos ⟨he, by rw [← HA3.out]; exact hk⟩, HL.out]); by_cases hn : m < 0
 ·have HG := Keep.mk (show sgn m = [45] by unfold sgn; rw [if_pos hn])
  have hnF : (m < 0) = True := by simp; omega
  clear hn; go_enter Tryz.func27, Tryz.ntmps27
  go_wp2_with fail
  refine (Cd m e hm.lo hm.hi _ (hg.weak.below (al1 _ _))).mono ?_; rw [h]; rintro r w1 ⟨rfl, hb1⟩; obtain ⟨hc, hf⟩ := An hb1; go_wp2_with fail
  refine (HA4.out _).mono ?_; rintro r w2 ⟨rfl, hb2'⟩; have hb2 := up hb1 hb2'; clear hc hf; obtain ⟨hc, hf⟩ := An hb2; go_wp2_with fail
  refine (HA5.out _ (hg.below (up (al1 _ _) hb2))).mono ?_; rintro r w3 ⟨rfl, hb3'⟩; have hb3 := up hb2 hb3'; clear hc hf; obtain ⟨hc, hf⟩ := An hb3; go_wp2_with fail
  refine (hrep.out _).mono ?_; rintro r w4 ⟨rfl, hb4'⟩; have hb4 := up hb3 hb4'; clear hc hf; obtain ⟨hc, hf⟩ := An hb4; go_wp2
  go_ret2
  refine ⟨Bj ?_, up (al1 _ _) hb4⟩; rw [HF.out, HG.out, ← HZ.out]; simp
 have HG := Keep.mk (show sgn m = [] by unfold sgn; rw [if_neg hn]); have hnF : (m < 0) = False := by simp; omega
 clear hn; go_enter Tryz.func27, Tryz.ntmps27
 go_wp2_with fail
 refine (Cd m e hm.lo hm.hi _ (hg.weak.below (al1 _ _))).mono ?_; rw [h]; rintro r w1 ⟨rfl, hb1⟩; obtain ⟨hc, hf⟩ := An hb1; go_wp2_with fail
 refine (HA4.out _).mono ?_; rintro r w2 ⟨rfl, hb2'⟩; have hb2 := up hb1 hb2'; clear hc hf; obtain ⟨hc, hf⟩ := An hb2; go_wp2_with fail
 refine (HA5.out _ (hg.below (up (al1 _ _) hb2))).mono ?_; rintro r w3 ⟨rfl, hb3'⟩; have hb3 := up hb2 hb3'; clear hc hf; obtain ⟨hc, hf⟩ := An hb3; go_wp2_with fail
 refine (hrep.out _).mono ?_; rintro r w4 ⟨rfl, hb4'⟩; have hb4 := up hb3 hb4'; clear hc hf; obtain ⟨hc, hf⟩ := An hb4; go_wp2
 go_ret2
 refine ⟨Bj ?_, up (al1 _ _) hb4⟩; rw [HF.out, HG.out, ← HZ.out]; simp
theorem Tc (m e : Int) (hm : I64 m) (h : right m e = true) (he : e < 0) (he2 : -20 ≤ e) (hk : (nd m : Int) ≤ -e) (w : World) (hg : GlobP w) : Calls Tryz.prog 27 #[.agg #[.int .i64 m, .int .i64 e]] w fun r w' =>
  r = .returned (Bl (AL m e, 0)) ∧ Below w.heap.size w w' := by
 obtain ⟨A, S, hA1, hA2, hA3, hA4, hA5⟩ := Fw m e hm h; have hx := Bz h; have hS : S.size ≤ 18 := by rw [hA3]; exact Km h
 have hS1 : 1 ≤ S.size := by rw [hA3]; exact Ct m
 have HL := Keep.mk (show S.data.toList = Lib.decDigits m.natAbs by rw [hA2]); rw [← hA3] at hk; have HA4 := Keep.mk hA4; have HA5 := Keep.mk hA5; have HA3 := Keep.mk hA3; clear hA1 hA2 hA3 hA4 hA5; obtain ⟨Z, hZ⟩ : ∃ Z, Z = E0 (1 - e - S.size) := ⟨_, rfl⟩
 have hZs : (Z.size : Int) = 1 - e - S.size := by rw [hZ, Kn]; omega
 have hz1 : (Z.size : Int) + S.size + e ≤ 1 := by omega
 have hz2 : 1 ≤ (Z.size : Int) + S.size + e := by omega
 have hz3 : Z.size ≤ 1000 := by omega
 have hrep : Keep (∀ w, Calls Tryz.prog 53 #[.string ⟨#[48]⟩, .int .i64 (1 - e - S.size)] w fun r w' => r = .returned (.string Z) ∧ Below w.heap.size w w') := ⟨fun w => by rw [hZ]; exact Pf _ (by omega) (by omega) w⟩; have HF := Keep.mk (show AL m e = sgn m ++ (Z ++ S).data.toList.take 1 ++ [46] ++ (Z ++ S).data.toList.drop 1 by
  have hp : pad m e = (Z ++ S).data.toList := by
   unfold pad; rw [if_pos (by rw [← HA3.out]; exact hk), ← HL.out, ← HA3.out, hZ]; simp [JM]
  have hl : (((Z ++ S).data.toList.length : Int) + e).toNat = 1 := by
   have : (Z ++ S).data.toList.length = Z.size + S.size := by simp
   omega
  unfold AL; rw [if_neg (by omega), if_pos ⟨he, he2⟩, hp, hl])
 clear hZ hZs; by_cases hn : m < 0
 ·have HG := Keep.mk (show sgn m = [45] by unfold sgn; rw [if_pos hn])
  have hnF : (m < 0) = True := by simp; omega
  clear hn; go_enter Tryz.func27, Tryz.ntmps27
  go_wp2_with fail
  refine (Cd m e hm.lo hm.hi _ (hg.weak.below (al1 _ _))).mono ?_; rw [h]; rintro r w1 ⟨rfl, hb1⟩; obtain ⟨hc, hf⟩ := An hb1; go_wp2_with fail
  refine (HA4.out _).mono ?_; rintro r w2 ⟨rfl, hb2'⟩; have hb2 := up hb1 hb2'; clear hc hf; obtain ⟨hc, hf⟩ := An hb2; go_wp2_with fail
  refine (HA5.out _ (hg.below (up (al1 _ _) hb2))).mono ?_; rintro r w3 ⟨rfl, hb3'⟩; have hb3 := up hb2 hb3'; clear hc hf; obtain ⟨hc, hf⟩ := An hb3; go_wp2_with fail
  refine (hrep.out _).mono ?_; rintro r w4 ⟨rfl, hb4'⟩; have hb4 := up hb3 hb4'; clear hc hf; obtain ⟨hc, hf⟩ := An hb4; go_wp2_with fail
  refine AR hb4 (by kernel_rfl) (by kernel_rfl) ?_; repeat (go_big_quiet_step (fail))
  refine wpQuiet_nil ?_; rintro _ ⟨x5, rfl⟩; have hb5 := x5.property; clear hc hf; obtain ⟨hc, hf⟩ := An hb5; go_wp2
  go_ret2
  refine ⟨Bj ?_, up (al1 _ _) hb5⟩; rw [HF.out, HG.out]; rw [Gp _ _ _ _ _ (by simp), show ((Z.size : Int) + S.size + e).toNat = 1 by omega]
 have HG := Keep.mk (show sgn m = [] by unfold sgn; rw [if_neg hn]); have hnF : (m < 0) = False := by simp; omega
 clear hn; go_enter Tryz.func27, Tryz.ntmps27
 go_wp2_with fail
 refine (Cd m e hm.lo hm.hi _ (hg.weak.below (al1 _ _))).mono ?_; rw [h]; rintro r w1 ⟨rfl, hb1⟩; obtain ⟨hc, hf⟩ := An hb1; go_wp2_with fail
 refine (HA4.out _).mono ?_; rintro r w2 ⟨rfl, hb2'⟩; have hb2 := up hb1 hb2'; clear hc hf; obtain ⟨hc, hf⟩ := An hb2; go_wp2_with fail
 refine (HA5.out _ (hg.below (up (al1 _ _) hb2))).mono ?_; rintro r w3 ⟨rfl, hb3'⟩; have hb3 := up hb2 hb3'; clear hc hf; obtain ⟨hc, hf⟩ := An hb3; go_wp2_with fail
 refine (hrep.out _).mono ?_; rintro r w4 ⟨rfl, hb4'⟩; have hb4 := up hb3 hb4'; clear hc hf; obtain ⟨hc, hf⟩ := An hb4; go_wp2_with fail
 refine AR hb4 (by kernel_rfl) (by kernel_rfl) ?_; repeat (go_big_quiet_step (fail))
 refine wpQuiet_nil ?_; rintro _ ⟨x5, rfl⟩; have hb5 := x5.property; clear hc hf; obtain ⟨hc, hf⟩ := An hb5; go_wp2
 go_ret2
 refine ⟨Bj ?_, up (al1 _ _) hb5⟩; rw [HF.out, HG.out]; rw [Gp _ _ _ _ _ (by simp), show ((Z.size : Int) + S.size + e).toNat = 1 by omega]
theorem Tu (m e : Int) (hm : I64 m) (h : right m e = true) (he : e < 0) (he2 : -20 ≤ e) (hk : -e < (nd m : Int)) (w : World) (hg : GlobP w) : Calls Tryz.prog 27 #[.agg #[.int .i64 m, .int .i64 e]] w fun r w' =>
  r = .returned (Bl (AL m e, 0)) ∧ Below w.heap.size w w' := by
 obtain ⟨A, S, hA1, hA2, hA3, hA4, hA5⟩ := Fw m e hm h; have hx := Bz h; have hS : S.size ≤ 18 := by rw [hA3]; exact Km h
 have hS1 : 1 ≤ S.size := by rw [hA3]; exact Ct m
 have HL := Keep.mk (show S.data.toList = Lib.decDigits m.natAbs by rw [hA2]); rw [← hA3] at hk; have HA4 := Keep.mk hA4; have HA5 := Keep.mk hA5; have HA3 := Keep.mk hA3; clear hA1 hA2 hA3 hA4 hA5; have HF := Keep.mk (show AL m e = sgn m ++ S.data.toList.take ((S.size : Int) + e).toNat ++ [46] ++ S.data.toList.drop ((S.size : Int) + e).toNat by
  have hp : pad m e = S.data.toList := by unfold pad; rw [if_neg (by rw [← HA3.out]; omega), HL.out]
  unfold AL; rw [if_neg (by omega), if_pos ⟨he, he2⟩, hp]; rfl)
 by_cases hn : m < 0
 ·have HG := Keep.mk (show sgn m = [45] by unfold sgn; rw [if_pos hn])
  have hnF : (m < 0) = True := by simp; omega
  clear hn; go_enter Tryz.func27, Tryz.ntmps27
  go_wp2_with fail
  refine (Cd m e hm.lo hm.hi _ (hg.weak.below (al1 _ _))).mono ?_; rw [h]; rintro r w1 ⟨rfl, hb1⟩; obtain ⟨hc, hf⟩ := An hb1; go_wp2_with fail
  refine (HA4.out _).mono ?_; rintro r w2 ⟨rfl, hb2'⟩; have hb2 := up hb1 hb2'; clear hc hf; obtain ⟨hc, hf⟩ := An hb2; go_wp2_with fail
  refine (HA5.out _ (hg.below (up (al1 _ _) hb2))).mono ?_; rintro r w3 ⟨rfl, hb3'⟩; have hb3 := up hb2 hb3'; clear hc hf; obtain ⟨hc, hf⟩ := An hb3; go_wp2_with fail
  refine AR hb3 (by kernel_rfl) (by kernel_rfl) ?_; repeat (go_big_quiet_step (fail))
  refine wpQuiet_nil ?_; rintro _ ⟨x4, rfl⟩; have hb4 := x4.property; clear hc hf; obtain ⟨hc, hf⟩ := An hb4; go_wp2
  go_ret2
  refine ⟨Bj ?_, up (al1 _ _) hb4⟩; rw [HF.out, HG.out]; rw [Gp _ _ _ _ _ rfl]
 have HG := Keep.mk (show sgn m = [] by unfold sgn; rw [if_neg hn]); have hnF : (m < 0) = False := by simp; omega
 clear hn; go_enter Tryz.func27, Tryz.ntmps27
 go_wp2_with fail
 refine (Cd m e hm.lo hm.hi _ (hg.weak.below (al1 _ _))).mono ?_; rw [h]; rintro r w1 ⟨rfl, hb1⟩; obtain ⟨hc, hf⟩ := An hb1; go_wp2_with fail
 refine (HA4.out _).mono ?_; rintro r w2 ⟨rfl, hb2'⟩; have hb2 := up hb1 hb2'; clear hc hf; obtain ⟨hc, hf⟩ := An hb2; go_wp2_with fail
 refine (HA5.out _ (hg.below (up (al1 _ _) hb2))).mono ?_; rintro r w3 ⟨rfl, hb3'⟩; have hb3 := up hb2 hb3'; clear hc hf; obtain ⟨hc, hf⟩ := An hb3; go_wp2_with fail
 refine AR hb3 (by kernel_rfl) (by kernel_rfl) ?_; repeat (go_big_quiet_step (fail))
 refine wpQuiet_nil ?_; rintro _ ⟨x4, rfl⟩; have hb4 := x4.property; clear hc hf; obtain ⟨hc, hf⟩ := An hb4; go_wp2
 go_ret2
 refine ⟨Bj ?_, up (al1 _ _) hb4⟩; rw [HF.out, HG.out]; rw [Gp _ _ _ _ _ rfl]
theorem TH (m e : Int) (hm : I64 m) (h : right m e = true) (he : 0 ≤ e) (hk : 21 < (nd m : Int) + e) (w : World) (hg : GlobP w) : Calls Tryz.prog 27 #[.agg #[.int .i64 m, .int .i64 e]] w fun r w' =>
  r = .returned (Bl (AL m e, 0)) ∧ Below w.heap.size w w' := by
 obtain ⟨A, S, hA1, hA2, hA3, hA4, hA5⟩ := Fw m e hm h; have hx := Bz h; have hS : S.size ≤ 18 := by rw [hA3]; exact Km h
 have hS1 : 1 ≤ S.size := by rw [hA3]; exact Ct m
 have HL := Keep.mk (show S.data.toList = Lib.decDigits m.natAbs by rw [hA2]); rw [← hA3] at hk; have HA4 := Keep.mk hA4; have HA5 := Keep.mk hA5; have HA3 := Keep.mk hA3; clear hA1 hA2 hA3 hA4 hA5; obtain ⟨Z, hZ⟩ : ∃ Z : ByteArray, Z = ⟨(Lib.itoa e).toArray⟩ := ⟨_, rfl⟩
 have hz3 : Z.size ≤ 1000 := by
  rw [hZ]; show (Lib.itoa e).toArray.size ≤ 1000
  rw [List.size_toArray]; exact NB e hx.1 hx.2
 have hrep : Keep (∀ w, GlobP w → Calls Tryz.prog 54 #[.int .i64 e] w fun r w' => r = .returned (.string Z) ∧ Below w.heap.size w w') := ⟨fun w hg => by rw [hZ]; exact itoa e (by omega) (by omega) w hg⟩; have HZ := Keep.mk (show Z.data.toList = Lib.itoa e by rw [hZ]); clear hZ; have HF := Keep.mk (show AL m e = sgn m ++ S.data.toList ++ [101] ++ Lib.itoa e by unfold AL; rw [if_neg (by rw [← HA3.out]; omega), if_neg (by omega), HL.out]); by_cases hn : m < 0
 ·have HG := Keep.mk (show sgn m = [45] by unfold sgn; rw [if_pos hn])
  have hnF : (m < 0) = True := by simp; omega
  clear hn; go_enter Tryz.func27, Tryz.ntmps27
  go_wp2_with fail
  refine (Cd m e hm.lo hm.hi _ (hg.weak.below (al1 _ _))).mono ?_; rw [h]; rintro r w1 ⟨rfl, hb1⟩; obtain ⟨hc, hf⟩ := An hb1; go_wp2_with fail
  refine (HA4.out _).mono ?_; rintro r w2 ⟨rfl, hb2'⟩; have hb2 := up hb1 hb2'; clear hc hf; obtain ⟨hc, hf⟩ := An hb2; go_wp2_with fail
  refine (HA5.out _ (hg.below (up (al1 _ _) hb2))).mono ?_; rintro r w3 ⟨rfl, hb3'⟩; have hb3 := up hb2 hb3'; clear hc hf; obtain ⟨hc, hf⟩ := An hb3; go_wp2_with fail
  refine (hrep.out _ (hg.below (up (al1 _ _) hb3))).mono ?_; rintro r w4 ⟨rfl, hb4'⟩; have hb4 := up hb3 hb4'; clear hc hf; obtain ⟨hc, hf⟩ := An hb4; go_wp2
  go_ret2
  refine ⟨Bj ?_, up (al1 _ _) hb4⟩; rw [HF.out, HG.out, ← HZ.out]; simp
 have HG := Keep.mk (show sgn m = [] by unfold sgn; rw [if_neg hn]); have hnF : (m < 0) = False := by simp; omega
 clear hn; go_enter Tryz.func27, Tryz.ntmps27
 go_wp2_with fail
 refine (Cd m e hm.lo hm.hi _ (hg.weak.below (al1 _ _))).mono ?_; rw [h]; rintro r w1 ⟨rfl, hb1⟩; obtain ⟨hc, hf⟩ := An hb1; go_wp2_with fail
 refine (HA4.out _).mono ?_; rintro r w2 ⟨rfl, hb2'⟩; have hb2 := up hb1 hb2'; clear hc hf; obtain ⟨hc, hf⟩ := An hb2; go_wp2_with fail
 refine (HA5.out _ (hg.below (up (al1 _ _) hb2))).mono ?_; rintro r w3 ⟨rfl, hb3'⟩; have hb3 := up hb2 hb3'; clear hc hf; obtain ⟨hc, hf⟩ := An hb3; go_wp2_with fail
 refine (hrep.out _ (hg.below (up (al1 _ _) hb3))).mono ?_; rintro r w4 ⟨rfl, hb4'⟩; have hb4 := up hb3 hb4'; clear hc hf; obtain ⟨hc, hf⟩ := An hb4; go_wp2
 go_ret2
 refine ⟨Bj ?_, up (al1 _ _) hb4⟩; rw [HF.out, HG.out, ← HZ.out]; simp
theorem TM (m e : Int) (hm : I64 m) (h : right m e = true) (he : e < -20) (hk : 0 < (nd m : Int)) (w : World) (hg : GlobP w) : Calls Tryz.prog 27 #[.agg #[.int .i64 m, .int .i64 e]] w fun r w' =>
  r = .returned (Bl (AL m e, 0)) ∧ Below w.heap.size w w' := by
 obtain ⟨A, S, hA1, hA2, hA3, hA4, hA5⟩ := Fw m e hm h; have hx := Bz h; have hS : S.size ≤ 18 := by rw [hA3]; exact Km h
 have hS1 : 1 ≤ S.size := by rw [hA3]; exact Ct m
 have HL := Keep.mk (show S.data.toList = Lib.decDigits m.natAbs by rw [hA2]); rw [← hA3] at hk; have HA4 := Keep.mk hA4; have HA5 := Keep.mk hA5; have HA3 := Keep.mk hA3; clear hA1 hA2 hA3 hA4 hA5; obtain ⟨Z, hZ⟩ : ∃ Z : ByteArray, Z = ⟨(Lib.itoa e).toArray⟩ := ⟨_, rfl⟩
 have hz3 : Z.size ≤ 1000 := by
  rw [hZ]; show (Lib.itoa e).toArray.size ≤ 1000
  rw [List.size_toArray]; exact NB e hx.1 hx.2
 have hrep : Keep (∀ w, GlobP w → Calls Tryz.prog 54 #[.int .i64 e] w fun r w' => r = .returned (.string Z) ∧ Below w.heap.size w w') := ⟨fun w hg => by rw [hZ]; exact itoa e (by omega) (by omega) w hg⟩; have HZ := Keep.mk (show Z.data.toList = Lib.itoa e by rw [hZ]); clear hZ; have HF := Keep.mk (show AL m e = sgn m ++ S.data.toList ++ [101] ++ Lib.itoa e by unfold AL; rw [if_neg (by rw [← HA3.out]; omega), if_neg (by omega), HL.out]); by_cases hn : m < 0
 ·have HG := Keep.mk (show sgn m = [45] by unfold sgn; rw [if_pos hn])
  have hnF : (m < 0) = True := by simp; omega
  clear hn; go_enter Tryz.func27, Tryz.ntmps27
  go_wp2_with fail
  refine (Cd m e hm.lo hm.hi _ (hg.weak.below (al1 _ _))).mono ?_; rw [h]; rintro r w1 ⟨rfl, hb1⟩; obtain ⟨hc, hf⟩ := An hb1; go_wp2_with fail
  refine (HA4.out _).mono ?_; rintro r w2 ⟨rfl, hb2'⟩; have hb2 := up hb1 hb2'; clear hc hf; obtain ⟨hc, hf⟩ := An hb2; go_wp2_with fail
  refine (HA5.out _ (hg.below (up (al1 _ _) hb2))).mono ?_; rintro r w3 ⟨rfl, hb3'⟩; have hb3 := up hb2 hb3'; clear hc hf; obtain ⟨hc, hf⟩ := An hb3; go_wp2_with fail
  refine (hrep.out _ (hg.below (up (al1 _ _) hb3))).mono ?_; rintro r w4 ⟨rfl, hb4'⟩; have hb4 := up hb3 hb4'; clear hc hf; obtain ⟨hc, hf⟩ := An hb4; go_wp2
  go_ret2
  refine ⟨Bj ?_, up (al1 _ _) hb4⟩; rw [HF.out, HG.out, ← HZ.out]; simp
 have HG := Keep.mk (show sgn m = [] by unfold sgn; rw [if_neg hn]); have hnF : (m < 0) = False := by simp; omega
 clear hn; go_enter Tryz.func27, Tryz.ntmps27
 go_wp2_with fail
 refine (Cd m e hm.lo hm.hi _ (hg.weak.below (al1 _ _))).mono ?_; rw [h]; rintro r w1 ⟨rfl, hb1⟩; obtain ⟨hc, hf⟩ := An hb1; go_wp2_with fail
 refine (HA4.out _).mono ?_; rintro r w2 ⟨rfl, hb2'⟩; have hb2 := up hb1 hb2'; clear hc hf; obtain ⟨hc, hf⟩ := An hb2; go_wp2_with fail
 refine (HA5.out _ (hg.below (up (al1 _ _) hb2))).mono ?_; rintro r w3 ⟨rfl, hb3'⟩; have hb3 := up hb2 hb3'; clear hc hf; obtain ⟨hc, hf⟩ := An hb3; go_wp2_with fail
 refine (hrep.out _ (hg.below (up (al1 _ _) hb3))).mono ?_; rintro r w4 ⟨rfl, hb4'⟩; have hb4 := up hb3 hb4'; clear hc hf; obtain ⟨hc, hf⟩ := An hb4; go_wp2
 go_ret2
 refine ⟨Bj ?_, up (al1 _ _) hb4⟩; rw [HF.out, HG.out, ← HZ.out]; simp
theorem Rs (m e : Int) (hm : I64 m) (w : World) (hg : GlobP w) : Calls Tryz.prog 27 #[.agg #[.int .i64 m, .int .i64 e]] w fun r w' =>
  r = .returned (Bl (F3 m e)) ∧ Below w.heap.size w w' := by
 unfold F3; cases h : right m e
 ·exact Ow m e hm h w hg
 simp only [↓reduceIte]; have h1 := Ct m; by_cases he : 0 ≤ e
 ·by_cases hk : (nd m : Int) + e ≤ 21
  ·exact UB m e hm h he hk w hg
  exact TH m e hm h he (by omega) w hg
 by_cases he2 : -20 ≤ e
 ·by_cases hk : (nd m : Int) ≤ -e
  ·exact Tc m e hm h (by omega) he2 hk w hg
  exact Tu m e hm h (by omega) he2 (by omega) w hg
 exact TM m e hm h (by omega) (by omega) w hg
end Go.Proofs.YtakncilicoefdaaGreatDoor
