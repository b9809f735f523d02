/- Lemmas and contracts for the laws ReadParses, ReadBytes, part 46 of 50: Ref3N. Conditions: those that each lemma names. -/
import Derived.Test.YtbngjlkmpdccjaaGreatDoorPack44
import Derived.Outline
namespace Go.Proofs.YtbngjlkmpdccjaaGreatDoor
open Go Go.RowKit Go.Proofs Th
attribute [local go_sem] Above.cell
structure MkZ (w wr : World) (SK S T : Nat → Prop) (ks : List ByteArray) (l : List JV) (A : Option Addr) (c : Nat) (A2 : Option Addr) (c2 : Nat) : Prop where
  k : StrsIn wr SK A c ks
  v : ValsFrom wr S T A2 c2 l
  r : VBlkT wr w.heap.size zero6
  b : Below w.heap.size w wr
  sk : ∀ b, SK b → b < w.heap.size
  s : ∀ b, S b → b < w.heap.size
  t : ∀ b, T b → b < w.heap.size
theorem MkZ.below {w wr w' : World} {SK S T : Nat → Prop} {ks : List ByteArray} {l : List JV} {A : Option Addr} {c : Nat} {A2 : Option Addr} {c2 : Nat} (h : MkZ w wr SK S T ks l A c A2 c2) (hb : Below wr.heap.size wr w') : MkZ w w' SK S T ks l A c A2 c2 := by
  have hs := h.b.size
  refine ⟨h.k.keep (fun b hb2 => hb.block b (by have := h.sk b hb2; omega)) (fun _ h => h), h.v.keep (fun b hb2 => hb.block b (by have := h.s b hb2; omega)) (fun b hb2 => hb.block b (by have := h.t b hb2; omega)) (fun _ h => h) (fun _ h => h),
    (hb.block _ (lt_of_block h.r)).trans h.r, up h.b hb, h.sk, h.s, h.t⟩
theorem MkZ.at_ {w wr : World} {SK S T : Nat → Prop} {ks : List ByteArray} {l : List JV} {A : Option Addr} {c : Nat} {A2 : Option Addr} {c2 : Nat} (h : MkZ w wr SK S T ks l A c A2 c2) {cs : List Value} {v : JV} (hJ : JIn wr S v cs) : JAt wr wr.heap.size v cs :=
  hJ.at (fun b hb => Nat.lt_of_lt_of_le (h.s b hb) h.b.size)
structure MkS (w wr : World) (SK S T : Nat → Prop) (ks : List ByteArray) (l : List JV) (A : Option Addr) (c : Nat) (A2 : Option Addr) (c2 : Nat) (g : Nat) (vl vk : Value) (K : List ByteArray) (L : List JV) : Prop where
  z : MkZ w wr SK S T ks l A c A2 c2
  o : VBlkT wr g [.int .i64 6, .int .i64 0, .int .i64 0, .string ⟨#[]⟩, vl, vk]
  kk : OwnS wr (g + 1) vk K
  vv : OwnV wr (g + 1) S vl L
  gB : w.heap.size + 1 ≤ g
theorem MkS.below {w wr w' : World} {SK S T : Nat → Prop} {ks : List ByteArray} {l : List JV} {A : Option Addr} {c : Nat} {A2 : Option Addr} {c2 g : Nat} {vl vk : Value} {K : List ByteArray} {L : List JV} (h : MkS w wr SK S T ks l A c A2 c2 g vl vk K L) (hb : Below wr.heap.size wr w') : MkS w w' SK S T ks l A c A2 c2 g vl vk K L :=
  ⟨h.z.below hb, (hb.block _ (lt_of_block h.o)).trans h.o, h.kk.keep (fun b hb2 => hb.block b (h.kk.lt b hb2).2), h.vv.keep (fun b hb2 => hb.block b (by have := h.z.s b hb2; have := h.z.b.size; omega)) (fun b hb2 => hb.block b (h.vv.lt b hb2).2) (fun _ h => h), h.gB⟩
theorem MkZ.still {w wr w' : World} {B : Nat} {SK S T : Nat → Prop} {ks : List ByteArray} {l : List JV} {A : Option Addr} {c : Nat} {A2 : Option Addr} {c2 : Nat} (h : MkZ w wr SK S T ks l A c A2 c2) (hB : w.heap.size + 1 ≤ B) (hb : Below B wr w') (_hs : wr.heap.size ≤ w'.heap.size) : MkZ w w' SK S T ks l A c A2 c2 := by
  refine ⟨h.k.keep (fun b hb2 => hb.block b (by have := h.sk b hb2; omega)) (fun _ h => h), h.v.keep (fun b hb2 => hb.block b (by have := h.s b hb2; omega)) (fun b hb2 => hb.block b (by have := h.t b hb2; omega)) (fun _ h => h) (fun _ h => h),
    (hb.block _ (by omega)).trans h.r, h.b.trans (hb.mono (by omega)), h.sk, h.s, h.t⟩
def NewAt (b : Bool) (p : Nat) (K : List ByteArray) (kj : ByteArray) : Prop := b = true ↔ (p = K.length ∨ ∃ h : p < K.length, K[p] ≠ kj)
theorem no_sole {b : Bool} (h : b = false) (h2 : b = true) : False := by rw [h] at h2; cases h2
theorem below_row {w a : World} {B : Nat} {r : Option Nat} (h : w.grownBy a r) (hq : ∀ b, r = some b → B ≤ b) (hs : B ≤ w.heap.size) : Below B w a := ⟨h.os, h.tape, h.output, h.size, fun k hk => h.block k (by omega) (fun e => by have := hq k e.symm; omega)⟩
theorem below_from {w a : World} {B q : Nat} (h : w.grownBy a (some q)) (hq : B ≤ q) (hs : B ≤ w.heap.size) : Below B w a := below_row h (fun b e => by injection e with e; omega) hs
theorem OwnV.room {w : World} {base : Nat} {S : Nat → Prop} {v : Value} {l : List JV} (h : OwnV w base S v l) (p : Nat) (hp : p < l.length) : ∃ gq cq, v = .slice (some ⟨gq, 0, none⟩) l.length cq ∧ base ≤ gq ∧ gq < w.heap.size ∧ l.length ≤ cq ∧ cq ≤ 9223372036854775807 ∧ (∀ i, i < 6 → ∃ u, w.cell? ⟨gq, p * 6 + i, none⟩ = some u) ∧ ∀ i, w.frozen? ⟨gq, i, none⟩ = false := by
  obtain ⟨xs, h1, _⟩ := h.ex
  obtain ⟨hx, ⟨_, h0⟩ | ⟨g, cap, cur, rfl, hb, hh, h3, h4, h5, h6⟩⟩ := h1
  · omega
  · refine ⟨g, cap, rfl, hb, lt_of_block hh, h3, by unfold maxLen at h4; omega, fun i hi => ?_, fun i => ?_⟩
    · have hlt : p * 6 + i < cur.size := by rw [h5]; omega
      exact ⟨cur[p * 6 + i], by simp [World.cell?, hh, hlt]⟩
    · simp [World.frozen?, hh]
theorem OwnS.base_ {w : World} {B B' : Nat} {v : Value} {ks : List ByteArray} (h : OwnS w B v ks) (hB : B' ≤ B) : OwnS w B' v ks := by
  obtain ⟨⟨hx, h1⟩, h2⟩ := h
  refine ⟨⟨hx, ?_⟩, h2⟩
  rcases h1 with h1 | ⟨g, cap, cur, e, h3, h4⟩
  · exact Or.inl h1
  · exact Or.inr ⟨g, cap, cur, e, by omega, h4⟩
theorem OwnV.base_ {w : World} {B B' : Nat} {S : Nat → Prop} {v : Value} {l : List JV} (h : OwnV w B S v l) (hB : B' ≤ B) : OwnV w B' S v l := by
  obtain ⟨xs, ⟨hx, h1⟩, h2⟩ := h
  refine ⟨xs, ⟨hx, ?_⟩, h2⟩
  rcases h1 with h1 | ⟨g, cap, cur, e, h3, h4⟩
  · exact Or.inl h1
  · exact Or.inr ⟨g, cap, cur, e, by omega, h4⟩
section
variable {w W7 W8 : World} {SK S T : Nat → Prop} {ks : List ByteArray} {l : List JV} {A : Option Addr} {c : Nat} {A2 : Option Addr} {c2 g : Nat} {vl vk v' : Value} {K K' : List ByteArray} {L L' : List JV}
theorem MkS.putK (h : MkS w W7 SK S T ks l A c A2 c2 g vl vk K L) (hb : Below W7.heap.size W7 W8) (hO : OwnS W8 W7.heap.size v' K') : MkS w (W8.setCell ⟨g, 5, none⟩ v') SK S T ks l A c A2 c2 g vl v' K' L := by
  have h8 := h.below hb
  have hg := h.gB
  have hgl := lt_of_block h.o
  have hz := h8.z
  refine ⟨hz.still (B := g) hg (below_set (Nat.le_refl _) _) (by simp), h8.o.set (i := 5) v', ((hO.base_ (by omega)).keep fun b hb2 => Below.heap_setCell _ _ _ b (fun e => by have := (hO.lt b hb2).1; have e : b = g := e; omega)),
    h8.vv.keep (fun b hb2 => Below.heap_setCell _ _ _ b (fun e => by have := hz.s b hb2; have e : b = g := e; omega)) (fun b hb2 => Below.heap_setCell _ _ _ b (fun e => by have := (h8.vv.lt b hb2).1; have e : b = g := e; omega)) (fun _ h => h), hg⟩
theorem MkS.putV (h : MkS w W7 SK S T ks l A c A2 c2 g vl vk K L) (hb : Below W7.heap.size W7 W8) (hO : OwnV W8 W7.heap.size S v' L') : MkS w (W8.setCell ⟨g, 4, none⟩ v') SK S T ks l A c A2 c2 g v' vk K L' := by
  have h8 := h.below hb
  have hg := h.gB
  have hgl := lt_of_block h.o
  have hz := h8.z
  refine ⟨hz.still (B := g) hg (below_set (Nat.le_refl _) _) (by simp), h8.o.set (i := 4) v', (h8.kk.keep fun b hb2 => Below.heap_setCell _ _ _ b (fun e => by have := (h8.kk.lt b hb2).1; have e : b = g := e; omega)),
    (hO.base_ (by omega)).keep (fun b hb2 => Below.heap_setCell _ _ _ b (fun e => by have := hz.s b hb2; have e : b = g := e; omega)) (fun b hb2 => Below.heap_setCell _ _ _ b (fun e => by have := (hO.lt b hb2).1; have e : b = g := e; omega)) (fun _ h => h), hg⟩
theorem MkS.setV {gq n cq p : Nat} {t : JV} {b0 b1 b2 b3 b4 b5 : Value} (h : MkS w W7 SK S T ks l A c A2 c2 g (.slice (some ⟨gq, 0, none⟩) n cq) vk K L) (hp : p < L.length) (hJ : JIn W7 S t [b0, b1, b2, b3, b4, b5]) :
    MkS w (sixAt W7 gq (p * 6) b0 b1 b2 b3 b4 b5) SK S T ks l A c A2 c2 g (.slice (some ⟨gq, 0, none⟩) n cq) vk K (L.set p t) := by
  have hg := h.gB
  have hq := h.vv.lt gq rfl
  refine ⟨h.z.still (B := g + 1) (by omega) (sixAt_below _ _ _ _ _ _ _ _ _ hq.1) (by simp [sixAt]), (sixAt_other _ _ _ _ _ _ _ _ _ _ (by omega)).trans h.o, h.kk.keep (fun b hb => sixAt_other _ _ _ _ _ _ _ _ _ _ (fun e => ?_)), h.vv.set p hp t _ _ _ _ _ _ hJ (fun hs => by have := h.z.s gq hs; omega), hg⟩
  obtain ⟨c1, h1⟩ := h.kk.kind b hb
  obtain ⟨c2, h2⟩ := h.vv.kind gq rfl
  exact kind_ne h1 h2 (by decide) e
end
set_option maxRecDepth 100000 in
set_option maxHeartbeats 8000000 in
theorem ref3_Make {SK S T : Nat → Prop} (ks : List ByteArray) (l : List JV) (A : Option Addr) (c : Nat) (A2 : Option Addr) (c2 : Nat) (w : World) (hSK : ∀ b, SK b → b < w.heap.size) (hS : ∀ b, S b → b < w.heap.size) (hT : ∀ b, T b → b < w.heap.size)
    (hK : StrsIn w SK A c ks) (hV : ValsFrom w S T A2 c2 l) (hkl : ks.length ≤ 1000003) (_hll : l.length ≤ 1000003) (hdep : ∀ j (h : j < l.length), depthJ l[j] ≤ 1000000) :
    Calls Tryz.prog 26 #[.slice A ks.length c, .slice A2 l.length c2] w fun r w' => ∃ cs, r = .returned (.tuple #[.agg (List.toArray cs), .int .i64 (makeJ ks l).2]) ∧ JIn w' (fun b => S b ∨ newIn w w' b) (makeJ ks l).1 cs ∧ Below w.heap.size w w' := by
  have hlc := hK.le
  have hlc2 := hV.le
  have HDEP := Keep.mk hdep
  have HM := Keep.mk (show MkZ w (w.alloc (.cells zero6.toArray 28)) SK S T ks l A c A2 c2 from
    ⟨hK.keep (fun b hb => (al1 w _).block b (hSK b hb)) (fun _ h => h), hV.keep (fun b hb => (al1 w _).block b (hS b hb)) (fun b hb => (al1 w _).block b (hT b hb)) (fun _ h => h) (fun _ h => h), VBlkT.new zero6 rfl, al1 w _, hSK, hS, hT⟩)
  clear hK hV hSK hS hT hdep
  by_cases hlen : ks.length = l.length
  case neg =>
    have HE := Keep.mk (show makeJ ks l = (zeroJ, 2) by unfold makeJ; rw [if_pos hlen])
    have hne : ((ks.length : Int) != (l.length : Int)) = true := by simp; omega
    clear hlen HDEP
    go_enter Tryz.func26, Tryz.ntmps26
    go_upto_region 1 with fail
    refine wp_world (fun W => MkZ w W SK S T ks l A c A2 c2) HM.out ?_
    clear HM
    rintro W0 HM
    replace HM := Keep.mk HM
    have hrb := HM.out.r.box
    have r0 := hrb.cell 0 _ rfl
    have z0 := hrb.froz 0
    have r1 := hrb.cell 1 _ rfl
    have z1 := hrb.froz 1
    have r2 := hrb.cell 2 _ rfl
    have z2 := hrb.froz 2
    have r3 := hrb.cell 3 _ rfl
    have z3 := hrb.froz 3
    have r4 := hrb.cell 4 _ rfl
    have z4 := hrb.froz 4
    have r5 := hrb.cell 5 _ rfl
    have z5 := hrb.froz 5
    have hrl := hrb.lt
    clear hrb
    have HBZ := Keep.mk (HM.out.b.trans (six_below _ w.heap.size (.int .i64 0) (.int .i64 0) (.int .i64 0) (.string ⟨#[]⟩) (.slice none 0 0) (.slice none 0 0) (Nat.le_refl _)))
    go_wp2
    refine bodyPost_ret (v := .tuple #[.agg (List.toArray zero6), .int .i64 2]) ?_ rfl ⟨zero6, by rw [HE.out], by rw [HE.out]; exact zero_in _ _, HBZ.out⟩
    simp [zero6, cells6, results, Tryz.results26, go_sem, r0, r1, r2, r3, r4, r5]
  case pos =>
  have hne : ((ks.length : Int) != (l.length : Int)) = false := by simp; omega
  have HLEN := Keep.mk hlen
  clear hlen _hll hlc2
  go_enter Tryz.func26, Tryz.ntmps26
  go_upto_region 1 with fail
  refine wp_world (fun W => MkZ w W SK S T ks l A c A2 c2) HM.out ?_
  clear HM
  rintro W0 HM
  replace HM := Keep.mk HM
  go_upto_block 0 with fail
  go_cut [6] (fun _ wx => Keep (ks.all (fun k => Lib.validD k.data.toList) = true) ∧ Keep (MkZ w wx SK S T ks l A c A2 c2))
  case first =>
    go_wp2_with fail
    go_loopg [6] ks.length (fun gk i wr => ∃ j : Nat, j + gk = ks.length ∧ i = .int .i64 j ∧ Keep ((ks.take j).all (fun k => Lib.validD k.data.toList) = true) ∧ Keep (MkZ w wr SK S T ks l A c A2 c2))
    case atStart => exact ⟨0, by omega, rfl, ⟨rfl⟩, HM⟩
    case round =>
      clear HM
      obtain ⟨j, hj, rfl, HA, HM⟩ := hrel
      by_cases hlt : j < ks.length
      · have hgk : gk ≠ 0 := by omega
        have HS := Keep.mk (all_takeS (fun k => Lib.validD k.data.toList) ks j hlt)
        have HF := Keep.mk (all_badS (fun k => Lib.validD k.data.toList) ks j hlt)
        obtain ⟨g, o, rfl, hg, hc⟩ := HM.out.k.at_ (by omega)
        have hcj := hc j hlt
        have hwl := HM.out.b.size
        have hg2 : g < wr.heap.size := by have := HM.out.sk g hg; omega
        have hks := HM.out.k.small ks[j] (List.getElem_mem hlt)
        have HCC := Keep.mk (ref2_Right ks[j] (by omega) wr)
        clear hc hg
        generalize ks[j] = kb at *
        cases hb : Lib.validD kb.data.toList
        · have HE := Keep.mk (show makeJ ks l = (zeroJ, 30) by unfold makeJ; rw [if_neg (by have := HLEN.out; omega), if_pos (HF.out hb)])
          rw [hb] at HCC
          clear hb
          go_wp2_with fail
          refine HCC.out.mono ?_
          rintro r w1 ⟨rfl, hb1⟩
          replace HM := Keep.mk (HM.out.below hb1)
          clear hb1 HS HF HCC hcj
          have hrb := HM.out.r.box
          have r0 := hrb.cell 0 _ rfl
          have z0 := hrb.froz 0
          have r1 := hrb.cell 1 _ rfl
          have z1 := hrb.froz 1
          have r2 := hrb.cell 2 _ rfl
          have z2 := hrb.froz 2
          have r3 := hrb.cell 3 _ rfl
          have z3 := hrb.froz 3
          have r4 := hrb.cell 4 _ rfl
          have z4 := hrb.froz 4
          have r5 := hrb.cell 5 _ rfl
          have z5 := hrb.froz 5
          have hrl := hrb.lt
          clear hrb
          have HBZ := Keep.mk (HM.out.b.trans (six_below _ w.heap.size (.int .i64 0) (.int .i64 0) (.int .i64 0) (.string ⟨#[]⟩) (.slice none 0 0) (.slice none 0 0) (Nat.le_refl _)))
          go_wp2
          refine bodyPost_ret (v := .tuple #[.agg (List.toArray zero6), .int .i64 30]) ?_ rfl ⟨zero6, by rw [HE.out], by rw [HE.out]; exact zero_in _ _, HBZ.out⟩
          simp [zero6, cells6, results, Tryz.results26, go_sem, r0, r1, r2, r3, r4, r5]
        · have HE := Keep.mk (show (ks.take (j + 1)).all (fun k => Lib.validD k.data.toList) = true by rw [HS.out, HA.out, hb]; rfl)
          rw [hb] at HCC
          clear hb
          go_wp2_with fail
          refine HCC.out.mono ?_
          rintro r w1 ⟨rfl, hb1⟩
          replace HM := Keep.mk (HM.out.below hb1)
          clear hb1 HS HF HCC hcj
          go_wp2
          go_roundg (gk - 1)
          case rel => exact ⟨j + 1, by omega, by go_num, HE, HM⟩
          case measure => omega
      · have HE := Keep.mk (show ks.all (fun k => Lib.validD k.data.toList) = true by have := HA.out; rw [List.take_of_length_le (by omega)] at this; exact this)
        go_wp2_with fail
        go_meet
        exact ⟨HE, HM⟩
  case rest =>
  obtain ⟨HVD, HM2⟩ := hcut
  clear HM
  go_upto_region 8 with fail
  refine wp_world (fun W => MkZ w W SK S T ks l A c A2 c2) HM2.out ?_
  clear HM2
  rintro W1 HM
  have HS1 := Keep.mk (show MkS w (W1.alloc (.cells [.int .i64 6, .int .i64 0, .int .i64 0, .string ⟨#[]⟩, .slice none 0 0, .slice none 0 0].toArray 28)) SK S T ks l A c A2 c2 W1.heap.size (.slice none 0 0) (.slice none 0 0) [] [] from
    ⟨HM.below (al1 W1 _), VBlkT.new _ rfl, OwnS.nil _ _, OwnV.nil _ _ _, by have := lt_of_block HM.r; omega⟩)
  clear HM
  go_upto_region 9 with fail
  refine wp_world (fun W => MkS w W SK S T ks l A c A2 c2 W1.heap.size (.slice none 0 0) (.slice none 0 0) [] []) HS1.out ?_
  clear HS1
  generalize W1.heap.size = g
  clear W1
  rintro W1 HM
  replace HM := Keep.mk HM
  go_wp2_with fail
  go_loopg [8, 9, 10] ks.length (fun gk i _ _ wr => ∃ (j : Nat) (vl vk : Value) (K : List ByteArray) (L : List JV), j + gk = ks.length ∧ i = .int .i64 j ∧ Keep (∀ i (h : i < l.length), i < j → rightJ l[i] = 0) ∧ Keep (PutK ks l j K L) ∧ Keep (MkS w wr SK S T ks l A c A2 c2 g vl vk K L))
  case atStart => exact ⟨0, _, _, _, _, by omega, rfl, ⟨fun _ _ h => absurd h (by omega)⟩, ⟨PutK.zero ks l⟩, HM⟩
  case round =>
  clear HM
  obtain ⟨j, vl, vk, K, L, hj, rfl, HR, HPK, HM⟩ := hrel
  by_cases hlt : j < ks.length
  case pos =>
    have hgk : gk ≠ 0 := by omega
    have hlt2 : j < l.length := by have := HLEN.out; omega
    obtain ⟨g2, o2, k1, m1, e1, s1, A1, n1, c1, A3, n3, c3, rfl, hg2, hJj, y0, y1, y2, y3, y4, y5⟩ := HM.out.z.v.elem j hlt2
    have hgl2 : g2 < wr.heap.size := by have := HM.out.z.t g2 hg2; have := HM.out.z.b.size; omega
    have HC := Keep.mk (ref3_RightD l[j] (HDEP.out j hlt2) wr _ (HM.out.z.at_ hJj))
    have HBG := Keep.mk (fun (h : rightJ l[j] ≠ 0) => badL_get l j hlt2 HR.out h)
    have HRN := Keep.mk (fun (h : rightJ l[j] = 0) => show ∀ i (hh : i < l.length), i < j + 1 → rightJ l[i] = 0 from fun i hh hi => by
      by_cases hij : i < j
      · exact HR.out i hh hij
      · obtain rfl : i = j := by omega
        exact h)
    have hl2 : (j : Int) < (l.length : Int) := by omega
    clear hJj HR hg2
    generalize rightJ l[j] = rr at *
    by_cases hr0 : rr = 0
    case neg =>
      have HE := Keep.mk (show makeJ ks l = (zeroJ, rr) by unfold makeJ; rw [if_neg (by have := HLEN.out; omega), if_neg (by rw [HVD.out]; simp), if_pos (by rw [HBG.out hr0]; exact hr0), HBG.out hr0])
      have hr2 : (rr != 0) = true := by simpa using hr0
      clear hr0 HRN HBG
      go_wp2_with fail
      refine HC.out.mono ?_
      rintro r w1 ⟨rfl, hb1⟩
      have HM1 := Keep.mk (HM.out.z.below hb1)
      clear hb1 HM HC y0 y1 y2 y3 y4 y5
      have hrb := HM1.out.r.box
      have r0 := hrb.cell 0 _ rfl
      have z0 := hrb.froz 0
      have r1 := hrb.cell 1 _ rfl
      have z1 := hrb.froz 1
      have r2 := hrb.cell 2 _ rfl
      have z2 := hrb.froz 2
      have r3 := hrb.cell 3 _ rfl
      have z3 := hrb.froz 3
      have r4 := hrb.cell 4 _ rfl
      have z4 := hrb.froz 4
      have r5 := hrb.cell 5 _ rfl
      have z5 := hrb.froz 5
      have hrl := hrb.lt
      clear hrb
      have HBZ := Keep.mk (HM1.out.b.trans (six_below _ w.heap.size (.int .i64 0) (.int .i64 0) (.int .i64 0) (.string ⟨#[]⟩) (.slice none 0 0) (.slice none 0 0) (Nat.le_refl _)))
      go_wp2
      refine bodyPost_ret (v := .tuple #[.agg (List.toArray zero6), .int .i64 rr]) ?_ rfl ⟨zero6, by rw [HE.out], by rw [HE.out]; exact zero_in _ _, HBZ.out⟩
      simp [zero6, cells6, results, Tryz.results26, go_sem, r0, r1, r2, r3, r4, r5]
    case pos =>
    subst hr0
    have HRN2 := Keep.mk (HRN.out rfl)
    clear HRN HBG
    go_wp2_with fail
    refine HC.out.mono ?_
    rintro r w1 ⟨rfl, hb1⟩
    replace HM := Keep.mk (HM.out.below hb1)
    clear hb1 HC y0 y1 y2 y3 y4 y5 hgl2
    go_upto_block 4 with fail
    obtain ⟨GK, hGK⟩ : ∃ x : Nat, x = gk := ⟨_, rfl⟩
    subst hGK
    obtain ⟨kj, hkj⟩ : ∃ x, ks.getD j ⟨#[]⟩ = x := ⟨_, rfl⟩
    have hkj2 : ks[j] = kj := by rw [← hkj, List.getD_eq_getElem?_getD, List.getElem?_eq_getElem hlt]; rfl
    have HKJ := Keep.mk hkj
    have HKJ2 := Keep.mk hkj2
    clear hkj hkj2
    have hKl : K.length ≤ j := HPK.out.size
    obtain ⟨Ak, ck, hvk, hkc1, hkc2⟩ := HM.out.kk.form
    subst hvk
    go_cut [10] (fun t10 wx => ∃ p : Nat, t10 = .int .i64 p ∧ p ≤ K.length ∧ Keep (∀ q (hq : q < K.length), q < p → ltK K[q] kj) ∧ Keep (∀ hq : p < K.length, ¬ ltK K[p] kj) ∧ Keep (MkS w wx SK S T ks l A c (some ⟨g2, o2, none⟩) c2 g vl (.slice Ak K.length ck) K L))
    case first =>
      go_wp2_with fail
      go_loopg [10] K.length (fun gk t10 wr => ∃ p : Nat, p + gk = K.length ∧ t10 = .int .i64 p ∧ Keep (∀ q (hq : q < K.length), q < p → ltK K[q] kj) ∧ Keep (MkS w wr SK S T ks l A c (some ⟨g2, o2, none⟩) c2 g vl (.slice Ak K.length ck) K L))
      case atStart => exact ⟨0, by omega, rfl, ⟨fun _ _ h => absurd h (by omega)⟩, HM⟩
      case round =>
        clear HM
        obtain ⟨p, hp, rfl, HLO, HM⟩ := hrel
        have y5 := HM.out.o.box.cell 5 _ rfl
        have gl := HM.out.o.box.lt
        by_cases hpl : p < K.length
        · have hgk : gk ≠ 0 := by omega
          have HKS := Keep.mk (HM.out.kk.strs (T := fun b => g + 1 ≤ b ∧ b < wr.heap.size) (by omega) (fun b hb => HM.out.kk.lt b hb)).2
          obtain ⟨gq, oq, rfl, hgq, hcq⟩ := HKS.out.at_ (by omega)
          have hcp := hcq p hpl
          obtain ⟨ga, oa, rfl, hga, hca⟩ := HM.out.z.k.at_ (by omega)
          have hcj := hca j hlt
          rw [HKJ2.out] at hcj
          have hgal : ga < wr.heap.size := by have := HM.out.z.sk ga hga; have := HM.out.z.b.size; omega
          have hgql := hgq.2
          have HLP := Keep.mk (fun (h : ltK K[p] kj) => show ∀ q (hq : q < K.length), q < p + 1 → ltK K[q] kj from fun q hq hqp => by
            by_cases h2 : q < p
            · exact HLO.out q hq h2
            · obtain rfl : q = p := by omega
              exact h)
          have HNP := Keep.mk (fun (h : ¬ ltK K[p] kj) => show ∀ hq : p < K.length, ¬ ltK K[p] kj from fun _ => h)
          clear hcq hca hgq hga HKS
          obtain ⟨kp, hkp⟩ : ∃ x, K[p] = x := ⟨_, rfl⟩
          have HQ := Keep.mk hkp
          rw [hkp] at hcp
          clear hkp
          cases hw : Op.bytesLess kp.toList kj.toList
          · have HN := Keep.mk (HNP.out (by rw [HQ.out]; unfold ltK; rw [← ba_list, ← ba_list, hw]; simp))
            clear HNP HLP HQ
            go_upto_region 16 with fail
            refine wp_region_above (by kernel_rfl) (by kernel_rfl) ?_
            repeat (go_big_quiet_step (fail))
            refine wpQuiet_nil ?_
            rintro _ ⟨⟨w7, hb7⟩, rfl⟩
            have HM7 := Keep.mk (HM.out.below hb7)
            clear hb7 HM y5 gl hcp hcj hgal hgql hw
            go_wp2_with fail
            go_meet
            exact ⟨p, rfl, by omega, HLO, HN, HM7⟩
          · have HN := Keep.mk (HLP.out (by rw [HQ.out]; unfold ltK; rw [← ba_list, ← ba_list, hw]))
            clear HNP HLP HQ
            go_upto_region 16 with fail
            refine wp_region_above (by kernel_rfl) (by kernel_rfl) ?_
            repeat (go_big_quiet_step (fail))
            refine wpQuiet_nil ?_
            rintro _ ⟨⟨w7, hb7⟩, rfl⟩
            have HM7 := Keep.mk (HM.out.below hb7)
            clear hb7 HM y5 gl hcp hcj hgal hgql hw
            go_wp2_with fail
            go_roundg (gk - 1)
            case rel => exact ⟨p + 1, by omega, by go_num, HN, HM7⟩
            case measure => omega
        · obtain rfl : p = K.length := by omega
          go_upto_region 16 with fail
          refine wp_region_above (by kernel_rfl) (by kernel_rfl) ?_
          repeat (go_big_quiet_step (fail))
          refine wpQuiet_nil ?_
          rintro _ ⟨⟨w7, hb7⟩, rfl⟩
          have HM7 := Keep.mk (HM.out.below hb7)
          clear hb7 HM y5 gl
          go_wp2_with fail
          go_meet
          exact ⟨_, rfl, Nat.le_refl _, HLO, ⟨fun h => absurd h (by omega)⟩, HM7⟩
    case rest =>
    obtain ⟨p, rfl, hpK, HLO, HHI, HM2⟩ := hcut
    clear HM
    obtain ⟨Al, cl, hvl, hlc1, hlc2⟩ := HM2.out.vv.form
    subst hvl
    have hLK := HPK.out.len
    have HLK := Keep.mk hLK
    have hll2 : L.length ≤ 1000003 := by omega
    clear hLK
    go_upto_region 18 with fail
    refine wp_world (fun W => MkS w W SK S T ks l A c (some ⟨g2, o2, none⟩) c2 g (.slice Al L.length cl) (.slice Ak K.length ck) K L) HM2.out ?_
    clear HM2
    rintro W2 HM
    replace HM := Keep.mk HM
    go_cut [81] (fun q wx => ∃ b : Bool, q = .bool b ∧ Keep (NewAt b p K kj) ∧ Keep (MkS w wx SK S T ks l A c (some ⟨g2, o2, none⟩) c2 g (.slice Al L.length cl) (.slice Ak K.length ck) K L))
    case first =>
      have y5 := HM.out.o.box.cell 5 _ rfl
      have gl := HM.out.o.box.lt
      by_cases hpl : p < K.length
      · have HKS := Keep.mk (HM.out.kk.strs (T := fun b => g + 1 ≤ b ∧ b < W2.heap.size) (by omega) (fun b hb => HM.out.kk.lt b hb)).2
        obtain ⟨gq, oq, rfl, hgq, hcq⟩ := HKS.out.at_ (by omega)
        have hcp := hcq p hpl
        obtain ⟨ga, oa, rfl, hga, hca⟩ := HM.out.z.k.at_ (by omega)
        have hcj := hca j hlt
        rw [HKJ2.out] at hcj
        have hgal : ga < W2.heap.size := by have := HM.out.z.sk ga hga; have := HM.out.z.b.size; omega
        have hgql := hgq.2
        have hpe : ((p : Int) == (K.length : Int)) = false := by simp; omega
        clear hcq hca hgq hga HKS
        obtain ⟨kp, hkp⟩ : ∃ x, K[p] = x := ⟨_, rfl⟩
        have HQ := Keep.mk hkp
        rw [hkp] at hcp
        clear hkp
        by_cases hke : kp = kj
        · have hw : (kp.toList == kj.toList) = true := by rw [hke]; simp
          have HBQ := Keep.mk (show NewAt false p K kj from ⟨fun h => (by cases h), fun h => by
            rcases h with h | ⟨_, h⟩
            · omega
            · exact absurd (HQ.out.trans hke) h⟩)
          clear hke HQ
          refine wp_region_above (by kernel_rfl) (by kernel_rfl) ?_
          repeat (go_big_quiet_step (fail))
          refine wpQuiet_nil ?_
          rintro _ ⟨⟨w7, hb7⟩, rfl⟩
          have HM7 := Keep.mk (HM.out.below hb7)
          clear hb7 HM y5 gl hcp hcj hgal hgql hw
          go_wp2_with fail
          go_meet
          exact ⟨_, rfl, HBQ, HM7⟩
        · have hw : (kp.toList == kj.toList) = false := by
            rw [beq_eq_false_iff_ne]
            intro e
            rw [ba_list, ba_list] at e
            exact hke (kd_inj e)
          have HBQ := Keep.mk (show NewAt true p K kj from ⟨fun _ => Or.inr ⟨hpl, fun h => hke (HQ.out.symm.trans h)⟩, fun _ => rfl⟩)
          clear hke HQ
          refine wp_region_above (by kernel_rfl) (by kernel_rfl) ?_
          repeat (go_big_quiet_step (fail))
          refine wpQuiet_nil ?_
          rintro _ ⟨⟨w7, hb7⟩, rfl⟩
          have HM7 := Keep.mk (HM.out.below hb7)
          clear hb7 HM y5 gl hcp hcj hgal hgql hw
          go_wp2_with fail
          go_meet
          exact ⟨_, rfl, HBQ, HM7⟩
      · obtain rfl : p = K.length := by omega
        have HBQ := Keep.mk (show NewAt true K.length K kj from ⟨fun _ => Or.inl rfl, fun _ => rfl⟩)
        refine wp_region_above (by kernel_rfl) (by kernel_rfl) ?_
        repeat (go_big_quiet_step (fail))
        refine wpQuiet_nil ?_
        rintro _ ⟨⟨w7, hb7⟩, rfl⟩
        have HM7 := Keep.mk (HM.out.below hb7)
        clear hb7 HM y5 gl
        go_wp2_with fail
        go_meet
        exact ⟨_, rfl, HBQ, HM7⟩
    case rest =>
    obtain ⟨b, rfl, HBB, HM3⟩ := hcut
    clear HM
    go_upto_if 81 with fail
    refine wp_world (fun W => MkS w W SK S T ks l A c (some ⟨g2, o2, none⟩) c2 g (.slice Al L.length cl) (.slice Ak K.length ck) K L) HM3.out ?_
    clear HM3
    rintro W7 HM7
    replace HM7 := Keep.mk HM7
    go_cut [] (fun wx => ∃ (vl' vk' : Value) (K' : List ByteArray) (L' : List JV), p < L'.length ∧ L'.length ≤ 1000004 ∧ Keep (PutK ks l (j + 1) K' (L'.set p (l.getD j zeroJ))) ∧ Keep (MkS w wx SK S T ks l A c (some ⟨g2, o2, none⟩) c2 g vl' vk' K' L'))
    case first =>
      cases b
      · have hno : ¬ (p = K.length ∨ ∃ h : p < K.length, K[p] ≠ kj) := fun h => by have := HBB.out.2 h; cases this
        have hpl : p < K.length := by
          have : p ≠ K.length := fun h => hno (Or.inl h)
          omega
        have hpe : K[p] = kj := Classical.byContradiction fun h => hno (Or.inr ⟨hpl, h⟩)
        have HNP := Keep.mk (HPK.out.old p hpl (by rw [hpe]; exact HKJ.out.symm))
        clear hno hpe HBB
        go_wp2_with fail
        go_meet
        exact ⟨_, _, _, _, by have := HLK.out; omega, by omega, HNP, HM7⟩
      · have HNP := Keep.mk (show PutK ks l (j + 1) (K.take p ++ [kj] ++ K.drop p) ((L.take p ++ [l.getD j zeroJ] ++ L.drop p).set p (l.getD j zeroJ)) by
          rw [HPK.out.new_set p hpK, ← HKJ.out]
          refine HPK.out.new p hpK (fun q hq hqp => by rw [HKJ.out]; exact HLO.out q hq hqp) (fun hq => ⟨by rw [HKJ.out]; exact HHI.out hq, ?_⟩)
          rcases HBB.out.1 rfl with h | ⟨_, h⟩
          · omega
          · rw [HKJ.out]; exact h)
        clear HBB HLO HHI
        have hpL : p ≤ L.length := by have := HLK.out; omega
        obtain ⟨ga, oa, rfl, hga, hca⟩ := HM7.out.z.k.at_ (by omega)
        have hcj := hca j hlt
        rw [HKJ2.out] at hcj
        have hkjs : kj.size ≤ 140737488351232 := by rw [← HKJ2.out]; exact HM7.out.z.k.small _ (List.getElem_mem hlt)
        have hgal : ga < W7.heap.size := by have := HM7.out.z.sk ga hga; have := HM7.out.z.b.size; omega
        clear hca hga
        go_upto_region 19 with fail
        refine wp_region_live 17 (fun _ w' => Below W7.heap.size W7 w') (fun
          | 0 => fun v w' => ∃ q, v = .slice (some ⟨q, 0, none⟩) 0 0 ∧ W7.heap.size ≤ q ∧ q < w'.heap.size ∧ w'.heap[q]? = some (.cells #[] 9 (0, 0))
          | 1 => fun v _ => v = .pointer (some ⟨g, 5, none⟩)
          | 2 => fun v _ => v = .slice Ak K.length ck
          | 3 => fun v _ => v = .int .i64 p
          | 4 => fun v w' => ∃ A' c', v = .slice A' p c' ∧ StrsIn w' (fun b => g + 1 ≤ b ∧ b < W7.heap.size) A' c' (K.take p)
          | 5 => fun v w' => OwnS w' W7.heap.size v (K.take p)
          | 6 => fun v _ => v = .slice (some ⟨ga, oa, none⟩) ks.length c
          | 7 => fun v _ => v = .int .i64 j
          | 8 => fun v _ => v = .pointer (some ⟨ga, oa + j, none⟩)
          | 9 => fun v _ => v = .string kj
          | 10 => fun v w' => ∃ q, v = .slice (some ⟨q, 0, none⟩) 1 1 ∧ W7.heap.size ≤ q ∧ q < w'.heap.size ∧ StrsIn w' (fun b => b = q) (some ⟨q, 0, none⟩) 1 [kj]
          | 11 => fun v w' => OwnS w' W7.heap.size v (K.take p ++ [kj])
          | 12 => fun v _ => v = .pointer (some ⟨g, 5, none⟩)
          | 13 => fun v _ => v = .slice Ak K.length ck
          | 14 => fun v _ => v = .int .i64 p
          | 15 => fun v w' => ∃ A' c', v = .slice A' (K.length - p) c' ∧ StrsIn w' (fun b => g + 1 ≤ b ∧ b < W7.heap.size) A' c' (K.drop p)
          | 16 => fun v w' => OwnS w' W7.heap.size v (K.take p ++ [kj] ++ K.drop p)
          | _ => fun _ _ => True) (fun | 11 => fun w1 w2 => Below W7.heap.size w1 w2 ∧ W7.heap.size ≤ w1.heap.size | 16 => fun w1 w2 => Below W7.heap.size w1 w2 ∧ W7.heap.size ≤ w1.heap.size | _ => fun w1 w2 => Below w1.heap.size w1 w2 ∧ W7.heap.size ≤ w1.heap.size) (by kernel_rfl) (by kernel_rfl) (below_drawn W7) ?_ ?_ ?_
        · intro i j2 v w1 w2 hi hj2 hij h1 h2 h3 hG
          have hBB : Below W7.heap.size w1 w2 := by
            match i, hi with
            | 11, _ => exact hG.1
            | 16, _ => exact hG.1
            | 0, _ | 1, _ | 2, _ | 3, _ | 4, _ | 5, _ | 6, _ | 7, _ | 8, _ | 9, _ | 10, _ | 12, _ | 13, _ | 14, _ | 15, _ => exact hG.1.mono hG.2
            | n + 17, h => omega
          match j2 with
          | 1 | 2 | 3 | 6 | 7 | 8 | 9 | 12 | 13 | 14 => exact fun h => h
          | 4 => rintro ⟨A', c', e, hs⟩; exact ⟨A', c', e, hs.keep (fun b hb => hBB.block b hb.2) (fun _ h => h)⟩
          | 15 => rintro ⟨A', c', e, hs⟩; exact ⟨A', c', e, hs.keep (fun b hb => hBB.block b hb.2) (fun _ h => h)⟩
          | 0 =>
            match i, hi with
            | 11, _ => exact (no_sole (h3 5 (by omega) (by kernel_rfl)) (by kernel_rfl)).elim
            | 16, _ => exact (no_sole (h3 5 (by omega) (by kernel_rfl)) (by kernel_rfl)).elim
            | 0, _ | 1, _ | 2, _ | 3, _ | 4, _ | 5, _ | 6, _ | 7, _ | 8, _ | 9, _ | 10, _ | 12, _ | 13, _ | 14, _ | 15, _ => rintro ⟨q, e, q1, q2, q3⟩; exact ⟨q, e, q1, Nat.lt_of_lt_of_le q2 hG.1.size, (hG.1.block q q2).trans q3⟩
            | n + 17, h => omega
          | 5 =>
            match i, hi with
            | 11, _ => exact (no_sole h1 (by kernel_rfl)).elim
            | 16, _ => exact (no_sole (h3 11 (by omega) (by kernel_rfl)) (by kernel_rfl)).elim
            | 0, _ | 1, _ | 2, _ | 3, _ | 4, _ | 5, _ | 6, _ | 7, _ | 8, _ | 9, _ | 10, _ | 12, _ | 13, _ | 14, _ | 15, _ => intro hs; exact hs.keep (fun b hb => hG.1.block b (hs.lt b hb).2)
            | n + 17, h => omega
          | 10 =>
            match i, hi with
            | 11, _ => exact (no_sole h1 (by kernel_rfl)).elim
            | 16, _ => exact (no_sole (h3 11 (by omega) (by kernel_rfl)) (by kernel_rfl)).elim
            | 0, _ | 1, _ | 2, _ | 3, _ | 4, _ | 5, _ | 6, _ | 7, _ | 8, _ | 9, _ | 10, _ | 12, _ | 13, _ | 14, _ | 15, _ => rintro ⟨q, e, q1, q2, q3⟩; exact ⟨q, e, q1, Nat.lt_of_lt_of_le q2 hG.1.size, q3.keep (fun b hb => hG.1.block b (by rw [hb]; exact q2)) (fun _ h => h)⟩
            | n + 17, h => omega
          | 11 =>
            match i, hi with
            | 16, _ => exact (no_sole h1 (by kernel_rfl)).elim
            | 11, _ => exact absurd rfl hij
            | 0, _ | 1, _ | 2, _ | 3, _ | 4, _ | 5, _ | 6, _ | 7, _ | 8, _ | 9, _ | 10, _ | 12, _ | 13, _ | 14, _ | 15, _ => intro hs; exact hs.keep (fun b hb => hG.1.block b (hs.lt b hb).2)
            | n + 17, h => omega
          | 16 =>
            match i, hi with
            | 11, _ => exact (no_sole h2 (by kernel_rfl)).elim
            | 16, _ => exact absurd rfl hij
            | 0, _ | 1, _ | 2, _ | 3, _ | 4, _ | 5, _ | 6, _ | 7, _ | 8, _ | 9, _ | 10, _ | 12, _ | 13, _ | 14, _ | 15, _ => intro hs; exact hs.keep (fun b hb => hG.1.block b (hs.lt b hb).2)
            | n + 17, h => omega
          | _ + 17 => exact fun h => h
        · simp only [List.take, stepHold]
          refine ⟨?_, ?_, ?_, ?_, ?_, ?_, ?_, ?_, ?_, ?_, ?_, ?_, ?_, ?_, ?_, ?_, ?_, trivial⟩
          · intro L9 a wa hL hI hs hd
            exact op_val _ (w' := wa.alloc (.cells #[] 9)) (by unfold execOp; go_simp) ⟨_, rfl, ⟨wa.heap.size, rfl, hI.size, by simp, heap_alloc_new wa _⟩, up hI (al1 _ _), al1 _ _, hI.size⟩
          · intro L9 a wa hL hI hs hd
            have e1 : a.eval (.tmp 7) = .pointer (some ⟨g, 0, none⟩) := hs 7 (by kernel_rfl)
            exact op_val _ (w' := wa) (by unfold execOp; simp only [e1]; go_simp) ⟨_, rfl, rfl, hI, Below.refl _ _, hI.size⟩
          · intro L9 a wa hL hI hs hd
            have hM := HM7.out.below hI
            have e1 : a.eval (.tmp 83) = .pointer (some ⟨g, 5, none⟩) := hd.1
            have cx := hM.o.box.cell 5 _ rfl
            have gl := hM.o.box.lt
            exact op_val _ (w' := wa) (by unfold execOp; simp only [e1]; go_simp) ⟨_, rfl, rfl, hI, Below.refl _ _, hI.size⟩
          · intro L9 a wa hL hI hs hd
            have e1 : a.eval (.tmp 10) = .int .i64 p := hs 10 (by kernel_rfl)
            exact op_val _ (w' := wa) (by unfold execOp; simp only [e1]; go_simp) ⟨_, rfl, rfl, hI, Below.refl _ _, hI.size⟩
          · intro L9 a wa hL hI hs hd
            have hM := HM7.out.below hI
            have e1 : a.eval (.tmp 84) = .slice Ak K.length ck := hd.1
            have e2 : a.eval (.tmp 85) = .int .i64 p := hd.2.1
            exact op_slice_high (.tmp 84) (.tmp 85) rfl Tryz.underlying26 (sizeOf_str _) _ _ _ p (by omega) e1 e2 ⟨_, rfl, ⟨_, _, rfl, ((hM.kk.strs (T := fun b => g + 1 ≤ b ∧ b < W7.heap.size) (by omega) (fun b hb => ⟨(hM.kk.lt b hb).1, (HM7.out.kk.lt b hb).2⟩)).2).high p hpK⟩, hI, Below.refl _ _, hI.size⟩
          · intro L9 a wa hL hI hs hd
            obtain ⟨q, e1, q1, q2, q3⟩ := hd.1
            obtain ⟨A', c', e2, hs2⟩ := hd.2.1
            have e1 : a.eval (.tmp 82) = .slice (some ⟨q, 0, none⟩) 0 0 := e1
            have e2 : a.eval (.tmp 86) = .slice A' p c' := e2
            refine op_append_fresh rfl (.tmp 82) (.tmp 86) rfl W7.heap.size q e1 q3 q1 hI.size _ A' p c' (K.take p) (by rw [List.length_take]; omega) e2 hs2 (by rw [List.length_take]; omega) fun v' w' hO hb => ⟨_, rfl, hO, up hI hb, hb, hI.size⟩
          · intro L9 a wa hL hI hs hd
            have e1 : a.eval (.tmp 0) = .slice (some ⟨ga, oa, none⟩) ks.length c := hs 0 (by kernel_rfl)
            exact op_val _ (w' := wa) (by unfold execOp; simp only [e1]; go_simp) ⟨_, rfl, rfl, hI, Below.refl _ _, hI.size⟩
          · intro L9 a wa hL hI hs hd
            have e1 : a.eval (.tmp 8) = .int .i64 j := hs 8 (by kernel_rfl)
            exact op_val _ (w' := wa) (by unfold execOp; simp only [e1]; go_simp) ⟨_, rfl, rfl, hI, Below.refl _ _, hI.size⟩
          · intro L9 a wa hL hI hs hd
            have e1 : a.eval (.tmp 88) = .slice (some ⟨ga, oa, none⟩) ks.length c := hd.1
            have e2 : a.eval (.tmp 89) = .int .i64 j := hd.2.1
            exact op_val _ (w' := wa) (by unfold execOp; simp only [e1, e2]; go_simp) ⟨_, rfl, rfl, hI, Below.refl _ _, hI.size⟩
          · intro L9 a wa hL hI hs hd
            have e1 : a.eval (.tmp 90) = .pointer (some ⟨ga, oa + j, none⟩) := hd.1
            have cx := (hI.cell (p := ⟨ga, oa + j, none⟩) hgal).trans hcj
            have gl : ga < wa.heap.size := Nat.lt_of_lt_of_le hgal hI.size
            exact op_val _ (w' := wa) (by unfold execOp; simp only [e1]; go_simp) ⟨_, rfl, rfl, hI, Below.refl _ _, hI.size⟩
          · intro L9 a wa hL hI hs hd
            have e1 : a.eval (.tmp 91) = .string kj := hd.1
            have f1 := get_form e1
            exact op_val _ (w' := wa.alloc (.cells #[.string kj] 9)) (by unfold execOp; go_simp) ⟨_, rfl, ⟨wa.heap.size, rfl, hI.size, by simp, strs_one wa kj hkjs _⟩, up hI (al1 _ _), al1 _ _, hI.size⟩
          · intro L9 a wa hL hI hs hd
            have h5 : OwnS wa W7.heap.size (a.eval (.tmp 87)) (K.take p) := hd.1
            obtain ⟨q, e2, q1, q2, q3⟩ := hd.2.1
            have e2 : a.eval (.tmp 92) = .slice (some ⟨q, 0, none⟩) 1 1 := e2
            refine op_append_strs (.tmp 87) (.tmp 92) rfl W7.heap.size _ _ rfl h5 _ _ 1 1 [kj] rfl e2 q3 (by rw [List.length_take]; simp; omega) hI.size fun v' w' hO hg _ => ⟨_, rfl, hO, hI.trans (below_row hg (fun b hb => (h5.lt b hb).1) hI.size), below_row hg (fun b hb => (h5.lt b hb).1) hI.size, hI.size⟩
          · intro L9 a wa hL hI hs hd
            have e1 : a.eval (.tmp 7) = .pointer (some ⟨g, 0, none⟩) := hs 7 (by kernel_rfl)
            exact op_val _ (w' := wa) (by unfold execOp; simp only [e1]; go_simp) ⟨_, rfl, rfl, hI, Below.refl _ _, hI.size⟩
          · intro L9 a wa hL hI hs hd
            have hM := HM7.out.below hI
            have e1 : a.eval (.tmp 94) = .pointer (some ⟨g, 5, none⟩) := hd.1
            have cx := hM.o.box.cell 5 _ rfl
            have gl := hM.o.box.lt
            exact op_val _ (w' := wa) (by unfold execOp; simp only [e1]; go_simp) ⟨_, rfl, rfl, hI, Below.refl _ _, hI.size⟩
          · intro L9 a wa hL hI hs hd
            have e1 : a.eval (.tmp 10) = .int .i64 p := hs 10 (by kernel_rfl)
            exact op_val _ (w' := wa) (by unfold execOp; simp only [e1]; go_simp) ⟨_, rfl, rfl, hI, Below.refl _ _, hI.size⟩
          · intro L9 a wa hL hI hs hd
            have hM := HM7.out.below hI
            have e1 : a.eval (.tmp 95) = .slice Ak K.length ck := hd.1
            have e2 : a.eval (.tmp 96) = .int .i64 p := hd.2.1
            exact op_slice_low (.tmp 95) (.tmp 96) rfl Tryz.underlying26 (sizeOf_str _) _ _ _ p (by omega) e1 e2 ⟨_, rfl, ⟨_, _, rfl, ((hM.kk.strs (T := fun b => g + 1 ≤ b ∧ b < W7.heap.size) (by omega) (fun b hb => ⟨(hM.kk.lt b hb).1, (HM7.out.kk.lt b hb).2⟩)).2).low p hpK⟩, hI, Below.refl _ _, hI.size⟩
          · intro L9 a wa hL hI hs hd
            have h5 : OwnS wa W7.heap.size (a.eval (.tmp 93)) (K.take p ++ [kj]) := hd.1
            obtain ⟨A', c', e2, hs2⟩ := hd.2.1
            have e2 : a.eval (.tmp 97) = .slice A' (K.length - p) c' := e2
            refine op_append_strs (.tmp 93) (.tmp 97) rfl W7.heap.size _ _ rfl h5 _ A' _ c' (K.drop p) (by rw [List.length_drop]) e2 hs2 (by simp; omega) hI.size fun v' w' hO hg _ => ⟨_, rfl, hO, hI.trans (below_row hg (fun b hb => (h5.lt b hb).1) hI.size), below_row hg (fun b hb => (h5.lt b hb).1) hI.size, hI.size⟩
        · intro vs L9 W8 _ hI hall
          have h16 : OwnS W8 W7.heap.size (vs 16) (K.take p ++ [kj] ++ K.drop p) := hall 16 _ (by omega) rfl (by kernel_rfl)
          clear hall
          simp only [List.take, List.drop, putL]
          generalize vs 0 = v0 at *
          generalize vs 1 = v1 at *
          generalize vs 2 = v2 at *
          generalize vs 3 = v3 at *
          generalize vs 4 = v4 at *
          generalize vs 5 = v5 at *
          generalize vs 6 = v6 at *
          generalize vs 7 = v7 at *
          generalize vs 8 = v8 at *
          generalize vs 9 = v9 at *
          generalize vs 10 = v10 at *
          generalize vs 11 = v11 at *
          generalize vs 12 = v12 at *
          generalize vs 13 = v13 at *
          generalize vs 14 = v14 at *
          generalize vs 15 = v15 at *
          generalize vs 16 = v16 at *
          obtain ⟨A16, c16, e16, _, _⟩ := h16.form
          generalize (K.take p ++ [kj] ++ K.drop p).length = n16 at e16
          subst e16
          have hM8 := HM7.out.below hI
          have cx := hM8.o.box.cell 5 _ rfl
          have fx := hM8.o.box.froz 5
          have gl := hM8.o.box.lt
          have HM8 := Keep.mk (HM7.out.putK hI h16)
          clear hM8 h16 hI
          go_upto_region 20 with fail
          refine wp_world (fun W => MkS w W SK S T ks l (some ⟨ga, oa, none⟩) c (some ⟨g2, o2, none⟩) c2 g (.slice Al L.length cl) (.slice A16 n16 c16) (K.take p ++ [kj] ++ K.drop p) L) HM8.out ?_
          clear HM8 cx fx gl HM7 hgal hcj
          rintro W7 HM7
          replace HM7 := Keep.mk HM7
          obtain ⟨g2', o2', k1, m1, x1, s1, A1, n1, c1, A3, n3, c3, eA, hg2, hJ7, y0, y1, y2, y3, y4, y5⟩ := HM7.out.z.v.elem j hlt2
          injection eA with eA
          injection eA with e21 e22 _
          subst e21 e22
          have hgl2 : g2 < W7.heap.size := by have := HM7.out.z.t g2 hg2; have := HM7.out.z.b.size; omega
          have HJj := Keep.mk (fun wa (hI : Below W7.heap.size W7 wa) => hJ7.keep (W' := wa) (T := S) (fun b hb => hI.block b (by have := HM7.out.z.s b hb; have := HM7.out.z.b.size; omega)) (fun _ h => h))
          have HNP2 := Keep.mk (show PutK ks l (j + 1) (K.take p ++ [kj] ++ K.drop p) ((L.take p ++ [l[j]] ++ L.drop p).set p (l.getD j zeroJ)) by
            have hld : l.getD j zeroJ = l[j] := by rw [List.getD_eq_getElem?_getD, List.getElem?_eq_getElem hlt2]; rfl
            have h1 := HNP.out
            rw [hld] at h1 ⊢
            exact h1)
          clear hJ7 hg2 HNP
          refine wp_region_live 17 (fun _ w' => Below W7.heap.size W7 w') (fun
            | 0 => fun v w' => ∃ q, v = .slice (some ⟨q, 0, none⟩) 0 0 ∧ W7.heap.size ≤ q ∧ q < w'.heap.size ∧ w'.heap[q]? = some (.cells #[] 28 (0, 0))
            | 1 => fun v _ => v = .pointer (some ⟨g, 4, none⟩)
            | 2 => fun v _ => v = .slice Al L.length cl
            | 3 => fun v _ => v = .int .i64 p
            | 4 => fun v w' => ∃ A' c', v = .slice A' p c' ∧ ValsFrom w' S (fun b => g + 1 ≤ b ∧ b < W7.heap.size) A' c' (L.take p)
            | 5 => fun v w' => OwnV w' W7.heap.size S v (L.take p)
            | 6 => fun v _ => v = .slice (some ⟨g2, o2, none⟩) l.length c2
            | 7 => fun v _ => v = .int .i64 j
            | 8 => fun v _ => v = .pointer (some ⟨g2, o2 + j * 6, none⟩)
            | 9 => fun v _ => v = .agg (List.toArray (cells6 k1 m1 x1 s1 A1 n1 c1 A3 n3 c3))
            | 10 => fun v w' => ∃ q, v = .slice (some ⟨q, 0, none⟩) 1 1 ∧ W7.heap.size ≤ q ∧ q < w'.heap.size ∧ VBlkT w' q (cells6 k1 m1 x1 s1 A1 n1 c1 A3 n3 c3)
            | 11 => fun v w' => OwnV w' W7.heap.size S v (L.take p ++ [l[j]])
            | 12 => fun v _ => v = .pointer (some ⟨g, 4, none⟩)
            | 13 => fun v _ => v = .slice Al L.length cl
            | 14 => fun v _ => v = .int .i64 p
            | 15 => fun v w' => ∃ A' c', v = .slice A' (L.length - p) c' ∧ ValsFrom w' S (fun b => g + 1 ≤ b ∧ b < W7.heap.size) A' c' (L.drop p)
            | 16 => fun v w' => OwnV w' W7.heap.size S v (L.take p ++ [l[j]] ++ L.drop p)
            | _ => fun _ _ => True) (fun | 11 => fun w1 w2 => Below W7.heap.size w1 w2 ∧ W7.heap.size ≤ w1.heap.size | 16 => fun w1 w2 => Below W7.heap.size w1 w2 ∧ W7.heap.size ≤ w1.heap.size | 5 => fun w1 w2 => ∃ q, w1.heap[q]? = some (.cells #[] 28 (0, 0)) ∧ W7.heap.size ≤ q ∧ w1.grownBy w2 (some q) ∧ W7.heap.size ≤ w1.heap.size | _ => fun w1 w2 => Below w1.heap.size w1 w2 ∧ W7.heap.size ≤ w1.heap.size) (by kernel_rfl) (by kernel_rfl) (below_drawn W7) ?_ ?_ ?_
          · intro i j2 v w1 w2 hi hj2 hij h1 h2 h3 hG
            have hBB : Below W7.heap.size w1 w2 := by
              match i, hi with
              | 11, _ => exact hG.1
              | 16, _ => exact hG.1
              | 5, _ => obtain ⟨q, _, hq, hgq, hsq⟩ := hG; exact below_from hgq hq hsq
              | 0, _ | 1, _ | 2, _ | 3, _ | 4, _ | 6, _ | 7, _ | 8, _ | 9, _ | 10, _ | 12, _ | 13, _ | 14, _ | 15, _ => exact hG.1.mono hG.2
              | n + 17, h => omega
            match j2 with
            | 1 | 2 | 3 | 6 | 7 | 8 | 9 | 12 | 13 | 14 => exact fun h => h
            | 4 => rintro ⟨A', c', e, hs⟩; exact ⟨A', c', e, hs.keep (fun b hb => hBB.block b (by have := HM7.out.z.s b hb; have := HM7.out.z.b.size; omega)) (fun b hb => hBB.block b hb.2) (fun _ h => h) (fun _ h => h)⟩
            | 15 => rintro ⟨A', c', e, hs⟩; exact ⟨A', c', e, hs.keep (fun b hb => hBB.block b (by have := HM7.out.z.s b hb; have := HM7.out.z.b.size; omega)) (fun b hb => hBB.block b hb.2) (fun _ h => h) (fun _ h => h)⟩
            | 0 =>
              match i, hi with
              | 11, _ => exact (no_sole (h3 5 (by omega) (by kernel_rfl)) (by kernel_rfl)).elim
              | 16, _ => exact (no_sole (h3 5 (by omega) (by kernel_rfl)) (by kernel_rfl)).elim
              | 5, _ => exact (no_sole h1 (by kernel_rfl)).elim
              | 0, _ | 1, _ | 2, _ | 3, _ | 4, _ | 6, _ | 7, _ | 8, _ | 9, _ | 10, _ | 12, _ | 13, _ | 14, _ | 15, _ => rintro ⟨q, e, q1, q2, q3⟩; exact ⟨q, e, q1, Nat.lt_of_lt_of_le q2 hG.1.size, (hG.1.block q q2).trans q3⟩
              | n + 17, h => omega
            | 5 =>
              match i, hi with
              | 11, _ => exact (no_sole h1 (by kernel_rfl)).elim
              | 16, _ => exact (no_sole (h3 11 (by omega) (by kernel_rfl)) (by kernel_rfl)).elim
              | 5, _ => exact absurd rfl hij
              | 0, _ | 1, _ | 2, _ | 3, _ | 4, _ | 6, _ | 7, _ | 8, _ | 9, _ | 10, _ | 12, _ | 13, _ | 14, _ | 15, _ => intro hs; exact hs.keep (fun b hb => hBB.block b (by have := HM7.out.z.s b hb; have := HM7.out.z.b.size; omega)) (fun b hb => hG.1.block b (hs.lt b hb).2) (fun _ h => h)
              | n + 17, h => omega
            | 10 =>
              match i, hi with
              | 11, _ => exact (no_sole h1 (by kernel_rfl)).elim
              | 16, _ => exact (no_sole (h3 11 (by omega) (by kernel_rfl)) (by kernel_rfl)).elim
              | 5, _ =>
                rintro ⟨q, e, q1, q2, q3⟩
                obtain ⟨q0, hq0, _, hgq, _⟩ := hG
                have hne : q ≠ q0 := fun h => by
                  subst h
                  unfold VBlkT at q3
                  rw [hq0] at q3
                  injection q3 with q3
                  injection q3 with q3
                  cases q3
                exact ⟨q, e, q1, Nat.lt_of_lt_of_le q2 hgq.size, (hgq.block q q2 (fun h => hne (by injection h))).trans q3⟩
              | 0, _ | 1, _ | 2, _ | 3, _ | 4, _ | 6, _ | 7, _ | 8, _ | 9, _ | 10, _ | 12, _ | 13, _ | 14, _ | 15, _ => rintro ⟨q, e, q1, q2, q3⟩; exact ⟨q, e, q1, Nat.lt_of_lt_of_le q2 hG.1.size, (hG.1.block q q2).trans q3⟩
              | n + 17, h => omega
            | 11 =>
              match i, hi with
              | 16, _ => exact (no_sole h1 (by kernel_rfl)).elim
              | 11, _ => exact absurd rfl hij
              | 5, _ => exact (no_sole h2 (by kernel_rfl)).elim
              | 0, _ | 1, _ | 2, _ | 3, _ | 4, _ | 6, _ | 7, _ | 8, _ | 9, _ | 10, _ | 12, _ | 13, _ | 14, _ | 15, _ => intro hs; exact hs.keep (fun b hb => hBB.block b (by have := HM7.out.z.s b hb; have := HM7.out.z.b.size; omega)) (fun b hb => hG.1.block b (hs.lt b hb).2) (fun _ h => h)
              | n + 17, h => omega
            | 16 =>
              match i, hi with
              | 11, _ => exact (no_sole h2 (by kernel_rfl)).elim
              | 16, _ => exact absurd rfl hij
              | 5, _ => exact (no_sole h2 (by kernel_rfl)).elim
              | 0, _ | 1, _ | 2, _ | 3, _ | 4, _ | 6, _ | 7, _ | 8, _ | 9, _ | 10, _ | 12, _ | 13, _ | 14, _ | 15, _ => intro hs; exact hs.keep (fun b hb => hBB.block b (by have := HM7.out.z.s b hb; have := HM7.out.z.b.size; omega)) (fun b hb => hG.1.block b (hs.lt b hb).2) (fun _ h => h)
              | n + 17, h => omega
            | _ + 17 => exact fun h => h
          · simp only [List.take, stepHold]
            refine ⟨?_, ?_, ?_, ?_, ?_, ?_, ?_, ?_, ?_, ?_, ?_, ?_, ?_, ?_, ?_, ?_, ?_, trivial⟩
            · intro L9 a wa hL hI hs hd
              exact op_val _ (w' := wa.alloc (.cells #[] 28)) (by unfold execOp; go_simp) ⟨_, rfl, ⟨wa.heap.size, rfl, hI.size, by simp, heap_alloc_new wa _⟩, up hI (al1 _ _), al1 _ _, hI.size⟩
            · intro L9 a wa hL hI hs hd
              have e1 : a.eval (.tmp 7) = .pointer (some ⟨g, 0, none⟩) := hs 7 (by kernel_rfl)
              exact op_val _ (w' := wa) (by unfold execOp; simp only [e1]; go_simp) ⟨_, rfl, rfl, hI, Below.refl _ _, hI.size⟩
            · intro L9 a wa hL hI hs hd
              have hM := HM7.out.below hI
              have e1 : a.eval (.tmp 101) = .pointer (some ⟨g, 4, none⟩) := hd.1
              have cx := hM.o.box.cell 4 _ rfl
              have gl := hM.o.box.lt
              exact op_val _ (w' := wa) (by unfold execOp; simp only [e1]; go_simp) ⟨_, rfl, rfl, hI, Below.refl _ _, hI.size⟩
            · intro L9 a wa hL hI hs hd
              have e1 : a.eval (.tmp 10) = .int .i64 p := hs 10 (by kernel_rfl)
              exact op_val _ (w' := wa) (by unfold execOp; simp only [e1]; go_simp) ⟨_, rfl, rfl, hI, Below.refl _ _, hI.size⟩
            · intro L9 a wa hL hI hs hd
              have hM := HM7.out.below hI
              have e1 : a.eval (.tmp 102) = .slice Al L.length cl := hd.1
              have e2 : a.eval (.tmp 103) = .int .i64 p := hd.2.1
              exact op_slice_high (.tmp 102) (.tmp 103) rfl Tryz.underlying25 (sizeOf_val _) _ _ _ p (by omega) e1 e2 ⟨_, rfl, ⟨_, _, rfl, ((hM.vv.from_ (T := fun b => g + 1 ≤ b ∧ b < W7.heap.size) (by omega) (fun b hb => ⟨(hM.vv.lt b hb).1, (HM7.out.vv.lt b hb).2⟩)).2).high p hpL⟩, hI, Below.refl _ _, hI.size⟩
            · intro L9 a wa hL hI hs hd
              obtain ⟨q, e1, q1, q2, q3⟩ := hd.1
              obtain ⟨A', c', e2, hs2⟩ := hd.2.1
              have e1 : a.eval (.tmp 100) = .slice (some ⟨q, 0, none⟩) 0 0 := e1
              have e2 : a.eval (.tmp 104) = .slice A' p c' := e2
              refine op_append_vals_many (.tmp 100) (.tmp 104) rfl W7.heap.size S _ _ [] e1 (OwnV.fresh q3 q1) A' p c' (L.take p) (by rw [List.length_take]; omega) e2 hs2 (by rw [List.length_nil, List.length_take]; omega) hI.size (fun b hb h => by have hb : q = b := Option.some.inj hb; have := HM7.out.z.s b h; have := HM7.out.z.b.size; omega) (fun b h => by have := HM7.out.z.s b h; have := HM7.out.z.b.size; have := hI.size; omega) fun v' w' hO hg _ => ⟨_, rfl, hO, hI.trans (below_from hg q1 hI.size), ⟨q, q3, q1, hg, hI.size⟩⟩
            · intro L9 a wa hL hI hs hd
              have e1 : a.eval (.tmp 1) = .slice (some ⟨g2, o2, none⟩) l.length c2 := hs 1 (by kernel_rfl)
              exact op_val _ (w' := wa) (by unfold execOp; simp only [e1]; go_simp) ⟨_, rfl, rfl, hI, Below.refl _ _, hI.size⟩
            · intro L9 a wa hL hI hs hd
              have e1 : a.eval (.tmp 8) = .int .i64 j := hs 8 (by kernel_rfl)
              exact op_val _ (w' := wa) (by unfold execOp; simp only [e1]; go_simp) ⟨_, rfl, rfl, hI, Below.refl _ _, hI.size⟩
            · intro L9 a wa hL hI hs hd
              have e1 : a.eval (.tmp 106) = .slice (some ⟨g2, o2, none⟩) l.length c2 := hd.1
              have e2 : a.eval (.tmp 107) = .int .i64 j := hd.2.1
              exact op_val _ (w' := wa) (by unfold execOp; simp only [e1, e2]; go_simp) ⟨_, rfl, rfl, hI, Below.refl _ _, hI.size⟩
            · intro L9 a wa hL hI hs hd
              have e1 : a.eval (.tmp 108) = .pointer (some ⟨g2, o2 + j * 6, none⟩) := hd.1
              have gl : g2 < wa.heap.size := Nat.lt_of_lt_of_le hgl2 hI.size
              have cx0 := (hI.cell (p := ⟨g2, o2 + j * 6, none⟩) hgl2).trans y0
              have cx1 := (hI.cell (p := ⟨g2, o2 + j * 6 + 1, none⟩) hgl2).trans y1
              have cx2 := (hI.cell (p := ⟨g2, o2 + j * 6 + 2, none⟩) hgl2).trans y2
              have cx3 := (hI.cell (p := ⟨g2, o2 + j * 6 + 3, none⟩) hgl2).trans y3
              have cx4 := (hI.cell (p := ⟨g2, o2 + j * 6 + 4, none⟩) hgl2).trans y4
              have cx5 := (hI.cell (p := ⟨g2, o2 + j * 6 + 5, none⟩) hgl2).trans y5
              exact op_val _ (w' := wa) (by unfold execOp; simp only [e1]; go_simp; rfl) ⟨_, rfl, rfl, hI, Below.refl _ _, hI.size⟩
            · intro L9 a wa hL hI hs hd
              have e1 : a.eval (.tmp 109) = .agg (List.toArray (cells6 k1 m1 x1 s1 A1 n1 c1 A3 n3 c3)) := hd.1
              have f1 := get_form e1
              exact op_val _ (w' := wa.alloc (.cells (cells6 k1 m1 x1 s1 A1 n1 c1 A3 n3 c3).toArray 28)) (by unfold execOp; go_simp; rfl) ⟨_, rfl, ⟨wa.heap.size, rfl, hI.size, by simp, VBlkT.new _ rfl⟩, up hI (al1 _ _), al1 _ _, hI.size⟩
            · intro L9 a wa hL hI hs hd
              have h5 : OwnV wa W7.heap.size S (a.eval (.tmp 105)) (L.take p) := hd.1
              obtain ⟨q, e2, q1, q2, q3⟩ := hd.2.1
              have e2 : a.eval (.tmp 110) = .slice (some ⟨q, 0, none⟩) 1 1 := e2
              refine op_append_vals (.tmp 105) (.tmp 110) rfl W7.heap.size S _ _ rfl h5 q l[j] _ e2 (fun i u hu => q3.box.cell i u hu) (HJj.out wa hI) (by rw [List.length_take]; omega) hI.size (fun b hb h => by have := (h5.lt b hb).1; have := HM7.out.z.s b h; have := HM7.out.z.b.size; omega) (fun b h => by have := HM7.out.z.s b h; have := HM7.out.z.b.size; have := hI.size; omega) fun v' w' hO hg _ => ⟨_, rfl, hO, hI.trans (below_row hg (fun b hb => (h5.lt b hb).1) hI.size), below_row hg (fun b hb => (h5.lt b hb).1) hI.size, hI.size⟩
            · intro L9 a wa hL hI hs hd
              have e1 : a.eval (.tmp 7) = .pointer (some ⟨g, 0, none⟩) := hs 7 (by kernel_rfl)
              exact op_val _ (w' := wa) (by unfold execOp; simp only [e1]; go_simp) ⟨_, rfl, rfl, hI, Below.refl _ _, hI.size⟩
            · intro L9 a wa hL hI hs hd
              have hM := HM7.out.below hI
              have e1 : a.eval (.tmp 112) = .pointer (some ⟨g, 4, none⟩) := hd.1
              have cx := hM.o.box.cell 4 _ rfl
              have gl := hM.o.box.lt
              exact op_val _ (w' := wa) (by unfold execOp; simp only [e1]; go_simp) ⟨_, rfl, rfl, hI, Below.refl _ _, hI.size⟩
            · intro L9 a wa hL hI hs hd
              have e1 : a.eval (.tmp 10) = .int .i64 p := hs 10 (by kernel_rfl)
              exact op_val _ (w' := wa) (by unfold execOp; simp only [e1]; go_simp) ⟨_, rfl, rfl, hI, Below.refl _ _, hI.size⟩
            · intro L9 a wa hL hI hs hd
              have hM := HM7.out.below hI
              have e1 : a.eval (.tmp 113) = .slice Al L.length cl := hd.1
              have e2 : a.eval (.tmp 114) = .int .i64 p := hd.2.1
              exact op_slice_low (.tmp 113) (.tmp 114) rfl Tryz.underlying25 (sizeOf_val _) _ _ _ p (by omega) e1 e2 ⟨_, rfl, ⟨_, _, rfl, ((hM.vv.from_ (T := fun b => g + 1 ≤ b ∧ b < W7.heap.size) (by omega) (fun b hb => ⟨(hM.vv.lt b hb).1, (HM7.out.vv.lt b hb).2⟩)).2).low p hpL⟩, hI, Below.refl _ _, hI.size⟩
            · intro L9 a wa hL hI hs hd
              have h5 : OwnV wa W7.heap.size S (a.eval (.tmp 111)) (L.take p ++ [l[j]]) := hd.1
              obtain ⟨A', c', e2, hs2⟩ := hd.2.1
              have e2 : a.eval (.tmp 115) = .slice A' (L.length - p) c' := e2
              refine op_append_vals_many (.tmp 111) (.tmp 115) rfl W7.heap.size S _ _ _ rfl h5 A' _ c' (L.drop p) (by rw [List.length_drop]) e2 hs2 (by simp; omega) hI.size (fun b hb h => by have := (h5.lt b hb).1; have := HM7.out.z.s b h; have := HM7.out.z.b.size; omega) (fun b h => by have := HM7.out.z.s b h; have := HM7.out.z.b.size; have := hI.size; omega) fun v' w' hO hg _ => ⟨_, rfl, hO, hI.trans (below_row hg (fun b hb => (h5.lt b hb).1) hI.size), below_row hg (fun b hb => (h5.lt b hb).1) hI.size, hI.size⟩
          · intro vs L9 W8 _ hI hall
            have h16 : OwnV W8 W7.heap.size S (vs 16) (L.take p ++ [l[j]] ++ L.drop p) := hall 16 _ (by omega) rfl (by kernel_rfl)
            clear hall
            simp only [List.take, List.drop, putL]
            generalize vs 0 = v0 at *
            generalize vs 1 = v1 at *
            generalize vs 2 = v2 at *
            generalize vs 3 = v3 at *
            generalize vs 4 = v4 at *
            generalize vs 5 = v5 at *
            generalize vs 6 = v6 at *
            generalize vs 7 = v7 at *
            generalize vs 8 = v8 at *
            generalize vs 9 = v9 at *
            generalize vs 10 = v10 at *
            generalize vs 11 = v11 at *
            generalize vs 12 = v12 at *
            generalize vs 13 = v13 at *
            generalize vs 14 = v14 at *
            generalize vs 15 = v15 at *
            generalize vs 16 = v16 at *
            obtain ⟨A16, c16, e16, _, _⟩ := h16.form
            generalize (L.take p ++ [l[j]] ++ L.drop p).length = n16 at e16
            subst e16
            have hM8 := HM7.out.below hI
            have cx := hM8.o.box.cell 4 _ rfl
            have fx := hM8.o.box.froz 4
            have gl := hM8.o.box.lt
            have HM8 := Keep.mk (HM7.out.putV hI h16)
            clear hM8 h16 hI
            go_wp2_with fail
            go_meet
            exact ⟨_, _, _, _, by simp; omega, by simp; omega, HNP2, HM8⟩
    case rest =>
    obtain ⟨vl, vk, K', L', hpL, hlL, HNP, HM2⟩ := hcut
    clear HM7 HLO HHI HBB hlc1 hlc2 hkc1 hkc2 HPK
    have HNP2 := Keep.mk (show PutK ks l (j + 1) K' (L'.set p l[j]) by
      have hld : l.getD j zeroJ = l[j] := by rw [List.getD_eq_getElem?_getD, List.getElem?_eq_getElem hlt2]; rfl
      have h1 := HNP.out
      rw [hld] at h1
      exact h1)
    clear HNP
    obtain ⟨gq, cq, hvl, hq1, hq2, hq3, hq4, hqc, hqf⟩ := HM2.out.vv.room p hpL
    subst hvl
    go_upto_region 21 with fail
    refine wp_world (fun W => MkS w W SK S T ks l A c (some ⟨g2, o2, none⟩) c2 g (.slice (some ⟨gq, 0, none⟩) L'.length cq) vk K' L') HM2.out ?_
    clear HM2 hq1 hq2 hqc hqf
    rintro W7 HM7
    replace HM7 := Keep.mk HM7
    obtain ⟨g2', o2', k1, m1, x1, s1, A1, n1, c1, A3, n3, c3, eA, hg2, hJ7, y0, y1, y2, y3, y4, y5⟩ := HM7.out.z.v.elem j hlt2
    injection eA with eA
    injection eA with e21 e22 _
    subst e21 e22
    have hgl2 : g2 < W7.heap.size := by have := HM7.out.z.t g2 hg2; have := HM7.out.z.b.size; omega
    have HJj := Keep.mk (fun wa (hI : Below W7.heap.size W7 wa) => hJ7.keep (W' := wa) (T := S) (fun b hb => hI.block b (by have := HM7.out.z.s b hb; have := HM7.out.z.b.size; omega)) (fun _ h => h))
    clear hJ7 hg2
    refine wp_region_rely 8 (fun _ w' => Below W7.heap.size W7 w') (fun
      | 0 => fun v _ => v = .pointer (some ⟨g, 4, none⟩)
      | 1 => fun v _ => v = .slice (some ⟨gq, 0, none⟩) L'.length cq
      | 2 => fun v _ => v = .int .i64 p
      | 3 => fun v _ => v = .slice (some ⟨g2, o2, none⟩) l.length c2
      | 4 => fun v _ => v = .int .i64 j
      | 5 => fun v _ => v = .pointer (some ⟨g2, o2 + j * 6, none⟩)
      | 6 => fun v _ => v = .agg (List.toArray (cells6 k1 m1 x1 s1 A1 n1 c1 A3 n3 c3))
      | 7 => fun v _ => v = .pointer (some ⟨gq, p * 6, none⟩)
      | _ => fun _ _ => True) (fun _ _ _ => True) (by kernel_rfl) (by kernel_rfl) (below_drawn W7) ?_ ?_ ?_
    · intro i j2 v w1 w2 _ _
      match j2 with
      | 0 | 1 | 2 | 3 | 4 | 5 | 6 | 7 => exact fun h => h
      | _ + 8 => exact fun h => h
    · simp only [List.take, stepHold]
      refine ⟨?_, ?_, ?_, ?_, ?_, ?_, ?_, ?_, trivial⟩
      · intro L9 a wa hL hI hs hd
        have e1 : a.eval (.tmp 7) = .pointer (some ⟨g, 0, none⟩) := hs 7 (by kernel_rfl)
        exact op_val _ (w' := wa) (by unfold execOp; simp only [e1]; go_simp) ⟨_, rfl, rfl, hI, trivial⟩
      · intro L9 a wa hL hI hs hd
        have hM := HM7.out.below hI
        have e1 : a.eval (.tmp 118) = .pointer (some ⟨g, 4, none⟩) := hd.1
        have cx := hM.o.box.cell 4 _ rfl
        have gl := hM.o.box.lt
        exact op_val _ (w' := wa) (by unfold execOp; simp only [e1]; go_simp) ⟨_, rfl, rfl, hI, trivial⟩
      · intro L9 a wa hL hI hs hd
        have e1 : a.eval (.tmp 10) = .int .i64 p := hs 10 (by kernel_rfl)
        exact op_val _ (w' := wa) (by unfold execOp; simp only [e1]; go_simp) ⟨_, rfl, rfl, hI, trivial⟩
      · intro L9 a wa hL hI hs hd
        have e1 : a.eval (.tmp 1) = .slice (some ⟨g2, o2, none⟩) l.length c2 := hs 1 (by kernel_rfl)
        exact op_val _ (w' := wa) (by unfold execOp; simp only [e1]; go_simp) ⟨_, rfl, rfl, hI, trivial⟩
      · intro L9 a wa hL hI hs hd
        have e1 : a.eval (.tmp 8) = .int .i64 j := hs 8 (by kernel_rfl)
        exact op_val _ (w' := wa) (by unfold execOp; simp only [e1]; go_simp) ⟨_, rfl, rfl, hI, trivial⟩
      · intro L9 a wa hL hI hs hd
        have e1 : a.eval (.tmp 121) = .slice (some ⟨g2, o2, none⟩) l.length c2 := hd.1
        have e2 : a.eval (.tmp 122) = .int .i64 j := hd.2.1
        exact op_val _ (w' := wa) (by unfold execOp; simp only [e1, e2]; go_simp) ⟨_, rfl, rfl, hI, trivial⟩
      · intro L9 a wa hL hI hs hd
        have e1 : a.eval (.tmp 123) = .pointer (some ⟨g2, o2 + j * 6, none⟩) := hd.1
        have gl : g2 < wa.heap.size := Nat.lt_of_lt_of_le hgl2 hI.size
        have cx0 := (hI.cell (p := ⟨g2, o2 + j * 6, none⟩) hgl2).trans y0
        have cx1 := (hI.cell (p := ⟨g2, o2 + j * 6 + 1, none⟩) hgl2).trans y1
        have cx2 := (hI.cell (p := ⟨g2, o2 + j * 6 + 2, none⟩) hgl2).trans y2
        have cx3 := (hI.cell (p := ⟨g2, o2 + j * 6 + 3, none⟩) hgl2).trans y3
        have cx4 := (hI.cell (p := ⟨g2, o2 + j * 6 + 4, none⟩) hgl2).trans y4
        have cx5 := (hI.cell (p := ⟨g2, o2 + j * 6 + 5, none⟩) hgl2).trans y5
        exact op_val _ (w' := wa) (by unfold execOp; simp only [e1]; go_simp; rfl) ⟨_, rfl, rfl, hI, trivial⟩
      · intro L9 a wa hL hI hs hd
        have e1 : a.eval (.tmp 119) = .slice (some ⟨gq, 0, none⟩) L'.length cq := hd.1
        have e2 : a.eval (.tmp 120) = .int .i64 p := hd.2.1
        have hpi : (p : Int) < (L'.length : Int) := by omega
        exact op_val _ (w' := wa) (by unfold execOp; simp only [e1, e2]; go_simp) ⟨_, rfl, rfl, hI, trivial⟩
    · intro vs L9 W8 _ hI hall
      simp only [List.take, allHold, gives] at hall
      obtain ⟨h0, h1, h2, h3, h4, h5, h6, h7, _⟩ := hall
      simp only [List.take, List.drop, putL]
      generalize vs 0 = v0 at *
      generalize vs 1 = v1 at *
      generalize vs 2 = v2 at *
      generalize vs 3 = v3 at *
      generalize vs 4 = v4 at *
      generalize vs 5 = v5 at *
      generalize vs 6 = v6 at *
      generalize vs 7 = v7 at *
      subst v0 v1 v2 v3 v4 v5 v6 v7
      have HM8 := Keep.mk (HM7.out.below hI)
      have HJ8 := HJj.out W8 hI
      obtain ⟨gq', cq', hvl, _, hq2, _, _, hqc, hqf⟩ := HM8.out.vv.room p hpL
      injection hvl with hvl _ _
      injection hvl with hvl
      injection hvl with hvl _ _
      subst hvl
      obtain ⟨u0, cx0⟩ := hqc 0 (by omega)
      obtain ⟨u1, cx1⟩ := hqc 1 (by omega)
      obtain ⟨u2, cx2⟩ := hqc 2 (by omega)
      obtain ⟨u3, cx3⟩ := hqc 3 (by omega)
      obtain ⟨u4, cx4⟩ := hqc 4 (by omega)
      obtain ⟨u5, cx5⟩ := hqc 5 (by omega)
      rw [Nat.add_zero] at cx0
      have fx0 := hqf (p * 6)
      have fx1 := hqf (p * 6 + 1)
      have fx2 := hqf (p * 6 + 2)
      have fx3 := hqf (p * 6 + 3)
      have fx4 := hqf (p * 6 + 4)
      have fx5 := hqf (p * 6 + 5)
      have HM9 := Keep.mk (HM8.out.setV hpL HJ8)
      clear hqc hqf HM8 HJ8 HJj HM7 hI y0 y1 y2 y3 y4 y5 HLK
      simp only [cells6] at HM9 ⊢
      go_wp2
      go_roundg (GK - 1)
      case rel => exact ⟨j + 1, _, _, _, _, by omega, by go_num, HRN2, HNP2, HM9⟩
      case measure => omega
  case neg =>
    obtain rfl : j = ks.length := by omega
    have hmo := made_of HPK.out HLEN.out HVD.out (fun i hi => HR.out i hi (by have := HLEN.out; omega))
    have HMD := Keep.mk hmo.2
    have HDP := Keep.mk hmo.1
    obtain ⟨Al, cl, hvl, hlc1, hlc2⟩ := HM.out.vv.form
    subst hvl
    obtain ⟨Ak, ck, hvk, hkc1, hkc2⟩ := HM.out.kk.form
    subst hvk
    have hKl := HPK.out.size
    have hLl : L.length ≤ 1000003 := by have := HPK.out.len; omega
    clear hmo
    have HJI := Keep.mk (show JIn wr (fun b => S b ∨ (g + 1 ≤ b ∧ b < wr.heap.size)) (.mk 6 0 0 ⟨#[]⟩ L K) (cells6 6 0 0 ⟨#[]⟩ Al L.length cl Ak K.length ck) from
      JIn.shut ⟨by decide, by decide⟩ ⟨by decide, by decide⟩ ⟨by decide, by decide⟩ (by decide) (HM.out.kk.strs (T := fun b => S b ∨ (g + 1 ≤ b ∧ b < wr.heap.size)) (by omega) (fun b hb => Or.inr (HM.out.kk.lt b hb))).2
        (HM.out.vv.vals (T := fun b => S b ∨ (g + 1 ≤ b ∧ b < wr.heap.size)) (by omega) (fun _ h => Or.inl h) (fun b hb => Or.inr (HM.out.vv.lt b hb))).2)
    have HC := Keep.mk (ref3_DepthD _ _ (Nat.le_refl _) (Nat.le_trans HDP.out (by omega)) wr _ (HJI.out.at (fun b hb => by
      rcases hb with hb | hb
      · have := HM.out.z.s b hb; have := HM.out.z.b.size; omega
      · exact hb.2)))
    have hob := HM.out.o.box
    have y0 := hob.cell 0 _ rfl
    have y1 := hob.cell 1 _ rfl
    have y2 := hob.cell 2 _ rfl
    have y3 := hob.cell 3 _ rfl
    have y4 := hob.cell 4 _ rfl
    have y5 := hob.cell 5 _ rfl
    have hol := hob.lt
    have hdp := HDP.out
    clear hob HDP HPK HR hlt
    generalize depthJ (.mk 6 0 0 ⟨#[]⟩ L K) = dp at *
    go_wp2_with fail
    refine HC.out.mono ?_
    rintro r w4 ⟨rfl, hb4⟩
    have HM4 := Keep.mk (HM.out.below hb4)
    have HJ4 := Keep.mk (HJI.out.keep (W' := w4) (T := fun b => S b ∨ (g + 1 ≤ b ∧ b < w4.heap.size)) (fun b hb => hb4.block b (by
      rcases hb with hb | hb
      · have := HM.out.z.s b hb; have := HM.out.z.b.size; omega
      · exact hb.2)) (fun b hb => hb.imp id (fun hb => ⟨hb.1, Nat.lt_of_lt_of_le hb.2 hb4.size⟩)))
    clear hb4 HM HJI HC y0 y1 y2 y3 y4 y5 hol
    by_cases hd : 48 < dp
    · have HE := Keep.mk (show makeJ ks l = (zeroJ, 31) by rw [HMD.out, if_pos hd])
      have hd2 : (48 : Int) < dp := by omega
      have HM5 := Keep.mk HM4.out.z
      clear HMD hd HM4 HJ4
      have hrb := HM5.out.r.box
      have r0 := hrb.cell 0 _ rfl
      have z0 := hrb.froz 0
      have r1 := hrb.cell 1 _ rfl
      have z1 := hrb.froz 1
      have r2 := hrb.cell 2 _ rfl
      have z2 := hrb.froz 2
      have r3 := hrb.cell 3 _ rfl
      have z3 := hrb.froz 3
      have r4 := hrb.cell 4 _ rfl
      have z4 := hrb.froz 4
      have r5 := hrb.cell 5 _ rfl
      have z5 := hrb.froz 5
      have hrl := hrb.lt
      clear hrb
      have HBZ := Keep.mk (HM5.out.b.trans (six_below _ w.heap.size (.int .i64 0) (.int .i64 0) (.int .i64 0) (.string ⟨#[]⟩) (.slice none 0 0) (.slice none 0 0) (Nat.le_refl _)))
      go_wp2
      refine bodyPost_ret (v := .tuple #[.agg (List.toArray zero6), .int .i64 31]) ?_ rfl ⟨zero6, by rw [HE.out], by rw [HE.out]; exact zero_in _ _, HBZ.out⟩
      simp [zero6, cells6, results, Tryz.results26, go_sem, r0, r1, r2, r3, r4, r5]
    · have HE := Keep.mk (show makeJ ks l = (.mk 6 0 0 ⟨#[]⟩ L K, 0) by rw [HMD.out, if_neg hd])
      have hd2 : ¬ (48 : Int) < dp := by omega
      have hob := HM4.out.o.box
      have y0 := hob.cell 0 _ rfl
      have y1 := hob.cell 1 _ rfl
      have y2 := hob.cell 2 _ rfl
      have y3 := hob.cell 3 _ rfl
      have y4 := hob.cell 4 _ rfl
      have y5 := hob.cell 5 _ rfl
      have hol := hob.lt
      clear hob
      have hrb := HM4.out.z.r.box
      have r0 := hrb.cell 0 _ rfl
      have z0 := hrb.froz 0
      have r1 := hrb.cell 1 _ rfl
      have z1 := hrb.froz 1
      have r2 := hrb.cell 2 _ rfl
      have z2 := hrb.froz 2
      have r3 := hrb.cell 3 _ rfl
      have z3 := hrb.froz 3
      have r4 := hrb.cell 4 _ rfl
      have z4 := hrb.froz 4
      have r5 := hrb.cell 5 _ rfl
      have z5 := hrb.froz 5
      have hrl := hrb.lt
      clear hrb
      have HJ5 := Keep.mk (show JIn (six w4 w.heap.size (.int .i64 6) (.int .i64 0) (.int .i64 0) (.string ⟨#[]⟩) (.slice Al L.length cl) (.slice Ak K.length ck)) (fun b => S b ∨ newIn w (six w4 w.heap.size (.int .i64 6) (.int .i64 0) (.int .i64 0) (.string ⟨#[]⟩) (.slice Al L.length cl) (.slice Ak K.length ck)) b) (.mk 6 0 0 ⟨#[]⟩ L K) (cells6 6 0 0 ⟨#[]⟩ Al L.length cl Ak K.length ck) from
        HJ4.out.keep (fun b hb => six_other _ _ _ _ _ _ _ _ b (by
          have := HM4.out.gB
          rcases hb with hb | hb
          · have := HM4.out.z.s b hb; omega
          · omega)) (fun b hb => hb.imp id (fun hb => ⟨by have := HM4.out.gB; omega, by have := hb.2; simpa [six] using this⟩)))
      have HB5 := Keep.mk (HM4.out.z.b.trans (six_below w4 w.heap.size (.int .i64 6) (.int .i64 0) (.int .i64 0) (.string ⟨#[]⟩) (.slice Al L.length cl) (.slice Ak K.length ck) (Nat.le_refl _)))
      clear hd HMD HM4 HJ4
      go_wp2
      refine bodyPost_ret (v := .tuple #[.agg (List.toArray (cells6 6 0 0 ⟨#[]⟩ Al L.length cl Ak K.length ck)), .int .i64 0]) ?_ rfl ⟨_, by rw [HE.out], by rw [HE.out]; exact HJ5.out, HB5.out⟩
      simp [cells6, results, Tryz.results26, go_sem, r0, r1, r2, r3, r4, r5]
end Go.Proofs.YtbngjlkmpdccjaaGreatDoor
