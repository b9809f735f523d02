/- Lemmas and contracts. Conditions: those that each lemma names. -/
import Derived.Test.YtakncilicoefdaaGreatDoorPt46
set_option maxRecDepth 100000
set_option maxHeartbeats 8000000
namespace Go.Proofs.YtakncilicoefdaaGreatDoor
open Go Go.Deep Go.WideElems Go.ChangeShapes Go.WideShapes Go.ChangeAt Go.RowKit Go.Proofs Th
noncomputable def laidR : List (String × DataW Unit) := Rows.spellPrintsRow.laid
theorem TU {W : World} (h : laidMetH Tryz.prog laidR W) : GlobW W := by
 have ht : Lib.TabIs Tryz.prog W "thimble/num.tens" .u64 VR :=
  Lib.tabIs_of_head (rest := []) T8 WZ Tryz.underlying96 Tryz.underlying72 M5 JI (h.filter fun x => x.1 == "thimble/num.tens")
 have hp : Lib.TabIs Tryz.prog W "internal/strconv.uint64pow10" .u64 Lib.pow10Tab :=
  Lib.tabIs_of_head (rest := []) Wx WU Tryz.underlying96 Tryz.underlying72 M5 JI (h.filter fun x => x.1 == "internal/strconv.uint64pow10")
 have h3 : Lib.VarReads Tryz.prog W "unicode/utf8.first" Go.Pinned.utf8First := Lib.laidMet.reads (l := [("unicode/utf8.first", Go.Pinned.utf8First)]) (h.filter fun x => x.1 == "unicode/utf8.first") (.head _); have h4 : Lib.VarReads Tryz.prog W "unicode/utf8.acceptRanges" Rows.laid_unicode_utf8_acceptRanges := Lib.laidMet.reads (l := [("unicode/utf8.acceptRanges", Rows.laid_unicode_utf8_acceptRanges)]) (h.filter fun x => x.1 == "unicode/utf8.acceptRanges") (.head _); rw [PL] at h3; rw [OG] at h4; refine ⟨⟨⟨fun i hi => ?_⟩, hp⟩, utf8Tabs_of_readsT (U8Types.of260 NU) ⟨by kernel_rfl, by kernel_rfl, by kernel_rfl, by kernel_rfl, by kernel_rfl, by kernel_rfl, by kernel_rfl⟩ h3 h4⟩; rw [ht.cell T8 i hi]; congr 2
 revert i; decide
noncomputable def E4 (os : Os) : World :=
 { World.holding Tryz.prog os ⟨#[], #[], []⟩ with heap := laidR.foldl lay (World.holding Tryz.prog os ⟨#[], #[], []⟩).heap }
theorem RG (os : Os) : laidMet Tryz.prog laidR (E4 os) :=
 laidMet_of_run3 8 (by kernel_rfl) (by kernel_rfl) (by kernel_rfl)
theorem Sg {W : World} (h : W.ShapedOpen Tryz.prog) : GlobX W := Tryz.laysM143.s1_3 W h
theorem TT {P : Program} {w w' : World} {name : String} {k : IntKind} {zs : List Int} (h : Lib.TabIs P w name k zs) (hz : zs ≠ []) (hc : ∀ g o, g < w.heap.size → w'.cell? ⟨g, o, none⟩ = w.cell? ⟨g, o, none⟩) : Lib.TabIs P w' name k zs := by
 unfold Lib.TabIs World.var? at *; cases hg : P.globalNamed name with
 | none => simp [hg] at h
 | some g =>
  simp only [hg, Option.bind_some] at h ⊢; cases hw : w.heap[g]? with
  | none => rw [hw] at h; cases h
  | some b =>
   have hlt : g < w.heap.size := (Array.getElem?_eq_some_iff.1 hw).1; rw [hw] at h; cases b with
   | cells cs e f =>
    have h : some cs = _ := h; have hcell : ∀ o, w'.cell? ⟨g, o, none⟩ = cs[o]? := fun o => by
     rw [hc g o hlt]; unfold World.cell?; rw [hw]; rfl
    injection h with h; obtain ⟨z, r, rfl⟩ := List.exists_cons_of_ne_nil hz; have h0 := hcell 0; rw [h] at h0; unfold World.cell? at hcell h0; dsimp only at hcell h0; cases hw2 : w'.heap[g]? with
    | none => rw [hw2] at h0; simp at h0
    | some b2 =>
     rw [hw2] at h0 hcell; cases b2 with
     | cells c2 e2 f2 =>
      show some c2 = _
      rw [← h]; congr 1
      exact Array.ext_getElem? fun o => by simpa using hcell o
     | _ => simp at h0
   | _ => cases h
theorem Vw {W : World} (hg : GlobW W) (hm : GlobX W) : GY W (FC W) := fun W' hc => by
 have hcell : ∀ {g o : Nat} {v : Value}, W.cell? ⟨g, o, none⟩ = some v → W'.cell? ⟨g, o, none⟩ = some v := fun {g o v} h => (hc g o (Bm h)).trans h
 obtain ⟨m, hm⟩ := hm; exact ⟨⟨⟨⟨fun i hi => hcell (hg.num.weak.tens i hi)⟩, TT hg.num.pows (by decide) fun g o h => hc g o h⟩, ⟨fun c h => hcell (hg.utf.1 c h), fun i hi => ⟨hcell (hg.utf.2 i hi).1, hcell (hg.utf.2 i hi).2⟩⟩⟩, m, hcell hm⟩
theorem N3 {f : FuncId} {xa : List IV} {us : List Value} {W : World} (h : ACalls Tryz.prog GY f none xa (.ret (bI true) [])) (hg : GlobW W) (hm : GlobX W) (hx : RepL W (FC W) xa us) : Calls Tryz.prog f us.toArray W fun e W' => e = .returned (.bool true) ∧ Below W.heap.size W W' :=
 (h.2 W _ 0 us (Vw hg hm) (fun _ _ h => h) (fun _ h => by cases h) hx).mono fun e W' ⟨⟨u, he, hr⟩, _, hb⟩ => by
  obtain rfl := Cz hr; exact ⟨he, hb.os, hb.tape, hb.output, hb.size, fun k hk => hb.block k hk (fun h => by cases h.1)⟩
theorem UF {W : World} {t : NJ} {cs : List Value} (h : RepL W (FC W) (Ag t) cs) : RepL W (FC W) [.agg (Ag t)] [.agg cs.toArray] := RepL.cons (.agg h.1 h.2) (RepL.nil _ _)
open Go Go.RowKit Go.Proofs Th
def TF (n : Int) : NJ := .mk 2 ⟨#[]⟩ n 0 [] []
theorem Ux : Tryz.prog.underlying 4 = some .bool := by kernel_rfl
def prJ (n : NJ) : ByteArray × Int := if Ch 48 n = true then (spJ n, 0) else (⟨#[]⟩, 2)
set_option maxRecDepth 8000
attribute [local go_sem] sel
attribute [local go_sem] Aa ByteArray.size_append bsz eap ape
variable {G : World → CS → Prop}
attribute [local go_sem] Ux
theorem Jz (gk : GK G) (hN : Ki G) (hQ : Ku G) (hP : Ms G) (hW : IG G) (n : NJ) (hn : Cy n) (hw : wtJ n ≤ 100000) : ACalls Tryz.prog G 9 none [.agg (Ag n)] (.ret (.tup [sI (prJ n).1, iI (prJ n).2]) []) := by
 have cr := Jn gk hN hQ n hn; have ht : Ch 48 n = true → AE G n := fun h => by
  rw [Ht, Bool.and_eq_true] at h; exact Pd gk hP hW (Bp n) n (Nat.le_refl _) h.2 hn hw
 unfold AE at ht; unfold prJ; generalize Ch 48 n = z at *; cases z
 ·rw [if_neg (by decide)]
  clear ht; obtain ⟨k1, t1, m1, q1, l1, b1⟩ := n; refine ACalls.enter Tryz.func9 rfl rfl gk Tryz.ntmps9 fun X F => ?_
  apply Ar F; go_simp; apply Ar F; go_simp; refine ⟨_, cr, ?_⟩; go_simp; (repeat apply Aq); refine At (by go_simp) ?_; apply Ar F; go_simp; apply Au; go_simp
 rw [if_pos rfl]; have ct := ht rfl; clear ht; generalize spJ n = u at *; obtain ⟨k1, t1, m1, q1, l1, b1⟩ := n; refine ACalls.enter Tryz.func9 rfl rfl gk Tryz.ntmps9 fun X F => ?_
 apply Ar F; go_simp; apply Ar F; go_simp; refine ⟨_, cr, ?_⟩; go_simp; (repeat apply Aq); refine Af (by go_simp) ?_; apply As; go_simp; apply Ar F; go_simp; refine ⟨_, ct, ?_⟩; go_simp; apply Au; go_simp
theorem UH (gk : GK G) (hN : Ir G) (hQ : Iq G) (hR : IC G) (hP : Mp G) (hW : Gd G) (n : NJ) (hn : Cy n) (hw : wtJ n ≤ 100000) : ACalls Tryz.prog G 10 none [.agg (Ag n)] (.ret (.tup [sI (prJ n).1, iI (prJ n).2]) []) := by
 have cr := LK gk hN hQ hR n hn (Jm n (by omega)) (by have := NS n; omega); have ht : Ch 48 n = true → TxR G n := fun h => by
  rw [Ht, Bool.and_eq_true] at h; exact QO gk hP hW (Bp n) n (Nat.le_refl _) h.2 hn hw
 unfold TxR at ht; unfold prJ; generalize Ch 48 n = z at *; cases z
 ·rw [if_neg (by decide)]
  clear ht; obtain ⟨k1, t1, m1, q1, l1, b1⟩ := n; refine ACalls.enter Tryz.func10 rfl rfl gk Tryz.ntmps10 fun X F => ?_
  apply Ar F; go_simp; apply Ar F; go_simp; refine ⟨_, cr, ?_⟩; go_simp; (repeat apply Aq); refine At (by go_simp) ?_; apply Ar F; go_simp; apply Au; go_simp
 rw [if_pos rfl]; have ct := ht rfl; clear ht; generalize spJ n = u at *; obtain ⟨k1, t1, m1, q1, l1, b1⟩ := n; refine ACalls.enter Tryz.func10 rfl rfl gk Tryz.ntmps10 fun X F => ?_
 apply Ar F; go_simp; apply Ar F; go_simp; refine ⟨_, cr, ?_⟩; go_simp; (repeat apply Aq); refine Af (by go_simp) ?_; apply As; go_simp; apply Ar F; go_simp; refine ⟨_, ct, ?_⟩; go_simp; apply Au; go_simp
def wn1 : NJ := (BX 8 ⟨#[]⟩ (BX 10 ⟨#[43]⟩ (BX 5 ⟨#[]⟩ Dh (Dp ⟨#[97]⟩)) (TF 1)) (.mk 23 ⟨#[102]⟩ 0 0 [] []))
def wn2 : NJ := (.mk 16 ⟨#[]⟩ 0 0 [Dp ⟨#[97]⟩, BX 5 ⟨#[]⟩ Dh (Dp ⟨#[97]⟩)] [])
theorem wp1 : ∃ j, BO 80 (G1 (toL ⟨#[46, 97, 43, 49, 124, 102]⟩) 0) .whole 0 = some (.ok wn1 j) := ⟨5, by kernel_rfl⟩
theorem ws1 : (B5 (toL ⟨#[46, 97, 43, 49, 124, 102]⟩)).2.2 = 0 := by kernel_rfl
theorem wd1 : shJ 48 wn1 = true := by kernel_rfl
theorem wc1 : ACalls Tryz.prog GY 15 none [sI ⟨#[46, 97, 43, 49, 124, 102]⟩] (.ret (.tup [.agg (Ag wn1), iI 0, iI 0]) []) := by
 obtain ⟨j, hj⟩ := wp1; have := NV ⟨#[46, 97, 43, 49, 124, 102]⟩ (of_decide_eq_true (by kernel_rfl)) (by decide) ws1 80 _ hj; simp only [KA, wd1, if_true] at this; exact this.weak fun _ _ h => h.gx
theorem wm1 : Ch 48 wn1 = true := by kernel_rfl
theorem wt1 : spJ wn1 = ⟨#[40, 40, 46, 91, 34, 97, 34, 93, 32, 43, 32, 49, 41, 32, 124, 32, 102, 41]⟩ := by kernel_rfl
theorem wo1 : Cy wn1 := by
 unfold wn1; simp [Cy, FW, BX, TF, Dp, Dh, bsz]; repeat' constructor
 all_goals decide
theorem wz1 : wtJ wn1 ≤ 100000 := by decide
theorem wp2 : ∃ j, BO 80 (G1 (toL ⟨#[123, 97, 125]⟩) 0) .whole 0 = some (.ok wn2 j) := ⟨3, by kernel_rfl⟩
theorem ws2 : (B5 (toL ⟨#[123, 97, 125]⟩)).2.2 = 0 := by kernel_rfl
theorem wd2 : shJ 48 wn2 = true := by kernel_rfl
theorem wc2 : ACalls Tryz.prog GY 15 none [sI ⟨#[123, 97, 125]⟩] (.ret (.tup [.agg (Ag wn2), iI 0, iI 0]) []) := by
 obtain ⟨j, hj⟩ := wp2; have := NV ⟨#[123, 97, 125]⟩ (of_decide_eq_true (by kernel_rfl)) (by decide) ws2 80 _ hj; simp only [KA, wd2, if_true] at this; exact this.weak fun _ _ h => h.gx
theorem wm2 : Ch 48 wn2 = true := by kernel_rfl
theorem wt2 : spJ wn2 = ⟨#[123, 40, 34, 97, 34, 41, 58, 32, 46, 91, 34, 97, 34, 93, 125]⟩ := by kernel_rfl
theorem wo2 : Cy wn2 := by
 unfold wn2; simp [Cy, FW, BX, Dp, Dh, bsz]; repeat' constructor
 all_goals decide
theorem wz2 : wtJ wn2 ≤ 100000 := by decide
theorem Xc : ACalls Tryz.prog GY 9 none [.agg (Ag wn1)] (.ret (.tup [sI ⟨#[40, 40, 46, 91, 34, 97, 34, 93, 32, 43, 32, 49, 41, 32, 124, 32, 102, 41]⟩, iI 0]) []) := by
 have := Jz gkY H3 Ha Nu NI wn1 wo1 wz1; unfold prJ at this; rw [wm1, if_pos rfl, wt1] at this; exact this
theorem Xp : ACalls Tryz.prog GY 9 none [.agg (Ag wn2)] (.ret (.tup [sI ⟨#[123, 40, 34, 97, 34, 41, 58, 32, 46, 91, 34, 97, 34, 93, 125]⟩, iI 0]) []) := by
 have := Jz gkY H3 Ha Nu NI wn2 wo2 wz2; unfold prJ at this; rw [wm2, if_pos rfl, wt2] at this; exact this
mutual
theorem LI : ∀ n : NJ, EL n n = true
 | .mk k s m e l a => by rw [EL, Kh l]; simp
theorem Kh : ∀ l : List NJ, CI l l = true
 | [] => by rw [CI]
 | n :: r => by rw [CI, LI n, Kh r]; rfl
end
theorem N7 : ACalls Tryz.prog GY 8 none [] (.ret (bI true) []) := by
 have gk := gkY; have c1 := wc1; have c2 := Xc; have c3 := wc2; have c4 := Xp; have c5 := US gkY (Bp wn1) wn1 (Nat.le_refl _) wn1; have c6 := Jn gkY H3 Ha wn1 wo1; rw [LI] at c5; rw [wm1] at c6; generalize wn1 = n at *; generalize wn2 = n2 at *; obtain ⟨k1, t1, m1, q1, l1, b1⟩ := n; obtain ⟨k2, t2, m2, q2, l2, b2⟩ := n2; refine ACalls.enter Tryz.func8 rfl rfl gk Tryz.ntmps8 fun X F => ?_
 apply Ar F; go_simp; apply Ar F; go_simp; refine ⟨_, c1, ?_⟩; go_simp; apply Ar F; go_simp; refine ⟨_, c2, ?_⟩; go_simp; apply Ar F; go_simp; refine ⟨_, c3, ?_⟩; go_simp; apply Ar F; go_simp; refine ⟨_, c4, ?_⟩; go_simp; (repeat apply Aq); refine Ah F [0, 1, 2, 3, 4, 5, 6, 7] [8, 9, 10, 11, 12, 13, 14, 15, 16, 17, 18, 19, 20, 21, 22, 23, 24, 25, 26, 27, 28, 29, 30, 31] (by rfl) ?_; go_simp; apply lK 8; go_simp; apply lK 8; go_simp; apply lK 1; go_simp; apply lK 4; go_simp; refine ⟨_, c5, ?_⟩; go_simp; refine Ac ?_; go_simp; refine ⟨_, c6, ?_⟩; go_simp; apply Au; go_simp
theorem Pm (n : NJ) (hn : Cy n) : ACalls Tryz.prog GY 3 none [.agg (Ag n)] (.ret (bI true) []) := by
 have gk := gkY; have cw := N7; have ca := Wc gkY (Bp n) n (Nat.le_refl _) 1000 (by decide) hn; rw [show ((1000 : Nat) : Int) = 1000 from rfl] at ca; by_cases h1 : (1000 : Int) < (Dd n 1000 : Int)
 ·generalize Dd n 1000 = na at *
  obtain ⟨k1, t1, m1, q1, l1, b1⟩ := n; refine ACalls.enter Tryz.func3 rfl rfl gk Tryz.ntmps3 fun X F => ?_
  apply Ar F; go_simp; apply Ar F; go_simp; refine ⟨_, ca, ?_⟩; go_simp; (repeat apply Aq); refine At (by go_simp) ?_; apply Ar F; go_simp; refine ⟨_, cw, ?_⟩; go_simp; apply Au; go_simp
 have hw : wtJ n ≤ 100000 := by have h2 := Pc n 1000 (by omega); omega
 have cp := Jz gkY H3 Ha Nu NI n hn hw; have cr := UH gkY Q7 Rb Rr We VC n hn hw; have cR := Jn gkY H3 Ha n hn; have cS := LK gkY Q7 Rb Rr n hn (Jm n (by omega)) (by have := NS n; omega); generalize Dd n 1000 = na at *; generalize Ch 48 n = z at *; generalize (prJ n).1 = u at *; generalize (prJ n).2 = v at *; clear hw; obtain ⟨k1, t1, m1, q1, l1, b1⟩ := n; refine ACalls.enter Tryz.func3 rfl rfl gk Tryz.ntmps3 fun X F => ?_
 apply Ar F; go_simp; apply Ar F; go_simp; refine ⟨_, ca, ?_⟩; go_simp; (repeat apply Aq); refine Af (by go_simp) ?_; apply As; go_simp; apply Ar F; go_simp; refine ⟨_, cp, ?_⟩; go_simp; apply Ar F; go_simp; refine ⟨_, cr, ?_⟩; go_simp; (repeat apply Aq); refine Vi F [0, 2, 1, 3] [4, 5, 6, 7, 8, 9, 10, 11, 12, 13, 14, 15, 16, 17, 18] [(2, 1)] mixed (by kernel_rfl) (by rfl) ?_; go_simp; refine ⟨_, cR, ?_⟩; go_simp; refine ⟨_, cS, ?_⟩; go_simp; apply lK 5; go_simp; apply lK 5; go_simp; apply lK 3; go_simp; refine ⟨_, cw, ?_⟩; go_simp; refine Ac ?_; go_simp; apply Au; go_simp
end Go.Proofs.YtakncilicoefdaaGreatDoor
