/- Lemmas and contracts. Conditions: those that each lemma names. -/
import Derived.Test.YtakncilicoefdaaGreatDoorPz45
set_option maxRecDepth 100000
set_option maxHeartbeats 8000000
namespace Go.Proofs.YtakncilicoefdaaGreatDoor
open Go Go.Deep Go.WideElems Go.ChangeShapes Go.WideShapes Go.ChangeAt Go.RowKit Go.Proofs Th
noncomputable def laidR : List (String × DataW Unit) := Rows.spellPrintsRow.laid
theorem Wo {W : World} (h : laidMetH Tryz.prog laidR W) : GlobW W := by
 have ht : Lib.TabIs Tryz.prog W "thimble/num.tens" .u64 YY :=
  Lib.tabIs_of_head (rest := []) Xu Z4 Tryz.underlying96 Tryz.underlying72 O5 Ml (h.filter fun x => x.1 == "thimble/num.tens")
 have hp : Lib.TabIs Tryz.prog W "internal/strconv.uint64pow10" .u64 Lib.pow10Tab :=
  Lib.tabIs_of_head (rest := []) aa Z5 Tryz.underlying96 Tryz.underlying72 O5 Ml (h.filter fun x => x.1 == "internal/strconv.uint64pow10")
 have h3 : Lib.VarReads Tryz.prog W "unicode/utf8.first" Go.Pinned.utf8First := Lib.laidMet.reads (l := [("unicode/utf8.first", Go.Pinned.utf8First)]) (h.filter fun x => x.1 == "unicode/utf8.first") (.head _); have h4 : Lib.VarReads Tryz.prog W "unicode/utf8.acceptRanges" Rows.laid_unicode_utf8_acceptRanges := Lib.laidMet.reads (l := [("unicode/utf8.acceptRanges", Rows.laid_unicode_utf8_acceptRanges)]) (h.filter fun x => x.1 == "unicode/utf8.acceptRanges") (.head _); rw [SJ] at h3; rw [QB] at h4; refine ⟨⟨⟨fun i hi => ?_⟩, hp⟩, utf8Tabs_of_readsT (U8Types.of260 Oy) ⟨by kernel_rfl, by kernel_rfl, by kernel_rfl, by kernel_rfl, by kernel_rfl, by kernel_rfl, by kernel_rfl⟩ h3 h4⟩; rw [ht.cell Xu i hi]; congr 2
 revert i; decide
noncomputable def Ge (os : Os) : World :=
 { World.holding Tryz.prog os ⟨#[], #[], []⟩ with heap := laidR.foldl lay (World.holding Tryz.prog os ⟨#[], #[], []⟩).heap }
theorem Ts (os : Os) : laidMet Tryz.prog laidR (Ge os) :=
 laidMet_of_run3 8 (by kernel_rfl) (by kernel_rfl) (by kernel_rfl)
theorem Wy {W : World} (h : W.ShapedOpen Tryz.prog) : GlobX W := Tryz.laysM143.s1_3 W h
theorem WU {P : Program} {w w' : World} {name : String} {k : IntKind} {zs : List Int} (h : Lib.TabIs P w name k zs) (hz : zs ≠ []) (hc : ∀ g o, g < w.heap.size → w'.cell? ⟨g, o, none⟩ = w.cell? ⟨g, o, none⟩) : Lib.TabIs P w' name k zs := by
 unfold Lib.TabIs World.var? at *; cases hg : P.globalNamed name with
 | none => simp [hg] at h
 | some g =>
  simp only [hg, Option.bind_some] at h ⊢; cases hw : w.heap[g]? with
  | none => rw [hw] at h; cases h
  | some b =>
   have hlt : g < w.heap.size := (Array.getElem?_eq_some_iff.1 hw).1; rw [hw] at h; cases b with
   | cells cs e f =>
    have h : some cs = _ := h; have hcell : ∀ o, w'.cell? ⟨g, o, none⟩ = cs[o]? := fun o => by
     rw [hc g o hlt]; unfold World.cell?; rw [hw]; rfl
    injection h with h; obtain ⟨z, r, rfl⟩ := List.exists_cons_of_ne_nil hz; have h0 := hcell 0; rw [h] at h0; unfold World.cell? at hcell h0; dsimp only at hcell h0; cases hw2 : w'.heap[g]? with
    | none => rw [hw2] at h0; simp at h0
    | some b2 =>
     rw [hw2] at h0 hcell; cases b2 with
     | cells c2 e2 f2 =>
      show some c2 = _
      rw [← h]; congr 1
      exact Array.ext_getElem? fun o => by simpa using hcell o
     | _ => simp at h0
   | _ => cases h
theorem Zn {W : World} (hg : GlobW W) (hm : GlobX W) : GY W (VR W) := fun W' hc => by
 have hcell : ∀ {g o : Nat} {v : Value}, W.cell? ⟨g, o, none⟩ = some v → W'.cell? ⟨g, o, none⟩ = some v := fun {g o v} h => (hc g o (BX h)).trans h
 obtain ⟨m, hm⟩ := hm; exact ⟨⟨⟨⟨fun i hi => hcell (hg.num.weak.tens i hi)⟩, WU hg.num.pows (by decide) fun g o h => hc g o h⟩, ⟨fun c h => hcell (hg.utf.1 c h), fun i hi => ⟨hcell (hg.utf.2 i hi).1, hcell (hg.utf.2 i hi).2⟩⟩⟩, m, hcell hm⟩
theorem QP {f : FuncId} {xa : List IV} {us : List Value} {W : World} (h : ACalls Tryz.prog GY f none xa (.ret (bI true) [])) (hg : GlobW W) (hm : GlobX W) (hx : RepL W (VR W) xa us) : Calls Tryz.prog f us.toArray W fun e W' => e = .returned (.bool true) ∧ Below W.heap.size W W' :=
 (h.2 W _ 0 us (Zn hg hm) (fun _ _ h => h) (fun _ h => by cases h) hx).mono fun e W' ⟨⟨u, he, hr⟩, _, hb⟩ => by
  obtain rfl := Dl hr; exact ⟨he, hb.os, hb.tape, hb.output, hb.size, fun k hk => hb.block k hk (fun h => by cases h.1)⟩
theorem XL {W : World} {s t : ByteArray} : RepL W (VR W) [sI s, sI t] [.string s, .string t] := RepL.cons (.v _) (RepL.cons (.v _) (RepL.nil _ _))
open Go Go.RowKit Go.Proofs Th
def prJ (n : NJ) : ByteArray × Int := if De 48 n = true then (spJ n, 0) else (⟨#[]⟩, 2)
set_option maxRecDepth 8000
attribute [local go_sem] sel
attribute [local go_sem] Ah ByteArray.size_append bsz eap ape
variable {G : World → CS → Prop}
theorem I9 (gk : GK G) (hN : L0 G) (hQ : LS G) (hP : Of G) (hW : Kc G) (n : NJ) (hn : FE n) (hs : De 48 n = true → (spJ n).size ≤ 60000000000 ∧ smB n = true) : ACalls Tryz.prog G 9 none [.agg (Al n)] (.ret (.tup [sI (prJ n).1, iI (prJ n).2]) []) := by
 have cr := K8 gk hN hQ n hn; have ht : De 48 n = true → AP G n := fun h => by
  have h2 := h; rw [Mb, Bool.and_eq_true] at h2; exact QU gk hP hW (AB n) n (Nat.le_refl _) h2.2 hn (hs h).1 (hs h).2
 unfold AP at ht; unfold prJ; generalize De 48 n = z at *; cases z
 ·rw [if_neg (by decide)]
  clear ht; obtain ⟨k1, t1, m1, q1, l1, b1⟩ := n; refine ACalls.enter Tryz.func9 rfl rfl gk Tryz.ntmps9 fun X F => ?_
  apply Ar F; go_simp; apply Ar F; go_simp; refine ⟨_, cr, ?_⟩; go_simp; (repeat apply Aq); refine At (by go_simp) ?_; apply Ar F; go_simp; apply Au; go_simp
 rw [if_pos rfl]; have ct := ht rfl; clear ht; generalize spJ n = u at *; obtain ⟨k1, t1, m1, q1, l1, b1⟩ := n; refine ACalls.enter Tryz.func9 rfl rfl gk Tryz.ntmps9 fun X F => ?_
 apply Ar F; go_simp; apply Ar F; go_simp; refine ⟨_, cr, ?_⟩; go_simp; (repeat apply Aq); refine Af (by go_simp) ?_; apply As; go_simp; apply Ar F; go_simp; refine ⟨_, ct, ?_⟩; go_simp; apply Au; go_simp
def wn1 : NJ := (Ax 8 ⟨#[]⟩ (Ax 10 ⟨#[43]⟩ (Ax 5 ⟨#[]⟩ BR (Bg ⟨#[97]⟩)) (RK 1)) (.mk 23 ⟨#[102]⟩ 0 0 [] []))
def wn2 : NJ := (.mk 16 ⟨#[]⟩ 0 0 [Bg ⟨#[97]⟩, Ax 5 ⟨#[]⟩ BR (Bg ⟨#[97]⟩)] [])
theorem wp1 : ∃ j, AY 80 (B5 (toL ⟨#[46, 97, 43, 49, 124, 102]⟩) 0) .whole 0 = some (.ok wn1 j) := ⟨5, by kernel_rfl⟩
theorem ws1 : (Bp (toL ⟨#[46, 97, 43, 49, 124, 102]⟩)).2.2 = 0 := by kernel_rfl
theorem wd1 : shJ 48 wn1 = true := by kernel_rfl
theorem wc1 : ACalls Tryz.prog GY 15 none [sI ⟨#[46, 97, 43, 49, 124, 102]⟩] (.ret (.tup [.agg (Al wn1), iI 0, iI 0]) []) := by
 obtain ⟨j, hj⟩ := wp1; have := Ll ⟨#[46, 97, 43, 49, 124, 102]⟩ (by decide) ws1 80 _ hj; simp only [K0, wd1, if_true] at this; exact this.weak fun _ _ h => h.gx
theorem wm1 : De 48 wn1 = true := by kernel_rfl
theorem wt1 : spJ wn1 = ⟨#[40, 40, 46, 91, 34, 97, 34, 93, 32, 43, 32, 49, 41, 32, 124, 32, 102, 41]⟩ := by kernel_rfl
theorem wo1 : FE wn1 := by
 unfold wn1; simp [FE, JL, Ax, RK, Bg, BR, bsz]; repeat' constructor
 all_goals decide
theorem wz1 : (spJ wn1).size ≤ 60000000000 ∧ smB wn1 = true := ⟨by rw [wt1]; decide, by kernel_rfl⟩
theorem wp2 : ∃ j, AY 80 (B5 (toL ⟨#[123, 97, 125]⟩) 0) .whole 0 = some (.ok wn2 j) := ⟨3, by kernel_rfl⟩
theorem ws2 : (Bp (toL ⟨#[123, 97, 125]⟩)).2.2 = 0 := by kernel_rfl
theorem wd2 : shJ 48 wn2 = true := by kernel_rfl
theorem wc2 : ACalls Tryz.prog GY 15 none [sI ⟨#[123, 97, 125]⟩] (.ret (.tup [.agg (Al wn2), iI 0, iI 0]) []) := by
 obtain ⟨j, hj⟩ := wp2; have := Ll ⟨#[123, 97, 125]⟩ (by decide) ws2 80 _ hj; simp only [K0, wd2, if_true] at this; exact this.weak fun _ _ h => h.gx
theorem wm2 : De 48 wn2 = true := by kernel_rfl
theorem wt2 : spJ wn2 = ⟨#[123, 40, 34, 97, 34, 41, 58, 32, 46, 91, 34, 97, 34, 93, 125]⟩ := by kernel_rfl
theorem wo2 : FE wn2 := by
 unfold wn2; simp [FE, JL, Ax, Bg, BR, bsz]; repeat' constructor
 all_goals decide
theorem wz2 : (spJ wn2).size ≤ 60000000000 ∧ smB wn2 = true := ⟨by rw [wt2]; decide, by kernel_rfl⟩
theorem aM : ACalls Tryz.prog GY 9 none [.agg (Al wn1)] (.ret (.tup [sI ⟨#[40, 40, 46, 91, 34, 97, 34, 93, 32, 43, 32, 49, 41, 32, 124, 32, 102, 41]⟩, iI 0]) []) := by
 have := I9 gkY JB JC Qd PO wn1 wo1 fun _ => wz1
 unfold prJ at this; rw [wm1, if_pos rfl, wt1] at this; exact this
theorem aN : ACalls Tryz.prog GY 9 none [.agg (Al wn2)] (.ret (.tup [sI ⟨#[123, 40, 34, 97, 34, 41, 58, 32, 46, 91, 34, 97, 34, 93, 125]⟩, iI 0]) []) := by
 have := I9 gkY JB JC Qd PO wn2 wo2 fun _ => wz2
 unfold prJ at this; rw [wm2, if_pos rfl, wt2] at this; exact this
mutual
theorem NU : ∀ n : NJ, C9 n n = true
 | .mk k s m e l a => by rw [C9, Mp l]; simp
theorem Mp : ∀ l : List NJ, CF l l = true
 | [] => by rw [CF]
 | n :: r => by rw [CF, NU n, Mp r]; rfl
end
theorem Ql : ACalls Tryz.prog GY 8 none [] (.ret (bI true) []) := by
 have gk := gkY; have c1 := wc1; have c2 := aM; have c3 := wc2; have c4 := aN; have c5 := Rw gkY (AB wn1) wn1 (Nat.le_refl _) wn1; have c6 := K8 gkY JB JC wn1 wo1; rw [NU] at c5; rw [wm1] at c6; generalize wn1 = n at *; generalize wn2 = n2 at *; obtain ⟨k1, t1, m1, q1, l1, b1⟩ := n; obtain ⟨k2, t2, m2, q2, l2, b2⟩ := n2; refine ACalls.enter Tryz.func8 rfl rfl gk Tryz.ntmps8 fun X F => ?_
 apply Ar F; go_simp; apply Ar F; go_simp; refine ⟨_, c1, ?_⟩; go_simp; apply Ar F; go_simp; refine ⟨_, c2, ?_⟩; go_simp; apply Ar F; go_simp; refine ⟨_, c3, ?_⟩; go_simp; apply Ar F; go_simp; refine ⟨_, c4, ?_⟩; go_simp; (repeat apply Aq); refine AA F [0, 1, 2, 3, 4, 5, 6, 7] [8, 9, 10, 11, 12, 13, 14, 15, 16, 17, 18, 19, 20, 21, 22, 23, 24, 25, 26, 27, 28, 29, 30, 31] (by rfl) ?_; go_simp; apply lK 8; go_simp; apply lK 8; go_simp; apply lK 1; go_simp; apply lK 4; go_simp; refine ⟨_, c5, ?_⟩; go_simp; refine Ap ?_; go_simp; refine ⟨_, c6, ?_⟩; go_simp; apply Au; go_simp
end Go.Proofs.YtakncilicoefdaaGreatDoor
