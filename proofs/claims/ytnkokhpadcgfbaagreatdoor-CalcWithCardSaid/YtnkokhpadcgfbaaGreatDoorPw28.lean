/- Lemmas and contracts for the laws CalcWith, part 28 of 50: ValCopy. Conditions: those that each lemma names. -/
import Derived.Test.YtnkokhpadcgfbaaGreatDoorPw23
import Derived.Test.YtnkokhpadcgfbaaGreatDoorPw2
import Derived.Outline
namespace Go.Proofs.YtnkokhpadcgfbaaGreatDoor
open Go Go.RowKit Go.Proofs Th
attribute [local go_sem] Above.cell
theorem OwnS.base {w : World} {base base' : Nat} {v : Value} {ks : List ByteArray} (h : OwnS w base v ks) (hb : base' ≤ base) : OwnS w base' v ks := by
  refine ⟨⟨h.row.1, ?_⟩, h.small⟩
  rcases h.row.2 with h2 | ⟨g, cap, cur, e, h3, h4⟩
  · exact Or.inl h2
  · exact Or.inr ⟨g, cap, cur, e, Nat.le_trans hb h3, h4⟩
theorem clone_strs (A : Option Addr) (c : Nat) (ks : List ByteArray) (w : World) (S : Nat → Prop) (hl : ks.length ≤ 1000000000) (h : StrsIn w S A c ks) :
    Calls Tryz.prog 106 #[.slice A ks.length c] w fun r w' => ∃ v', r = .returned v' ∧ OwnS w' w.heap.size v' ks ∧ Below w.heap.size w w' := by
  cases A with
  | none =>
    have hes : ks = [] := by
      cases ks with
      | nil => rfl
      | cons a b => obtain ⟨_, _, h, _⟩ := h.at_ (by simp); cases h
    subst hes
    refine (Tryz.slices_Clone_string_nil 0 c w).mono ?_
    rintro r w' ⟨rfl, rfl⟩
    exact ⟨_, rfl, OwnS.nil _ _, Below.refl _ _⟩
  | some ad =>
    by_cases hes : ks = []
    · subst hes
      refine (Tryz.slices_Clone_string_zero ad c w).mono ?_
      rintro r w' ⟨v', rfl, h1, _, hb⟩
      exact ⟨_, rfl, ⟨h1, fun _ h => absurd h List.not_mem_nil⟩, hb⟩
    · obtain ⟨g, o, e, _, hc⟩ := h.at_ (List.length_pos_iff.2 hes)
      injection e with e
      subst e
      refine (Tryz.slices_Clone_string g o ks.length c ks w (Nat.le_refl _) (by omega) (fun j hj => by rw [hc j hj, List.getD_eq_getElem?_getD, List.getElem?_eq_getElem hj]; rfl)).mono ?_
      rintro r w' ⟨v', rfl, h1, _, hb⟩
      rw [List.take_length] at h1
      exact ⟨_, rfl, ⟨h1, h.small⟩, hb⟩
theorem CopyS.grow {w W0 wr w' : World} {g : Nat} {k m e : Int} {s : ByteArray} {l : List JV} {ks : List ByteArray} {A : Option Addr} {c : Nat} {A' : Option Addr} {c' : Nat} {vl v' : Value} {j : Nat} (h : CopyS w W0 wr g k m e s l ks A c A' c' vl v' j) (hb : Below wr.heap.size wr w') (hw : w.heap.size ≤ wr.heap.size) : CopyS w W0 w' g k m e s l ks A c A' c' vl v' j :=
  ⟨h.x.below hb h.x.lt, h.v.below hb hw, (hb.block _ (lt_of_block h.r)).trans h.r, (hb.block _ (lt_of_block h.o)).trans h.o, h.kk.keep (fun b hh => hb.block b (h.kk.lt b hh).2),
   h.vv.keep (fun b hh => hb.block b hh.2.1) (fun b hh => hb.block b (h.vv.lt b hh).2) (fun _b hh => ⟨hh.1, Nat.lt_of_lt_of_le hh.2.1 hb.size, hh.2.2⟩), h.ng, h.gB, h.b.trans (hb.mono h.b.size)⟩
set_option maxRecDepth 100000 in
set_option maxHeartbeats 4000000 in
theorem value_Copy : ∀ (n : Nat) (t : JV), countJ t ≤ n → sizeJ t ≤ 1000000 → ∀ (w : World) (cs : List Value), JAt w w.heap.size t cs →
    Calls Tryz.prog 59 #[.agg cs.toArray] w fun r w' => ∃ cs', r = .returned (.agg (List.toArray cs')) ∧ JIn w' (newIn w w') t cs' ∧ Below w.heap.size w w' := by
  intro n
  induction n with
  | zero => intro t h; cases t; unfold countJ at h; omega
  | succ n ih =>
    intro t hn hz w cs hJ
    cases t with
    | mk k m e s l ks =>
      obtain ⟨A, c, A', c', rfl, hk, hm, he, hs, hK, hV⟩ := hJ.open
      show Calls _ _ #[.agg #[.int .i64 k, .int .i64 m, .int .i64 e, .string s, .slice A l.length c, .slice A' ks.length c']] w _
      have hcn := countL_get l
      have hcl : countL l ≤ n := by have : 1 + countL l ≤ n + 1 := hn; omega
      have hz2 : 1 + s.size + keysN ks + sizeL l ≤ 1000000 := hz
      have hlc := hV.cap
      have hkc := hK.cap
      have hkn := keysN_len ks
      have hln := sizeL_len l
      clear hJ hn hz
      go_enter Tryz.func59, Tryz.ntmps59
      go_upto_region 1 with fail
      refine wp_world (fun W => Box W w.heap.size (cells6 k m e s A l.length c A' ks.length c') ∧ VBlkT W (w.heap.size + 1) zero6 ∧ W.heap.size = w.heap.size + 2 ∧ ValsAt W w.heap.size A c l ∧ StrsAt W w.heap.size A' c' ks ∧ Below w.heap.size w W)
        ⟨box_new6 .. |>.alloc _, VBlkT.new zero6 (by simp), by simp, hV.below (al2 _ _ _) (Nat.le_refl _), hK.below (al2 _ _ _) (Nat.le_refl _), al2 _ _ _⟩ ?_
      clear hV hK
      rintro W0 ⟨Hx, Hr, hsz, HV, HK, HB⟩
      replace Hx := Keep.mk Hx
      replace Hr := Keep.mk Hr
      replace HV := Keep.mk HV
      replace HK := Keep.mk HK
      replace HB := Keep.mk HB
      have hx2 : w.heap.size < W0.heap.size := by omega
      have hx3 : ∀ wa, Below W0.heap.size W0 wa → w.heap.size < wa.heap.size := fun wa h => Nat.lt_of_lt_of_le hx2 h.size
      refine wp_region_rely 11 (fun _ w' => Below W0.heap.size W0 w') (fun
        | 0 => fun v _ => v = .pointer (some ⟨w.heap.size, 0, none⟩)
        | 1 => fun v _ => v = .int .i64 k
        | 2 => fun v _ => v = .pointer (some ⟨w.heap.size, 1, none⟩)
        | 3 => fun v _ => v = .agg #[.int .i64 m, .int .i64 e]
        | 4 => fun v _ => v = .pointer (some ⟨w.heap.size, 3, none⟩)
        | 5 => fun v _ => v = .string s
        | 6 => fun v _ => v = .pointer (some ⟨w.heap.size, 5, none⟩)
        | 7 => fun v _ => v = .slice A' ks.length c'
        | 8 => fun v w' => OwnS w' W0.heap.size v ks
        | 9 => fun v w' => ∃ v', v = .agg #[.int .i64 k, .int .i64 m, .int .i64 e, .string s, .slice none 0 0, v'] ∧ OwnS w' W0.heap.size v' ks
        | 10 => fun v w' => ∃ g, v = .pointer (some ⟨g, 0, none⟩) ∧ W0.heap.size ≤ g ∧ VBlkT w' g zero6
        | _ => fun _ _ => True) (fun _ w1 w2 => Below w1.heap.size w1 w2) (by kernel_rfl) (by kernel_rfl) (below_drawn W0) ?_ ?_ ?_
      · intro i j v w1 w2 _ hb
        match j with
        | 0 | 1 | 2 | 3 | 4 | 5 | 6 | 7 => exact fun h => h
        | 8 => exact fun h => h.keep fun k hk => hb.block k (h.lt k hk).2
        | 9 => rintro ⟨v', h1, h⟩; exact ⟨v', h1, h.keep fun k hk => hb.block k (h.lt k hk).2⟩
        | 10 => rintro ⟨g, h1, h2, h3⟩; exact ⟨g, h1, h2, (hb.block g (lt_of_block h3)).trans h3⟩
        | _ + 11 => exact fun h => h
      · simp only [List.take, stepHold]
        refine ⟨?_, ?_, ?_, ?_, ?_, ?_, ?_, ?_, ?_, ?_, ?_, trivial⟩
        · intro _ a wa _ hI hs _
          have e1 : a.eval (.tmp 1) = .pointer (some ⟨w.heap.size, 0, none⟩) := hs 1 (by kernel_rfl)
          exact op_val _ (w' := wa) (by unfold execOp; simp only [e1]; go_simp) ⟨_, rfl, rfl, hI, Below.refl _ _⟩
        · intro _ a wa _ hI _ hd
          have e1 : a.eval (.tmp 6) = .pointer (some ⟨w.heap.size, 0, none⟩) := hd.1
          have hxl := hx3 wa hI
          have c0 := (hI.cell (p := ⟨w.heap.size, 0, none⟩) hx2).trans (Hx.out.cell 0 _ rfl)
          exact op_val _ (w' := wa) (by unfold execOp; simp only [e1]; go_simp) ⟨_, rfl, rfl, hI, Below.refl _ _⟩
        · intro _ a wa _ hI hs _
          have e1 : a.eval (.tmp 1) = .pointer (some ⟨w.heap.size, 0, none⟩) := hs 1 (by kernel_rfl)
          exact op_val _ (w' := wa) (by unfold execOp; simp only [e1]; go_simp) ⟨_, rfl, rfl, hI, Below.refl _ _⟩
        · intro _ a wa _ hI _ hd
          have e1 : a.eval (.tmp 8) = .pointer (some ⟨w.heap.size, 1, none⟩) := hd.1
          have hxl := hx3 wa hI
          have c1 := (hI.cell (p := ⟨w.heap.size, 1, none⟩) hx2).trans (Hx.out.cell 1 _ rfl)
          have c2 := (hI.cell (p := ⟨w.heap.size, 2, none⟩) hx2).trans (Hx.out.cell 2 _ rfl)
          exact op_val _ (w' := wa) (by unfold execOp; simp only [e1]; go_simp) ⟨_, rfl, rfl, hI, Below.refl _ _⟩
        · intro _ a wa _ hI hs _
          have e1 : a.eval (.tmp 1) = .pointer (some ⟨w.heap.size, 0, none⟩) := hs 1 (by kernel_rfl)
          exact op_val _ (w' := wa) (by unfold execOp; simp only [e1]; go_simp) ⟨_, rfl, rfl, hI, Below.refl _ _⟩
        · intro _ a wa _ hI _ hd
          have e1 : a.eval (.tmp 10) = .pointer (some ⟨w.heap.size, 3, none⟩) := hd.1
          have hxl := hx3 wa hI
          have c3 := (hI.cell (p := ⟨w.heap.size, 3, none⟩) hx2).trans (Hx.out.cell 3 _ rfl)
          exact op_val _ (w' := wa) (by unfold execOp; simp only [e1]; go_simp) ⟨_, rfl, rfl, hI, Below.refl _ _⟩
        · intro _ a wa _ hI hs _
          have e1 : a.eval (.tmp 1) = .pointer (some ⟨w.heap.size, 0, none⟩) := hs 1 (by kernel_rfl)
          exact op_val _ (w' := wa) (by unfold execOp; simp only [e1]; go_simp) ⟨_, rfl, rfl, hI, Below.refl _ _⟩
        · intro _ a wa _ hI _ hd
          have e1 : a.eval (.tmp 12) = .pointer (some ⟨w.heap.size, 5, none⟩) := hd.1
          have hxl := hx3 wa hI
          have c5 := (hI.cell (p := ⟨w.heap.size, 5, none⟩) hx2).trans (Hx.out.cell 5 _ rfl)
          exact op_val _ (w' := wa) (by unfold execOp; simp only [e1]; go_simp) ⟨_, rfl, rfl, hI, Below.refl _ _⟩
        · intro _ a wa _ hI _ hd
          have e1 : a.eval (.tmp 13) = .slice A' ks.length c' := hd.1
          have f1 := get_form e1
          refine op_call 106 #[.slice A' ks.length c'] (by unfold execOp; go_simp) ((clone_strs A' c' ks wa _ (by omega) ((HK.out.below hI (by omega)).inn)).mono ?_)
          rintro r w1 ⟨v', rfl, hO, hb1⟩
          exact ⟨_, rfl, _, rfl, hO.base hI.size, up hI hb1, hb1⟩
        · intro _ a wa _ hI _ hd
          have e1 : a.eval (.tmp 7) = .int .i64 k := hd.1
          have e2 : a.eval (.tmp 9) = .agg #[.int .i64 m, .int .i64 e] := hd.2.1
          have e3 : a.eval (.tmp 11) = .string s := hd.2.2.1
          have h4 : OwnS wa W0.heap.size (a.eval (.tmp 14)) ks := hd.2.2.2.1
          obtain ⟨B4, d4, h5, _, _⟩ := h4.form
          rw [h5] at h4
          have f1 := get_form e1
          have f2 := get_form e2
          have f3 := get_form e3
          have f4 := get_form h5
          exact op_val _ (w' := wa) (by unfold execOp; go_simp) ⟨_, rfl, ⟨_, rfl, h4⟩, hI, Below.refl _ _⟩
        · intro _ a wa _ hI _ _
          exact op_val _ (w' := wa.alloc (.cells zero6.toArray 27)) (by unfold execOp; go_simp; rfl) ⟨_, rfl, ⟨wa.heap.size, rfl, hI.size, heap_alloc_new wa _⟩, up hI (al1 _ _), al1 _ _⟩
      · intro vs _ W1 _ hI hall
        simp only [List.take, allHold, gives] at hall
        obtain ⟨h0, h1, h2, h3, h4, h5, h6, h7, h8, h9, h10, _⟩ := hall
        simp only [List.take, List.drop, putL]
        generalize vs 0 = v0 at *
        generalize vs 1 = v1 at *
        generalize vs 2 = v2 at *
        generalize vs 3 = v3 at *
        generalize vs 4 = v4 at *
        generalize vs 5 = v5 at *
        generalize vs 6 = v6 at *
        generalize vs 7 = v7 at *
        generalize vs 8 = v8 at *
        generalize vs 9 = v9 at *
        generalize vs 10 = v10 at *
        obtain ⟨g, rfl, hgB, HO⟩ := h10
        obtain ⟨v', rfl, HKO⟩ := h9
        obtain ⟨B9, d9, rfl, _, _⟩ := HKO.form
        subst h0 h1 h2 h3 h4 h5 h6 h7
        clear h8
        have hgl := lt_of_block HO
        have HBX := Keep.mk HO.box
        have y0 := HBX.out.cell 0 _ rfl
        have y1 := HBX.out.cell 1 _ rfl
        have y2 := HBX.out.cell 2 _ rfl
        have y3 := HBX.out.cell 3 _ rfl
        have y4 := HBX.out.cell 4 _ rfl
        have y5 := HBX.out.cell 5 _ rfl
        have z0 := HBX.out.froz 0
        have z1 := HBX.out.froz 1
        have z2 := HBX.out.froz 2
        have z3 := HBX.out.froz 3
        have z4 := HBX.out.froz 4
        have z5 := HBX.out.froz 5
        have HC := Keep.mk (show CopyS w W0 (six W1 g (.int .i64 k) (.int .i64 m) (.int .i64 e) (.string s) (.slice none 0 0) (.slice B9 ks.length d9)) g k m e s l ks A c A' c' (.slice none 0 0) (.slice B9 ks.length d9) 0 from
          ⟨(Hx.out.below hI (by omega)).below (six_below W1 g _ _ _ _ _ _ hgB) (by omega), (HV.out.below hI (by omega)).below (six_below W1 g _ _ _ _ _ _ hgB) (by omega),
           (six_other W1 g _ _ _ _ _ _ _ (by omega)).trans ((hI.block _ (by omega)).trans Hr.out), VBlkT.six HO _ _ _ _ _ _, HKO.keep (fun b hb => six_other W1 g _ _ _ _ _ _ b (HKO.apart HO b hb)), OwnV.nil _ _ _, (by intro h; cases h), hgB, hI.trans (six_below W1 g _ _ _ _ _ _ hgB)⟩)
        clear HKO HO hI
        go_upto_region 2 with fail
        refine wp_world (fun W => CopyS w W0 W g k m e s l ks A c A' c' (.slice none 0 0) (.slice B9 ks.length d9) 0) HC.out ?_
        clear HC HBX y0 y1 y2 y3 y4 y5 z0 z1 z2 z3 z4 z5 hgl
        rintro W2 HC
        replace HC := Keep.mk HC
        have hx40 := HC.out.x.cell 4 _ rfl
        have hxl0 := HC.out.x.lt
        go_wp2_with fail
        go_loopg [19] l.length (fun gk i wr => ∃ (j : Nat) (vl : Value), j + gk = l.length ∧ i = .int .i64 j ∧ Keep (CopyS w W0 wr g k m e s l ks A c A' c' vl (.slice B9 ks.length d9) j))
        case atStart => exact ⟨0, _, by omega, rfl, HC⟩
        case round =>
          clear HC
          obtain ⟨j, vl, hj, rfl, HC⟩ := hrel
          have hx4 := HC.out.x.cell 4 _ rfl
          have hxl := HC.out.x.lt
          have hbs := HC.out.b.size
          by_cases hlt : j < l.length
          · have hgk : gk ≠ 0 := by omega
            have hcj := hcn j hlt
            have hsj := sizeL_at l j hlt
            obtain ⟨ge, oe, k1, m1, e1, s1, A1, n1, c1, A2, n2, c2, rfl, hge, hJe, y0, y1, y2, y3, y4, y5⟩ := HC.out.v.elem j hlt
            have HIH := Keep.mk (fun (W : World) (h : Below w.heap.size wr W) (hs : wr.heap.size ≤ W.heap.size) => ih l[j] (by omega) (by omega) W _ ((hJe.keep h (Nat.le_refl _)).more (by omega)))
            clear hJe
            have hrow : ∀ b, vl.ownBlock = some b → W0.heap.size ≤ b ∧ b < wr.heap.size := HC.out.vv.lt
            have hgr := lt_of_block HC.out.o
            have hmv : ∀ W, wr.grownBy W vl.ownBlock → Below W0.heap.size wr W := fun W h => (Below.refl _ _).grown h hbs (fun b hb => (hrow b hb).1)
            have hkeepg : ∀ W, wr.grownBy W vl.ownBlock → W.heap[g]? = wr.heap[g]? := fun W h => h.block g hgr (fun e => HC.out.ng e.symm)
            have hg5 : (g : Nat) = g := rfl
            have hoc : ∀ W, wr.grownBy W vl.ownBlock → VBlkT W g [.int .i64 k, .int .i64 m, .int .i64 e, .string s, vl, .slice B9 ks.length d9] := fun W h => (hkeepg W h).trans HC.out.o
            have HE6 := Keep.mk (show VBlkT (wr.alloc (.cells #[.int .i64 k1, .int .i64 m1, .int .i64 e1, .string s1, .slice A1 n1 c1, .slice A2 n2 c2] 27)) wr.heap.size (cells6 k1 m1 e1 s1 A1 n1 c1 A2 n2 c2) from VBlkT.new (cells6 k1 m1 e1 s1 A1 n1 c1 A2 n2 c2) rfl)
            have HC1 := Keep.mk (HC.out.grow (al1 wr (.cells #[.int .i64 k1, .int .i64 m1, .int .i64 e1, .string s1, .slice A1 n1 c1, .slice A2 n2 c2] 27)) (by omega))
            have hvp0 : ∀ b, vl.ownBlock = some b → b < wr.heap.size := fun b hb => (HC.out.vv.lt b hb).2
            have hgp0 := lt_of_block HC.out.o
            have hgw5 : ge < wr.heap.size := by omega
            go_upto_region 5 with fail
            refine wp_world (fun W => CopyS w W0 W g k m e s l ks (some ⟨ge, oe, none⟩) c A' c' vl (.slice B9 ks.length d9) j ∧ VBlkT W wr.heap.size (cells6 k1 m1 e1 s1 A1 n1 c1 A2 n2 c2) ∧ Below wr.heap.size wr W ∧ W.heap.size = wr.heap.size + 1) ⟨HC1.out, HE6.out, al1 _ _, by simp⟩ ?_
            obtain ⟨p5, hp5⟩ : ∃ p, wr.heap.size = p := ⟨_, rfl⟩
            rw [hp5] at HE6 hvp0 hgp0 hgw5 ⊢
            clear HE6 HC1
            rintro wq ⟨HC1, HE6, hbq, hsq⟩
            replace HIH := Keep.mk (fun (W : World) (h : Below w.heap.size wq W) (hs : wq.heap.size ≤ W.heap.size) => HIH.out W ((hbq.mono (by omega)).trans h) (by omega))
            clear hbq HC y0 y1 y2 y3 y4 y5
            obtain ⟨wo, rfl⟩ : ∃ wo : World, wo = wr := ⟨_, rfl⟩
            clear hbs
            have hbs := HC1.b.size
            have HC := Keep.mk HC1
            clear HC1
            obtain ⟨wr, rfl⟩ : ∃ wr : World, wr = wq := ⟨_, rfl⟩
            have hrow : ∀ b, vl.ownBlock = some b → W0.heap.size ≤ b ∧ b < wr.heap.size := HC.out.vv.lt
            have hgr := lt_of_block HC.out.o
            have hmv : ∀ W, wr.grownBy W vl.ownBlock → Below W0.heap.size wr W := fun W h => (Below.refl _ _).grown h hbs (fun b hb => (hrow b hb).1)
            have hkeepg : ∀ W, wr.grownBy W vl.ownBlock → W.heap[g]? = wr.heap[g]? := fun W h => h.block g hgr (fun e => HC.out.ng e.symm)
            have hg5 : (g : Nat) = g := rfl
            have hoc : ∀ W, wr.grownBy W vl.ownBlock → VBlkT W g [.int .i64 k, .int .i64 m, .int .i64 e, .string s, vl, .slice B9 ks.length d9] := fun W h => (hkeepg W h).trans HC.out.o
            refine wp_region_rely 7 (fun L w' => wr.grownBy w' vl.ownBlock ∧ (L 5 = false → Below wr.heap.size wr w')) (fun
              | 0 => fun v _ => v = .pointer (some ⟨g, 4, none⟩)
              | 1 => fun v _ => v = vl
              | 2 => fun v _ => v = .agg #[.int .i64 k1, .int .i64 m1, .int .i64 e1, .string s1, .slice A1 n1 c1, .slice A2 n2 c2]
              | 3 => fun v w' => ∃ cs', v = .agg (List.toArray cs') ∧ JIn w' (newIn wr w') l[j] cs'
              | 4 => fun v w' => ∃ p cs', v = .slice (some ⟨p, 0, none⟩) 1 1 ∧ wr.heap.size ≤ p ∧ VBlkT w' p cs' ∧ JIn w' (newIn wr w') l[j] cs'
              | 5 => fun v w' => OwnV w' W0.heap.size (fun b => W0.heap.size ≤ b ∧ b < w'.heap.size ∧ b ≠ g ∧ v.ownBlock ≠ some b) v (l.take (j + 1)) ∧ v.ownBlock ≠ some g
              | 6 => fun v _ => v = .pointer (some ⟨g, 4, none⟩)
              | _ => fun _ _ => True) (fun | 5 => fun w1 w2 => w1.grownBy w2 vl.ownBlock | _ => fun w1 w2 => Below w1.heap.size w1 w2) (by kernel_rfl) (by kernel_rfl)
              ⟨⟨rfl, rfl, rfl, Nat.le_refl _, fun _ _ _ => rfl⟩, fun _ => below_drawn wr⟩ ?_ ?_ ?_
            · intro i j v w1 w2 hij hG
              have hst : (∀ b, b < w1.heap.size → vl.ownBlock ≠ some b → w2.heap[b]? = w1.heap[b]?) ∧ w1.heap.size ≤ w2.heap.size := by
                by_cases h9 : i = 5
                · subst h9
                  exact ⟨fun b hb hn => hG.block b hb (fun e => hn e.symm), hG.size⟩
                · have hG : Below w1.heap.size w1 w2 := by
                    match i, h9 with
                    | 0, _ | 1, _ | 2, _ | 3, _ | 4, _ => exact hG
                    | 5, h => exact absurd rfl h
                    | _ + 6, _ => exact hG
                  exact ⟨fun b hb _ => hG.block b hb, hG.size⟩
              have hvr : ∀ b, wr.heap.size ≤ b → vl.ownBlock ≠ some b := fun b hb e => by have := (hrow b e).2; omega
              match j with
              | 0 | 1 | 2 | 6 => exact fun h => h
              | 3 => rintro ⟨cs', h1, h2⟩; exact ⟨cs', h1, h2.keep (fun b hb => hst.1 b hb.2 (hvr b hb.1)) (fun b hb => ⟨hb.1, Nat.lt_of_lt_of_le hb.2 hst.2⟩)⟩
              | 4 => rintro ⟨p, cs', h1, h2, h3, h4⟩; exact ⟨p, cs', h1, h2, (hst.1 p (lt_of_block h3) (hvr p h2)).trans h3, h4.keep (fun b hb => hst.1 b hb.2 (hvr b hb.1)) (fun b hb => ⟨hb.1, Nat.lt_of_lt_of_le hb.2 hst.2⟩)⟩
              | 5 =>
                have hG : Below w1.heap.size w1 w2 := by
                  match i, hij with
                  | 0, _ | 1, _ | 2, _ | 3, _ | 4, _ => exact hG
                  | 5, h => exact absurd rfl h
                  | _ + 6, _ => exact hG
                rintro ⟨h1, h2⟩
                exact ⟨h1.keep (fun b hb => hG.block b hb.2.1) (fun b hb => hG.block b (h1.lt b hb).2) (fun b hb => ⟨hb.1, Nat.lt_of_lt_of_le hb.2.1 hG.size, hb.2.2⟩), h2⟩
              | _ + 7 => exact fun h => h
            · simp only [List.take, stepHold]
              refine ⟨?_, ?_, ?_, ?_, ?_, ?_, ?_, trivial⟩
              · intro L a wa _ hI hs _
                have e1 : a.eval (.tmp 3) = .pointer (some ⟨g, 0, none⟩) := hs 3 (by kernel_rfl)
                exact op_val _ (w' := wa) (by unfold execOp; simp only [e1]; go_simp) ⟨_, rfl, rfl, ⟨hI.1, fun h => hI.2 (by simpa using h)⟩, Below.refl _ _⟩
              · intro L a wa _ hI _ hd
                have e1 : a.eval (.tmp 23) = .pointer (some ⟨g, 4, none⟩) := hd.1
                have hga := lt_of_block (hoc wa hI.1)
                have c0 := (hoc wa hI.1).box.cell 4 _ rfl
                obtain ⟨Bv, dv, hvf, _, _⟩ := HC.out.vv.form
                rw [hvf] at c0
                exact op_val vl (w' := wa) (by rw [hvf]; unfold execOp; simp only [e1]; go_simp) ⟨_, rfl, rfl, ⟨hI.1, fun h => hI.2 (by simpa using h)⟩, Below.refl _ _⟩
              · intro L a wa _ hI hs _
                have q1 : a.eval (.tmp 5) = .pointer (some ⟨p5, 0, none⟩) := hs 5 (by kernel_rfl)
                have hpe : VBlkT wa p5 (cells6 k1 m1 e1 s1 A1 n1 c1 A2 n2 c2) := (hI.1.block p5 (by omega) (fun e => by have := hvp0 p5 e.symm; omega)).trans HE6
                have hgl5 := lt_of_block hpe
                have hpb := hpe.box
                have t0 := hpb.cell 0 _ rfl
                have t1 := hpb.cell 1 _ rfl
                have t2 := hpb.cell 2 _ rfl
                have t3 := hpb.cell 3 _ rfl
                have t4 := hpb.cell 4 _ rfl
                have t5 := hpb.cell 5 _ rfl
                exact op_val _ (w' := wa) (by unfold execOp; simp only [q1]; go_simp) ⟨_, rfl, rfl, ⟨hI.1, fun h => hI.2 (by simpa using h)⟩, Below.refl _ _⟩
              · intro L a wa _ hI _ hd
                have q1 : a.eval (.tmp 25) = .agg #[.int .i64 k1, .int .i64 m1, .int .i64 e1, .string s1, .slice A1 n1 c1, .slice A2 n2 c2] := hd.1
                have f1 := get_form q1
                refine op_call 59 #[.agg #[.int .i64 k1, .int .i64 m1, .int .i64 e1, .string s1, .slice A1 n1 c1, .slice A2 n2 c2]] (by unfold execOp; go_simp) ((HIH.out wa ((hmv wa hI.1).mono (by omega)) hI.1.size).mono ?_)
                rintro r w1 ⟨cs', rfl, hJ1, hb1⟩
                refine ⟨_, rfl, _, rfl, ⟨cs', rfl, hJ1.more (fun b hb => ⟨Nat.le_trans hI.1.size hb.1, hb.2⟩)⟩, ⟨⟨hb1.os.trans hI.1.os, hb1.tape.trans hI.1.tape, hb1.output.trans hI.1.output, Nat.le_trans hI.1.size hb1.size, fun b hb hn => (hb1.block b (Nat.lt_of_lt_of_le hb hI.1.size)).trans (hI.1.block b hb hn)⟩, fun h => up (hI.2 (by simpa using h)) hb1⟩, hb1⟩
              · intro L a wa _ hI _ hd
                obtain ⟨cs', e1, hJ1⟩ := hd.1
                have e1 : a.eval (.tmp 26) = .agg (List.toArray cs') := e1
                obtain ⟨k9, m9, e9, s9, A9, n9, c9, A8, n8, c8, rfl⟩ := hJ1.cells
                have f1 := get_form e1
                refine op_val _ (w' := wa.alloc (.cells (cells6 k9 m9 e9 s9 A9 n9 c9 A8 n8 c8).toArray 27)) (by unfold execOp; simp only [cells6] at f1; go_simp; rfl) ⟨_, rfl, ⟨wa.heap.size, _, rfl, hI.1.size, VBlkT.new _ rfl, hJ1.keep (fun b hb => (al1 wa _).block b hb.2) (fun b hb => ⟨hb.1, Nat.lt_of_lt_of_le hb.2 (al1 wa _).size⟩)⟩, ⟨⟨hI.1.os, hI.1.tape, hI.1.output, Nat.le_trans hI.1.size (al1 wa _).size, fun b hb hn => ((al1 wa _).block b (Nat.lt_of_lt_of_le hb hI.1.size)).trans (hI.1.block b hb hn)⟩, fun h => up (hI.2 (by simpa using h)) (al1 _ _)⟩, al1 _ _⟩
              · intro L a wa hL hI _ hd
                have e1 : a.eval (.tmp 24) = vl := hd.1
                obtain ⟨p, cs', e2, hp, hpb, hJ1⟩ := hd.2.1
                have e2 : a.eval (.tmp 27) = .slice (some ⟨p, 0, none⟩) 1 1 := e2
                have hB := hI.2 hL
                have hov : OwnV wa W0.heap.size (fun b => W0.heap.size ≤ b ∧ b < wa.heap.size ∧ b ≠ g ∧ vl.ownBlock ≠ some b) vl (l.take j) :=
                  HC.out.vv.keep (fun b hb => hB.block b hb.2.1) (fun b hb => hB.block b (hrow b hb).2) (fun b hb => ⟨hb.1, Nat.lt_of_lt_of_le hb.2.1 hB.size, hb.2.2⟩)
                have hJ2 : JIn wa (fun b => W0.heap.size ≤ b ∧ b < wa.heap.size ∧ b ≠ g ∧ vl.ownBlock ≠ some b) l[j] cs' :=
                  hJ1.more (fun b hb => ⟨Nat.le_trans hbs hb.1, hb.2, (by have := hb.1; omega), fun e => by have := (hrow b e).2; have := hb.1; omega⟩)
                refine op_append_vals (.tmp 24) (.tmp 27) rfl W0.heap.size _ vl (l.take j) e1 hov p l[j] cs' e2 (fun i u hu => hpb.box.cell i u hu) hJ2 (by rw [List.length_take]; omega) (Nat.le_trans hbs hB.size) (fun b hb h => h.2.2.2 hb) (fun b h => h.2.1) fun v2 w2 h1 h2 h3 => ⟨_, rfl, ⟨?_, ?_⟩, ⟨⟨h2.os.trans hI.1.os, h2.tape.trans hI.1.tape, h2.output.trans hI.1.output, Nat.le_trans hI.1.size h2.size, fun b hb hn => (h2.block b (Nat.lt_of_lt_of_le hb hI.1.size) hn).trans (hI.1.block b hb hn)⟩, fun h => by simp at h⟩, h2⟩
                · rw [← List.take_succ_eq_append_getElem hlt] at h1
                  exact h1.keep (fun _ _ => rfl) (fun _ _ => rfl) (fun b hb => ⟨hb.1, Nat.lt_of_lt_of_le hb.2.1 h2.size, hb.2.2.1, fun e => by
                    have e : v2.ownBlock = some b := e
                    rcases h3 with h3 | h3
                    · exact hb.2.2.2 (h3.symm.trans e)
                    · have h4 := h3.symm.trans e
                      injection h4 with h4
                      have := hb.2.1
                      omega⟩)
                · rcases h3 with h3 | h3
                  · show v2.ownBlock ≠ some g
                    rw [h3]; exact HC.out.ng
                  · show v2.ownBlock ≠ some g
                    rw [h3]; intro e; injection e with e; have := hI.1.size; omega
              · intro L a wa _ hI hs _
                have e1 : a.eval (.tmp 3) = .pointer (some ⟨g, 0, none⟩) := hs 3 (by kernel_rfl)
                exact op_val _ (w' := wa) (by unfold execOp; simp only [e1]; go_simp) ⟨_, rfl, rfl, ⟨hI.1, fun h => hI.2 (by simpa using h)⟩, Below.refl _ _⟩
            · intro vs L W1 _ hI hall
              simp only [List.take, allHold, gives] at hall
              obtain ⟨h0, h1, h2, h7, h8, h9, h10, _⟩ := hall
              simp only [List.take, List.drop, putL]
              generalize vs 0 = v0 at *
              generalize vs 1 = v1 at *
              generalize vs 2 = v2 at *
              generalize vs 3 = v3 at *
              generalize vs 4 = v4 at *
              generalize vs 5 = v5 at *
              generalize vs 6 = v6 at *
              obtain ⟨cs7, rfl, _⟩ := h7
              obtain ⟨p8, cs8, rfl, _⟩ := h8
              obtain ⟨hV9, hng9⟩ := h9
              subst v0 v1 v2 v6
              obtain ⟨B2, d2, e9, _, _⟩ := hV9.form
              rw [show (l.take (j + 1)).length = j + 1 by rw [List.length_take]; omega] at e9
              subst e9
              have hB := hmv W1 hI.1
              have HO := hoc W1 hI.1
              have hkb : ∀ b, (Value.slice B9 ks.length d9).ownBlock = some b → W1.heap[b]? = wr.heap[b]? := fun b hb => hI.1.block b (HC.out.kk.lt b hb).2 (fun e => by
                obtain ⟨c1, hc1⟩ := HC.out.kk.kind b hb
                obtain ⟨c2, hc2⟩ := HC.out.vv.kind b e.symm
                exact kind_ne hc1 hc2 (by decide) rfl)
              have HC2 := Keep.mk (show CopyS w W0 (W1.setCell ⟨g, 4, none⟩ (.slice B2 (j + 1) d2)) g k m e s l ks (some ⟨ge, oe, none⟩) c A' c' (.slice B2 (j + 1) d2) (.slice B9 ks.length d9) (j + 1) from
                ⟨(HC.out.x.below hB hx2).other (show g ≠ w.heap.size by omega) _, (HC.out.v.below hB (by omega)).below (below_set hgB _) (by omega), VBlkT.other ((hB.block _ (by omega)).trans HC.out.r) (by omega) _ _, HO.set (i := 4) _,
                 (HC.out.kk.keep hkb).keep (fun b hb => Below.heap_setCell _ _ _ b (HC.out.kk.apart HC.out.o b hb)),
                 hV9.keep (fun b hb => Below.heap_setCell _ _ _ b hb.2.2.1) (fun b hb => Below.heap_setCell _ _ _ b (fun e => hng9 (by rw [hb, e]))) (fun b hb => by simpa using hb),
                 hng9, hgB, (HC.out.b.trans hB).trans (below_set hgB _)⟩)
              have hgl := lt_of_block HO
              have y4' := HO.box.cell 4 _ rfl
              have z4' := HO.box.froz 4
              clear hI HO hB hV9 hoc hmv hkeepg hkb hng9 hrow HIH HC hx4 HE6
              go_wp2
              go_roundg (gk - 1)
              case rel => exact ⟨j + 1, _, by omega, by go_num, HC2⟩
              case measure => omega
          · obtain rfl : j = l.length := by omega
            have hvv := HC.out.vv
            rw [List.take_length] at hvv
            obtain ⟨Bv, dv, rfl, _, _⟩ := hvv.form
            have hob := HC.out.o.box
            have y0 := hob.cell 0 _ rfl
            have y1 := hob.cell 1 _ rfl
            have y2 := hob.cell 2 _ rfl
            have y3 := hob.cell 3 _ rfl
            have y4 := hob.cell 4 _ rfl
            have y5 := hob.cell 5 _ rfl
            have hrb := HC.out.r.box
            have r0 := hrb.cell 0 _ rfl
            have r1 := hrb.cell 1 _ rfl
            have r2 := hrb.cell 2 _ rfl
            have r3 := hrb.cell 3 _ rfl
            have r4 := hrb.cell 4 _ rfl
            have r5 := hrb.cell 5 _ rfl
            have z0 := hrb.froz 0
            have z1 := hrb.froz 1
            have z2 := hrb.froz 2
            have z3 := hrb.froz 3
            have z4 := hrb.froz 4
            have z5 := hrb.froz 5
            have hgl := hob.lt
            have hrl := hrb.lt
            have hgn : g ≠ w.heap.size + 1 := by omega
            have HJ := Keep.mk (show JIn (six wr (w.heap.size + 1) (.int .i64 k) (.int .i64 m) (.int .i64 e) (.string s) (.slice Bv l.length dv) (.slice B9 ks.length d9)) (newIn w (six wr (w.heap.size + 1) (.int .i64 k) (.int .i64 m) (.int .i64 e) (.string s) (.slice Bv l.length dv) (.slice B9 ks.length d9))) (.mk k m e s l ks) (cells6 k m e s Bv l.length dv B9 ks.length d9) from by
              have hsz2 : (six wr (w.heap.size + 1) (.int .i64 k) (.int .i64 m) (.int .i64 e) (.string s) (.slice Bv l.length dv) (.slice B9 ks.length d9)).heap.size = wr.heap.size := by simp [six]
              refine JIn.shut hk hm he hs ?_ ?_
              · refine ((HC.out.kk.keep (fun b hb => six_other wr _ _ _ _ _ _ _ b (by have := (HC.out.kk.lt b hb).1; omega))).strs (by omega) (T := newIn w _) (fun b hb => ?_)).2
                have := HC.out.kk.lt b hb
                exact ⟨by omega, by rw [hsz2]; omega⟩
              · refine ((hvv.keep (T := newIn w _) (fun b hb => six_other wr _ _ _ _ _ _ _ b (by have := hb.1; omega)) (fun b hb => six_other wr _ _ _ _ _ _ _ b (by have := (hvv.lt b hb).1; omega)) (fun b hb => ⟨by have := hb.1; omega, by rw [hsz2]; exact hb.2.1⟩)).vals (by omega) (fun _ h => h) (fun b hb => ?_)).2
                have := hvv.lt b hb
                exact ⟨by omega, by rw [hsz2]; omega⟩)
            have HB2 := Keep.mk (show Below w.heap.size w (six wr (w.heap.size + 1) (.int .i64 k) (.int .i64 m) (.int .i64 e) (.string s) (.slice Bv l.length dv) (.slice B9 ks.length d9)) from
              (HB.out.trans (HC.out.b.mono (by omega))).trans (six_below wr _ _ _ _ _ _ _ (by omega)))
            clear hob hrb hvv HC
            go_wp2
            refine bodyPost_ret (v := .agg #[.int .i64 k, .int .i64 m, .int .i64 e, .string s, .slice Bv l.length dv, .slice B9 ks.length d9]) ?_ rfl ⟨_, rfl, HJ.out, HB2.out⟩
            simp [results, Tryz.results59, go_sem, r0, r1, r2, r3, r4, r5]
end Go.Proofs.YtnkokhpadcgfbaaGreatDoor
