/- The law TableNobody: what each method of a nil table, or of one that no call made, answers. Proved for every argument; conditions: none. -/
import Derived.Test.YtfgcelcmbjokgaaGreatDoorNobody
import Derived.Test.YtfgcelcmbjokgaaGreatDoorRelyE
import Derived.Test.YtfgcelcmbjokgaaGreatDoorTypes
import Derived.Deep.Cut
namespace Go.Proofs.YtfgcelcmbjokgaaGreatDoor
open Go Go.RowKit Go.Proofs Th
attribute [local go_sem] Above.cell Above.frozen

/-- a block's cells -/
structure BoxN (w : World) (g : Nat) (cs : List Value) : Prop where
  cell : ∀ i v, cs[i]? = some v → w.cell? ⟨g, i, none⟩ = some v
  lt : g < w.heap.size
theorem BoxN.below {w w' : World} {g : Nat} {cs : List Value} (h : BoxN w g cs) (hb : Below w.heap.size w w') : BoxN w' g cs :=
  ⟨fun i v hv => (hb.cell (p := ⟨g, i, none⟩) h.lt).trans (h.cell i v hv), Nat.lt_of_lt_of_le h.lt hb.size⟩
theorem BoxN.new {w : World} {n : Nat} (cs : List Value) (t : TypeId) (h : w.heap.size = n) : BoxN (w.alloc (.cells cs.toArray t)) n cs := by
  subst h
  refine ⟨fun i v hv => ?_, by simp⟩
  simp [go_sem, hv]
set_option maxRecDepth 100000 in
theorem same_zero (w : World) : Calls Tryz.prog 9 #[.agg #[.int .i64 0, .int .i64 0, .int .i64 0, .string ⟨#[]⟩, .slice none 0 0, .slice none 0 0], .agg #[.int .i64 0, .int .i64 0, .int .i64 0, .string ⟨#[]⟩, .slice none 0 0, .slice none 0 0]] w fun r w' => r = .returned (.bool true) ∧ Below w.heap.size w w' := by
  go_enter Tryz.func9, Tryz.ntmps9
  go_wp2_with fail
  go_loopg [5] 0 (fun gk i wr => i = .int .i64 0 ∧ ((w.alloc (.cells #[.int .i64 0, .int .i64 0, .int .i64 0, .string ⟨#[]⟩, .slice none 0 0, .slice none 0 0] 27)).alloc (.cells #[.int .i64 0, .int .i64 0, .int .i64 0, .string ⟨#[]⟩, .slice none 0 0, .slice none 0 0] 27)) = wr)
  case atStart => exact ⟨rfl, rfl⟩
  case round =>
    obtain ⟨rfl, rfl⟩ := hrel
    go_wp2_with fail
    go_loopg [6] 0 (fun gk i wr => i = .int .i64 0 ∧ ((w.alloc (.cells #[.int .i64 0, .int .i64 0, .int .i64 0, .string ⟨#[]⟩, .slice none 0 0, .slice none 0 0] 27)).alloc (.cells #[.int .i64 0, .int .i64 0, .int .i64 0, .string ⟨#[]⟩, .slice none 0 0, .slice none 0 0] 27)) = wr)
    case atStart => exact ⟨rfl, rfl⟩
    case round =>
      obtain ⟨rfl, rfl⟩ := hrel
      go_wp2
      go_ret
      exact ⟨rfl, al2 _ _ _⟩
/-- what stands in memory while the law asks -/
structure NbW (w W : World) (acts : List Value) : Prop where
  act : BoxN W w.heap.size acts
  tab : BoxN W (w.heap.size + 1) [.pointer none, .pointer none, .int .i64 0, .int .i64 0, .int .i64 0, .slice none 0 0]
  row : BoxN W (w.heap.size + 2) [.pointer none, .pointer (some ⟨w.heap.size + 1, 0, none⟩)]
  b : Below w.heap.size w W
theorem NbW.below {w W W' : World} {acts : List Value} (h : NbW w W acts) (hb : Below W.heap.size W W') : NbW w W' acts :=
  ⟨h.act.below hb, h.tab.below hb, h.row.below hb, up h.b hb⟩
theorem NbW.elem {w W : World} {acts : List Value} (h : NbW w W acts) (j : Nat) (hj : j < 2) : ∃ v, W.cell? ⟨w.heap.size + 2, j, none⟩ = some (.pointer v) ∧ NoT W W.heap.size v := by
  match j, hj with
  | 0, _ => exact ⟨none, h.row.cell 0 _ rfl, .nil⟩
  | 1, _ => exact ⟨some ⟨w.heap.size + 1, 0, none⟩, h.row.cell 1 _ rfl, .empty _ h.tab.lt (h.tab.cell 0 _ rfl)⟩
  | j + 2, h => omega
set_option maxRecDepth 100000 in
set_option maxHeartbeats 4000000 in
theorem law_nobody (kd id k m e : Int) (s : ByteArray) (A : Option Addr) (n c : Nat) (A2 : Option Addr) (n2 c2 : Nat) (A3 : Option Addr) (n3 c3 : Nat) (A4 : Option Addr) (n4 c4 : Nat) (A5 : Option Addr) (n5 c5 : Nat) (F : Option Addr) (fn fc : Nat) (w : World) :
    Calls Tryz.prog 3 #[.agg #[.int .i64 kd, .int .i64 id, .int .i64 k, .int .i64 m, .int .i64 e, .string s, .slice A n c, .slice A2 n2 c2, .slice A3 n3 c3, .slice A4 n4 c4, .slice A5 n5 c5], .slice F fn fc] w fun r w' => r = .returned (.bool true) ∧ Below w.heap.size w w' := by
  go_enter Tryz.func3, Tryz.ntmps3
  go_upto_region 2 with fail
  refine wp_world (fun W => NbW w W [.int .i64 kd, .int .i64 id, .int .i64 k, .int .i64 m, .int .i64 e, .string s, .slice A n c, .slice A2 n2 c2, .slice A3 n3 c3, .slice A4 n4 c4, .slice A5 n5 c5]) ⟨(BoxN.new [.int .i64 kd, .int .i64 id, .int .i64 k, .int .i64 m, .int .i64 e, .string s, .slice A n c, .slice A2 n2 c2, .slice A3 n3 c3, .slice A4 n4 c4, .slice A5 n5 c5] _ rfl).below (al2 _ _ _), (BoxN.new [.pointer none, .pointer none, .int .i64 0, .int .i64 0, .int .i64 0, .slice none 0 0] _ (by simp)).below (al1 _ _), BoxN.new [.pointer none, .pointer (some ⟨w.heap.size + 1, 0, none⟩)] _ (by simp), al3 _ _ _ _⟩ ?_
  rintro W0 HN
  replace HN := Keep.mk HN
  go_loopg [27] 2 (fun gk i wr => ∃ j : Nat, j + gk = 2 ∧ i = .int .i64 j ∧ Keep (NbW w wr [.int .i64 kd, .int .i64 id, .int .i64 k, .int .i64 m, .int .i64 e, .string s, .slice A n c, .slice A2 n2 c2, .slice A3 n3 c3, .slice A4 n4 c4, .slice A5 n5 c5]))
  case atStart => exact ⟨0, by omega, rfl, HN⟩
  case round =>
    clear HN
    obtain ⟨j, hj, rfl, HN⟩ := hrel
    by_cases hlt : j < 2
    · have hgk : gk ≠ 0 := by omega
      obtain ⟨v, hv, hN⟩ := HN.out.elem j hlt
      replace hN := Keep.mk hN
      have a1 := HN.out.act.cell 1 _ rfl
      have a2 := HN.out.act.cell 2 _ rfl
      have a3 := HN.out.act.cell 3 _ rfl
      have a4 := HN.out.act.cell 4 _ rfl
      have a5 := HN.out.act.cell 5 _ rfl
      have a6 := HN.out.act.cell 6 _ rfl
      have a7 := HN.out.act.cell 7 _ rfl
      have a8 := HN.out.act.cell 8 _ rfl
      have a9 := HN.out.act.cell 9 _ rfl
      have a10 := HN.out.act.cell 10 _ rfl
      have al := HN.out.act.lt
      have rl := HN.out.row.lt
      go_wp2_with fail
      refine (tab_Insert v k m e s A n c A2 n2 c2 _ hN.out).mono ?_
      rintro r w1 ⟨rfl, hb⟩
      replace HN := Keep.mk (HN.out.below hb)
      replace hN := Keep.mk (hN.out.below hb)
      clear hv rl hb a1 a2 a3 a4 a5 a6 a7 a8 a9 a10 al
      have a1 := HN.out.act.cell 1 _ rfl
      have a2 := HN.out.act.cell 2 _ rfl
      have a3 := HN.out.act.cell 3 _ rfl
      have a4 := HN.out.act.cell 4 _ rfl
      have a5 := HN.out.act.cell 5 _ rfl
      have a6 := HN.out.act.cell 6 _ rfl
      have a7 := HN.out.act.cell 7 _ rfl
      have a8 := HN.out.act.cell 8 _ rfl
      have a9 := HN.out.act.cell 9 _ rfl
      have a10 := HN.out.act.cell 10 _ rfl
      have al := HN.out.act.lt
      go_wp2_with fail
      refine (tab_Get v id _ hN.out).mono ?_
      rintro r w2 ⟨rfl, hb⟩
      replace HN := Keep.mk (HN.out.below hb)
      replace hN := Keep.mk (hN.out.below hb)
      clear hb a1 a2 a3 a4 a5 a6 a7 a8 a9 a10 al
      have a1 := HN.out.act.cell 1 _ rfl
      have a2 := HN.out.act.cell 2 _ rfl
      have a3 := HN.out.act.cell 3 _ rfl
      have a4 := HN.out.act.cell 4 _ rfl
      have a5 := HN.out.act.cell 5 _ rfl
      have a6 := HN.out.act.cell 6 _ rfl
      have a7 := HN.out.act.cell 7 _ rfl
      have a8 := HN.out.act.cell 8 _ rfl
      have a9 := HN.out.act.cell 9 _ rfl
      have a10 := HN.out.act.cell 10 _ rfl
      have al := HN.out.act.lt
      have HZ := Keep.mk (BoxN.new (w := w2) [.int .i64 0, .int .i64 0, .int .i64 0, .string ⟨#[]⟩, .slice none 0 0, .slice none 0 0] 27 rfl)
      go_wp2_with fail
      refine (tab_Ids v _ (hN.out.below (al1 _ _))).mono ?_
      rintro r w3 ⟨rfl, hb⟩
      replace HZ := Keep.mk (HZ.out.below hb)
      replace HN := Keep.mk (HN.out.below (up (al1 _ _) hb))
      replace hN := Keep.mk (hN.out.below (up (al1 _ _) hb))
      clear hb a1 a2 a3 a4 a5 a6 a7 a8 a9 a10 al
      have a1 := HN.out.act.cell 1 _ rfl
      have a2 := HN.out.act.cell 2 _ rfl
      have a3 := HN.out.act.cell 3 _ rfl
      have a4 := HN.out.act.cell 4 _ rfl
      have a5 := HN.out.act.cell 5 _ rfl
      have a6 := HN.out.act.cell 6 _ rfl
      have a7 := HN.out.act.cell 7 _ rfl
      have a8 := HN.out.act.cell 8 _ rfl
      have a9 := HN.out.act.cell 9 _ rfl
      have a10 := HN.out.act.cell 10 _ rfl
      have al := HN.out.act.lt
      go_wp2_with fail
      refine (tab_Find v id A4 n4 c4 A5 n5 c5 _ hN.out).mono ?_
      rintro r w4 ⟨rfl, hb⟩
      replace HZ := Keep.mk (HZ.out.below hb)
      replace HN := Keep.mk (HN.out.below hb)
      replace hN := Keep.mk (hN.out.below hb)
      clear hb a1 a2 a3 a4 a5 a6 a7 a8 a9 a10 al
      have a1 := HN.out.act.cell 1 _ rfl
      have a2 := HN.out.act.cell 2 _ rfl
      have a3 := HN.out.act.cell 3 _ rfl
      have a4 := HN.out.act.cell 4 _ rfl
      have a5 := HN.out.act.cell 5 _ rfl
      have a6 := HN.out.act.cell 6 _ rfl
      have a7 := HN.out.act.cell 7 _ rfl
      have a8 := HN.out.act.cell 8 _ rfl
      have a9 := HN.out.act.cell 9 _ rfl
      have a10 := HN.out.act.cell 10 _ rfl
      have al := HN.out.act.lt
      go_wp2_with fail
      refine (tab_Pages v _ hN.out).mono ?_
      rintro r w5 ⟨rfl, hb⟩
      replace HZ := Keep.mk (HZ.out.below hb)
      replace HN := Keep.mk (HN.out.below hb)
      replace hN := Keep.mk (hN.out.below hb)
      clear hb a1 a2 a3 a4 a5 a6 a7 a8 a9 a10 al
      have a1 := HN.out.act.cell 1 _ rfl
      have a2 := HN.out.act.cell 2 _ rfl
      have a3 := HN.out.act.cell 3 _ rfl
      have a4 := HN.out.act.cell 4 _ rfl
      have a5 := HN.out.act.cell 5 _ rfl
      have a6 := HN.out.act.cell 6 _ rfl
      have a7 := HN.out.act.cell 7 _ rfl
      have a8 := HN.out.act.cell 8 _ rfl
      have a9 := HN.out.act.cell 9 _ rfl
      have a10 := HN.out.act.cell 10 _ rfl
      have al := HN.out.act.lt
      have z0 := HZ.out.cell 0 _ rfl
      have z1 := HZ.out.cell 1 _ rfl
      have z2 := HZ.out.cell 2 _ rfl
      have z3 := HZ.out.cell 3 _ rfl
      have z4 := HZ.out.cell 4 _ rfl
      have z5 := HZ.out.cell 5 _ rfl
      have zl := HZ.out.lt
      go_wp2_with fail
      refine (same_zero _).mono ?_
      rintro r w6 ⟨rfl, hb⟩
      replace HZ := Keep.mk (HZ.out.below hb)
      replace HN := Keep.mk (HN.out.below hb)
      replace hN := Keep.mk (hN.out.below hb)
      clear hb z0 z1 z2 z3 z4 z5 zl a1 a2 a3 a4 a5 a6 a7 a8 a9 a10 al
      have a1 := HN.out.act.cell 1 _ rfl
      have a2 := HN.out.act.cell 2 _ rfl
      have a3 := HN.out.act.cell 3 _ rfl
      have a4 := HN.out.act.cell 4 _ rfl
      have a5 := HN.out.act.cell 5 _ rfl
      have a6 := HN.out.act.cell 6 _ rfl
      have a7 := HN.out.act.cell 7 _ rfl
      have a8 := HN.out.act.cell 8 _ rfl
      have a9 := HN.out.act.cell 9 _ rfl
      have a10 := HN.out.act.cell 10 _ rfl
      have al := HN.out.act.lt
      go_wp2_with fail
      refine (tab_Paths v _ hN.out).mono ?_
      rintro r w7 ⟨rfl, hb⟩
      replace HZ := Keep.mk (HZ.out.below hb)
      replace HN := Keep.mk (HN.out.below hb)
      replace hN := Keep.mk (hN.out.below hb)
      clear hb a1 a2 a3 a4 a5 a6 a7 a8 a9 a10 al
      have a1 := HN.out.act.cell 1 _ rfl
      have a2 := HN.out.act.cell 2 _ rfl
      have a3 := HN.out.act.cell 3 _ rfl
      have a4 := HN.out.act.cell 4 _ rfl
      have a5 := HN.out.act.cell 5 _ rfl
      have a6 := HN.out.act.cell 6 _ rfl
      have a7 := HN.out.act.cell 7 _ rfl
      have a8 := HN.out.act.cell 8 _ rfl
      have a9 := HN.out.act.cell 9 _ rfl
      have a10 := HN.out.act.cell 10 _ rfl
      have al := HN.out.act.lt
      go_wp2_with fail
      refine (tab_Fields v _ hN.out).mono ?_
      rintro r w8 ⟨rfl, hb⟩
      replace HZ := Keep.mk (HZ.out.below hb)
      replace HN := Keep.mk (HN.out.below hb)
      replace hN := Keep.mk (hN.out.below hb)
      clear hb a1 a2 a3 a4 a5 a6 a7 a8 a9 a10 al
      have a1 := HN.out.act.cell 1 _ rfl
      have a2 := HN.out.act.cell 2 _ rfl
      have a3 := HN.out.act.cell 3 _ rfl
      have a4 := HN.out.act.cell 4 _ rfl
      have a5 := HN.out.act.cell 5 _ rfl
      have a6 := HN.out.act.cell 6 _ rfl
      have a7 := HN.out.act.cell 7 _ rfl
      have a8 := HN.out.act.cell 8 _ rfl
      have a9 := HN.out.act.cell 9 _ rfl
      have a10 := HN.out.act.cell 10 _ rfl
      have al := HN.out.act.lt
      go_upto_region 11 with fail
      refine wp_region_every (fun _ w' => Below w8.heap.size w8 w') (fun
        | 0 => fun x _ => x = .int .i64 1
        | 1 => fun x _ => x = .int .i64 1
        | 2 => fun x _ => x = .int .i64 1
        | 3 => fun x _ => x = .int .i64 1
        | 4 => fun x _ => x = .int .i64 1
        | 5 => fun x _ => x = .pointer v
        | 6 => fun x _ => x = .pointer (some ⟨w.heap.size, 1, none⟩)
        | 7 => fun x _ => x = .int .i64 id
        | 8 => fun x _ => x = .pointer (some ⟨w.heap.size, 2, none⟩)
        | 9 => fun x _ => x = .agg #[.int .i64 k, .int .i64 m, .int .i64 e, .string s, .slice A n c, .slice A2 n2 c2]
        | 10 => fun x _ => x = .int .i64 1
        | 11 => fun x _ => x = .pointer v
        | 12 => fun x _ => x = .pointer (some ⟨w.heap.size, 1, none⟩)
        | 13 => fun x _ => x = .int .i64 id
        | 14 => fun x _ => x = .int .i64 1
        | 15 => fun x _ => x = .pointer v
        | 16 => fun x _ => x = .pointer (some ⟨w.heap.size, 8, none⟩)
        | 17 => fun x _ => x = .slice A3 n3 c3
        | 18 => fun x _ => x = .int .i64 1
        | 19 => fun x _ => x = .pointer v
        | 20 => fun x _ => x = .pointer (some ⟨w.heap.size, 8, none⟩)
        | 21 => fun x _ => x = .slice A3 n3 c3
        | 22 => fun x _ => x = .int .i64 1
        | 23 => fun x _ => x = .pointer v
        | 24 => fun x _ => x = .int .i64 1
        | 25 => fun x _ => x = .pointer v
        | 26 => fun x _ => x = .pointer v
        | 27 => fun x _ => x = .pointer none
        | 28 => fun x _ => x = .int .i64 1
        | 29 => fun x w' => ∃ g, x = .slice (some ⟨g, 0, none⟩) 11 11 ∧ w8.heap.size ≤ g ∧ BoxN w' g [.int .i64 1, .int .i64 1, .int .i64 1, .int .i64 1, .int .i64 1, .int .i64 1, .int .i64 1, .int .i64 1, .int .i64 1, .int .i64 1, .int .i64 1]
        | 30 => fun x _ => x = .int .i64 11
        | 31 => fun x _ => x = .int .i64 0
        | _ => fun _ _ => True) (fun _ w1 w2 => Below w1.heap.size w1 w2) (by kernel_rfl) (by kernel_rfl) (below_drawn w8) ?_ ?_ ?_
      · intro i j x w1 w2 _ hb
        match j with
        | 0 | 1 | 2 | 3 | 4 | 5 | 6 | 7 | 8 | 9 | 10 | 11 | 12 | 13 | 14 | 15 | 16 | 17 | 18 | 19 | 20 | 21 | 22 | 23 | 24 | 25 | 26 | 27 | 28 | 30 | 31 => exact fun h => h
        | 29 => rintro ⟨g, h1, h2, h3⟩; exact ⟨g, h1, h2, h3.below hb⟩
        | _ + 32 => exact fun h => h
      · simp only [stepHold]
        refine ⟨?_, ?_, ?_, ?_, ?_, ?_, ?_, ?_, ?_, ?_, ?_, ?_, ?_, ?_, ?_, ?_, ?_, ?_, ?_, ?_, ?_, ?_, ?_, ?_, ?_, ?_, ?_, ?_, ?_, ?_, ?_, ?_, trivial⟩
        · intro _ a wa _ hI hs _
          have q1 : a.eval (.tmp 8) = .int .i64 1 := hs 8 (by kernel_rfl)
          exact op_val _ (w' := wa) (by unfold execOp; simp only [q1]; go_simp) ⟨_, rfl, rfl, hI, Below.refl _ _⟩
        · intro _ a wa _ hI hs _
          have q1 : a.eval (.tmp 10) = .int .i64 1 := hs 10 (by kernel_rfl)
          exact op_val _ (w' := wa) (by unfold execOp; simp only [q1]; go_simp) ⟨_, rfl, rfl, hI, Below.refl _ _⟩
        · intro _ a wa _ hI hs _
          have q1 : a.eval (.tmp 12) = .int .i64 1 := hs 12 (by kernel_rfl)
          exact op_val _ (w' := wa) (by unfold execOp; simp only [q1]; go_simp) ⟨_, rfl, rfl, hI, Below.refl _ _⟩
        · intro _ a wa _ hI hs _
          have q1 : a.eval (.tmp 14) = .int .i64 1 := hs 14 (by kernel_rfl)
          exact op_val _ (w' := wa) (by unfold execOp; simp only [q1]; go_simp) ⟨_, rfl, rfl, hI, Below.refl _ _⟩
        · intro _ a wa _ hI hs _
          have q1 : a.eval (.tmp 16) = .int .i64 1 := hs 16 (by kernel_rfl)
          exact op_val _ (w' := wa) (by unfold execOp; simp only [q1]; go_simp) ⟨_, rfl, rfl, hI, Below.refl _ _⟩
        · intro _ a wa _ hI hs _
          have q1 : a.eval (.tmp 6) = .pointer v := hs 6 (by kernel_rfl)
          exact op_val _ (w' := wa) (by unfold execOp; simp only [q1]; go_simp) ⟨_, rfl, rfl, hI, Below.refl _ _⟩
        · intro _ a wa _ hI hs _
          have q1 : a.eval (.tmp 2) = .pointer (some ⟨w.heap.size, 0, none⟩) := hs 2 (by kernel_rfl)
          exact op_val _ (w' := wa) (by unfold execOp; simp only [q1]; go_simp) ⟨_, rfl, rfl, hI, Below.refl _ _⟩
        · intro _ a wa _ hI _ hd
          have q1 : a.eval (.tmp 107) = .pointer (some ⟨w.heap.size, 1, none⟩) := hd.1
          have HX := HN.out.act.below hI
          have b1 := HX.cell 1 _ rfl
          have bl := HX.lt
          exact op_val _ (w' := wa) (by unfold execOp; simp only [q1]; go_simp) ⟨_, rfl, rfl, hI, Below.refl _ _⟩
        · intro _ a wa _ hI hs _
          have q1 : a.eval (.tmp 2) = .pointer (some ⟨w.heap.size, 0, none⟩) := hs 2 (by kernel_rfl)
          exact op_val _ (w' := wa) (by unfold execOp; simp only [q1]; go_simp) ⟨_, rfl, rfl, hI, Below.refl _ _⟩
        · intro _ a wa _ hI _ hd
          have q1 : a.eval (.tmp 109) = .pointer (some ⟨w.heap.size, 2, none⟩) := hd.1
          have HX := HN.out.act.below hI
          have b2 := HX.cell 2 _ rfl
          have b3 := HX.cell 3 _ rfl
          have b4 := HX.cell 4 _ rfl
          have b5 := HX.cell 5 _ rfl
          have b6 := HX.cell 6 _ rfl
          have b7 := HX.cell 7 _ rfl
          have bl := HX.lt
          exact op_val _ (w' := wa) (by unfold execOp; simp only [q1]; go_simp) ⟨_, rfl, rfl, hI, Below.refl _ _⟩
        · intro _ a wa _ hI _ hd
          have q1 : a.eval (.tmp 106) = .pointer v := hd.1
          have q2 : a.eval (.tmp 108) = .int .i64 id := hd.2.1
          have q3 : a.eval (.tmp 110) = .agg #[.int .i64 k, .int .i64 m, .int .i64 e, .string s, .slice A n c, .slice A2 n2 c2] := hd.2.2.1
          have f1 := get_form q1
          have f2 := get_form q2
          have f3 := get_form q3
          refine op_call 12 #[.pointer v, .int .i64 id, .agg #[.int .i64 k, .int .i64 m, .int .i64 e, .string s, .slice A n c, .slice A2 n2 c2]] (by unfold execOp; go_simp) ((tab_Replace v id k m e s A n c A2 n2 c2 wa (hN.out.below hI)).mono ?_)
          rintro r w9 ⟨rfl, hb1⟩
          exact ⟨_, rfl, _, rfl, rfl, up hI hb1, hb1⟩
        · intro _ a wa _ hI hs _
          have q1 : a.eval (.tmp 6) = .pointer v := hs 6 (by kernel_rfl)
          exact op_val _ (w' := wa) (by unfold execOp; simp only [q1]; go_simp) ⟨_, rfl, rfl, hI, Below.refl _ _⟩
        · intro _ a wa _ hI hs _
          have q1 : a.eval (.tmp 2) = .pointer (some ⟨w.heap.size, 0, none⟩) := hs 2 (by kernel_rfl)
          exact op_val _ (w' := wa) (by unfold execOp; simp only [q1]; go_simp) ⟨_, rfl, rfl, hI, Below.refl _ _⟩
        · intro _ a wa _ hI _ hd
          have q1 : a.eval (.tmp 113) = .pointer (some ⟨w.heap.size, 1, none⟩) := hd.1
          have HX := HN.out.act.below hI
          have b1 := HX.cell 1 _ rfl
          have bl := HX.lt
          exact op_val _ (w' := wa) (by unfold execOp; simp only [q1]; go_simp) ⟨_, rfl, rfl, hI, Below.refl _ _⟩
        · intro _ a wa _ hI _ hd
          have q1 : a.eval (.tmp 112) = .pointer v := hd.1
          have q2 : a.eval (.tmp 114) = .int .i64 id := hd.2.1
          have f1 := get_form q1
          have f2 := get_form q2
          refine op_call 13 #[.pointer v, .int .i64 id] (by unfold execOp; go_simp) ((tab_Delete v id wa (hN.out.below hI)).mono ?_)
          rintro r w9 ⟨rfl, hb1⟩
          exact ⟨_, rfl, _, rfl, rfl, up hI hb1, hb1⟩
        · intro _ a wa _ hI hs _
          have q1 : a.eval (.tmp 6) = .pointer v := hs 6 (by kernel_rfl)
          exact op_val _ (w' := wa) (by unfold execOp; simp only [q1]; go_simp) ⟨_, rfl, rfl, hI, Below.refl _ _⟩
        · intro _ a wa _ hI hs _
          have q1 : a.eval (.tmp 2) = .pointer (some ⟨w.heap.size, 0, none⟩) := hs 2 (by kernel_rfl)
          exact op_val _ (w' := wa) (by unfold execOp; simp only [q1]; go_simp) ⟨_, rfl, rfl, hI, Below.refl _ _⟩
        · intro _ a wa _ hI _ hd
          have q1 : a.eval (.tmp 117) = .pointer (some ⟨w.heap.size, 8, none⟩) := hd.1
          have HX := HN.out.act.below hI
          have b8 := HX.cell 8 _ rfl
          have bl := HX.lt
          exact op_val _ (w' := wa) (by unfold execOp; simp only [q1]; go_simp) ⟨_, rfl, rfl, hI, Below.refl _ _⟩
        · intro _ a wa _ hI _ hd
          have q1 : a.eval (.tmp 116) = .pointer v := hd.1
          have q2 : a.eval (.tmp 118) = .slice A3 n3 c3 := hd.2.1
          have f1 := get_form q1
          have f2 := get_form q2
          refine op_call 14 #[.pointer v, .slice A3 n3 c3] (by unfold execOp; go_simp) ((tab_AddIndex v A3 n3 c3 wa (hN.out.below hI)).mono ?_)
          rintro r w9 ⟨rfl, hb1⟩
          exact ⟨_, rfl, _, rfl, rfl, up hI hb1, hb1⟩
        · intro _ a wa _ hI hs _
          have q1 : a.eval (.tmp 6) = .pointer v := hs 6 (by kernel_rfl)
          exact op_val _ (w' := wa) (by unfold execOp; simp only [q1]; go_simp) ⟨_, rfl, rfl, hI, Below.refl _ _⟩
        · intro _ a wa _ hI hs _
          have q1 : a.eval (.tmp 2) = .pointer (some ⟨w.heap.size, 0, none⟩) := hs 2 (by kernel_rfl)
          exact op_val _ (w' := wa) (by unfold execOp; simp only [q1]; go_simp) ⟨_, rfl, rfl, hI, Below.refl _ _⟩
        · intro _ a wa _ hI _ hd
          have q1 : a.eval (.tmp 121) = .pointer (some ⟨w.heap.size, 8, none⟩) := hd.1
          have HX := HN.out.act.below hI
          have b8 := HX.cell 8 _ rfl
          have bl := HX.lt
          exact op_val _ (w' := wa) (by unfold execOp; simp only [q1]; go_simp) ⟨_, rfl, rfl, hI, Below.refl _ _⟩
        · intro _ a wa _ hI _ hd
          have q1 : a.eval (.tmp 120) = .pointer v := hd.1
          have q2 : a.eval (.tmp 122) = .slice A3 n3 c3 := hd.2.1
          have f1 := get_form q1
          have f2 := get_form q2
          refine op_call 15 #[.pointer v, .slice A3 n3 c3] (by unfold execOp; go_simp) ((tab_DropIndex v A3 n3 c3 wa (hN.out.below hI)).mono ?_)
          rintro r w9 ⟨rfl, hb1⟩
          exact ⟨_, rfl, _, rfl, rfl, up hI hb1, hb1⟩
        · intro _ a wa _ hI hs _
          have q1 : a.eval (.tmp 6) = .pointer v := hs 6 (by kernel_rfl)
          exact op_val _ (w' := wa) (by unfold execOp; simp only [q1]; go_simp) ⟨_, rfl, rfl, hI, Below.refl _ _⟩
        · intro _ a wa _ hI _ hd
          have q1 : a.eval (.tmp 124) = .pointer v := hd.1
          have f1 := get_form q1
          refine op_call 16 #[.pointer v] (by unfold execOp; go_simp) ((tab_Pack v wa (hN.out.below hI)).mono ?_)
          rintro r w9 ⟨rfl, hb1⟩
          exact ⟨_, rfl, _, rfl, rfl, up hI hb1, hb1⟩
        · intro _ a wa _ hI hs _
          have q1 : a.eval (.tmp 6) = .pointer v := hs 6 (by kernel_rfl)
          exact op_val _ (w' := wa) (by unfold execOp; simp only [q1]; go_simp) ⟨_, rfl, rfl, hI, Below.refl _ _⟩
        · intro _ a wa _ hI hs _
          have q1 : a.eval (.tmp 6) = .pointer v := hs 6 (by kernel_rfl)
          exact op_val _ (w' := wa) (by unfold execOp; simp only [q1]; go_simp) ⟨_, rfl, rfl, hI, Below.refl _ _⟩
        · intro _ a wa _ hI _ hd
          have q1 : a.eval (.tmp 127) = .pointer v := hd.1
          have f1 := get_form q1
          refine op_call 18 #[.pointer v] (by unfold execOp; go_simp) ((tab_Mark v wa (hN.out.below hI)).mono ?_)
          rintro r w9 ⟨rfl, hb1⟩
          exact ⟨_, rfl, _, rfl, rfl, up hI hb1, hb1⟩
        · intro _ a wa _ hI _ hd
          have q1 : a.eval (.tmp 126) = .pointer v := hd.1
          have q2 : a.eval (.tmp 128) = .pointer none := hd.2.1
          have f1 := get_form q1
          have f2 := get_form q2
          refine op_call 17 #[.pointer v, .pointer none] (by unfold execOp; go_simp) ((tab_Back v wa (hN.out.below hI)).mono ?_)
          rintro r w9 ⟨rfl, hb1⟩
          exact ⟨_, rfl, _, rfl, rfl, up hI hb1, hb1⟩
        · intro _ a wa _ hI _ hd
          have q1 : a.eval (.tmp 101) = .int .i64 1 := hd.1
          have q2 : a.eval (.tmp 102) = .int .i64 1 := hd.2.1
          have q3 : a.eval (.tmp 103) = .int .i64 1 := hd.2.2.1
          have q4 : a.eval (.tmp 104) = .int .i64 1 := hd.2.2.2.1
          have q5 : a.eval (.tmp 105) = .int .i64 1 := hd.2.2.2.2.1
          have q6 : a.eval (.tmp 111) = .int .i64 1 := hd.2.2.2.2.2.1
          have q7 : a.eval (.tmp 115) = .int .i64 1 := hd.2.2.2.2.2.2.1
          have q8 : a.eval (.tmp 119) = .int .i64 1 := hd.2.2.2.2.2.2.2.1
          have q9 : a.eval (.tmp 123) = .int .i64 1 := hd.2.2.2.2.2.2.2.2.1
          have q10 : a.eval (.tmp 125) = .int .i64 1 := hd.2.2.2.2.2.2.2.2.2.1
          have q11 : a.eval (.tmp 129) = .int .i64 1 := hd.2.2.2.2.2.2.2.2.2.2.1
          have f1 := get_form q1
          have f2 := get_form q2
          have f3 := get_form q3
          have f4 := get_form q4
          have f5 := get_form q5
          have f6 := get_form q6
          have f7 := get_form q7
          have f8 := get_form q8
          have f9 := get_form q9
          have f10 := get_form q10
          have f11 := get_form q11
          exact op_val _ (w' := wa.alloc (.cells (List.toArray [.int .i64 1, .int .i64 1, .int .i64 1, .int .i64 1, .int .i64 1, .int .i64 1, .int .i64 1, .int .i64 1, .int .i64 1, .int .i64 1, .int .i64 1]) 39)) (by unfold execOp; go_simp) ⟨_, rfl, ⟨wa.heap.size, rfl, hI.size, BoxN.new [.int .i64 1, .int .i64 1, .int .i64 1, .int .i64 1, .int .i64 1, .int .i64 1, .int .i64 1, .int .i64 1, .int .i64 1, .int .i64 1, .int .i64 1] _ rfl⟩, up hI (al1 _ _), al1 _ _⟩
        · intro _ a wa _ hI _ hd
          obtain ⟨g, q1, _, _⟩ := hd.1
          have q1 : a.eval (.tmp 130) = .slice (some ⟨g, 0, none⟩) 11 11 := q1
          have f1 := get_form q1
          exact op_val _ (w' := wa) (by unfold execOp; simp only; go_simp) ⟨_, rfl, rfl, hI, Below.refl _ _⟩
        · intro _ a wa _ hI _ hd
          exact op_val _ (w' := wa) (by unfold execOp; go_simp) ⟨_, rfl, rfl, hI, Below.refl _ _⟩
      · intro vs _ W1 _ hI hall
        simp only [allHold, gives] at hall
        obtain ⟨h0, h1, h2, h3, h4, h5, h6, h7, h8, h9, h10, h11, h12, h13, h14, h15, h16, h17, h18, h19, h20, h21, h22, h23, h24, h25, h26, h27, h28, h29, h30, h31, _⟩ := hall
        simp only [putL]
        generalize vs 0 = v0 at *
        generalize vs 1 = v1 at *
        generalize vs 2 = v2 at *
        generalize vs 3 = v3 at *
        generalize vs 4 = v4 at *
        generalize vs 5 = v5 at *
        generalize vs 6 = v6 at *
        generalize vs 7 = v7 at *
        generalize vs 8 = v8 at *
        generalize vs 9 = v9 at *
        generalize vs 10 = v10 at *
        generalize vs 11 = v11 at *
        generalize vs 12 = v12 at *
        generalize vs 13 = v13 at *
        generalize vs 14 = v14 at *
        generalize vs 15 = v15 at *
        generalize vs 16 = v16 at *
        generalize vs 17 = v17 at *
        generalize vs 18 = v18 at *
        generalize vs 19 = v19 at *
        generalize vs 20 = v20 at *
        generalize vs 21 = v21 at *
        generalize vs 22 = v22 at *
        generalize vs 23 = v23 at *
        generalize vs 24 = v24 at *
        generalize vs 25 = v25 at *
        generalize vs 26 = v26 at *
        generalize vs 27 = v27 at *
        generalize vs 28 = v28 at *
        generalize vs 29 = v29 at *
        generalize vs 30 = v30 at *
        generalize vs 31 = v31 at *
        obtain ⟨g, rfl, hg8, HE⟩ := h29
        subst h0 h1 h2 h3 h4 h5 h6 h7 h8 h9 h10 h11 h12 h13 h14 h15 h16 h17 h18 h19 h20 h21 h22 h23 h24 h25 h26 h27 h28 h30 h31
        replace HE := Keep.mk HE
        replace HN := Keep.mk (HN.out.below hI)
        replace hN := Keep.mk (hN.out.below hI)
        clear hI a1 a2 a3 a4 a5 a6 a7 a8 a9 a10 al
        have el := HE.out.lt
        go_wp2_with fail
        simp only [Act.put, List.setIfInBounds_toArray, List.set_cons_zero, List.set_cons_succ]
        generalize gk = ko at *
        go_loopg [132] 11 (fun gk i wr => ∃ q : Nat, q + gk = 11 ∧ i = .int .i64 q ∧ W1 = wr)
        case atStart => exact ⟨0, by omega, rfl, rfl⟩
        case round =>
          obtain ⟨q, hq, rfl, rfl⟩ := hrel
          by_cases hlq : q < 11
          · have hg2 : gk ≠ 0 := by omega
            have eq : W1.cell? ⟨g, q, none⟩ = some (.int .i64 1) := HE.out.cell q _ (by match q, hlq with | 0, _ | 1, _ | 2, _ | 3, _ | 4, _ | 5, _ | 6, _ | 7, _ | 8, _ | 9, _ | 10, _ => rfl | _ + 11, h => omega)
            go_wp2
            go_roundg (gk - 1)
            case rel => exact ⟨q + 1, by omega, by go_num, rfl⟩
            case measure => omega
          · obtain rfl : q = 11 := by omega
            go_wp2
            go_roundg (ko - 1)
            case rel => exact ⟨j + 1, by omega, by go_num, HN⟩
            case measure => omega
    · obtain rfl : j = 2 := by omega
      go_wp2_with fail
      refine (table_New wr).mono ?_
      rintro r w1 ⟨rfl, rfl⟩
      go_wp2_with fail
      refine (table_Open (some ⟨w1.heap.size, 0, none⟩) F fn fc _ (.empty _ (by simp) (by simp [go_sem]))).mono ?_
      rintro r w2 ⟨rfl, rfl⟩
      go_wp2
      go_ret
      exact ⟨rfl, up HN.out.b (al1 _ _)⟩
end Go.Proofs.YtfgcelcmbjokgaaGreatDoor
