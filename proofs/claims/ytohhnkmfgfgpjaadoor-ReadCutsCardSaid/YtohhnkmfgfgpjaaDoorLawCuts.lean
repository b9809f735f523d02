/- ReadCuts, the law itself. Conditions: those that it names. -/
import Derived.Test.YtohhnkmfgfgpjaaDoorWorks6
import Derived.Test.YtohhnkmfgfgpjaaDoorSame
import Derived.Outline
namespace Go.Proofs.YtohhnkmfgfgpjaaDoor
open Go Go.RowKit Go.Proofs Th
attribute [local go_sem] Above.cell Above.frozen

structure Still4 (w W : World) (p : Nat) (A : Option Addr) (c : Nat) (A' : Option Addr) (c' : Nat) : Prop where
  j : JAt W W.heap.size zeroJ (cells6 0 0 0 ⟨#[]⟩ A 0 c A' 0 c')
  v : VBlkT W p (cells6 0 0 0 ⟨#[]⟩ A 0 c A' 0 c')
  b : Below w.heap.size w W
theorem zero_any {W W' : World} {S : Nat → Prop} {A : Option Addr} {c : Nat} {A' : Option Addr} {c' : Nat} (h : JIn W S zeroJ (cells6 0 0 0 ⟨#[]⟩ A 0 c A' 0 c')) : JAt W' W'.heap.size zeroJ (cells6 0 0 0 ⟨#[]⟩ A 0 c A' 0 c') := by
  obtain ⟨B, d, B', d', e, h1, h2, h3, h4, hK, hV⟩ := JIn.open (k := 0) (m := 0) (e := 0) (s := ⟨#[]⟩) (l := []) (ks := []) h
  simp only [cells6, List.cons.injEq, Value.slice.injEq, true_and, and_true, List.length_nil] at e
  obtain ⟨⟨rfl, rfl⟩, rfl, rfl⟩ := e
  exact JAt.shut h1 h2 h3 h4 ⟨hK.le, hK.cap, hK.top, hK.small, fun h => absurd h (by decide)⟩ ⟨hV.le, hV.cap, hV.top, fun j h => absurd h (Nat.not_lt_zero _)⟩
theorem cut_place (n : Int) (m : Nat) (h0 : 0 < m) (h1 : m ≤ 100000) : ∃ kk : Nat, wrap64 ((IntKind.u64.wrap n).tmod m) = kk ∧ kk < m := by
  have hu : 0 ≤ IntKind.u64.wrap n := by
    unfold IntKind.wrap
    simp [IntKind.signed, IntKind.bits]
    omega
  rw [Int.tmod_eq_emod_of_nonneg hu]
  have h2 := Int.emod_nonneg (IntKind.u64.wrap n) (b := (m : Int)) (by omega)
  have h3 := Int.emod_lt_of_pos (IntKind.u64.wrap n) (b := (m : Int)) (by omega)
  refine ⟨(IntKind.u64.wrap n % (m : Int)).toNat, ?_, by omega⟩
  rw [IntWalk.wrap64_in _ ⟨by omega, by omega⟩]
  omega
set_option maxRecDepth 100000 in
set_option maxHeartbeats 4000000 in
theorem law_cuts (s : ByteArray) (n : Int) (hs : s.size ≤ 140737488351232) (hn : I64 n) (w : World) (hG : GlobV w) :
    Calls Tryd.prog 3 #[.string s, .int .i64 n] w fun r w' => r = .returned (.bool true) ∧ Below w.heap.size w w' := by
  have HW := Keep.mk (works6 w hG)
  have HG := Keep.mk hG
  have hn1 := hn.lo
  have hn2 := hn.hi
  clear hG hn
  by_cases hbig : 2000 < s.size
  · go_enter Tryd.func3, Tryd.ntmps3
    go_wp2_with fail
    refine HW.out.mono ?_
    rintro r w1 ⟨rfl, hb⟩
    go_wp2
    go_ret
    exact ⟨rfl, hb⟩
  · go_enter Tryd.func3, Tryd.ntmps3
    go_wp2_with fail
    refine HW.out.mono ?_
    rintro r w1 ⟨rfl, hb⟩
    have HB1 := Keep.mk hb
    clear hb HW
    go_upto_region 6 with fail
    obtain ⟨T, hT⟩ : ∃ T : ByteArray, (({ data := #[91] } : ByteArray) ++ s ++ ({ data := #[93] } : ByteArray)) = T := ⟨_, rfl⟩
    rw [hT]
    have HTL := Keep.mk (show T.data.toList = 91 :: s.data.toList ++ [93] by rw [← hT]; simp)
    have hTs : T.size = s.size + 2 := by
      rw [← hT, ByteArray.size_append, ByteArray.size_append, show ({ data := #[91] } : ByteArray).size = 1 from rfl, show ({ data := #[93] } : ByteArray).size = 1 from rfl]; omega
    clear hT
    have HLS := Keep.mk (show s.data.toList.length = s.size from Array.length_toList ..)
    have HP := Keep.mk (fun (W : World) (hb : Below w.heap.size w W) => read_Parse T (by omega) W (HG.out.below hb))
    obtain ⟨R, hR⟩ : ∃ R, readV madeJ T.data.toList = R := ⟨_, rfl⟩
    rw [hR] at HP
    have HR := Keep.mk hR
    have hTn := Keep.mk hTs
    have hT2 : T.size ≤ 2002 := by omega
    clear hR hTs
    obtain ⟨v1, a1, e1⟩ := R
    go_wp2_with fail
    refine (HP.out _ HB1.out).mono ?_
    rintro r w2 ⟨cs, rfl, hJ, hb2⟩
    obtain ⟨k9, m9, e9, s9, A9, n9, c9, A8, n8, c8, rfl⟩ := hJ.cells
    have HB2 := Keep.mk (up (up HB1.out hb2) (al1 w2 (.cells (cells6 k9 m9 e9 s9 A9 n9 c9 A8 n8 c8).toArray 28)))
    simp only [cells6] at HB2 ⊢
    clear hJ hb2 HB1 HP
    by_cases he : e1 = 0
    · subst he
      obtain ⟨kk, hkk, hk1⟩ := cut_place n T.size (by have := hTn.out; omega) (by omega)
      have HKK := Keep.mk hkk
      clear hkk
      go_upto_region 10 with fail
      rw [HKK.out]
      obtain ⟨U, hU⟩ : ∃ U : ByteArray, T.extract 0 kk = U := ⟨_, rfl⟩
      have HUL := Keep.mk (show U.data.toList = (91 :: s.data.toList ++ [93]).take kk by rw [← hU, ← HTL.out]; simp)
      have hUs : U.size ≤ 2002 := by
        have h1 : U.size = U.data.toList.length := (Array.length_toList ..).symm
        rw [h1, HUL.out, List.length_take]
        omega
      obtain ⟨R2, hR2⟩ : ∃ R, readV madeJ U.data.toList = R := ⟨_, rfl⟩
      have hcut := cut_law madeJ s.data.toList kk (by rw [HLS.out]; omega) (by have := hTn.out; rw [HLS.out]; omega) (by rw [← HTL.out, HR.out])
      rw [← HUL.out, hR2] at hcut
      have HQ := Keep.mk (fun (W : World) (hb : Below w.heap.size w W) => read_Parse U (by omega) W (HG.out.below hb))
      rw [hR2] at HQ
      clear hR2
      obtain ⟨v2, a2, e2⟩ := R2
      obtain ⟨hc1, hc2, hc3⟩ := hcut
      simp only at hc1 hc2 hc3
      subst hc2
      have b2 : (e2 != 0) = true := by simpa using hc1
      have b3 : decide ((a2 : Int) ≤ (kk : Int)) = true := by simpa using hc3
      clear hc1
      go_wp2_with fail
      refine (HQ.out _ HB2.out).mono ?_
      rintro r w4 ⟨cs, rfl, hJ4, hb4⟩
      obtain ⟨A1, c1, A2, c2, rfl⟩ := ex_zero hJ4
      have HJ4 := Keep.mk (Still4.mk (zero_any hJ4) (VBlkT.new (cells6 0 0 0 ⟨#[]⟩ A1 0 c1 A2 0 c2) rfl) (up (up HB2.out hb4) (al1 w4 (.cells #[.int .i64 0, .int .i64 0, .int .i64 0, .string ⟨#[]⟩, .slice A1 0 c1, .slice A2 0 c2] 28))))
      clear hJ4 hb4 HQ HB2
      go_upto_region 11 with fail
      refine wp_world (fun W => Still4 w W w4.heap.size A1 c1 A2 c2) HJ4.out ?_
      clear HJ4
      generalize w4.heap.size = p
      rintro W5 HS
      replace HS := Keep.mk HS
      have x0 := HS.out.v.box.cell 0 _ rfl
      have x1 := HS.out.v.box.cell 1 _ rfl
      have x2 := HS.out.v.box.cell 2 _ rfl
      have x3 := HS.out.v.box.cell 3 _ rfl
      have x4 := HS.out.v.box.cell 4 _ rfl
      have x5 := HS.out.v.box.cell 5 _ rfl
      have hxl := HS.out.v.box.lt
      have HSM := Keep.mk (ref3_Same _ zeroJ zeroJ (Nat.le_refl _) W5 _ zero6 HS.out.j ((zero_in W5 (· < W5.heap.size)).at (fun _ h => h)))
      go_wp2_with fail
      refine HSM.out.mono ?_
      rintro r w6 ⟨rfl, hb6⟩
      rw [sameJ_self]
      have HB6 := Keep.mk (up HS.out.b hb6)
      clear HS HSM hb6
      go_wp2
      go_ret
      exact ⟨rfl, HB6.out⟩
    · have b1 : (e1 != 0) = true := by simpa using he
      clear he
      go_wp2
      go_ret
      exact ⟨rfl, HB2.out⟩
end Go.Proofs.YtohhnkmfgfgpjaaDoor
