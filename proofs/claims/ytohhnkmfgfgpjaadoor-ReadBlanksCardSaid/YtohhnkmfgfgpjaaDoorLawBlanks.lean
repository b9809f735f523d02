/- ReadBlanks, the law itself. Conditions: those that it names. -/
import Derived.Test.YtohhnkmfgfgpjaaDoorWorks6
import Derived.Test.YtohhnkmfgfgpjaaDoorSame
import Derived.Test.YtohhnkmfgfgpjaaDoorBlankMath
import Derived.Laws.Bits128
import Derived.Outline
namespace Go.Proofs.YtohhnkmfgfgpjaaDoor
open Go Go.RowKit Go.Proofs Th
attribute [local go_sem] Above.cell Above.frozen

theorem i64_and3 (n : Int) : bits .and .i64 n 3 = n % 4 := by
  have h3 : (BitVec.ofInt 64 3).toNat = 2 ^ 2 - 1 := by decide
  have key : (BitVec.ofInt 64 n &&& BitVec.ofInt 64 3).toNat = (n % ((2 ^ 64 : Nat) : Int)).toNat % 2 ^ 2 := by
    rw [BitVec.toNat_and, BitVec.toNat_ofInt, h3, Nat.and_two_pow_sub_one_eq_mod]
  show IntKind.i64.wrap ((BitVec.ofInt 64 n &&& BitVec.ofInt 64 3).toNat : Nat) = n % 4
  rw [key, IntKind.wrap_i64]
  omega
theorem i64_and63 (n : Int) : bits .and .i64 n 63 = n % 64 := by
  have h63 : (BitVec.ofInt 64 63).toNat = 2 ^ 6 - 1 := by decide
  have key : (BitVec.ofInt 64 n &&& BitVec.ofInt 64 63).toNat = (n % ((2 ^ 64 : Nat) : Int)).toNat % 2 ^ 6 := by
    rw [BitVec.toNat_and, BitVec.toNat_ofInt, h63, Nat.and_two_pow_sub_one_eq_mod]
  show IntKind.i64.wrap ((BitVec.ofInt 64 n &&& BitVec.ofInt 64 63).toNat : Nat) = n % 64
  rw [key, IntKind.wrap_i64]
  omega
theorem blank_snoc {b t : ByteArray} {j : Nat} (h : b.data.toList.length = j ∧ ∀ c ∈ b.data.toList, blankC c = true) (ht : t.data.toList.length = 1 ∧ ∀ c ∈ t.data.toList, blankC c = true) :
    (b ++ t).data.toList.length = j + 1 ∧ ∀ c ∈ (b ++ t).data.toList, blankC c = true := by
  have e : (b ++ t).data.toList = b.data.toList ++ t.data.toList := by simp
  rw [e, List.length_append]
  refine ⟨by omega, fun c hc => ?_⟩
  rcases List.mem_append.1 hc with hc | hc
  · exact h.2 c hc
  · exact ht.2 c hc
structure BlkJ (w W : World) (p : Nat) (v : JV) (cs : List Value) : Prop where
  j : JAt W W.heap.size v cs
  v : VBlkT W p cs
  b : Below w.heap.size w W
theorem BlkJ.below {w W W' : World} {p : Nat} {v : JV} {cs : List Value} (h : BlkJ w W p v cs) (hb : Below W.heap.size W W') : BlkJ w W' p v cs :=
  ⟨(h.j.keep hb (Nat.le_refl _)).more hb.size, (hb.block _ (lt_of_block h.v)).trans h.v, up h.b hb⟩
theorem ten_snoc {a : ByteArray} {j : Nat} (h : a.data.toList.length = j ∧ ∀ c ∈ a.data.toList, c = 10) : (a ++ ({ data := #[10] } : ByteArray)).data.toList.length = j + 1 ∧ ∀ c ∈ (a ++ ({ data := #[10] } : ByteArray)).data.toList, c = 10 := by
  have e : (a ++ ({ data := #[10] } : ByteArray)).data.toList = a.data.toList ++ [10] := by simp
  rw [e, List.length_append]
  refine ⟨by show a.data.toList.length + 1 = j + 1; omega, fun c hc => ?_⟩
  rcases List.mem_append.1 hc with hc | hc
  · exact h.2 c hc
  · simpa using hc
theorem readV_place (l : List UInt8) : (readV madeJ l).2.1 ≤ l.length := by
  unfold readV
  by_cases h : 16384 < l.length
  · rw [if_pos h]; exact Nat.zero_le _
  · rw [if_neg h]
    by_cases he : (readP madeJ l fuelP .val [] zeroJ (nextT l 0)).2.2 = 0
    · have := readV_none l (by unfold readV; rw [if_neg h]; exact he)
      unfold readV at this
      rw [if_neg h] at this
      omega
    · have := nextT_to l 0 (Nat.zero_le _)
      exact (readP_err madeJ l fuelP .val [] zeroJ (nextT l 0) this.2.2 this.1 he).2
set_option maxRecDepth 100000 in
set_option maxHeartbeats 4000000 in
theorem law_blanks (s : ByteArray) (A : Option Addr) (zs : List Int) (c : Nat) (n : Int) (hs : s.size ≤ 140737488351232) (w : World) (hG : GlobV w) (hI : NumsAt w w.heap.size A c zs) (hn : I64 n) :
    Calls Tryd.prog 4 #[.string s, .slice A zs.length c, .int .i64 n] w fun r w' => r = .returned (.bool true) ∧ Below w.heap.size w w' := by
  have HW := Keep.mk (works6 w hG)
  have HG := Keep.mk hG
  have HI := Keep.mk hI
  have hz := hI.cap
  have hn1 := hn.lo
  have hn2 := hn.hi
  clear hG hn hI
  by_cases hbig : 2000 < s.size
  · go_enter Tryd.func4, Tryd.ntmps4
    go_wp2_with fail
    refine HW.out.mono ?_
    rintro r w1 ⟨rfl, hb⟩
    go_wp2
    go_ret
    exact ⟨rfl, hb⟩
  by_cases hbig2 : 2000 < zs.length
  · go_enter Tryd.func4, Tryd.ntmps4
    go_wp2_with fail
    refine HW.out.mono ?_
    rintro r w1 ⟨rfl, hb⟩
    go_wp2
    go_ret
    exact ⟨rfl, hb⟩
  · go_enter Tryd.func4, Tryd.ntmps4
    go_wp2_with fail
    refine HW.out.mono ?_
    rintro r w1 ⟨rfl, hb⟩
    have HB1 := Keep.mk hb
    have HI1 := Keep.mk (HI.out.below hb)
    clear hb HW HI
    go_upto_block 0 with fail
    go_cut [7] (fun x7 wx => ∃ b : ByteArray, x7 = .string b ∧ Keep (b.data.toList.length = zs.length ∧ ∀ c ∈ b.data.toList, blankC c = true) ∧ w1 = wx)
    case first =>
      go_wp2_with fail
      go_loopg [7, 30] zs.length (fun gk x7 x30 wr => ∃ (j : Nat) (b : ByteArray), j + gk = zs.length ∧ x30 = .int .i64 j ∧ x7 = .string b ∧ Keep (b.data.toList.length = j ∧ ∀ c ∈ b.data.toList, blankC c = true) ∧ w1 = wr)
      case atStart => exact ⟨0, ⟨#[]⟩, by omega, rfl, rfl, ⟨rfl, fun c hc => by cases hc⟩, rfl⟩
      case round =>
        obtain ⟨j, b, hj, rfl, rfl, HL, rfl⟩ := hrel
        by_cases hlt : j < zs.length
        · have hgk : gk ≠ 0 := by omega
          obtain ⟨g, o, rfl, hg, hc⟩ := HI1.out.at_ (by omega)
          have hcj := hc j hlt
          have hgl : g < w1.heap.size := Nat.lt_of_lt_of_le hg HB1.out.size
          clear hc
          generalize zs[j] = z at *
          have h3 := i64_and3 z
          have hbs : b.size ≤ 2000 := by have h1 : b.size = b.data.toList.length := (Array.length_toList ..).symm; have := HL.out.1; omega
          have hr : z % 4 = 0 ∨ z % 4 = 1 ∨ z % 4 = 2 ∨ z % 4 = 3 := by omega
          rcases hr with hr | hr | hr | hr
          all_goals
            rw [hr] at h3
            go_wp2
            go_roundg (gk - 1)
            case rel => exact ⟨j + 1, _, by omega, by go_num, rfl, ⟨blank_snoc HL.out (by decide +kernel)⟩, rfl⟩
            case measure => omega
        · obtain rfl : j = zs.length := by omega
          go_wp2_with fail
          go_meet
          exact ⟨b, rfl, HL, rfl⟩
    case rest =>
      obtain ⟨b, rfl, HL, rfl⟩ := hcut
      have h63 := i64_and63 n
      obtain ⟨m, hm⟩ : ∃ m : Nat, n % 64 = m := ⟨(n % 64).toNat, by omega⟩
      have hm2 : m < 64 := by omega
      rw [hm] at h63
      have hb2 : b.size ≤ 2000 := by have h1 : b.size = b.data.toList.length := (Array.length_toList ..).symm; have := HL.out.1; omega
      clear hm
      go_upto_block 2 with fail
      go_cut [8] (fun x8 wx => ∃ a : ByteArray, x8 = .string a ∧ Keep (a.data.toList.length = m ∧ ∀ c ∈ a.data.toList, c = 10) ∧ w1 = wx)
      case first =>
        go_wp2_with fail
        go_loopg [8, 45] m (fun gk x8 x45 wr => ∃ (j : Nat) (a : ByteArray), j + gk = m ∧ x45 = .int .i64 j ∧ x8 = .string a ∧ Keep (a.data.toList.length = j ∧ ∀ c ∈ a.data.toList, c = 10) ∧ w1 = wr)
        case atStart => exact ⟨0, ⟨#[]⟩, by omega, rfl, rfl, ⟨rfl, fun c hc => by cases hc⟩, rfl⟩
        case round =>
          obtain ⟨j, a, hj, rfl, rfl, HA, rfl⟩ := hrel
          by_cases hlt : j < m
          · have hgk : gk ≠ 0 := by omega
            have has : a.size ≤ 64 := by have h1 : a.size = a.data.toList.length := (Array.length_toList ..).symm; have := HA.out.1; omega
            go_wp2
            go_roundg (gk - 1)
            case rel => exact ⟨j + 1, _, by omega, by go_num, rfl, ⟨ten_snoc HA.out⟩, rfl⟩
            case measure => omega
          · obtain rfl : j = m := by omega
            go_wp2_with fail
            go_meet
            exact ⟨a, rfl, HA, rfl⟩
      case rest =>
        obtain ⟨a, rfl, HA, rfl⟩ := hcut
        have ha2 : a.size ≤ 64 := by have h1 : a.size = a.data.toList.length := (Array.length_toList ..).symm; have := HA.out.1; omega
        have HLS := Keep.mk (show s.data.toList.length = s.size from Array.length_toList ..)
        have HLB := Keep.mk (show b.data.toList.length = b.size from Array.length_toList ..)
        have HLA := Keep.mk (show a.data.toList.length = a.size from Array.length_toList ..)
        obtain ⟨T, hT⟩ : ∃ T : ByteArray, b ++ s ++ a = T := ⟨_, rfl⟩
        have HTL := Keep.mk (show T.data.toList = b.data.toList ++ s.data.toList ++ a.data.toList by rw [← hT]; simp)
        have hTs : T.size ≤ 4064 := by rw [← hT, ByteArray.size_append, ByteArray.size_append]; omega
        have hlaw := blank_law madeJ b.data.toList s.data.toList a.data.toList HL.out.2 HA.out.2 (by rw [HLS.out]; omega) (by rw [HLS.out, HLB.out, HLA.out]; omega)
        rw [← HTL.out] at hlaw
        have HP := Keep.mk (fun (W : World) (hb : Below w.heap.size w W) => read_Parse s (by omega) W (HG.out.below hb))
        have HQ := Keep.mk (fun (W : World) (hb : Below w.heap.size w W) => read_Parse T (by omega) W (HG.out.below hb))
        have hplace := readV_place s.data.toList
        rw [HLS.out] at hplace
        generalize readV madeJ s.data.toList = R1 at *
        generalize readV madeJ T.data.toList = R2 at *
        obtain ⟨v1, a1, e1⟩ := R1
        obtain ⟨v2, a2, e2⟩ := R2
        have HPL := Keep.mk (show a1 ≤ s.size from hplace)
        clear hplace
        have HLAW := Keep.mk hlaw
        clear hlaw HTL HL HA
        go_wp2_with fail
        refine (HP.out _ HB1.out).mono ?_
        rintro r w2 ⟨cs, rfl, hJ, hb2⟩
        obtain ⟨k9, m9, e9, s9, A9, n9, c9, A8, n8, c8, rfl⟩ := hJ.cells
        have HJ1 := Keep.mk (show BlkJ w (w2.alloc (.cells (cells6 k9 m9 e9 s9 A9 n9 c9 A8 n8 c8).toArray 28)) w2.heap.size v1 (cells6 k9 m9 e9 s9 A9 n9 c9 A8 n8 c8) from
          ⟨(hJ.keep (T := (· < (w2.alloc (.cells (cells6 k9 m9 e9 s9 A9 n9 c9 A8 n8 c8).toArray 28)).heap.size)) (fun g hg => (al1 w2 _).block g hg.2) (fun g hg => Nat.lt_of_lt_of_le hg.2 (al1 w2 _).size)).at (fun _ h => h), VBlkT.new _ rfl, up (up HB1.out hb2) (al1 w2 _)⟩)
        clear hJ hb2 HP HB1
        simp only [cells6]
        go_upto_region 16 with fail
        refine wp_world (fun W => BlkJ w W w2.heap.size v1 (cells6 k9 m9 e9 s9 A9 n9 c9 A8 n8 c8)) HJ1.out ?_
        generalize w2.heap.size = p
        clear HJ1
        rintro W3 HJ1
        replace HJ1 := Keep.mk HJ1
        go_wp2_with fail
        refine (HQ.out _ HJ1.out.b).mono ?_
        rintro r w4 ⟨cs, rfl, hJ, hb4⟩
        obtain ⟨k7, m7, e7, s7, A7, n7, c7, A6, n6, c6, rfl⟩ := hJ.cells
        have hbz := al1 w4 (.cells (cells6 k7 m7 e7 s7 A7 n7 c7 A6 n6 c6).toArray 28)
        have HJ3 := Keep.mk ((HJ1.out.below hb4).below hbz)
        have HJ2 := Keep.mk (show BlkJ w (w4.alloc (.cells (cells6 k7 m7 e7 s7 A7 n7 c7 A6 n6 c6).toArray 28)) w4.heap.size v2 (cells6 k7 m7 e7 s7 A7 n7 c7 A6 n6 c6) from
          ⟨(hJ.keep (T := (· < (w4.alloc (.cells (cells6 k7 m7 e7 s7 A7 n7 c7 A6 n6 c6).toArray 28)).heap.size)) (fun g hg => hbz.block g hg.2) (fun g hg => Nat.lt_of_lt_of_le hg.2 hbz.size)).at (fun _ h => h), VBlkT.new _ rfl, up (up HJ1.out.b hb4) hbz⟩)
        clear hJ hb4 HQ HJ1 hbz
        simp only [cells6]
        go_upto_region 17 with fail
        refine wp_world (fun W => BlkJ w W p v1 (cells6 k9 m9 e9 s9 A9 n9 c9 A8 n8 c8) ∧ BlkJ w W w4.heap.size v2 (cells6 k7 m7 e7 s7 A7 n7 c7 A6 n6 c6)) ⟨HJ3.out, HJ2.out⟩ ?_
        generalize w4.heap.size = q
        clear HJ2 HJ3
        rintro W5 ⟨HJ1, HJ2⟩
        replace HJ1 := Keep.mk HJ1
        replace HJ2 := Keep.mk HJ2
        by_cases he : e1 = 0
        · have h := HLAW.out
          rcases h with ⟨_, h2, h3⟩ | ⟨h1, _⟩
          case inr => exact absurd he h1
          simp only at h2 h3
          subst he h2 h3
          clear HLAW
          have HSM := Keep.mk (ref3_Same _ v2 v2 (Nat.le_refl _) W5 _ _ HJ1.out.j HJ2.out.j)
          have x0 := HJ1.out.v.box.cell 0 _ rfl
          have x1 := HJ1.out.v.box.cell 1 _ rfl
          have x2 := HJ1.out.v.box.cell 2 _ rfl
          have x3 := HJ1.out.v.box.cell 3 _ rfl
          have x4 := HJ1.out.v.box.cell 4 _ rfl
          have x5 := HJ1.out.v.box.cell 5 _ rfl
          have hxl := HJ1.out.v.box.lt
          have y0 := HJ2.out.v.box.cell 0 _ rfl
          have y1 := HJ2.out.v.box.cell 1 _ rfl
          have y2 := HJ2.out.v.box.cell 2 _ rfl
          have y3 := HJ2.out.v.box.cell 3 _ rfl
          have y4 := HJ2.out.v.box.cell 4 _ rfl
          have y5 := HJ2.out.v.box.cell 5 _ rfl
          have hyl := HJ2.out.v.box.lt
          go_wp2_with fail
          refine HSM.out.mono ?_
          rintro r w6 ⟨rfl, hb6⟩
          rw [sameJ_self]
          have HB6 := Keep.mk (up HJ1.out.b hb6)
          clear HJ1 HJ2 HSM hb6
          go_wp2
          go_ret
          exact ⟨rfl, HB6.out⟩
        · have h := HLAW.out
          rcases h with ⟨h1, _⟩ | ⟨_, h2, h3⟩
          case inl => exact absurd h1 he
          simp only at h2 h3
          subst h2
          have b1 : (e2 == 0) = false := by simpa using he
          have HB6 := Keep.mk HJ1.out.b
          rw [HLS.out, HLB.out, HLA.out] at h3
          have hpl := HPL.out
          clear he HLAW HJ1 HJ2
          by_cases h5 : a2 = b.size + a1
          · have c1 : ((a2 : Int) == wrap64 ((b.size : Int) + (a1 : Int))) = true := by rw [IntWalk.wrap64_in _ ⟨by omega, by omega⟩]; simp; omega
            clear h3 h5 hpl
            go_wp2
            all_goals
              go_ret
              exact ⟨rfl, HB6.out⟩
          · obtain ⟨rfl, h7⟩ := h3.resolve_left h5
            have c1 : ((a2 : Int) == wrap64 ((b.size : Int) + (s.size : Int))) = false := by rw [IntWalk.wrap64_in _ ⟨by omega, by omega⟩]; simp; omega
            have c3 : ((a2 : Int) == (b.size : Int) + (s.size : Int) + (a.size : Int)) = true := by simp; omega
            clear h3 h5 h7 hpl
            go_wp2
            all_goals
              go_ret
              exact ⟨rfl, HB6.out⟩
end Go.Proofs.YtohhnkmfgfgpjaaDoor
