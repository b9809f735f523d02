/- Lemmas and contracts for the laws SyntaxPieces, part 18 of 48: TokD, R9D, RefDiv. Conditions: those that each lemma names. -/
import Derived.Test.YtinknjhclpaieaaGreatDoorPq14
import Derived.Test.YtinknjhclpaieaaGreatDoorPq15
import Derived.Test.YtinknjhclpaieaaGreatDoorPq10
import Derived.Test.YtinknjhclpaieaaGreatDoorPq8
import Derived.Test.YtinknjhclpaieaaGreatDoorPq1
import Derived.Test.YtinknjhclpaieaaGreatDoorPq3
import Derived.Test.YtinknjhclpaieaaGreatDoorPq4
import Derived.Deep.RegionLaw
import Derived.IntWalk
import Derived.StillTail
import Derived.Lib.ItoaNum
import Derived.Lib.Bytealg
import Derived.Sort.Grow
set_option maxRecDepth 100000
set_option maxHeartbeats 4000000
namespace Th
open Go Go.Lib
theorem skip_cons (L : List UInt8) (j : Nat) (c : UInt8) (h : L[j]? = some c) : skipA L j = j + (if blankC c = true ∨ c = 35 then 1 + skipN (decide (c = 35)) (L.drop (j + 1)) else 0) := by
  obtain ⟨hl, he⟩ := List.getElem?_eq_some_iff.1 h; unfold skipA; rw [List.drop_eq_getElem_cons hl, he]; simp only [skipN]; congr 1
  by_cases h2 : blankC c = true ∨ c = 35
  · rw [if_pos (by rcases h2 with h2 | h2 <;> simp [h2]), if_pos h2]
    congr 2
    by_cases h3 : c = 35
    · subst h3; rfl
    simp [h3]
  rw [if_neg (fun h => h2 (by rcases h with h | h; cases h; exact h)), if_neg h2]
theorem skip_blank {L : List UInt8} {j : Nat} {c : UInt8} (h : L[j]? = some c) (hb : blankC c = true) : skipA L j = skipA L (j + 1) := by
  have h35 : ¬ c = 35 := by rintro rfl; cases hb
  rw [skip_cons L j c h, if_pos (Or.inl hb), decide_eq_false h35]; unfold skipA; omega
theorem skip_stop {L : List UInt8} {j : Nat} {c : UInt8} (h : L[j]? = some c) (hb : blankC c = false) (h35 : c ≠ 35) : skipA L j = j := by
  rw [skip_cons L j c h, if_neg (by rw [hb]; exact fun h => h.elim (fun h => by cases h) h35)]; omega
theorem skip_end {L : List UInt8} {j : Nat} (h : j = L.length) : skipA L j = j := by
  unfold skipA; rw [h, List.drop_length]; rfl
theorem note_none : ∀ l : List UInt8, indexByte l 10 < 0 → skipN true l = l.length
  | [], _ => rfl
  | c :: r, h => by
    by_cases hc : c = 10
    · subst hc; simp [indexByte] at h
    have h2 : indexByte r 10 < 0 := by
      simp only [indexByte] at h; rw [if_neg (by simpa using hc)] at h; split at h
      · rename_i hh; rw [beq_iff_eq] at hh; omega
      omega
    simp only [skipN, true_or, if_true, List.length_cons]; rw [decide_eq_true ⟨trivial, hc⟩, note_none r h2]; omega
theorem note_some : ∀ (l : List UInt8) (n : Nat), indexByte l 10 = n → skipN true l = n + skipN false (l.drop n) ∧ n < l.length
  | [], n, h => by simp [indexByte] at h
  | c :: r, n, h => by
    by_cases hc : c = 10
    · subst hc
      have hn : n = 0 := by simp [indexByte] at h; omega
      subst hn; simp [skipN, blankC]
    simp only [indexByte] at h; rw [if_neg (by simpa using hc)] at h; split at h
    · omega
    rename_i hh
    rw [beq_iff_eq] at hh; have hge := indexByte_ge r 10; obtain ⟨m, rfl⟩ : ∃ m, n = m + 1 := ⟨n - 1, by omega⟩
    obtain ⟨h1, h2⟩ := note_some r m (by omega); simp only [skipN, true_or, if_true, List.length_cons, List.drop_succ_cons]; rw [decide_eq_true ⟨trivial, hc⟩, h1]; omega
end Th
namespace Go.Proofs.YtinknjhclpaieaaGreatDoor
open Go Go.RowKit Go.Proofs Th
attribute [local go_sem] Above.cell
theorem newl_byte (s : ByteArray) (j : Nat) (_hj : j ≤ s.size) (w : World) : Calls Tryz.prog 42 #[.string (s.extract j s.size), .int .u8 10] w fun r w' => r = .returned (.int .i64 (Lib.indexByte (s.data.toList.drop j) 10)) ∧ w' = w := by
  have h := Tryz.strings_IndexByte (s.extract j s.size) 10 w; rw [bx_to] at h; exact h
theorem blank_cases {c : UInt8} (h : blankC c = true) : (c.toNat : Int) = 32 ∨ (c.toNat : Int) = 9 ∨ (c.toNat : Int) = 10 ∨ (c.toNat : Int) = 13 := by
  unfold blankC at h; simp only [Bool.or_eq_true, decide_eq_true_eq] at h; omega
theorem blank_not {c : UInt8} (h : blankC c = false) : ¬ (c.toNat : Int) = 32 ∧ ¬ (c.toNat : Int) = 9 ∧ ¬ (c.toNat : Int) = 10 ∧ ¬ (c.toNat : Int) = 13 := by
  unfold blankC at h; simp only [Bool.or_eq_false_iff, decide_eq_false_iff_not] at h; omega
structure ScP (W0 W : World) (p : Nat) (s : ByteArray) (j : Nat) : Prop where
  b : Box W p [.string s, .int .i64 j]
  u : Upd p W0 W
theorem ScP.above {W0 W W2 : World} {p : Nat} {s : ByteArray} {j : Nat} (h : ScP W0 W p s j) (hb : Below W.heap.size W W2) : ScP W0 W2 p s j := ⟨h.b.below hb h.b.lt, h.u.trans (Upd.of hb)⟩
theorem ScP.set {W0 W : World} {p : Nat} {s : ByteArray} {j : Nat} (h : ScP W0 W p s j) (k : Nat) (z : Int) (hz : z = k) : ScP W0 (W.setCell ⟨p, 1, none⟩ (.int .i64 z)) p s k := by
  subst hz; exact ⟨h.b.set (i := 1) (by simp) (.int .i64 k), h.u.trans (Upd.set p 1 W _)⟩
theorem tok_skip (p : Nat) (s : ByteArray) (a : Nat) (hs : s.size ≤ 1000000) (ha : a ≤ s.size) (w : World) (hB : Box w p [.string s, .int .i64 a]) :
    Calls Tryz.prog 22 #[.pointer (some ⟨p, 0, none⟩)] w fun r w' => r = .returned (.tuple #[]) ∧ ScP w w' p s (skipA s.data.toList a) := by
  have HL := Keep.mk (size_listU s); have HA := Keep.mk (fun j h => at_some s j h); go_enter Tryz.func22, Tryz.ntmps22
  go_wp2_with fail
  go_loopg [] (s.size - a) (fun gk wr => ∃ j : Nat, j + gk = s.size ∧ Keep (ScP w wr p s j) ∧ Keep (skipA s.data.toList j = skipA s.data.toList a))
  case atStart => exact ⟨a, by omega, ⟨⟨hB, Upd.refl p w⟩⟩, ⟨rfl⟩⟩
  case round =>
    clear hB ha; obtain ⟨j, hj, HS, HK⟩ := hrel; obtain ⟨p0, p1⟩ := HS.out.b.p2; have pf := HS.out.b.froz 1; have pl := HS.out.b.lt; by_cases hlt : j < s.size
    · have hgk : gk ≠ 0 := by omega
      have hat := HA.out j hlt; go_wp2_with fail
      refine wp_region_above (by kernel_rfl) (by kernel_rfl) ?_; repeat (go_big_quiet_step (fail))
      refine wpQuiet_nil ?_; rintro W2 ⟨z, hz⟩; replace HS := Keep.mk (hz ▸ HS.out.above z.property); clear p0 p1 pf pl; clear hz z; obtain ⟨p0, p1⟩ := HS.out.b.p2; have pf := HS.out.b.froz 1; have pl := HS.out.b.lt; go_wp2_with fail
      refine wp_region_above (by kernel_rfl) (by kernel_rfl) ?_; repeat (go_big_quiet_step (fail))
      refine wpQuiet_nil ?_; rintro W2 ⟨z, hz⟩; replace HS := Keep.mk (hz ▸ HS.out.above z.property); clear p0 p1 pf pl; clear hz z; obtain ⟨p0, p1⟩ := HS.out.b.p2; have pf := HS.out.b.froz 1; have pl := HS.out.b.lt; cases hb : blankC s[j]
      · obtain ⟨f1, f2, f3, f4⟩ := blank_not hb
        by_cases h35 : s[j] = 35
        · have f5 : (s[j].toNat : Int) = 35 := by rw [h35]; rfl
          have hidx : ∃ zi : Int, Lib.indexByte (s.data.toList.drop j) 10 = zi := ⟨_, rfl⟩
          obtain ⟨zi, hzi⟩ := hidx; have HC := Keep.mk (fun (z : Above W2) => calls_same (newl_byte s j (by omega) z.val)); rw [hzi] at HC; have hge := Lib.indexByte_ge (s.data.toList.drop j) 10; rw [hzi] at hge; have hsk := skip_cons s.data.toList j s[j] hat; rw [h35, if_pos (Or.inr rfl), decide_eq_true rfl] at hsk; have hdr : s.data.toList.drop j = s[j] :: s.data.toList.drop (j + 1) := by
            obtain ⟨hl, he⟩ := List.getElem?_eq_some_iff.1 hat; rw [List.drop_eq_getElem_cons hl, he]
          have hix : Lib.indexByte (s.data.toList.drop j) 10 = if Lib.indexByte (s.data.toList.drop (j + 1)) 10 == -1 then -1 else Lib.indexByte (s.data.toList.drop (j + 1)) 10 + 1 := by
            rw [hdr, h35]; rfl
          have hge1 := Lib.indexByte_ge (s.data.toList.drop (j + 1)) 10; go_wp2_with fail
          refine wp_region_above (by kernel_rfl) (by kernel_rfl) ?_; repeat (go_big_quiet_step ((go_at_call 42; exact calls_above (HC.out _))))
          refine wpQuiet_nil ?_; rintro W2 ⟨z, hz⟩; replace HS := Keep.mk (hz ▸ HS.out.above z.property); clear p0 p1 pf pl; clear hz z; obtain ⟨p0, p1⟩ := HS.out.b.p2; have pf := HS.out.b.froz 1; have pl := HS.out.b.lt; by_cases hz0 : zi < 0
          · have HE := Keep.mk (show skipA s.data.toList s.size = skipA s.data.toList a by
              have h1 : Lib.indexByte (s.data.toList.drop (j + 1)) 10 < 0 := by
                rw [hzi] at hix; split at hix
                · rename_i h; rw [beq_iff_eq] at h; omega
                omega
              have h2 := note_none _ h1; rw [h2, List.length_drop, HL.out] at hsk; rw [skip_end HL.out.symm, ← HK.out, hsk]; omega)
            clear hzi hge hsk hdr hix hge1 hat hb h35 HC; go_wp2_with fail
            refine wp_region_above (by kernel_rfl) (by kernel_rfl) ?_; repeat (go_big_quiet_step (fail))
            refine wpQuiet_nil ?_; rintro W2 ⟨z, hz⟩; replace HS := Keep.mk (hz ▸ HS.out.above z.property); clear p0 p1 pf pl; clear hz z; obtain ⟨p0, p1⟩ := HS.out.b.p2; have pf := HS.out.b.froz 1; have pl := HS.out.b.lt; go_wp2
            go_roundg 0
            case rel => exact ⟨s.size, by omega, ⟨HS.out.set s.size _ (by omega)⟩, HE⟩
            case measure => omega
          obtain ⟨n, rfl⟩ : ∃ n : Nat, zi = n := ⟨zi.toNat, by omega⟩
          have h1 : Lib.indexByte (s.data.toList.drop (j + 1)) 10 = ((n - 1 : Nat) : Int) ∧ 1 ≤ n := by
            rw [hzi] at hix; split at hix
            · omega
            rename_i h; rw [beq_iff_eq] at h; omega
          obtain ⟨h2, h3⟩ := note_some _ _ h1.1; rw [List.length_drop, HL.out] at h3; have h4 := h1.2; have HE := Keep.mk (show skipA s.data.toList (j + n) = skipA s.data.toList a by
            rw [← HK.out, hsk, h2, List.drop_drop]; unfold skipA; rw [show j + 1 + (n - 1) = j + n from by omega]; omega)
          clear hzi hge hsk hdr hix hge1 hat hb h35 HC h1 h2; go_wp2
          go_roundg (gk - n)
          case rel => exact ⟨j + n, by omega, ⟨HS.out.set (j + n) _ (by omega)⟩, HE⟩
          case measure => omega
        have f5 : ¬ (s[j].toNat : Int) = 35 := fun h => h35 (UInt8.toNat_inj.1 (by show s[j].toNat = 35; omega))
        have HE := Keep.mk (HK.out.symm.trans (skip_stop hat hb h35)); clear hb hat h35; go_wp2
        refine bodyPost_ret (results_none rfl _ _ _) rfl ⟨rfl, ?_⟩; rw [HE.out]; exact HS.out
      have HE := Keep.mk ((skip_blank hat hb).symm.trans HK.out); clear hat; rcases blank_cases hb with f1 | f1 | f1 | f1
      all_goals (
        clear hb; go_wp2
        go_roundg (gk - 1)
        case rel => exact ⟨j + 1, by omega, ⟨HS.out.set (j + 1) _ (by omega)⟩, HE⟩
        case measure => omega)
    have HE := Keep.mk (HK.out.symm.trans (skip_end (by rw [HL.out]; omega))); go_wp2_with fail
    refine wp_region_above (by kernel_rfl) (by kernel_rfl) ?_; repeat (go_big_quiet_step (fail))
    refine wpQuiet_nil ?_; rintro W2 ⟨z, hz⟩; replace HS := Keep.mk (hz ▸ HS.out.above z.property); clear p0 p1 pf pl; clear hz z; obtain ⟨p0, p1⟩ := HS.out.b.p2; have pf := HS.out.b.froz 1; have pl := HS.out.b.lt; go_wp2
    go_end0
    exact ⟨rfl, by rw [HE.out]; exact HS.out⟩
open Go Go.RowKit Go.Proofs Th
theorem ext_one (s : ByteArray) (a c : Nat) : s.extract a c = ⟨((s.data.toList.drop a).take (c - a)).toArray⟩ := by
  apply ba_inj; rw [ba_mk]; simp
def twoB : List ByteArray := twoL.map fun l => ⟨l.toArray⟩
def oneB : ByteArray := ⟨#[124, 44, 46, 91, 93, 40, 41, 123, 125, 58, 59, 61, 60, 62, 43, 45, 42, 47, 37, 63]⟩
theorem oneB_list : oneB.data.toList = oneL := rfl
theorem r9_beq {a b : ByteArray} : (a.toList == b.toList) = decide (a = b) := by
  rw [ba_list, ba_list]; by_cases h : a = b
  · rw [h, decide_eq_true rfl, beq_self_eq_true]
  rw [decide_eq_false h, beq_eq_false_iff_ne]; exact fun h2 => h (ba_inj h2)
def leftTwo (t : ByteArray) (j : Nat) : Bool := ((twoB.drop j).any fun q => decide (q = t)) || ((oneL.map fun c => (⟨#[c]⟩ : ByteArray)).any fun q => decide (q = t)) || decide (t = ⟨#[47, 47, 61]⟩)
def leftOne (t : ByteArray) (j : Nat) : Bool := (((oneL.drop j).map fun c => (⟨#[c]⟩ : ByteArray)).any fun q => decide (q = t)) || decide (t = ⟨#[47, 47, 61]⟩)
theorem sign_left (t : ByteArray) : isSignT t.data.toList = leftTwo t 0 := by
  have e : ∀ l : List UInt8, (t.data.toList = l) ↔ ((⟨l.toArray⟩ : ByteArray) = t) := fun l => ⟨fun h => ba_inj h.symm, fun h => by rw [← h]⟩
  unfold isSignT leftTwo twoB; rw [List.drop_zero]; congr 1
  · congr 1
    · rw [Bool.eq_iff_iff, decide_eq_true_eq, List.any_eq_true]
      refine ⟨fun h => ⟨_, List.mem_map.2 ⟨_, h, rfl⟩, decide_eq_true ((e _).1 rfl)⟩, fun ⟨q, hq, h⟩ => ?_⟩; obtain ⟨l, hl, rfl⟩ := List.mem_map.1 hq; rw [(e l).2 (of_decide_eq_true h)]; exact hl
    rw [Bool.eq_iff_iff, decide_eq_true_eq, List.any_eq_true]; refine ⟨fun h => ?_, fun ⟨q, hq, h⟩ => ?_⟩
    · obtain ⟨c, hc, h2⟩ := List.mem_map.1 h
      exact ⟨_, List.mem_map.2 ⟨c, hc, rfl⟩, decide_eq_true ((e [c]).1 h2.symm)⟩
    obtain ⟨c, hc, rfl⟩ := List.mem_map.1 hq; exact List.mem_map.2 ⟨c, hc, ((e [c]).2 (of_decide_eq_true h)).symm⟩
  rw [Bool.eq_iff_iff, decide_eq_true_eq, decide_eq_true_eq]; exact ⟨fun h => ((e _).1 h).symm, fun h => (e _).2 h.symm⟩
theorem left_two (t : ByteArray) (j : Nat) (h : j < twoB.length) : leftTwo t j = (decide (twoB[j] = t) || leftTwo t (j + 1)) := by
  unfold leftTwo; rw [List.drop_eq_getElem_cons h, List.any_cons, Bool.or_assoc, Bool.or_assoc, Bool.or_assoc]
theorem left_end (t : ByteArray) : leftTwo t 11 = leftOne t 0 := rfl
theorem left_one (t : ByteArray) (j : Nat) (h : j < 20) : leftOne t j = (decide (oneB.extract j (j + 1) = t) || leftOne t (j + 1)) := by
  have hl : j < oneL.length := h; have e : oneB.extract j (j + 1) = ⟨#[oneL[j]]⟩ := by
    rw [ext_one, oneB_list, List.drop_eq_getElem_cons hl, show j + 1 - j = 1 from by omega]; rfl
  unfold leftOne; rw [List.drop_eq_getElem_cons hl, List.map_cons, List.any_cons, Bool.or_assoc, e]
theorem r9_Sign (s : ByteArray) (w : World) : Calls Tryz.prog 58 #[.string s] w fun r w' => r = .returned (.bool (isSignT s.data.toList)) ∧ Below w.heap.size w w' := by
  obtain ⟨R, hR⟩ : ∃ R, isSignT s.data.toList = R := ⟨_, rfl⟩
  rw [hR]; have H0 := Keep.mk (show leftTwo s 0 = R by rw [← sign_left, hR]); clear hR; go_enter Tryz.func58, Tryz.ntmps58
  go_upto_region 2 with fail
  refine wp_world (fun W => Box W w.heap.size (twoB.map Value.string) ∧ Below w.heap.size w W) ⟨Box.new (twoB.map Value.string) _ rfl, al1 _ _⟩ ?_; rintro W1 ⟨hb, hw⟩; have HB := Keep.mk hb; have HW := Keep.mk hw; have hl := hb.lt; clear hb hw; go_wp2_with fail
  go_loopg [4] 11 (fun gk i wr => ∃ j : Nat, j + gk = 11 ∧ i = .int .i64 j ∧ Keep (leftTwo s j = R) ∧ W1 = wr)
  case atStart => exact ⟨0, by omega, rfl, H0, rfl⟩
  case round =>
    clear H0; obtain ⟨j, hj, rfl, HS, rfl⟩ := hrel; by_cases hlt : j < 11
    · have hgk : gk ≠ 0 := by omega
      have hq := HS.out; have hj2 : j < twoB.length := hlt; rw [left_two s j hj2] at hq; have hc : W1.cell? ⟨w.heap.size, j, none⟩ = some (.string twoB[j]) := HB.out.cell j _ (by rw [List.getElem?_map, List.getElem?_eq_getElem hj2]; rfl); generalize twoB[j] = q at *; cases hd : (q.toList == s.toList)
      · have HE := Keep.mk (show leftTwo s (j + 1) = R by
          rw [r9_beq] at hd; rw [← hq, hd, Bool.false_or])
        clear hq HS; go_wp2
        go_roundg (gk - 1)
        case rel => exact ⟨j + 1, by omega, by go_num, HE, rfl⟩
        case measure => omega
      have HE := Keep.mk (show true = R by
        rw [r9_beq] at hd; rw [← hq, hd, Bool.true_or])
      clear hq HS; go_wp2
      go_ret
      exact ⟨retb HE.out, HW.out⟩
    have HE := Keep.mk (show leftOne s 0 = R by rw [← left_end, ← HS.out, show j = 11 from by omega]); have hjl : ¬ (j : Int) < 11 := by omega
    clear HS HB; go_wp2_with fail
    go_loopg [6] 20 (fun gk i wr => ∃ k : Nat, k + gk = 20 ∧ i = .int .i64 k ∧ Keep (leftOne s k = R) ∧ W1 = wr)
    case atStart => exact ⟨0, by omega, rfl, HE, rfl⟩
    case round =>
      clear HE; obtain ⟨k, hk, rfl, HS, rfl⟩ := hrel; by_cases hlt2 : k < 20
      · have hgk : gk ≠ 0 := by omega
        have hq := HS.out; rw [left_one s k hlt2] at hq; have hk1 : k + 1 ≤ 20 := hlt2; cases hd : (((⟨#[124, 44, 46, 91, 93, 40, 41, 123, 125, 58, 59, 61, 60, 62, 43, 45, 42, 47, 37, 63]⟩ : ByteArray).extract k (k + 1)).toList == s.toList)
        · have HE := Keep.mk (show leftOne s (k + 1) = R by
            rw [r9_beq] at hd; rw [← hq, show decide (oneB.extract k (k + 1) = s) = false from hd, Bool.false_or])
          clear hq HS; go_wp2
          go_roundg (gk - 1)
          case rel => exact ⟨k + 1, by omega, by go_num, HE, rfl⟩
          case measure => omega
        have HE := Keep.mk (show true = R by
          rw [r9_beq] at hd; rw [← hq, show decide (oneB.extract k (k + 1) = s) = true from hd, Bool.true_or])
        clear hq HS; go_wp2
        go_ret
        exact ⟨retb HE.out, HW.out⟩
      have HE := Keep.mk (show (s.toList == [47, 47, 61]) = R by
        rw [← HS.out, show k = 20 from by omega]; show _ = (false || decide (s = ⟨#[47, 47, 61]⟩))
        rw [Bool.false_or, ← r9_beq, ba_list, ba_list])
      clear HS; go_wp2
      go_ret
      exact ⟨retb HE.out, HW.out⟩
theorem r9_plain (s : ByteArray) (h0 : 0 < s.size) (hs : s.size ≤ 100000000) (w : World) : Calls Tryz.prog 35 #[.string s] w fun r w' => r = .returned (.int .i64 (plainF s.data.toList : Int)) ∧ Below w.heap.size w w' := by
  obtain ⟨tl, hrr⟩ := head_at h0; have hxl : (s.extract 1 s.size).data.toList = tl := by rw [bx_to, hrr]; rfl
  have HT := Keep.mk (fun W => r9_Name (s.extract 1 s.size) (by rw [ext_size s 1 h0]; omega) W); rw [hxl] at HT; have HN := Keep.mk (fun W => r9_Name s hs W); have HU := Keep.mk (fun W => r9_Number s hs W); have HG := Keep.mk (fun W => r9_Sign s W); have HPF := Keep.mk (show plainF s.data.toList = if isName s.data.toList = true then 1 else if s.data.toList.head? = some 36 ∧ isName s.data.toList.tail = true then 2 else if s.data.toList.head? = some 46 ∧ isName s.data.toList.tail = true then 3 else if isNum s.data.toList = true then 4 else if isSignT s.data.toList = true then 6 else 0 from rfl); have hpt : s.data.toList.head? = some 36 ∧ isName s.data.toList.tail = true → s[0] = 36 ∧ isName tl = true := fun h => by rw [hrr] at h; exact ⟨Option.some.inj h.1, h.2⟩
  have hpt2 : s.data.toList.head? = some 46 ∧ isName s.data.toList.tail = true → s[0] = 46 ∧ isName tl = true := fun h => by rw [hrr] at h; exact ⟨Option.some.inj h.1, h.2⟩
  clear hxl; cases hnm : isName s.data.toList
  · rw [hnm] at HN
    go_enter Tryz.func35, Tryz.ntmps35
    go_wp2_with fail
    refine (HN.out _).mono ?_; rintro r w1 ⟨rfl, rfl⟩; obtain ⟨b36, hb36⟩ : ∃ b, decide (s[0] = 36 ∧ isName tl = true) = b := ⟨_, rfl⟩
    go_upto_region 3 with fail
    go_cut [12] (fun v wx => v = .bool b36 ∧ w1 = wx)
    case first =>
      by_cases hc : s[0] = 36
      · have fc : (s[0].toNat : Int) = 36 := by rw [hc]; rfl
        cases hnt : isName tl
        · have hb1 := hb36.symm.trans (decide_eq_false (fun h => by rw [hnt] at h; cases h.2))
          rw [hnt] at HT; subst hb1; clear hb36 hc hnt; go_wp2_with fail
          refine (HT.out _).mono ?_; rintro r w5 ⟨rfl, rfl⟩; go_wp2_with fail
          go_meet
          exact ⟨rfl, rfl⟩
        have hb1 := hb36.symm.trans (decide_eq_true ⟨hc, hnt⟩); rw [hnt] at HT; subst hb1; clear hb36 hc hnt; go_wp2_with fail
        refine (HT.out _).mono ?_; rintro r w5 ⟨rfl, rfl⟩; go_wp2_with fail
        go_meet
        exact ⟨rfl, rfl⟩
      have hb1 := hb36.symm.trans (decide_eq_false (fun h => hc h.1)); subst hb1; have f1 := nb (n := 36) rfl hc; have f2 := nbf (n := 36) rfl hc; clear hb36 hc; go_wp2_with fail
      go_meet
      exact ⟨rfl, rfl⟩
    case rest =>
      obtain ⟨rfl, rfl⟩ := hcut; cases b36
      · have hn36 := of_decide_eq_false hb36
        clear hb36; obtain ⟨b46, hb46⟩ : ∃ b, decide (s[0] = 46 ∧ isName tl = true) = b := ⟨_, rfl⟩
        go_upto_region 5 with fail
        go_cut [20] (fun v wx => v = .bool b46 ∧ w1 = wx)
        case first =>
          by_cases hc : s[0] = 46
          · have fc : (s[0].toNat : Int) = 46 := by rw [hc]; rfl
            cases hnt : isName tl
            · have hb1 := hb46.symm.trans (decide_eq_false (fun h => by rw [hnt] at h; cases h.2))
              rw [hnt] at HT; subst hb1; clear hb46 hc hnt; go_wp2_with fail
              refine (HT.out _).mono ?_; rintro r w5 ⟨rfl, rfl⟩; go_wp2_with fail
              go_meet
              exact ⟨rfl, rfl⟩
            have hb1 := hb46.symm.trans (decide_eq_true ⟨hc, hnt⟩); rw [hnt] at HT; subst hb1; clear hb46 hc hnt; go_wp2_with fail
            refine (HT.out _).mono ?_; rintro r w5 ⟨rfl, rfl⟩; go_wp2_with fail
            go_meet
            exact ⟨rfl, rfl⟩
          have hb1 := hb46.symm.trans (decide_eq_false (fun h => hc h.1)); subst hb1; have f1 := nb (n := 46) rfl hc; have f2 := nbf (n := 46) rfl hc; clear hb46 hc; go_wp2_with fail
          go_meet
          exact ⟨rfl, rfl⟩
        case rest =>
          obtain ⟨rfl, rfl⟩ := hcut; cases b46
          · have hn46 := of_decide_eq_false hb46
            have HR := Keep.mk (HPF.out.trans ((if_neg (by rw [hnm]; decide)).trans ((if_neg (fun h => hn36 (hpt h))).trans (if_neg (fun h => hn46 (hpt2 h)))))); clear hb46 HPF hnm hn36 hn46 hpt hpt2 hrr; cases hnu : isNum s.data.toList
            · rw [hnu] at HU HR
              rw [if_neg (by decide)] at HR; clear hnu; go_wp2_with fail
              refine (HU.out _).mono ?_; rintro r w6 ⟨rfl, hw6⟩; have HW6 := Keep.mk hw6; clear hw6; cases hsg : isSignT s.data.toList
              · rw [hsg] at HG HR
                rw [if_neg (by decide)] at HR; clear hsg; go_wp2_with fail
                refine (HG.out _).mono ?_; rintro r w7 ⟨rfl, hw7⟩; have HW7 := Keep.mk (up HW6.out hw7); clear hw7; go_wp2
                go_ret
                exact ⟨by rw [HR.out]; rfl, HW7.out⟩
              rw [hsg] at HG HR; rw [if_pos rfl] at HR; clear hsg; go_wp2_with fail
              refine (HG.out _).mono ?_; rintro r w7 ⟨rfl, hw7⟩; have HW7 := Keep.mk (up HW6.out hw7); clear hw7; go_wp2
              go_ret
              exact ⟨by rw [HR.out]; rfl, HW7.out⟩
            rw [hnu] at HU HR; rw [if_pos rfl] at HR; clear hnu; go_wp2_with fail
            refine (HU.out _).mono ?_; rintro r w6 ⟨rfl, hw6⟩; have HW6 := Keep.mk hw6; clear hw6; go_wp2
            go_ret
            exact ⟨by rw [HR.out]; rfl, HW6.out⟩
          have HE := Keep.mk (HPF.out.trans ((if_neg (by rw [hnm]; decide)).trans ((if_neg (fun h => hn36 (hpt h))).trans (if_pos ⟨by rw [hrr]; exact congrArg some (of_decide_eq_true hb46).1, by rw [hrr]; exact (of_decide_eq_true hb46).2⟩)))); clear hb46 HPF; go_wp2
          go_ret
          exact ⟨by rw [HE.out]; rfl, Below.refl _ _⟩
      have HE := Keep.mk (HPF.out.trans ((if_neg (by rw [hnm]; decide)).trans (if_pos ⟨by rw [hrr]; exact congrArg some (of_decide_eq_true hb36).1, by rw [hrr]; exact (of_decide_eq_true hb36).2⟩))); clear hb36 HPF; go_wp2
      go_ret
      exact ⟨by rw [HE.out]; rfl, Below.refl _ _⟩
  rw [hnm] at HN; have HE := Keep.mk (HPF.out.trans (if_pos hnm)); clear HPF hnm hpt hpt2 hrr; go_enter Tryz.func35, Tryz.ntmps35
  go_wp2_with fail
  refine (HN.out _).mono ?_; rintro r w1 ⟨rfl, rfl⟩; go_wp2
  go_ret
  exact ⟨by rw [HE.out]; rfl, Below.refl _ _⟩
open Go Go.RowKit Go.Proofs Th
theorem step_append_ints {w : World} {ops : Array Oper} {o : Oper} {a : Act} {K : Act → World → Prop} {Q : Exit → Act → World → Prop} {E : Prop} (hgd : o.guard = none) (s x : Operand)
    (ho : o.op = .call { callee := .builtin .append, args := #[s, x], argTypes := #[36, 36] })
    (base : Nat) (v : Value) (ds : List Nat) (hs : a.eval s = v) (hown : OwnInts w base v ds) (B : Nat) (A : Option Addr) (n c : Nat) (es : List Nat) (hn : n = es.length) (hx : a.eval x = .slice A n c) (hr : IntsAt w B A c es)
    (hl : ds.length + es.length ≤ 1000000) (hbase : base ≤ w.heap.size)
    (h : ∀ v' w', OwnInts w' base v' (ds ++ es) → Below base w w' → K (a.put o.dst v') w') : if Region.wanted o (yielded ops a.tmps) = true then Oper.wp Tryz.prog o a w K Q else E := by
  have hw : Region.wanted o (yielded ops a.tmps) = true := by simp [Region.wanted, hgd]
  rw [if_pos hw]; subst hn; obtain ⟨v', w', hrun, h2, h3⟩ := run_append_ints (w := w) o.type base v ds hown B A c es hr hl hbase; unfold Oper.wp execOp; simp only [ho, resolve, invoke, builtin, Sem.run_bind, Sem.run_pure, Result.andThen_ok, List.map_toArray, List.map_cons, List.map_nil, hs, hx, hrun]; exact h v' w' h2 h3
structure DivS (W5 wr : World) (gq : Nat) (neg : Bool) (E : Int) (v : Value) (qs : List Nat) : Prop where
  box : Box wr gq [.bool neg, v, .int .i64 E]
  own : OwnInts wr W5.heap.size v qs
  old : Below gq W5 wr
theorem arm_box {B g : Nat} {wr W' w2 : World} {cs : List Value} (hb2 : Below B W' w2) (hBW : Below wr.heap.size wr W') (hx : Box wr g cs) (hg : g < B) : Box w2 g cs := (hx.below hBW hx.lt).below hb2 hg
theorem arm_below {B g : Nat} {W5 wr W' w2 : World} (hb2 : Below B W' w2) (hBW : Below wr.heap.size wr W') (h : Below g W5 wr) (hg : g ≤ B) (hgw : g ≤ wr.heap.size) : Below g W5 w2 := (h.trans (hBW.mono hgw)).trans (hb2.mono hg)
end Go.Proofs.YtinknjhclpaieaaGreatDoor
