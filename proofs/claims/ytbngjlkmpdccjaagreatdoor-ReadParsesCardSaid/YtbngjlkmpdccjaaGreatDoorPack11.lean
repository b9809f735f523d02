/- Lemmas and contracts for the laws ReadParses, ReadBytes, part 11 of 50: RefA, NumC. Conditions: those that each lemma names. -/
import Derived.Test.YtbngjlkmpdccjaaGreatDoorPack6
import Derived.Test.YtbngjlkmpdccjaaGreatDoorPack8
import Derived.Test.YtbngjlkmpdccjaaGreatDoorPack1
import Derived.Test.YtbngjlkmpdccjaaGreatDoorPack3
import Derived.Deep.LoopGhost
namespace Go.Proofs.YtbngjlkmpdccjaaGreatDoor
open Go Go.RowKit Go.Proofs Th
attribute [local go_sem] Above.cell
structure IntsAt (w : World) (B : Nat) (A : Option Addr) (c : Nat) (ds : List Nat) : Prop where
  le : ds.length ≤ c
  cap : c ≤ maxLen
  at_ : 0 < ds.length → ∃ g o, A = some ⟨g, o, none⟩ ∧ g < B ∧ ∀ j (h : j < ds.length), w.cell? ⟨g, o + j, none⟩ = some (.int .i64 (ds[j] : Int))
theorem IntsAt.below {w w' : World} {B B' : Nat} {A : Option Addr} {c : Nat} {ds : List Nat} (h : IntsAt w B A c ds) (hb : Below B' w w') (hB : B ≤ B') : IntsAt w' B A c ds :=
  ⟨h.le, h.cap, fun hn => by
    obtain ⟨g, o, e, hg, hc⟩ := h.at_ hn
    exact ⟨g, o, e, hg, fun j hj => (hb.cell (p := ⟨g, o + j, none⟩) (Nat.lt_of_lt_of_le hg hB)).trans (hc j hj)⟩⟩
theorem IntsAt.tail {w : World} {B g o c : Nat} {d : Nat} {ds : List Nat} (h : IntsAt w B (some ⟨g, o, none⟩) c (d :: ds)) : IntsAt w B (if c = 1 then some ⟨g, o, none⟩ else some ⟨g, o + 1, none⟩) (c - 1) ds := by
  have hl := h.le
  simp only [List.length_cons] at hl
  refine ⟨by omega, by have := h.cap; omega, fun hn => ?_⟩
  obtain ⟨g', o', e, hg, hc⟩ := h.at_ (by simp)
  injection e with e
  injection e with e1 e2
  subst e1 e2
  rw [if_neg (by omega)]
  refine ⟨_, _, rfl, hg, fun j hj => ?_⟩
  have := hc (j + 1) (by simp; omega)
  rw [show o + 1 + j = o + (j + 1) by omega, this]
  rfl
theorem IntsAt.init {w : World} {B c : Nat} {A : Option Addr} {ds : List Nat} (h : IntsAt w B A c ds) (k : Nat) (hk : k ≤ ds.length) : IntsAt w B A c (ds.take k) := by
  have hl := h.le
  refine ⟨by rw [List.length_take]; omega, h.cap, fun hn => ?_⟩
  rw [List.length_take] at hn
  obtain ⟨g, o, e, hg, hc⟩ := h.at_ (by omega)
  refine ⟨g, o, e, hg, fun j hj => ?_⟩
  rw [List.getElem_take]
  exact hc j (by rw [List.length_take] at hj; omega)
def digB (c : UInt8) : Bool := decide (48 ≤ c.toNat) && decide (c.toNat ≤ 57)
theorem ref_digit (c : UInt8) (w : World) : Calls Tryz.prog 65 #[.int .u8 c.toNat] w fun r w' => r = .returned (.bool (digB c)) ∧ Below w.heap.size w w' := by
  by_cases h1 : 48 ≤ c.toNat
  · have K := Keep.mk (show decide ((c.toNat : Int) ≤ 57) = digB c by
      unfold digB; rw [decide_eq_true h1, Bool.true_and]; congr 1; apply propext; omega)
    go_enter Tryz.func65, Tryz.ntmps65
    go_wp2
    go_ret
    exact ⟨ret_bool K.out, Below.refl _ _⟩
  · have K := Keep.mk (show false = digB c by unfold digB; simp [h1])
    go_enter Tryz.func65, Tryz.ntmps65
    go_wp2
    go_ret
    exact ⟨ret_bool K.out, Below.refl _ _⟩
theorem ref_digit_minus (w : World) : Calls Tryz.prog 65 #[.int .u8 45] w fun r w' => r = .returned (.bool false) ∧ Below w.heap.size w w' := ref_digit 45 w
def powS (n : Nat) (c : UInt8) : Nat := if digB c && decide (n < 1000000) then n * 10 + dg c else n
def powN (l : List UInt8) : Nat := l.foldl powS 0
def negB (l : List UInt8) : Bool := l.any (· == 45)
theorem powN_snoc (l : List UInt8) (c : UInt8) : powN (l ++ [c]) = powS (powN l) c := by unfold powN; rw [List.foldl_append]; rfl
theorem powN_le (l : List UInt8) : powN l ≤ 9999999 := by
  unfold powN
  suffices ∀ n, n ≤ 9999999 → l.foldl powS n ≤ 9999999 by exact this 0 (by omega)
  induction l with
  | nil => intro n h; exact h
  | cons c l ih =>
    intro n h
    refine ih _ ?_
    unfold powS digB dg
    split
    · rename_i h2; simp at h2; omega
    · exact h
def powR (l : List UInt8) : Int := if negB l then -(powN l : Int) else powN l
theorem take_next (s : ByteArray) (k : Nat) (h : k < s.size) : s.data.toList.take (k + 1) = s.data.toList.take k ++ [s[k]] := by
  rw [List.take_succ_eq_append_getElem (by simpa using h)]; rfl
theorem negB_snoc (l : List UInt8) (c : UInt8) : negB (l ++ [c]) = (negB l || c == 45) := by unfold negB; simp
set_option maxRecDepth 100000 in
theorem ref_power (s : ByteArray) (hs : s.size ≤ 9223372036854775806) (w : World) : Calls Tryz.prog 64 #[.string s] w fun r w' => r = .returned (.int .i64 (powR s.data.toList)) ∧ Below w.heap.size w w' := by
  go_enter Tryz.func64, Tryz.ntmps64
  go_wp2_with fail
  go_loopw [3, 4, 5] (fun n g i wr => ∃ k : Nat, k ≤ s.size ∧ i = .int .i64 k ∧ n = .int .i64 (powN (s.data.toList.take k)) ∧ g = .bool (negB (s.data.toList.take k)) ∧ Below w.heap.size w wr) (fun _ _ i _ => s.size - (intOf i).toNat)
  case atStart => exact ⟨0, Nat.zero_le _, rfl, rfl, rfl, Below.refl _ _⟩
  case round =>
    obtain ⟨k, hk, rfl, rfl, rfl, hb⟩ := hrel
    by_cases hlt : k < s.size
    · have HN := Keep.mk (negB_snoc (s.data.toList.take k) s[k])
      have HP := Keep.mk (powN_snoc (s.data.toList.take k) s[k])
      rw [← take_next s k hlt] at HN HP
      have hn := powN_le (s.data.toList.take k)
      have HD := Keep.mk (fun w => ref_digit s[k] w)
      generalize powN (s.data.toList.take k) = n at *
      generalize negB (s.data.toList.take k) = b at *
      have hc9 : s[k].toNat ≤ 255 := by have := s[k].toNat_lt; omega
      by_cases hm : s[k].toNat = 45
      · have hmc : s[k] = 45 := UInt8.toNat.inj hm
        have hmb : ((s[k].toNat : Int) == 45) = true := by simp [hm]
        have HN2 := Keep.mk (show negB (s.data.toList.take (k + 1)) = true by rw [HN.out, hmc]; simp)
        have HP2 := Keep.mk (show powN (s.data.toList.take (k + 1)) = n by rw [HP.out, hmc]; rfl)
        clear HN HP hmc
        go_wp2_with fail
        refine (ref_digit_minus _).mono ?_
        rintro r w1 ⟨rfl, hb1⟩
        go_wp2
        go_roundw
        case rel => exact ⟨k + 1, by omega, by go_num, by rw [HP2.out], by rw [HN2.out], up hb hb1⟩
        case measure => simp [intOf]; omega
      · have hmc : s[k] ≠ 45 := fun h => hm (by rw [h]; rfl)
        have hmb : ((s[k].toNat : Int) == 45) = false := by simp; omega
        have HN2 := Keep.mk (show negB (s.data.toList.take (k + 1)) = b by rw [HN.out]; simp [hmc])
        clear HN hmc
        cases hdd : digB s[k]
        · have HP2 := Keep.mk (show powN (s.data.toList.take (k + 1)) = n by rw [HP.out]; unfold powS; simp [hdd])
          clear HP
          go_wp2_with fail
          refine (HD.out _).mono ?_
          rw [hdd]
          rintro r w1 ⟨rfl, hb1⟩
          go_wp2
          go_roundw
          case rel => exact ⟨k + 1, by omega, by go_num, by rw [HP2.out], by rw [HN2.out], up hb hb1⟩
          case measure => simp [intOf]; omega
        · have hdg : 48 ≤ s[k].toNat ∧ s[k].toNat ≤ 57 := by unfold digB at hdd; simpa using hdd
          obtain ⟨hd1, hd2⟩ := hdg
          by_cases hbig : n < 1000000
          · have hbi : (n : Int) < 1000000 := by omega
            have HP2 := Keep.mk (show powN (s.data.toList.take (k + 1)) = n * 10 + (s[k].toNat - 48) by rw [HP.out]; unfold powS dg; simp [hdd, hbig])
            clear HP hbig
            go_wp2_with fail
            refine (HD.out _).mono ?_
            rw [hdd]
            rintro r w1 ⟨rfl, hb1⟩
            go_wp2
            go_roundw
            case rel => exact ⟨k + 1, by omega, by go_num, by rw [HP2.out]; congr 1; omega, by rw [HN2.out], up hb hb1⟩
            case measure => simp [intOf]; omega
          · have HP2 := Keep.mk (show powN (s.data.toList.take (k + 1)) = n by rw [HP.out]; unfold powS; simp [hdd, hbig])
            obtain ⟨z, hz⟩ : ∃ z : Int, z = n := ⟨_, rfl⟩
            have hz1 : 1000000 ≤ z := by omega
            have hz2 : z ≤ 9999999 := by omega
            rw [← hz]
            have HZ := Keep.mk hz
            clear HP hbig hn hz
            go_wp2_with fail
            refine (HD.out _).mono ?_
            rw [hdd]
            rintro r w1 ⟨rfl, hb1⟩
            go_wp2
            go_roundw
            case rel => exact ⟨k + 1, by omega, by go_num, by rw [HP2.out, HZ.out], by rw [HN2.out], up hb hb1⟩
            case measure => simp [intOf]; omega
    · have he : s.data.toList.take k = s.data.toList := by rw [List.take_of_length_le]; simp; omega
      have hn := powN_le s.data.toList
      have HR := Keep.mk (show powR s.data.toList = if negB s.data.toList then -(powN s.data.toList : Int) else powN s.data.toList from rfl)
      rw [he]
      generalize powN s.data.toList = n at *
      cases hb0 : negB s.data.toList
      · have HE := Keep.mk (show (n : Int) = powR s.data.toList by rw [HR.out, hb0]; rfl)
        clear HR he
        go_wp2
        go_ret
        exact ⟨ret_i64 HE.out, hb⟩
      · have HE := Keep.mk (show -(n : Int) = powR s.data.toList by rw [HR.out, hb0]; rfl)
        clear HR he
        go_wp2
        go_ret
        exact ⟨ret_i64 HE.out, hb⟩
end Go.Proofs.YtbngjlkmpdccjaaGreatDoor
namespace Go.Proofs.YtbngjlkmpdccjaaGreatDoor
open Go Go.RowKit Go.Proofs Th
attribute [local go_sem] Above.cell
structure I64 (m : Int) : Prop where
  lo : -9223372036854775808 ≤ m
  hi : m ≤ 9223372036854775807
end Go.Proofs.YtbngjlkmpdccjaaGreatDoor
