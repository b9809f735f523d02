/- Lemmas and contracts for the laws CalcLengths, part 12 of 37: Fmt. Conditions: those that each lemma names. -/
import Derived.Test.YtnkokhpadcgfbaaGreatDoorPack2
import Derived.Test.YtnkokhpadcgfbaaGreatDoorPack9
import Derived.Test.YtnkokhpadcgfbaaGreatDoorPack3
import Derived.Test.YtnkokhpadcgfbaaGreatDoorPack5
import Derived.Sort.Grow
namespace Go.Proofs.YtnkokhpadcgfbaaGreatDoor
open Go Go.RowKit Go.Proofs Th Go.Sort
attribute [local go_sem] Above.cell
theorem below_grow (w : World) (k : Nat) (os : Array Obj) : Below w.heap.size w (grow (w.drewN k) os) :=
  ⟨rfl, rfl, rfl, by simp [grow, World.drewN], fun i hi => heap_grow_old (w.drewN k) os hi⟩
theorem holds_zero0 (w : World) (T : TypeId) (nd : Nat) (hs : nd ≤ 24) : Holds (fun (b : UInt8) => Value.int .u8 (b.toNat : Int)) (w.alloc (.cells Lib.zeros24 T)) w.heap.size 0 (Array.replicate nd (0 : UInt8)) := fun j hj => by
  have hj' : j < nd := by simpa using hj
  refine ⟨?_, World.frozen?_alloc_new _ _ _ _⟩
  rw [World.cell?_alloc_new, Lib.zeros24_at _ (by omega), getElem!_pos _ j hj]
  simp
theorem iformat_small (u : Nat) (hu : u < 100) (w : World) : Calls Tryz.prog 172 #[.int .u64 u, .int .i64 10] w fun r w' =>
    r = .returned (.string ⟨(Lib.decDigits u).toArray⟩) ∧ Below w.heap.size w w' := by
  go_enter Tryz.func172, Tryz.ntmps172
  go_wp2_with (go_at_call 213; refine (Tryz.internal_strconv_small u hu _).mono ?_; rintro e w' ⟨rfl, rfl⟩)
  go_ret
  exact ⟨rfl, Below.refl _ _⟩
set_option maxHeartbeats 1000000 in
set_option maxRecDepth 100000 in
theorem iformat_big (u : Nat) (hu : 100 ≤ u) (hu64 : u < 18446744073709551616) (w : World) (hg : GlobP w) : Calls Tryz.prog 172 #[.int .u64 u, .int .i64 10] w fun r w' =>
    r = .returned (.string ⟨(Lib.decDigits u).toArray⟩) ∧ Below w.heap.size w w' := by
  have hu1 : 1 ≤ u := by omega
  have hnd20 : Lib.nDigits u ≤ 20 := by have := Lib.numDigits_eq u hu1 hu64; split at this <;> omega
  have hal : Tryz.prog.arrayLen 224 = 24 := by kernel_rfl
  have hel : Tryz.prog.elem 224 = 5 := by kernel_rfl
  have hsl : ∀ W, (Instr.sliceAt 224 (.pointer (some ⟨w.heap.size, 0, none⟩)) none (some (.int .i64 (Lib.nDigits u : Int))) none).run Tryz.prog W = .ok (.slice (some ⟨w.heap.size, 0, none⟩) (Lib.nDigits u) 24) W := fun W => by
    rw [run_sliceAt_array_h W 224 ⟨w.heap.size, 0, none⟩ (by simp [Program.arrayLen, Program.elem, Tryz.underlying224]) .i64 (Lib.nDigits u : Int) (by omega) (by rw [hal]; omega), hal, hel, Tryz.sizeOf5]
    simp [slicedAt, Lib.add_plain]
  have hH0 := holds_zero0 w 224 (Lib.nDigits u) (by omega)
  have hfmt := Tryz.internal_strconv_formatBase10 w.heap.size 0 24 u (Array.replicate (Lib.nDigits u) 0) (w.alloc (.cells Lib.zeros24 224)) hH0 (by rw [Array.size_replicate]; exact Lib.lt_pow_nDigits u) hu64 (by rw [Array.size_replicate]; omega)
  rw [Array.size_replicate] at hfmt
  have HH0 := Keep.mk hH0
  have HU := Keep.mk hu64
  have HND := Keep.mk hnd20
  clear hH0 hal hel hu64 hnd20
  have hlt : ¬ u < 100 := by omega
  go_enter Tryz.func172, Tryz.ntmps172
  go_wp2_with (first
    | (go_at_call 214; refine (Tryz.internal_strconv_numDigits u hu1 HU.out _ (Lib.tabIs_alloc hg.pows _)).mono ?_; rintro e w' ⟨rfl, rfl⟩))
  go_at_call 215
  refine hfmt.mono ?_
  rintro e w' ⟨rfl, k, v', dk, rfl, hF⟩
  have hcv : (convert 104 9 (.slice (some ⟨w.heap.size, 0, none⟩) (Lib.nDigits u) 24)).run Tryz.prog ((putRow (fun (b : UInt8) => Value.int .u8 (b.toNat : Int)) (w.alloc (.cells Lib.zeros24 224)) w.heap.size 0 dk).drewN k) = .ok (.string ⟨(Lib.decDigits u).toArray⟩) ((putRow (fun (b : UInt8) => Value.int .u8 (b.toNat : Int)) (w.alloc (.cells Lib.zeros24 224)) w.heap.size 0 dk).drewN k) := by
    have h := run_convert_bytes_back (P := Tryz.prog) ((putRow (fun (b : UInt8) => Value.int .u8 (b.toNat : Int)) (w.alloc (.cells Lib.zeros24 224)) w.heap.size 0 dk).drewN k) 104 9 5 ⟨w.heap.size, 0, none⟩ 24 (Lib.decDigits u) Tryz.underlying104 Tryz.underlying5 Tryz.underlying9 (fun j hj => by
      rw [Lib.row_is_numeral hF j hj, Lib.add_plain, World.cell?_drewN]
      exact cell?_putRow (fun (b : UInt8) => Value.int .u8 (b.toNat : Int)) _ w.heap.size 0 _ dk HH0.out (by rw [hF.size, Array.size_replicate]) j (by rw [hF.size]; rw [Lib.decDigits_length] at hj; exact hj))
    rw [Lib.decDigits_length] at h
    exact h
  go_wp2
  go_ret
  refine ⟨rfl, ?_⟩
  rw [alloc_eq_grow]
  obtain ⟨os', _, e⟩ := putRow_grow_new (fun (b : UInt8) => Value.int .u8 (b.toNat : Int)) w #[.cells Lib.zeros24 224] w.heap.size 0 dk (Nat.le_refl _)
  rw [e]
  exact below_grow w k os'
theorem formatUint (u : Nat) (hu64 : u < 18446744073709551616) (w : World) (hg : GlobP w) : Calls Tryz.prog 119 #[.int .u64 u, .int .i64 10] w fun r w' =>
    r = .returned (.string ⟨(Lib.decDigits u).toArray⟩) ∧ Below w.heap.size w w' := by
  have key : Calls Tryz.prog 172 #[.int .u64 u, .int .i64 10] w fun r w' => r = .returned (.string ⟨(Lib.decDigits u).toArray⟩) ∧ Below w.heap.size w w' := by
    by_cases h : u < 100
    · exact iformat_small u h w
    · exact iformat_big u (by omega) hu64 w hg
  have KEY := Keep.mk key
  clear key hu64
  go_enter Tryz.func119, Tryz.ntmps119
  go_wp2_with fail
  refine KEY.out.mono ?_
  rintro e w' ⟨rfl, hb⟩
  go_wp2
  go_ret
  exact ⟨rfl, hb⟩
theorem itoa (n : Int) (h0 : -9223372036854775808 ≤ n) (h1 : n ≤ 9223372036854775807) (w : World) (hg : GlobP w) : Calls Tryz.prog 183 #[.int .i64 n] w fun r w' =>
    r = .returned (.string ⟨(Lib.itoa n).toArray⟩) ∧ Below w.heap.size w w' :=
  (Tryz.strconv_Itoa n h0 h1 w hg.pows).mono fun e w' ⟨he, k, os, hw⟩ => ⟨he, by rw [hw]; exact below_grow w k os⟩
theorem fmt_size (m e : Int) (hm : I64 m) (hr : right m e = true) : ∃ (A : Int) (S : ByteArray), (m.natAbs : Int) = A ∧ S = ⟨(Lib.decDigits m.natAbs).toArray⟩ ∧ S.size = nd m ∧
    (∀ w, Calls Tryz.prog 72 #[.agg #[.int .i64 m, .int .i64 e]] w fun r w' => r = .returned (.int .u64 A) ∧ Below w.heap.size w w') ∧
    (∀ w, GlobP w → Calls Tryz.prog 119 #[.int .u64 A, .int .i64 10] w fun r w' => r = .returned (.string S) ∧ Below w.heap.size w w') := by
  refine ⟨_, _, rfl, rfl, ?_, fun w => num_size m e hm.lo hm.hi w, fun w hg => formatUint m.natAbs (by have := right_size hr; omega) w hg⟩
  show (Lib.decDigits m.natAbs).toArray.size = _
  rw [List.size_toArray, Lib.decDigits_length]; rfl
theorem pow_le_of_nd (u : Nat) (h : u ≠ 0) : 10 ^ (Lib.nDigits u - 1) ≤ u := by
  induction u using Nat.strongRecOn with
  | _ u ih =>
    by_cases h9 : u < 10
    · rw [Lib.nDigits_small h9]; simp; omega
    · rw [Lib.nDigits_big h9, Nat.add_sub_cancel]
      have := ih (u / 10) (by omega) (by omega)
      have h1 : Lib.nDigits (u / 10) = (Lib.nDigits (u / 10) - 1) + 1 := by
        have : 1 ≤ Lib.nDigits (u / 10) := by
          by_cases h9' : u / 10 < 10
          · rw [Lib.nDigits_small h9']; omega
          · rw [Lib.nDigits_big h9']; omega
        omega
      rw [h1, Nat.pow_succ]
      omega
theorem nd_le {m e : Int} (h : right m e = true) : nd m ≤ 18 := by
  have h1 := right_size h
  unfold nd
  by_cases h0 : m.natAbs = 0
  · rw [h0, Lib.nDigits_small (by omega)]; omega
  · have h2 := Lib.numDigits_eq m.natAbs (by omega) (by omega)
    have h3 : Lib.nDigits m.natAbs ≤ 18 := by
      rcases Nat.lt_or_ge 18 (Lib.nDigits m.natAbs) with h4 | h4
      · exfalso
        have h5 := pow_le_of_nd m.natAbs (by omega)
        have h6 : (10 : Nat) ^ 18 ≤ 10 ^ (Lib.nDigits m.natAbs - 1) := Nat.pow_le_pow_right (by omega) (by omega)
        omega
      · exact h4
    exact h3
end Go.Proofs.YtnkokhpadcgfbaaGreatDoor
