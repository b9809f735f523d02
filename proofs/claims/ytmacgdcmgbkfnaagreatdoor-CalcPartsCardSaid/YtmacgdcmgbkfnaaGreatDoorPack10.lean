/- Lemmas and contracts for the laws CalcParts, part 10 of 33: Val, Fmt. Conditions: those that each lemma names. -/
import Derived.Test.YtmacgdcmgbkfnaaGreatDoorPack9
import Derived.Test.YtmacgdcmgbkfnaaGreatDoorPack3
import Derived.Test.YtmacgdcmgbkfnaaGreatDoorPack2
import Derived.Test.YtmacgdcmgbkfnaaGreatDoorPack5
import Derived.Sort.Grow
namespace Go.Proofs.YtmacgdcmgbkfnaaGreatDoor
open Go Go.RowKit Go.Proofs Th
structure StrsAt (W : World) (B : Nat) (A : Option Addr) (c : Nat) (ks : List ByteArray) : Prop where
  le : ks.length ≤ c
  cap : ks.length ≤ 140737488351232
  top : c ≤ 9223372036854775807
  small : ∀ k ∈ ks, k.size ≤ 140737488351232
  at_ : 0 < ks.length → ∃ g o, A = some ⟨g, o, none⟩ ∧ g < B ∧ ∀ j (h : j < ks.length), W.cell? ⟨g, o + j, none⟩ = some (.string ks[j])
theorem StrsAt.below {w w' : World} {B B' : Nat} {A : Option Addr} {c : Nat} {ks : List ByteArray} (h : StrsAt w B A c ks) (hb : Below B' w w') (hB : B ≤ B') : StrsAt w' B A c ks :=
  ⟨h.le, h.cap, h.top, h.small, fun hn => by
    obtain ⟨g, o, e, hg, hc⟩ := h.at_ hn
    exact ⟨g, o, e, hg, fun j hj => (hb.cell (p := ⟨g, o + j, none⟩) (Nat.lt_of_lt_of_le hg hB)).trans (hc j hj)⟩⟩
theorem StrsAt.more {w : World} {B B' : Nat} {A : Option Addr} {c : Nat} {ks : List ByteArray} (h : StrsAt w B A c ks) (hB : B ≤ B') : StrsAt w B' A c ks :=
  ⟨h.le, h.cap, h.top, h.small, fun hn => by
    obtain ⟨g, o, e, hg, hc⟩ := h.at_ hn
    exact ⟨g, o, e, Nat.lt_of_lt_of_le hg hB, hc⟩⟩
def cells6 (k m e : Int) (s : ByteArray) (A : Option Addr) (n c : Nat) (A' : Option Addr) (n' c' : Nat) : List Value :=
  [.int .i64 k, .int .i64 m, .int .i64 e, .string s, .slice A n c, .slice A' n' c']
inductive JAt (W : World) (B : Nat) : JV → List Value → Prop
  | mk {k m e : Int} {s : ByteArray} {l : List JV} {ks : List ByteArray} {A : Option Addr} {c : Nat} {A' : Option Addr} {c' : Nat} (f : Nat → List Value)
    (hk : I64 k) (hm : I64 m) (he : I64 e) (hs : s.size ≤ 140737488351232) (hl : l.length ≤ c) (hc : l.length ≤ 140737488351232) (hcc : c ≤ 9223372036854775807) (hK : StrsAt W B A' c' ks)
    (hL : 0 < l.length → ∃ g o, A = some ⟨g, o, none⟩ ∧ g < B ∧ ∀ j, j < l.length → ∀ i v, (f j)[i]? = some v → W.cell? ⟨g, o + j * 6 + i, none⟩ = some v)
    (hT : ∀ j (h : j < l.length), JAt W B l[j] (f j)) :
    JAt W B (.mk k m e s l ks) (cells6 k m e s A l.length c A' ks.length c')
theorem JAt.keep {W W' : World} {B B' : Nat} {t : JV} {cs : List Value} (h : JAt W B t cs) (hb : Below B' W W') (hB : B ≤ B') : JAt W' B t cs := by
  induction h with
  | mk f hk hm he hs hl hc hcc hK hL hT ih =>
    refine .mk f hk hm he hs hl hc hcc (hK.below hb hB) (fun hn => ?_) (fun j hj => ih j hj)
    obtain ⟨g, o, e, hg, h⟩ := hL hn
    exact ⟨g, o, e, hg, fun j hj i v hv => (hb.cell (p := ⟨g, o + j * 6 + i, none⟩) (Nat.lt_of_lt_of_le hg hB)).trans (h j hj i v hv)⟩
theorem JAt.more {W : World} {B B' : Nat} {t : JV} {cs : List Value} (h : JAt W B t cs) (hB : B ≤ B') : JAt W B' t cs := by
  induction h with
  | mk f hk hm he hs hl hc hcc hK hL hT ih =>
    refine .mk f hk hm he hs hl hc hcc (hK.more hB) (fun hn => ?_) (fun j hj => ih j hj)
    obtain ⟨g, o, e, hg, h⟩ := hL hn
    exact ⟨g, o, e, Nat.lt_of_lt_of_le hg hB, h⟩
structure ValsAt (W : World) (B : Nat) (A : Option Addr) (c : Nat) (l : List JV) : Prop where
  le : l.length ≤ c
  cap : l.length ≤ 140737488351232
  top : c ≤ 9223372036854775807
  at_ : ∀ j (h : j < l.length), ∃ g o cs, A = some ⟨g, o, none⟩ ∧ g < B ∧ (∀ i v, cs[i]? = some v → W.cell? ⟨g, o + j * 6 + i, none⟩ = some v) ∧ JAt W B l[j] cs
theorem ValsAt.below {w w' : World} {B B' : Nat} {A : Option Addr} {c : Nat} {l : List JV} (h : ValsAt w B A c l) (hb : Below B' w w') (hB : B ≤ B') : ValsAt w' B A c l :=
  ⟨h.le, h.cap, h.top, fun j hj => by
    obtain ⟨g, o, cs, e, hg, hc, hJ⟩ := h.at_ j hj
    exact ⟨g, o, cs, e, hg, fun i v hv => (hb.cell (p := ⟨g, o + j * 6 + i, none⟩) (Nat.lt_of_lt_of_le hg hB)).trans (hc i v hv), hJ.keep hb hB⟩⟩
theorem ValsAt.more {w : World} {B B' : Nat} {A : Option Addr} {c : Nat} {l : List JV} (h : ValsAt w B A c l) (hB : B ≤ B') : ValsAt w B' A c l :=
  ⟨h.le, h.cap, h.top, fun j hj => by
    obtain ⟨g, o, cs, e, hg, hc, hJ⟩ := h.at_ j hj
    exact ⟨g, o, cs, e, Nat.lt_of_lt_of_le hg hB, hc, hJ.more hB⟩⟩
theorem JAt.open {W : World} {B : Nat} {k m e : Int} {s : ByteArray} {l : List JV} {ks : List ByteArray} {cs : List Value} (h : JAt W B (.mk k m e s l ks) cs) :
    ∃ A c A' c', cs = cells6 k m e s A l.length c A' ks.length c' ∧ I64 k ∧ I64 m ∧ I64 e ∧ s.size ≤ 140737488351232 ∧ StrsAt W B A' c' ks ∧ ValsAt W B A c l := by
  cases h with
  | mk f hk hm he hs hl hc hcc hK hL hT =>
    refine ⟨_, _, _, _, rfl, hk, hm, he, hs, hK, hl, hc, hcc, fun j hj => ?_⟩
    obtain ⟨g, o, e, hg, h⟩ := hL (by omega)
    exact ⟨g, o, f j, e, hg, h j hj, hT j hj⟩
theorem JAt.shut {W : World} {B : Nat} {k m e : Int} {s : ByteArray} {l : List JV} {ks : List ByteArray} {A : Option Addr} {c : Nat} {A' : Option Addr} {c' : Nat}
    (hk : I64 k) (hm : I64 m) (he : I64 e) (hs : s.size ≤ 140737488351232) (hK : StrsAt W B A' c' ks) (hV : ValsAt W B A c l) : JAt W B (.mk k m e s l ks) (cells6 k m e s A l.length c A' ks.length c') := by
  classical
  have h : ∀ j : Nat, ∃ cs : List Value, ∀ (h : j < l.length), ∃ g o, A = some ⟨g, o, none⟩ ∧ g < B ∧ (∀ i v, cs[i]? = some v → W.cell? ⟨g, o + j * 6 + i, none⟩ = some v) ∧ JAt W B l[j] cs := by
    intro j
    by_cases hj : j < l.length
    · obtain ⟨g, o, cs, h⟩ := hV.at_ j hj
      exact ⟨cs, fun _ => ⟨g, o, h⟩⟩
    · exact ⟨[], fun h => absurd h hj⟩
  refine .mk (fun j => (h j).choose) hk hm he hs hV.le hV.cap hV.top hK (fun hn => ?_) (fun j hj => ?_)
  · obtain ⟨g, o, ea, hg, _⟩ := (h 0).choose_spec hn
    refine ⟨g, o, ea, hg, fun j hj i v hv => ?_⟩
    obtain ⟨g', o', eb, hg', hc, _⟩ := (h j).choose_spec hj
    rw [ea] at eb
    injection eb with eb
    injection eb with e1 e2
    subst e1 e2
    exact hc i v hv
  · obtain ⟨g', o', e', hg', hc, hJ⟩ := (h j).choose_spec hj
    exact hJ
theorem ValsAt.elem {W : World} {B : Nat} {A : Option Addr} {c : Nat} {l : List JV} (h : ValsAt W B A c l) (j : Nat) (hj : j < l.length) :
    ∃ g o k m e s A1 n1 c1 A2 n2 c2, A = some ⟨g, o, none⟩ ∧ g < B ∧ JAt W B l[j] (cells6 k m e s A1 n1 c1 A2 n2 c2) ∧
      W.cell? ⟨g, o + j * 6, none⟩ = some (.int .i64 k) ∧ W.cell? ⟨g, o + j * 6 + 1, none⟩ = some (.int .i64 m) ∧ W.cell? ⟨g, o + j * 6 + 2, none⟩ = some (.int .i64 e) ∧
      W.cell? ⟨g, o + j * 6 + 3, none⟩ = some (.string s) ∧ W.cell? ⟨g, o + j * 6 + 4, none⟩ = some (.slice A1 n1 c1) ∧ W.cell? ⟨g, o + j * 6 + 5, none⟩ = some (.slice A2 n2 c2) := by
  obtain ⟨g, o, cs, ea, hg, hc, hJ⟩ := h.at_ j hj
  have hJ' := hJ
  cases ht : l[j] with
  | mk k m e s l' ks =>
    rw [ht] at hJ
    obtain ⟨A1, c1, A2, c2, rfl, _⟩ := hJ.open
    rw [ht] at hJ'
    exact ⟨g, o, k, m, _, s, A1, _, c1, A2, _, c2, ea, hg, hJ', hc 0 _ rfl, hc 1 _ rfl, hc 2 _ rfl, hc 3 _ rfl, hc 4 _ rfl, hc 5 _ rfl⟩
theorem countL_get : ∀ (l : List JV) (j : Nat) (h : j < l.length), countJ l[j] ≤ countL l
  | v :: r, 0, _ => by show countJ v ≤ countJ v + countL r; omega
  | v :: r, j + 1, h => by
    have := countL_get r j (by simpa using h)
    show countJ (r[j]'(by simpa using h)) ≤ countJ v + countL r
    omega
end Go.Proofs.YtmacgdcmgbkfnaaGreatDoor
namespace Go.Proofs.YtmacgdcmgbkfnaaGreatDoor
open Go Go.RowKit Go.Proofs Th Go.Sort
attribute [local go_sem] Above.cell
theorem below_grow (w : World) (k : Nat) (os : Array Obj) : Below w.heap.size w (grow (w.drewN k) os) :=
  ⟨rfl, rfl, rfl, by simp [grow, World.drewN], fun i hi => heap_grow_old (w.drewN k) os hi⟩
theorem holds_zero0 (w : World) (T : TypeId) (nd : Nat) (hs : nd ≤ 24) : Holds (fun (b : UInt8) => Value.int .u8 (b.toNat : Int)) (w.alloc (.cells Lib.zeros24 T)) w.heap.size 0 (Array.replicate nd (0 : UInt8)) := fun j hj => by
  have hj' : j < nd := by simpa using hj
  refine ⟨?_, World.frozen?_alloc_new _ _ _ _⟩
  rw [World.cell?_alloc_new, Lib.zeros24_at _ (by omega), getElem!_pos _ j hj]
  simp
theorem iformat_small (u : Nat) (hu : u < 100) (w : World) : Calls Tryz.prog 123 #[.int .u64 u, .int .i64 10] w fun r w' =>
    r = .returned (.string ⟨(Lib.decDigits u).toArray⟩) ∧ Below w.heap.size w w' := by
  go_enter Tryz.func123, Tryz.ntmps123
  go_wp2_with (go_at_call 153; refine (Tryz.internal_strconv_small u hu _).mono ?_; rintro e w' ⟨rfl, rfl⟩)
  go_ret
  exact ⟨rfl, Below.refl _ _⟩
set_option maxHeartbeats 1000000 in
set_option maxRecDepth 100000 in
theorem iformat_big (u : Nat) (hu : 100 ≤ u) (hu64 : u < 18446744073709551616) (w : World) (hg : GlobP w) : Calls Tryz.prog 123 #[.int .u64 u, .int .i64 10] w fun r w' =>
    r = .returned (.string ⟨(Lib.decDigits u).toArray⟩) ∧ Below w.heap.size w w' := by
  have hu1 : 1 ≤ u := by omega
  have hnd20 : Lib.nDigits u ≤ 20 := by have := Lib.numDigits_eq u hu1 hu64; split at this <;> omega
  have hal : Tryz.prog.arrayLen 174 = 24 := by kernel_rfl
  have hel : Tryz.prog.elem 174 = 5 := by kernel_rfl
  have hsl : ∀ W, (Instr.sliceAt 174 (.pointer (some ⟨w.heap.size, 0, none⟩)) none (some (.int .i64 (Lib.nDigits u : Int))) none).run Tryz.prog W = .ok (.slice (some ⟨w.heap.size, 0, none⟩) (Lib.nDigits u) 24) W := fun W => by
    rw [run_sliceAt_array_h W 174 ⟨w.heap.size, 0, none⟩ (by simp [Program.arrayLen, Program.elem, Tryz.underlying174]) .i64 (Lib.nDigits u : Int) (by omega) (by rw [hal]; omega), hal, hel, Tryz.sizeOf5]
    simp [slicedAt, Lib.add_plain]
  have hH0 := holds_zero0 w 174 (Lib.nDigits u) (by omega)
  have hfmt := Tryz.internal_strconv_formatBase10 w.heap.size 0 24 u (Array.replicate (Lib.nDigits u) 0) (w.alloc (.cells Lib.zeros24 174)) hH0 (by rw [Array.size_replicate]; exact Lib.lt_pow_nDigits u) hu64 (by rw [Array.size_replicate]; omega)
  rw [Array.size_replicate] at hfmt
  have HH0 := Keep.mk hH0
  have HU := Keep.mk hu64
  have HND := Keep.mk hnd20
  clear hH0 hal hel hu64 hnd20
  have hlt : ¬ u < 100 := by omega
  go_enter Tryz.func123, Tryz.ntmps123
  go_wp2_with (first
    | (go_at_call 154; refine (Tryz.internal_strconv_numDigits u hu1 HU.out _ (Lib.tabIs_alloc hg.pows _)).mono ?_; rintro e w' ⟨rfl, rfl⟩))
  go_at_call 155
  refine hfmt.mono ?_
  rintro e w' ⟨rfl, k, v', dk, rfl, hF⟩
  have hcv : (convert 95 9 (.slice (some ⟨w.heap.size, 0, none⟩) (Lib.nDigits u) 24)).run Tryz.prog ((putRow (fun (b : UInt8) => Value.int .u8 (b.toNat : Int)) (w.alloc (.cells Lib.zeros24 174)) w.heap.size 0 dk).drewN k) = .ok (.string ⟨(Lib.decDigits u).toArray⟩) ((putRow (fun (b : UInt8) => Value.int .u8 (b.toNat : Int)) (w.alloc (.cells Lib.zeros24 174)) w.heap.size 0 dk).drewN k) := by
    have h := run_convert_bytes_back (P := Tryz.prog) ((putRow (fun (b : UInt8) => Value.int .u8 (b.toNat : Int)) (w.alloc (.cells Lib.zeros24 174)) w.heap.size 0 dk).drewN k) 95 9 5 ⟨w.heap.size, 0, none⟩ 24 (Lib.decDigits u) Tryz.underlying95 Tryz.underlying5 Tryz.underlying9 (fun j hj => by
      rw [Lib.row_is_numeral hF j hj, Lib.add_plain, World.cell?_drewN]
      exact cell?_putRow (fun (b : UInt8) => Value.int .u8 (b.toNat : Int)) _ w.heap.size 0 _ dk HH0.out (by rw [hF.size, Array.size_replicate]) j (by rw [hF.size]; rw [Lib.decDigits_length] at hj; exact hj))
    rw [Lib.decDigits_length] at h
    exact h
  go_wp2
  go_ret
  refine ⟨rfl, ?_⟩
  rw [alloc_eq_grow]
  obtain ⟨os', _, e⟩ := putRow_grow_new (fun (b : UInt8) => Value.int .u8 (b.toNat : Int)) w #[.cells Lib.zeros24 174] w.heap.size 0 dk (Nat.le_refl _)
  rw [e]
  exact below_grow w k os'
theorem formatUint (u : Nat) (hu64 : u < 18446744073709551616) (w : World) (hg : GlobP w) : Calls Tryz.prog 92 #[.int .u64 u, .int .i64 10] w fun r w' =>
    r = .returned (.string ⟨(Lib.decDigits u).toArray⟩) ∧ Below w.heap.size w w' := by
  have key : Calls Tryz.prog 123 #[.int .u64 u, .int .i64 10] w fun r w' => r = .returned (.string ⟨(Lib.decDigits u).toArray⟩) ∧ Below w.heap.size w w' := by
    by_cases h : u < 100
    · exact iformat_small u h w
    · exact iformat_big u (by omega) hu64 w hg
  have KEY := Keep.mk key
  clear key hu64
  go_enter Tryz.func92, Tryz.ntmps92
  go_wp2_with fail
  refine KEY.out.mono ?_
  rintro e w' ⟨rfl, hb⟩
  go_wp2
  go_ret
  exact ⟨rfl, hb⟩
theorem itoa (n : Int) (h0 : -9223372036854775808 ≤ n) (h1 : n ≤ 9223372036854775807) (w : World) (hg : GlobP w) : Calls Tryz.prog 128 #[.int .i64 n] w fun r w' =>
    r = .returned (.string ⟨(Lib.itoa n).toArray⟩) ∧ Below w.heap.size w w' :=
  (Tryz.strconv_Itoa n h0 h1 w hg.pows).mono fun e w' ⟨he, k, os, hw⟩ => ⟨he, by rw [hw]; exact below_grow w k os⟩
theorem fmt_size (m e : Int) (hm : I64 m) (hr : right m e = true) : ∃ (A : Int) (S : ByteArray), (m.natAbs : Int) = A ∧ S = ⟨(Lib.decDigits m.natAbs).toArray⟩ ∧ S.size = nd m ∧
    (∀ w, Calls Tryz.prog 56 #[.agg #[.int .i64 m, .int .i64 e]] w fun r w' => r = .returned (.int .u64 A) ∧ Below w.heap.size w w') ∧
    (∀ w, GlobP w → Calls Tryz.prog 92 #[.int .u64 A, .int .i64 10] w fun r w' => r = .returned (.string S) ∧ Below w.heap.size w w') := by
  refine ⟨_, _, rfl, rfl, ?_, fun w => num_size m e hm.lo hm.hi w, fun w hg => formatUint m.natAbs (by have := right_size hr; omega) w hg⟩
  show (Lib.decDigits m.natAbs).toArray.size = _
  rw [List.size_toArray, Lib.decDigits_length]; rfl
theorem pow_le_of_nd (u : Nat) (h : u ≠ 0) : 10 ^ (Lib.nDigits u - 1) ≤ u := by
  induction u using Nat.strongRecOn with
  | _ u ih =>
    by_cases h9 : u < 10
    · rw [Lib.nDigits_small h9]; simp; omega
    · rw [Lib.nDigits_big h9, Nat.add_sub_cancel]
      have := ih (u / 10) (by omega) (by omega)
      have h1 : Lib.nDigits (u / 10) = (Lib.nDigits (u / 10) - 1) + 1 := by
        have : 1 ≤ Lib.nDigits (u / 10) := by
          by_cases h9' : u / 10 < 10
          · rw [Lib.nDigits_small h9']; omega
          · rw [Lib.nDigits_big h9']; omega
        omega
      rw [h1, Nat.pow_succ]
      omega
theorem nd_le {m e : Int} (h : right m e = true) : nd m ≤ 18 := by
  have h1 := right_size h
  unfold nd
  by_cases h0 : m.natAbs = 0
  · rw [h0, Lib.nDigits_small (by omega)]; omega
  · have h2 := Lib.numDigits_eq m.natAbs (by omega) (by omega)
    have h3 : Lib.nDigits m.natAbs ≤ 18 := by
      rcases Nat.lt_or_ge 18 (Lib.nDigits m.natAbs) with h4 | h4
      · exfalso
        have h5 := pow_le_of_nd m.natAbs (by omega)
        have h6 : (10 : Nat) ^ 18 ≤ 10 ^ (Lib.nDigits m.natAbs - 1) := Nat.pow_le_pow_right (by omega) (by omega)
        omega
      · exact h4
    exact h3
end Go.Proofs.YtmacgdcmgbkfnaaGreatDoor
