/- Lemmas and contracts for the laws CalcWith, part 12 of 50: RefA, NumC, BackJMath. Conditions: those that each lemma names. -/
import Derived.Test.YtnkokhpadcgfbaaGreatDoorPw8
import Derived.Test.YtnkokhpadcgfbaaGreatDoorPw11
import Derived.Test.YtnkokhpadcgfbaaGreatDoorPw1
import Derived.Test.YtnkokhpadcgfbaaGreatDoorPw5
import Derived.Test.YtnkokhpadcgfbaaGreatDoorPw10
import Derived.Deep.LoopGhost
namespace Go.Proofs.YtnkokhpadcgfbaaGreatDoor
open Go Go.RowKit Go.Proofs Th
attribute [local go_sem] Above.cell
structure IntsAt (w : World) (B : Nat) (A : Option Addr) (c : Nat) (ds : List Nat) : Prop where
  le : ds.length ≤ c
  cap : c ≤ maxLen
  at_ : 0 < ds.length → ∃ g o, A = some ⟨g, o, none⟩ ∧ g < B ∧ ∀ j (h : j < ds.length), w.cell? ⟨g, o + j, none⟩ = some (.int .i64 (ds[j] : Int))
theorem IntsAt.below {w w' : World} {B B' : Nat} {A : Option Addr} {c : Nat} {ds : List Nat} (h : IntsAt w B A c ds) (hb : Below B' w w') (hB : B ≤ B') : IntsAt w' B A c ds :=
  ⟨h.le, h.cap, fun hn => by
    obtain ⟨g, o, e, hg, hc⟩ := h.at_ hn
    exact ⟨g, o, e, hg, fun j hj => (hb.cell (p := ⟨g, o + j, none⟩) (Nat.lt_of_lt_of_le hg hB)).trans (hc j hj)⟩⟩
theorem IntsAt.more {w : World} {B B' : Nat} {A : Option Addr} {c : Nat} {ds : List Nat} (h : IntsAt w B A c ds) (hB : B ≤ B') : IntsAt w B' A c ds :=
  ⟨h.le, h.cap, fun hn => by
    obtain ⟨g, o, e, hg, hc⟩ := h.at_ hn
    exact ⟨g, o, e, Nat.lt_of_lt_of_le hg hB, hc⟩⟩
theorem IntsAt.tail {w : World} {B g o c : Nat} {d : Nat} {ds : List Nat} (h : IntsAt w B (some ⟨g, o, none⟩) c (d :: ds)) : IntsAt w B (if c = 1 then some ⟨g, o, none⟩ else some ⟨g, o + 1, none⟩) (c - 1) ds := by
  have hl := h.le
  simp only [List.length_cons] at hl
  refine ⟨by omega, by have := h.cap; omega, fun hn => ?_⟩
  obtain ⟨g', o', e, hg, hc⟩ := h.at_ (by simp)
  injection e with e
  injection e with e1 e2
  subst e1 e2
  rw [if_neg (by omega)]
  refine ⟨_, _, rfl, hg, fun j hj => ?_⟩
  have := hc (j + 1) (by simp; omega)
  rw [show o + 1 + j = o + (j + 1) by omega, this]
  rfl
theorem IntsAt.init {w : World} {B c : Nat} {A : Option Addr} {ds : List Nat} (h : IntsAt w B A c ds) (k : Nat) (hk : k ≤ ds.length) : IntsAt w B A c (ds.take k) := by
  have hl := h.le
  refine ⟨by rw [List.length_take]; omega, h.cap, fun hn => ?_⟩
  rw [List.length_take] at hn
  obtain ⟨g, o, e, hg, hc⟩ := h.at_ (by omega)
  refine ⟨g, o, e, hg, fun j hj => ?_⟩
  rw [List.getElem_take]
  exact hc j (by rw [List.length_take] at hj; omega)
theorem ret_str {a b : ByteArray} (h : a = b) : Ending.returned (.string a) = .returned (.string b) := by rw [h]
def zerosN (n : Nat) : ByteArray := ⟨(List.replicate n (48 : UInt8)).toArray⟩
theorem zerosN_size (n : Nat) : (zerosN n).size = n := by unfold zerosN; show (List.replicate _ _).toArray.size = _; simp
theorem zerosN_succ (n : Nat) : zerosN n ++ ⟨#[48]⟩ = zerosN (n + 1) := by
  apply ByteArray.ext
  rw [ByteArray.data_append]
  unfold zerosN
  rw [List.replicate_succ', ← List.push_toArray]
  apply Array.ext'
  simp
theorem ref_noughts (n : Int) (h : n ≤ 1000) (w : World) : Calls Tryz.prog 159 #[.int .i64 n] w fun r w' => r = .returned (.string (zerosN n.toNat)) ∧ Below w.heap.size w w' := by
  go_enter Tryz.func159, Tryz.ntmps159
  go_wp2_with fail
  go_loop [3, 4] (fun s i => ∃ k : Nat, (k : Int) ≤ max n 0 ∧ i = .int .i64 k ∧ s = .string (zerosN k)) (fun _ i => n.toNat - (intOf i).toNat)
  case atStart => exact ⟨0, by omega, rfl, rfl⟩
  case round =>
    obtain ⟨k, hk, rfl, rfl⟩ := hrel
    have hz := zerosN_size k
    have HS := Keep.mk (zerosN_succ k)
    by_cases hlt : (k : Int) < n
    · have hk1 : k < 1000 := by omega
      go_wp2
      exact ⟨⟨k + 1, by omega, by go_num, by rw [HS.out]⟩, by simp [intOf]; omega⟩
    · have HE := Keep.mk (show zerosN k = zerosN n.toNat by congr 1; omega)
      go_wp2
      go_ret
      exact ⟨ret_str HE.out, Below.refl _ _⟩
def bytesN (ds : List Nat) : ByteArray := ⟨(ds.map fun d => UInt8.ofNat (48 + d)).toArray⟩
theorem bytesN_size (ds : List Nat) : (bytesN ds).size = ds.length := by unfold bytesN; show (List.map _ _).toArray.size = _; simp
def tenSigns : ByteArray := ⟨#[48, 49, 50, 51, 52, 53, 54, 55, 56, 57]⟩
theorem sign_at (d : Nat) (h : d ≤ 9) : tenSigns.extract d (d + 1) = ⟨#[UInt8.ofNat (48 + d)]⟩ := by
  have : d = 0 ∨ d = 1 ∨ d = 2 ∨ d = 3 ∨ d = 4 ∨ d = 5 ∨ d = 6 ∨ d = 7 ∨ d = 8 ∨ d = 9 := by omega
  rcases this with rfl | rfl | rfl | rfl | rfl | rfl | rfl | rfl | rfl | rfl <;> decide
theorem bytesN_succ (ds : List Nat) (k : Nat) (h : k < ds.length) (h9 : ds[k] ≤ 9) : bytesN (ds.take k) ++ tenSigns.extract ds[k] (ds[k] + 1) = bytesN (ds.take (k + 1)) := by
  rw [sign_at _ h9, List.take_succ_eq_append_getElem h]
  apply ByteArray.ext
  rw [ByteArray.data_append]
  unfold bytesN
  rw [List.map_append]
  apply Array.ext'
  simp
theorem ref_text (A : Option Addr) (c : Nat) (ds : List Nat) (hd : Digs ds) (hl : ds.length ≤ 1000) (w : World) (hI : IntsAt w w.heap.size A c ds) :
    Calls Tryz.prog 158 #[.slice A ds.length c] w fun r w' => r = .returned (.string (bytesN ds)) ∧ Below w.heap.size w w' := by
  go_enter Tryz.func158, Tryz.ntmps158
  go_wp2_with fail
  go_loopw [3, 4] (fun s i wr => ∃ k : Nat, k ≤ ds.length ∧ i = .int .i64 k ∧ s = .string (bytesN (ds.take k)) ∧ Below w.heap.size w wr) (fun _ i _ => ds.length - (intOf i).toNat)
  case atStart => exact ⟨0, Nat.zero_le _, rfl, rfl, Below.refl _ _⟩
  case round =>
    obtain ⟨k, hk, rfl, rfl, hb⟩ := hrel
    have hz := bytesN_size (ds.take k)
    rw [List.length_take] at hz
    by_cases hlt : k < ds.length
    · obtain ⟨g, o, rfl, hg, hc⟩ := (hI.below hb (Nat.le_refl _)).at_ (by omega)
      have hck := hc k hlt
      have hg2 := Nat.lt_of_lt_of_le hg hb.size
      have h9 := hd _ (List.getElem_mem hlt)
      have HS := Keep.mk (bytesN_succ ds k hlt h9)
      clear hc
      generalize ds[k] = d at *
      go_wp2_with fail
      refine wp_region_above (by kernel_rfl) (by kernel_rfl) ?_
      repeat (go_big_quiet_step (fail))
      refine wpQuiet_nil ?_
      rintro _ ⟨x, rfl⟩
      go_wp2
      go_roundw
      case rel => exact ⟨k + 1, by omega, by go_num, by rw [← HS.out]; rfl, up hb x.property⟩
      case measure => simp [intOf]; omega
    · have HE := Keep.mk (show bytesN (ds.take k) = bytesN ds by rw [List.take_of_length_le (by omega)])
      go_wp2
      go_ret
      exact ⟨ret_str HE.out, hb⟩
end Go.Proofs.YtnkokhpadcgfbaaGreatDoor
namespace Go.Proofs.YtnkokhpadcgfbaaGreatDoor
open Go Go.RowKit Go.Proofs Th
attribute [local go_sem] Above.cell
structure I64 (m : Int) : Prop where
  lo : -9223372036854775808 ≤ m
  hi : m ≤ 9223372036854775807
end Go.Proofs.YtnkokhpadcgfbaaGreatDoor
namespace Th
open Go Go.Lib
/-! texts in quotes -/
/-! tokens -/
theorem nextT_at (p x : List UInt8) (h : ∀ c t, x = c :: t → blankC c = false) (a : Nat) (ha : a = p.length) : nextT (p ++ x) a = oneT x a := by
  subst ha
  unfold nextT
  rw [List.drop_left]
  have : runB blankC x = 0 := by
    cases x with
    | nil => rfl
    | cons c t => simp only [runB]; rw [if_neg (by rw [h c t rfl]; simp)]
  rw [this, Nat.add_zero, List.drop_left]
theorem oneT_sign (c : UInt8) (r : List UInt8) (a : Nat) (h : signC c = true) : oneT (c :: r) a = ⟨c.toNat, 0, 0, 0, ⟨#[]⟩, a, a + 1, 0⟩ := by
  simp only [oneT]; rw [if_pos h]
/-! the map of keys that rise is the map itself -/
theorem bytesLess_lt : ∀ (a b : List UInt8), Op.bytesLess a b = true → a < b
  | [], [], h => by cases h
  | _ :: _, [], h => by cases h
  | [], _ :: _, _ => by simp
  | a :: x, b :: y, h => by
    simp only [Op.bytesLess, Bool.or_eq_true, Bool.and_eq_true, decide_eq_true_eq, beq_iff_eq] at h
    rcases h with h | ⟨rfl, h⟩
    · exact List.Lex.rel h
    · exact List.Lex.cons (bytesLess_lt x y h)
theorem lt_bytesLess : ∀ (a b : List UInt8), a < b → Op.bytesLess a b = true
  | [], [], h => absurd h (List.lt_irrefl _)
  | _ :: _, [], h => by cases h
  | [], _ :: _, _ => rfl
  | a :: x, b :: y, h => by
    simp only [Op.bytesLess, Bool.or_eq_true, Bool.and_eq_true, decide_eq_true_eq, beq_iff_eq]
    cases h with
    | rel h => exact Or.inl h
    | cons h => exact Or.inr ⟨rfl, lt_bytesLess x y h⟩
def kbs (ks : List ByteArray) : List (List UInt8) := ks.map fun k => k.data.toList
theorem riseK_iff : ∀ ks : List ByteArray, riseK ks = true ↔ ((∀ k ∈ ks, validD k.data.toList = true) ∧ (kbs ks).Pairwise (· < ·))
  | [] => by simp [riseK, kbs]
  | [a] => by simp [riseK, kbs]
  | a :: b :: r => by
    have hi := riseK_iff (b :: r)
    simp only [riseK, Bool.and_eq_true, hi]
    constructor
    · rintro ⟨⟨h1, h2⟩, h3, h4⟩
      refine ⟨fun k hk => ?_, ?_⟩
      · rcases List.mem_cons.1 hk with rfl | hk
        · exact h1
        · exact h3 k hk
      · have hab := bytesLess_lt _ _ h2
        unfold kbs at h4 ⊢
        rw [List.map_cons] at h4 ⊢
        refine List.pairwise_cons.2 ⟨fun x hx => ?_, h4⟩
        rw [List.map_cons] at hx
        rcases List.mem_cons.1 hx with rfl | hx
        · exact hab
        · exact List.lt_trans hab ((List.pairwise_cons.1 h4).1 x hx)
    · rintro ⟨h1, h2⟩
      unfold kbs at h2 ⊢
      rw [List.map_cons, List.map_cons] at h2
      have h3 := List.pairwise_cons.1 h2
      exact ⟨⟨h1 a (by simp), lt_bytesLess _ _ (h3.1 _ (by simp))⟩, fun k hk => h1 k (by simp [hk]), h3.2⟩
theorem allL_mem : ∀ (l : List JV), allL l = true ↔ ∀ v ∈ l, allJ v = true
  | [] => by simp [allL]
  | v :: r => by simp only [allL, Bool.and_eq_true, allL_mem r, List.mem_cons, forall_eq_or_imp]
theorem depthL_mem : ∀ (l : List JV) (d : Nat), depthL l ≤ d ↔ ∀ v ∈ l, depthJ v ≤ d
  | [], d => by simp [depthL]
  | v :: r, d => by
    have := depthL_mem r d
    simp only [depthL, List.mem_cons, forall_eq_or_imp, ← this]
    omega
end Th
namespace Th
open Go Go.Lib
section
variable {T : Int → Int → List UInt8}
theorem sign_at (c : UInt8) (hc : signC c = true) (p x : List UInt8) (a : Nat) (ha : a = p.length) : nextT (p ++ c :: x) a = ⟨c.toNat, 0, 0, 0, ⟨#[]⟩, a, a + 1, 0⟩ := by
  rw [nextT_at p _ (by
    intro d t e; injection e with e1 e2; subst e1
    unfold signC at hc
    unfold blankC
    simp at hc ⊢
    omega) a ha, oneT_sign _ _ _ hc]
end
/-! what is read may be -/
/-! sizes of what is read -/
end Th
