/- Lemmas and contracts for the laws CalcParts, part 29 of 33: PartsMath. Conditions: those that each lemma names. -/
import Derived.Test.YtmacgdcmgbkfnaaGreatDoorPack27
import Derived.Shelf.Unicode.DecodeLastEight
import Derived.Lib.SplitLaws
namespace Go.Proofs.YtmacgdcmgbkfnaaGreatDoor
open Go Go.RowKit Go.Proofs Th
def sumB : List ByteArray → Nat
  | [] => 0
  | p :: r => p.size + sumB r
theorem tail_len (sep : List UInt8) : ∀ l : List (List UInt8), (Lib.joinTail sep l).length = l.length * sep.length + (l.map List.length).sum
  | [] => by simp [Lib.joinTail]
  | x :: r => by
    have : Lib.joinTail sep (x :: r) = sep ++ (x ++ Lib.joinTail sep r) := by simp [Lib.joinTail]
    rw [this, List.length_append, List.length_append, tail_len sep r, List.length_cons, List.map_cons, List.sum_cons, Nat.add_mul]
    omega
theorem sumB_map : ∀ ps : List ByteArray, ((ps.map (·.data.toList)).map List.length).sum = sumB ps
  | [] => rfl
  | p :: r => by
    rw [List.map_cons, List.map_cons, List.sum_cons, sumB_map r]
    rfl
structure PartsR (s b : ByteArray) (ps : List ByteArray) : Prop where
  jn : Lib.join (ps.map (·.data.toList)) b.data.toList = s.data.toList
  ln : ps.length ≤ s.size + 1
  ne : ps ≠ []
theorem PartsR.sum {s b : ByteArray} {ps : List ByteArray} (h : PartsR s b ps) : sumB ps + ps.length * b.size = s.size + b.size := by
  obtain ⟨hj, _, hn⟩ := h
  cases ps with
  | nil => exact absurd rfl hn
  | cons p r =>
    rw [List.map_cons, Lib.join_cons] at hj
    have h1 := congrArg List.length hj
    rw [List.length_append, tail_len, sumB_map, List.length_map] at h1
    have e1 : p.data.toList.length = p.size := rfl
    have e2 : s.data.toList.length = s.size := rfl
    have e3 : b.data.toList.length = b.size := rfl
    rw [e1, e2, e3] at h1
    show p.size + sumB r + (r.length + 1) * b.size = _
    rw [Nat.add_mul]
    omega
theorem jpart_text (p : ByteArray) : jpart (textV p) = p := by
  unfold jpart textV
  exact if_pos rfl
theorem jmap_text : ∀ ps : List ByteArray, (ps.map textV).map jpart = ps
  | [] => rfl
  | p :: r => by rw [List.map_cons, List.map_cons, jpart_text, jmap_text r]
theorem PartsR.back {s b : ByteArray} {ps : List ByteArray} (h : PartsR s b ps) : joinB ((ps.map textV).map jpart) b = s := by
  rw [jmap_text]
  unfold joinB
  rw [h.jn]
theorem jsize_text (b : ByteArray) : ∀ ps : List ByteArray, jsize b (ps.map textV) = sumB ps + ps.length * b.size
  | [] => by simp [jsize, sumB]
  | p :: r => by
    have e := jpart_text p
    rw [List.map_cons]
    show (jpart (textV p)).size + b.size + jsize b (r.map textV) = p.size + sumB r + (r.length + 1) * b.size
    rw [e, jsize_text b r, Nat.add_mul]
    omega
theorem sizeL_text : ∀ ps : List ByteArray, sizeL (ps.map textV) = ps.length + sumB ps
  | [] => rfl
  | p :: r => by
    rw [List.map_cons]
    show sizeJ (textV p) + sizeL (r.map textV) = (r.length + 1) + (p.size + sumB r)
    have : sizeJ (textV p) = 1 + p.size := by unfold textV sizeJ; simp [keysN, sizeL]
    rw [this, sizeL_text r]
    omega
theorem textL_len (T : Int → Int → List UInt8) : ∀ (ps : List ByteArray) (f : Bool), (textL T f false (ps.map textV) []).length ≤ 6 * sumB ps + 3 * ps.length
  | [], f => by simp [textL]
  | p :: r, f => by
    have h1 := quoteD_le p.data.toList
    have h2 := textL_len T r false
    have e0 : p.data.toList.length = p.size := rfl
    have e : textJ T (textV p) = quoteD p.data.toList := by unfold textV textJ; simp
    rw [List.map_cons]
    unfold textL
    rw [List.length_append, List.length_append, List.length_append, e, List.drop_nil]
    have h3 : (if f = true then ([] : List UInt8) else [44]).length ≤ 1 := by cases f <;> simp
    have h4 : (if false = true then quoteD (([] : List ByteArray).headD ⟨#[]⟩).data.toList ++ [58] else []).length = 0 := by simp
    simp only [sumB, List.length_cons]
    omega
theorem print_parts (ps : List ByteArray) : (printJ (listV (ps.map textV))).length ≤ 6 * sumB ps + 3 * ps.length + 2 := by
  unfold printJ
  split
  · have h := textL_len textN ps true
    have e : textJ textN (listV (ps.map textV)) = 91 :: textL textN true false (ps.map textV) [] ++ [93] := by unfold listV textJ; simp
    rw [e]
    simp only [List.cons_append, List.length_cons, List.length_append, List.length_nil]
    omega
  · simp
theorem parts_some (s b : ByteArray) (h1 : 1 ≤ b.size) : PartsR s b (Lib.splitB b 0 (Lib.countB s b) s) := by
  refine ⟨?_, ?_, ?_⟩
  · rw [Lib.splitB_data]; exact split_join _ _ _
  · rw [Lib.splitB_all b h1 0 _ s rfl]
    have := Lib.countB_le b h1 s.size s (Nat.le_refl _)
    omega
  · intro h
    have := Lib.splitB_all b h1 0 _ s rfl
    rw [h] at this
    simp at this
def charsK : Nat → ByteArray → List ByteArray
  | 0, _ => []
  | 1, s => [s]
  | k + 2, s => s.extract 0 (Lib.decodeGo s).2 :: charsK (k + 1) (s.extract (Lib.decodeGo s).2 s.size)
theorem charsK_len : ∀ (k : Nat) (s : ByteArray), (charsK k s).length = k
  | 0, _ => rfl
  | 1, _ => rfl
  | k + 2, s => by show (charsK (k + 1) _).length + 1 = k + 2; rw [charsK_len (k + 1)]
theorem charsK_join : ∀ (k : Nat) (s : ByteArray), Lib.join ((charsK (k + 1) s).map (·.data.toList)) [] = s.data.toList
  | 0, s => by show Lib.join [s.data.toList] [] = _; exact Lib.join_one _ _
  | k + 1, s => by
    have ih := charsK_join k (s.extract (Lib.decodeGo s).2 s.size)
    generalize hL : charsK (k + 1) (s.extract (Lib.decodeGo s).2 s.size) = L at ih
    have e : charsK (k + 2) s = s.extract 0 (Lib.decodeGo s).2 :: L := by rw [← hL]; rfl
    rw [e, List.map_cons, Lib.join_cons]
    have hn : L ≠ [] := fun h => by have := charsK_len (k + 1) (s.extract (Lib.decodeGo s).2 s.size); rw [hL, h] at this; simp at this
    cases L with
    | nil => exact absurd rfl hn
    | cons y r =>
      rw [List.map_cons, Lib.join_cons] at ih
      have e2 : Lib.joinTail [] (List.map (·.data.toList) (y :: r)) = y.data.toList ++ Lib.joinTail [] (List.map (·.data.toList) r) := by simp [Lib.joinTail]
      rw [e2, ih, Lib.extract_from_zero, Lib.extract_to_end, List.take_append_drop]
theorem parts_none (s b : ByteArray) (h0 : b.size = 0) (n : Nat) (hn : 1 ≤ n) (hs : n ≤ s.size + 1) : PartsR s b (charsK n s) := by
  have hb : b.data.toList = [] := List.length_eq_zero_iff.1 h0
  refine ⟨?_, by rw [charsK_len]; exact hs, fun h => ?_⟩
  · rw [hb]
    obtain ⟨k, rfl⟩ : ∃ k, n = k + 1 := ⟨n - 1, by omega⟩
    exact charsK_join k s
  · have := charsK_len n s
    rw [h] at this
    simp at this
    omega
end Go.Proofs.YtmacgdcmgbkfnaaGreatDoor
