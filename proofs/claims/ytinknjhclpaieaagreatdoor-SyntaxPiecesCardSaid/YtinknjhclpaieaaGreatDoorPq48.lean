/- Lemmas and contracts for the laws SyntaxPieces, part 48 of 48: RowY. Conditions: those that each lemma names. -/
import Derived.Test.YtinknjhclpaieaaGreatDoorPq47
set_option maxRecDepth 100000
set_option maxHeartbeats 4000000
namespace Go.Proofs.YtinknjhclpaieaaGreatDoor
open Go Go.Deep Go.WideElems Go.ChangeShapes Go.WideShapes Go.ChangeAt Go.RowKit Go.Proofs Th
theorem law_pieces_w (A : Option Addr) (zs : List Int) (c : Nat) (w : World) (hg : Glob w) (hu : Utf w) (hm : GlobX w) (hI : NumsAt w w.heap.size A c zs) : Calls Tryz.prog 4 #[.slice A zs.length c] w fun r w' => r = .returned (.bool true) ∧ Below w.heap.size w w' := law_pieces A zs c w hg hu hm hI
theorem bInt : Tryz.prog.bytesOf 3 = 8 := by kernel_rfl
section
variable {H : Type} {enc : TypeId × Value → H} {W : World}
theorem nums_of {n : Nat} {cs : List Value} {x : DataW H × List MemPlace} (h : DataW.trod enc Tryz.prog W 0 (fun _ => true) true n 36 cs = some x) (hw : ∀ k ∈ x.1.weights Tryz.prog 36, k ≤ reachBytes) :
    ∃ A zs c, cs = [.slice A (List.length zs) c] ∧ NumsAt W W.heap.size A c zs := by
  rcases open_slice1 Tryz.underlying36 cI h with ⟨rfl, rfl⟩ | ⟨a, len, cap, m, n', V, D, Pl, rfl, h0, hl, hm, hmm, rfl, hx⟩
  · exact ⟨none, [], 0, rfl, Nr _, by decide, by decide, fun _ h => absurd h List.not_mem_nil, fun h => absurd h (by decide)⟩
  simp only [if_true] at hmm; subst hmm; have hwl : (len + (m - len)) * 8 ≤ reachBytes := by
    have := hw ((len + (m - len)) * 8) (by simp only [DataW.weights, Tryz.underlying36, bInt, List.length_map, List.length_range]; exact List.mem_cons_self); exact this
  obtain ⟨S, hS⟩ := choose_lt (α := Int) (n := len) (p := fun i z => V i = .int .i64 z ∧ I64 z) (fun i hi => by
    obtain ⟨h1, h2⟩ := hx i (by omega); obtain ⟨z, e1, _, w3⟩ := DataW.trod_int Tryz.underlying3 h2; injection e1 with e1 _; exact ⟨z, e1, (bounds_i64 w3).1, (bounds_i64 w3).2⟩)
  have hR : reachBytes = 140737488351232 := rfl; refine ⟨some a, (List.range len).map S, m, by simp, by simpa using hl, by simp; omega, by unfold maxLen at hm; omega, fun k hk => ?_, fun hn => ?_⟩
  · obtain ⟨i, hi, rfl⟩ := List.mem_map.1 hk
    exact (hS i (by simpa using hi)).2
  simp only [List.length_map, List.length_range] at hn; have hc := (hx 0 (by omega)).1; obtain ⟨g, o, rfl⟩ := plain_of hc; refine ⟨g, o, rfl, lt_of_cell hc, fun j hj => ?_⟩; simp only [List.length_map, List.length_range] at hj; have h1 := (hx j (by omega)).1; rw [add_plain, (hS j hj).1] at h1; simpa using h1
end
/-- a slice of whole numbers that comes in -/
theorem open_nums {H : Type} {enc : TypeId × Value → H} {W : World} {b0 : Nat} {v : Value} {d : DataW H} {p : List MemPlace}
    (hv : Value.okWide Tryz.prog W .any b0 36 v) (h : DataW.Trod enc Tryz.prog W 0 (fun _ => true) true 36 v d p) (hw : ∀ k ∈ d.weights Tryz.prog 36, k ≤ reachBytes) :
    ∃ A zs c, v = .slice A (List.length zs) c ∧ NumsAt W W.heap.size A c zs := by
  obtain ⟨a, len, cap, rfl⟩ := okWide_slice Tryz.underlying36 hv; obtain ⟨n, h⟩ := h; obtain ⟨A, l, c, e, hV⟩ := nums_of h hw; have e : [Value.slice a len cap] = [.slice A l.length c] := e; injection e with e _; exact ⟨A, l, c, e, hV⟩
end Go.Proofs.YtinknjhclpaieaaGreatDoor
