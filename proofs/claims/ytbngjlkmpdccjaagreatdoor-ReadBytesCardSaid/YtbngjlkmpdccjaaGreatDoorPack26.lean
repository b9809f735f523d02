/- Lemmas and contracts for the laws ReadParses, ReadBytes, part 26 of 50: RowV. Conditions: those that each lemma names. -/
import Derived.Test.YtbngjlkmpdccjaaGreatDoorPack6
import Derived.Test.YtbngjlkmpdccjaaGreatDoorPack23
import Derived.ReadAgain
import Derived.SizedLaws
import Derived.Lib.LaidU8T
import Derived.Deep.Slices
import Derived.Deep.Strs
namespace Go.Proofs.YtbngjlkmpdccjaaGreatDoor
open Go Go.Deep Go.WideElems Go.ChangeShapes Go.WideShapes Go.ChangeAt Go.RowKit Go.Proofs Th
theorem kidsV : Kids Tryz.prog (· < Tryz.prog.types.size) := kids_rows (by kernel_rfl) (by kernel_rfl)
theorem fullV : ∀ t e, t < Tryz.prog.types.size → Tryz.prog.underlying t = some (.slice e) → 0 < Tryz.prog.cellsOf e := slices_full_of _ (by kernel_rfl)
theorem cI : Tryz.prog.cellsOf 3 = 1 := by kernel_rfl
section
variable {H : Type} {enc : TypeId × Value → H} {W W' : World}
theorem again_trod {ts : List TypeId} {vs : List Value} {ds : List (DataW H)} {ps : List MemPlace} (h : DataW.TrodAll enc Tryz.prog W 0 (fun _ => true) true ts vs ds ps) (hb : Below W.heap.size W W')
    (hlt : ∀ p ∈ ps, p.block < W.heap.size) (hT : ∀ t ∈ ts, t < Tryz.prog.types.size) (sp : Nat → Bool) (hsp : ∀ p ∈ ps, sp p.block = true) : DataW.TrodAll enc Tryz.prog W' 0 sp true ts vs ds ps := by
  have same : ∀ p : MemPlace, p.block < W.heap.size → W.sameAt W' p := fun p hp => by
    cases p with
    | cell b o => exact hb.cell (p := ⟨b, o, none⟩) hp
    | map b => exact hb.block b hp
  have h2 := h.respare kidsV fullV hT hsp
  clear h hT hsp
  induction ts generalizing vs ds ps with
  | nil => exact (show DataW.TrodAll enc Tryz.prog W 0 sp true [] vs ds ps → DataW.TrodAll enc Tryz.prog W' 0 sp true [] vs ds ps from fun h => by cases vs <;> cases ds <;> first | exact h | cases h) h2
  | cons t ts ih =>
    match vs, ds, h2 with
    | v :: vs, d :: ds, ⟨p, q, ⟨n, h1⟩, h3, e⟩ =>
      subst e
      exact ⟨p, q, ⟨n, DataW.trod_carry n _ _ _ h1 (fun x hx => same x (hlt x (List.mem_append_left _ hx)))⟩, ih (fun x hx => hlt x (List.mem_append_right _ hx)) h3, rfl⟩
theorem plain_of {a : Addr} {v : Value} (h : W.cell? (a.add 0) = some v) : ∃ g o, a = ⟨g, o, none⟩ := by
  have := World.cell?_spot h
  obtain ⟨g, o, sp⟩ := a
  simp [Addr.add] at this
  exact ⟨g, o, by rw [this]⟩
end
set_option maxRecDepth 100000 in
theorem first_same : Go.Pinned.utf8First = Lib.firstData := by kernel_rfl
set_option maxRecDepth 100000 in
theorem accept_same : (Rows.laid_unicode_utf8_acceptRanges : DataW Unit) = Lib.acceptData := by kernel_rfl
set_option maxRecDepth 100000 in
/-- a text that comes in -/
theorem open_str {H : Type} {enc : TypeId × Value → H} {W : World} {b0 : Nat} {v : Value} {d : DataW H} {p : List MemPlace}
    (_hv : Value.okWide Tryz.prog W .any b0 9 v) (h : DataW.Trod enc Tryz.prog W 0 (fun _ => true) true 9 v d p) (hw : ∀ k ∈ d.weights Tryz.prog 9, k ≤ reachBytes) :
    ∃ s : ByteArray, v = .string s ∧ s.size ≤ 140737488351232 := by
  obtain ⟨s, rfl⟩ := okWide_string Tryz.underlying9 _hv
  obtain ⟨n, h⟩ := h
  obtain ⟨s', e3, e4, w3⟩ := DataW.trod_string Tryz.underlying9 h
  have e3 : [Value.string s] = [.string s'] := e3
  injection e3 with e3 _
  injection e3 with e5
  subst e5
  refine ⟨s, rfl, ?_⟩
  injection e4 with e4 _
  subst e4
  have := hw s.data.toList.length (by simp [DataW.weights])
  rwa [size_listU] at this
end Go.Proofs.YtbngjlkmpdccjaaGreatDoor
