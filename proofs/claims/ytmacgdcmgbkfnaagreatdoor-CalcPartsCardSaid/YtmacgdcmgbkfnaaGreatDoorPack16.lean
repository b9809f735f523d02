/- Lemmas and contracts for the laws CalcParts, part 16 of 33: RowV, OrdV. Conditions: those that each lemma names. -/
import Derived.Test.YtmacgdcmgbkfnaaGreatDoorPack6
import Derived.Test.YtmacgdcmgbkfnaaGreatDoorPack13
import Derived.Test.YtmacgdcmgbkfnaaGreatDoorPack14
import Derived.Test.YtmacgdcmgbkfnaaGreatDoorPack9
import Derived.Test.YtmacgdcmgbkfnaaGreatDoorPack10
import Derived.Test.YtmacgdcmgbkfnaaGreatDoorPack3
import Derived.Test.YtmacgdcmgbkfnaaGreatDoorPack1
import Derived.Test.YtmacgdcmgbkfnaaGreatDoorPack15
import Derived.ReadAgain
import Derived.SizedLaws
import Derived.Lib.LaidU8T
import Derived.Deep.Slices
import Derived.Deep.Strs
import Derived.Outline
import Derived.StillTail
namespace Go.Proofs.YtmacgdcmgbkfnaaGreatDoor
open Go Go.Deep Go.WideElems Go.ChangeShapes Go.WideShapes Go.ChangeAt Go.RowKit Go.Proofs Th
theorem kidsV : Kids Tryz.prog (· < Tryz.prog.types.size) := kids_rows (by kernel_rfl) (by kernel_rfl)
theorem fullV : ∀ t e, t < Tryz.prog.types.size → Tryz.prog.underlying t = some (.slice e) → 0 < Tryz.prog.cellsOf e := slices_full_of _ (by kernel_rfl)
section
variable {H : Type} {enc : TypeId × Value → H} {W W' : World}
theorem again_trod {ts : List TypeId} {vs : List Value} {ds : List (DataW H)} {ps : List MemPlace} (h : DataW.TrodAll enc Tryz.prog W 0 (fun _ => true) true ts vs ds ps) (hb : Below W.heap.size W W')
    (hlt : ∀ p ∈ ps, p.block < W.heap.size) (hT : ∀ t ∈ ts, t < Tryz.prog.types.size) (sp : Nat → Bool) (hsp : ∀ p ∈ ps, sp p.block = true) : DataW.TrodAll enc Tryz.prog W' 0 sp true ts vs ds ps := by
  have same : ∀ p : MemPlace, p.block < W.heap.size → W.sameAt W' p := fun p hp => by
    cases p with
    | cell b o => exact hb.cell (p := ⟨b, o, none⟩) hp
    | map b => exact hb.block b hp
  have h2 := h.respare kidsV fullV hT hsp
  clear h hT hsp
  induction ts generalizing vs ds ps with
  | nil => exact (show DataW.TrodAll enc Tryz.prog W 0 sp true [] vs ds ps → DataW.TrodAll enc Tryz.prog W' 0 sp true [] vs ds ps from fun h => by cases vs <;> cases ds <;> first | exact h | cases h) h2
  | cons t ts ih =>
    match vs, ds, h2 with
    | v :: vs, d :: ds, ⟨p, q, ⟨n, h1⟩, h3, e⟩ =>
      subst e
      exact ⟨p, q, ⟨n, DataW.trod_carry n _ _ _ h1 (fun x hx => same x (hlt x (List.mem_append_left _ hx)))⟩, ih (fun x hx => hlt x (List.mem_append_right _ hx)) h3, rfl⟩
end
noncomputable def laidV : List (String × DataW Unit) := Rows.calcComparesRow.laid
set_option maxRecDepth 100000 in
theorem first_same : Go.Pinned.utf8First = Lib.firstData := by kernel_rfl
set_option maxRecDepth 100000 in
theorem accept_same : (Rows.laid_unicode_utf8_acceptRanges : DataW Unit) = Lib.acceptData := by kernel_rfl
theorem globV_of {W : World} (h : laidMetH Tryz.prog laidV W) : GlobW W := by
  have ht : Lib.TabIs Tryz.prog W "thimble/num.tens" .u64 tenTab :=
    Lib.tabIs_of_head (rest := []) gTens tTens Tryz.underlying100 Tryz.underlying76 u64Cells u64Cells20 (h.filter fun x => x.1 == "thimble/num.tens")
  have hp : Lib.TabIs Tryz.prog W "internal/strconv.uint64pow10" .u64 Lib.pow10Tab :=
    Lib.tabIs_of_head (rest := []) gPows tPows Tryz.underlying100 Tryz.underlying76 u64Cells u64Cells20 (h.filter fun x => x.1 == "internal/strconv.uint64pow10")
  have h3 : Lib.VarReads Tryz.prog W "unicode/utf8.first" Go.Pinned.utf8First := Lib.laidMet.reads (l := [("unicode/utf8.first", Go.Pinned.utf8First)]) (h.filter fun x => x.1 == "unicode/utf8.first") (.head _)
  have h4 : Lib.VarReads Tryz.prog W "unicode/utf8.acceptRanges" Rows.laid_unicode_utf8_acceptRanges := Lib.laidMet.reads (l := [("unicode/utf8.acceptRanges", Rows.laid_unicode_utf8_acceptRanges)]) (h.filter fun x => x.1 == "unicode/utf8.acceptRanges") (.head _)
  rw [first_same] at h3
  rw [accept_same] at h4
  refine ⟨⟨⟨fun i hi => ?_⟩, hp⟩, utf8Tabs_of_readsT (U8Types.of196 Tryz.lays196) ⟨by kernel_rfl, by kernel_rfl, by kernel_rfl, by kernel_rfl, by kernel_rfl, by kernel_rfl, by kernel_rfl⟩ h3 h4⟩
  rw [ht.cell gTens i hi]
  congr 2
  revert i; decide
set_option maxRecDepth 100000 in
/-- a text that comes in -/
theorem open_str {H : Type} {enc : TypeId × Value → H} {W : World} {b0 : Nat} {v : Value} {d : DataW H} {p : List MemPlace}
    (_hv : Value.okWide Tryz.prog W .any b0 9 v) (h : DataW.Trod enc Tryz.prog W 0 (fun _ => true) true 9 v d p) (hw : ∀ k ∈ d.weights Tryz.prog 9, k ≤ reachBytes) :
    ∃ s : ByteArray, v = .string s ∧ s.size ≤ 140737488351232 := by
  obtain ⟨s, rfl⟩ := okWide_string Tryz.underlying9 _hv
  obtain ⟨n, h⟩ := h
  obtain ⟨s', e3, e4, w3⟩ := DataW.trod_string Tryz.underlying9 h
  have e3 : [Value.string s] = [.string s'] := e3
  injection e3 with e3 _
  injection e3 with e5
  subst e5
  refine ⟨s, rfl, ?_⟩
  injection e4 with e4 _
  subst e4
  have := hw s.data.toList.length (by simp [DataW.weights])
  rwa [size_listU] at this
noncomputable def laidWorldV (os : Os) : World :=
  { World.holding Tryz.prog os ⟨#[], #[], []⟩ with heap := laidV.foldl lay (World.holding Tryz.prog os ⟨#[], #[], []⟩).heap }
set_option maxRecDepth 100000 in
theorem laid_metV (os : Os) : laidMet Tryz.prog laidV (laidWorldV os) :=
  laidMet_of_run3 8 (by kernel_rfl) (by kernel_rfl) (by kernel_rfl)
end Go.Proofs.YtmacgdcmgbkfnaaGreatDoor
namespace Go.Proofs.YtmacgdcmgbkfnaaGreatDoor
open Go Go.RowKit Go.Proofs Th
attribute [local go_sem] Above.cell
theorem ret_int {a b : Int} (h : a = b) : Ending.returned (Value.int .i64 a) = .returned (.int .i64 b) := by rw [h]
theorem JAt.up {w W : World} {t : JV} {cs : List Value} (h : JAt w w.heap.size t cs) (hb : Below w.heap.size w W) : JAt W W.heap.size t cs := (h.keep hb (Nat.le_refl _)).more hb.size
end Go.Proofs.YtmacgdcmgbkfnaaGreatDoor
