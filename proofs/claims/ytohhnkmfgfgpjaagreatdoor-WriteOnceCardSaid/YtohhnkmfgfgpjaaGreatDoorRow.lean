/- What all rows of the laws of numbers share: what their listed tables give, and a world that holds them. No conditions. -/
import Derived.Test.YtohhnkmfgfgpjaaGreatDoorCards
import Derived.Test.YtohhnkmfgfgpjaaGreatDoorTie
import Derived.Test.YtohhnkmfgfgpjaaGreatDoorNumA
import Derived.WalkKit
import Derived.ProofKit
import Derived.OpenShut
import Derived.ChangeReads
import Derived.LaidSub
import Derived.Deep.DeepHandedRow
import Derived.Deep.DeepLaidRun
import Derived.Lib.LaidTab
import Derived.Lib.SmallJoins
namespace Go.Proofs.YtohhnkmfgfgpjaaGreatDoor
open Go Go.Deep Go.WideElems Go.ChangeShapes Go.WideShapes Go.ChangeAt Go.RowKit Go.Proofs Th

theorem own : ownKnob Tryz.prog.godebug = none := by kernel_rfl



theorem gTens : Tryz.prog.globalNamed "thimble/num.tens" = some 0 := by kernel_rfl
theorem gPows : Tryz.prog.globalNamed "internal/strconv.uint64pow10" = some 6 := by kernel_rfl
theorem tTens : (Tryz.prog.globals[0]?).map (·.type) = some 140 := by kernel_rfl
theorem tPows : (Tryz.prog.globals[6]?).map (·.type) = some 140 := by kernel_rfl
theorem u64Cells : Tryz.prog.cellsOf 38 = 1 := by kernel_rfl
theorem u64Cells20 : Tryz.prog.cellsOf 140 = 20 := by kernel_rfl

noncomputable def tenTab : List Int := [1, 10, 100, 1000, 10000, 100000, 1000000, 10000000, 100000000, 1000000000, 10000000000, 100000000000, 1000000000000, 10000000000000, 100000000000000, 1000000000000000, 10000000000000000, 100000000000000000, 1000000000000000000, 10000000000000000000]










/-- the cells of plain data, two levels deep -/
noncomputable def flat1 : DataW Unit → List Value
  | .lit (.int k n) => [.int k n]
  | _ => []
noncomputable def flat2 : DataW Unit → List Value
  | .agg ds => ds.flatMap flat1
  | d => flat1 d
noncomputable def flat : DataW Unit → Array Value
  | .agg ds => (ds.flatMap flat2).toArray
  | _ => #[]
noncomputable def lay (h : Array Obj) (x : String × DataW Unit) : Array Obj :=
  match Tryz.prog.globalNamed x.1 with
  | some g => h.modify g fun
    | .cells _ t frozen => .cells (flat x.2) t frozen
    | o => o
  | none => h







theorem call_heap (w : World) (t : Tape) (a : Array Value) : (w.forCall t ⟨#[], a, []⟩).memory.heap = w.heap := by
  simp [World.forCall, World.memory, Input.heap]
theorem numCells : Tryz.prog.cellsOf 24 = 2 := by kernel_rfl
theorem numStruct : ∃ f0 f1 : Field, Tryz.prog.underlying 24 = some (.struct #[f0, f1]) ∧ oneCellFields Tryz.prog #[f0, f1] = true ∧ f0.type = 2 ∧ f1.type = 3 :=
  ⟨_, _, Tryz.underlying24, by kernel_rfl, rfl, rfl⟩

theorem trod_lit {H : Type} {enc : TypeId × Value → H} {P : Program} {w : World} {base : Nat} {sp : Nat → Bool} {held : Bool} {t : TypeId} {k : IntKind} {n : Int} (ht : P.underlying t = some (.int k)) (hw : (Lit.int k n).wf = true) :
    ∃ f, DataW.trod enc P w base sp held f t [.int k n] = some (.lit (.int k n), []) := shut_int ht hw

set_option maxRecDepth 100000 in
/-- a number that comes in -/
theorem open_num {H : Type} {enc : TypeId × Value → H} {w : World} {base : Nat} {sp : Nat → Bool} {held : Bool} {b0 : Nat} {v : Value} {d : DataW H} {p : List MemPlace}
    (hv : Value.okWide Tryz.prog w .any b0 24 v) (h : DataW.Trod enc Tryz.prog w base sp held 24 v d p) :
    ∃ m e : Int, v = .agg #[.int .i64 m, .int .i64 e] ∧ p = [] ∧ (-9223372036854775808 ≤ m ∧ m ≤ 9223372036854775807) ∧
      (∀ (w' : World) (base' : Nat) (sp' : Nat → Bool) (held' : Bool), DataW.Trod enc Tryz.prog w' base' sp' held' 24 v d []) := by
  obtain ⟨f0, f1, hs, hone, t0, t1⟩ := numStruct
  obtain ⟨v0, v1, y0, y1, n, rfl, rfl, rfl, h0, h1⟩ := Joins.open_agg2 (P := Tryz.prog) hs hone numCells hv h
  rw [t0] at h0
  rw [t1] at h1
  obtain ⟨m, e0, rfl, w0⟩ := DataW.trod_int Tryz.underlying2 h0
  obtain ⟨e, e1, rfl, w1⟩ := DataW.trod_int Tryz.underlying3 h1
  injection e0 with e0
  injection e1 with e1
  subst e0 e1
  refine ⟨m, e, rfl, rfl, bounds_i64 w0, fun w' base' sp' held' => ?_⟩
  refine Joins.shut_agg2 (P := Tryz.prog) (y0 := (.lit (.int .i64 m), [])) (y1 := (.lit (.int .i64 e), [])) hs hone numCells ?_ ?_
  · rw [t0]; exact trod_lit Tryz.underlying2 w0
  · rw [t1]; exact trod_lit Tryz.underlying3 w1
set_option maxRecDepth 100000 in
/-- a text that comes in -/
theorem open_text {H : Type} {enc : TypeId × Value → H} {w : World} {base : Nat} {sp : Nat → Bool} {held : Bool} {b0 : Nat} {v : Value} {d : DataW H} {p : List MemPlace}
    (hv : Value.okWide Tryz.prog w .any b0 9 v) (h : DataW.Trod enc Tryz.prog w base sp held 9 v d p) :
    ∃ s : ByteArray, v = .string s ∧ p = [] ∧ s.size ≤ maxLen ∧
      (∀ (w' : World) (base' : Nat) (sp' : Nat → Bool) (held' : Bool), DataW.Trod enc Tryz.prog w' base' sp' held' 9 v d []) := by
  obtain ⟨s, rfl, rfl, h2, h3⟩ := ChangeMaps.open_string (P := Tryz.prog) Tryz.underlying9 hv h
  exact ⟨s, rfl, h2, h3, fun _ _ _ _ => ChangeMaps.shut_string Tryz.underlying9 h3⟩

/-- what the row asks behind the call, where of what was there nothing has turned -/
theorem post_below {H : Type} {enc : TypeId × Value → H} {P : Program} {f : Func} {s : ChangeSpec} {apart fresh handsOn again : Bool} {W W' : World} {args : Array Value} {v : Value} {ds gs : List (DataW H)} {before pa pv : List MemPlace}
    (hW : DataW.Whole enc P f.params.toList s.vars apart W args.toList ds gs before)
    (hres : ∀ (b : Nat) (sp : Nat → Bool) (hd : Bool), DataW.TrodAll enc P W' b sp hd f.resultTypes.toList (v.resultList f.resultTypes.size) (s.fn H (ds ++ gs)).results [])
    (hargs : ∀ sp : Nat → Bool, (∀ p ∈ before, sp p.block = true) → DataW.TrodAll enc P W' 0 sp true f.params.toList args.toList (s.fn H (ds ++ gs)).args pa)
    (hvars : ∀ sp : Nat → Bool, (∀ p ∈ before, sp p.block = true) → DataW.TrodVars enc P W' sp s.vars (s.fn H (ds ++ gs)).vars pv)
    (hps : before = pa ++ pv) (hb : Below W.heap.size W W')
    (hok : ∀ (j : Nat) (t : TypeId) (r : Value), f.resultTypes[j]? = some t → (v.resultList f.resultTypes.size)[j]? = some r → Value.okWide P W' .any 0 t r) :
    s.post enc P f apart fresh handsOn again W args v W' := by
  have hold : ∀ p ∈ before, (fun b => decide (b < W.heap.size)) p.block = true := fun p hp => by simpa using hW.lt p hp
  have hlt := hW.lt
  refine ⟨ds, gs, before, [], pa, pv, hW, hres _ _ _, hargs _ hold, hvars _ hold, World.keptBut_mono (fun p hp => ⟨hp, ?_⟩) (hb.frame (· ∈ before)), fun _ => ?_⟩
  · rw [hps, List.mem_append] at hp
    exact Or.inr hp
  · obtain ⟨_, _, _, _, _, hz, hn⟩ := hW
    refine ⟨hok, _, _, ([] ++ pa) ++ pv, ⟨[] ++ pa, pv, trodAll_append (hargs _ (fun _ _ => rfl)) (hres _ _ _), hvars _ (fun _ _ => rfl), rfl, ?_, ?_⟩, ?_⟩
    · intro b off hp
      have hm : MemPlace.cell b off ∈ before := by rw [hps]; simpa using hp
      rw [hb.frozen (p := ⟨b, off, none⟩) (hlt _ hm)]
      exact hz b off hm
    · intro ha
      have := hn ha
      rw [hps] at this
      simpa using this
    · intro p hp _
      rw [hps]
      simpa using hp
end Go.Proofs.YtohhnkmfgfgpjaaGreatDoor
