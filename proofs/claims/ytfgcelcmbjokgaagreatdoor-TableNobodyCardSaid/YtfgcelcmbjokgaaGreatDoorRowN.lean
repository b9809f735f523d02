/- What the row of TableNobody asks: its tables, a world that holds them, its arguments. Conditions: those that each lemma names. -/
import Derived.Test.YtfgcelcmbjokgaaGreatDoorCards
import Derived.Test.YtfgcelcmbjokgaaGreatDoorTie
import Derived.Test.YtfgcelcmbjokgaaGreatDoorLawNobody
import Derived.WalkKit
import Derived.ProofKit
import Derived.OpenShut
import Derived.ChangeReads
import Derived.LaidSub
import Derived.Deep.DeepHandedRow
import Derived.Deep.DeepLaidRun
import Derived.Lib.LaidTab
import Derived.Lib.SmallJoins
import Derived.ReadAgain
import Derived.SizedLaws
import Derived.Deep.Slices
import Derived.Deep.Strs
namespace Go.Proofs.YtfgcelcmbjokgaaGreatDoor
open Go Go.Deep Go.WideElems Go.ChangeShapes Go.WideShapes Go.ChangeAt Go.RowKit Go.Proofs Th

theorem own : ownKnob Tryz.prog.godebug = none := by kernel_rfl
/-- the tables that the row lists -/
noncomputable def laidN : List (String × DataW Unit) := Rows.tableNobodyRow.laid
/-- the cells of plain data, two levels deep -/
noncomputable def flat1 : DataW Unit → List Value
  | .lit (.int k n) => [.int k n]
  | _ => []
noncomputable def flat2 : DataW Unit → List Value
  | .agg ds => ds.flatMap flat1
  | d => flat1 d
noncomputable def flat : DataW Unit → Array Value
  | .agg ds => (ds.flatMap flat2).toArray
  | _ => #[]
noncomputable def lay (h : Array Obj) (x : String × DataW Unit) : Array Obj :=
  match Tryz.prog.globalNamed x.1 with
  | some g => h.modify g fun
    | .cells _ t frozen => .cells (flat x.2) t frozen
    | o => o
  | none => h
/-- a world for the witness -/
noncomputable def laidWorldN (os : Os) : World :=
  { World.holding Tryz.prog os ⟨#[], #[], []⟩ with heap := laidN.foldl lay (World.holding Tryz.prog os ⟨#[], #[], []⟩).heap }
set_option maxRecDepth 100000 in
theorem laid_metN (os : Os) : laidMet Tryz.prog laidN (laidWorldN os) :=
  laidMet_of_run3 8 (by kernel_rfl) (by kernel_rfl) (by kernel_rfl)
theorem call_heap (w : World) (t : Tape) (a : Array Value) : (w.forCall t ⟨#[], a, []⟩).memory.heap = w.heap := by
  simp [World.forCall, World.memory, Input.heap]
/-- what the row asks behind the call, where of what was there nothing has turned -/
theorem post_below {H : Type} {enc : TypeId × Value → H} {P : Program} {f : Func} {s : ChangeSpec} {apart fresh handsOn again : Bool} {W W' : World} {args : Array Value} {v : Value} {ds gs : List (DataW H)} {before pa pv : List MemPlace}
    (hW : DataW.Whole enc P f.params.toList s.vars apart W args.toList ds gs before)
    (hres : ∀ (b : Nat) (sp : Nat → Bool) (hd : Bool), DataW.TrodAll enc P W' b sp hd f.resultTypes.toList (v.resultList f.resultTypes.size) (s.fn H (ds ++ gs)).results [])
    (hargs : ∀ sp : Nat → Bool, (∀ p ∈ before, sp p.block = true) → DataW.TrodAll enc P W' 0 sp true f.params.toList args.toList (s.fn H (ds ++ gs)).args pa)
    (hvars : ∀ sp : Nat → Bool, (∀ p ∈ before, sp p.block = true) → DataW.TrodVars enc P W' sp s.vars (s.fn H (ds ++ gs)).vars pv)
    (hps : before = pa ++ pv) (hb : Below W.heap.size W W')
    (hok : ∀ (j : Nat) (t : TypeId) (r : Value), f.resultTypes[j]? = some t → (v.resultList f.resultTypes.size)[j]? = some r → Value.okWide P W' .any 0 t r) :
    s.post enc P f apart fresh handsOn again W args v W' := by
  have hold : ∀ p ∈ before, (fun b => decide (b < W.heap.size)) p.block = true := fun p hp => by simpa using hW.lt p hp
  have hlt := hW.lt
  refine ⟨ds, gs, before, [], pa, pv, hW, hres _ _ _, hargs _ hold, hvars _ hold, World.keptBut_mono (fun p hp => ⟨hp, ?_⟩) (hb.frame (· ∈ before)), fun _ => ?_⟩
  · rw [hps, List.mem_append] at hp
    exact Or.inr hp
  · obtain ⟨_, _, _, _, _, hz, hn⟩ := hW
    refine ⟨hok, _, _, ([] ++ pa) ++ pv, ⟨[] ++ pa, pv, trodAll_append (hargs _ (fun _ _ => rfl)) (hres _ _ _), hvars _ (fun _ _ => rfl), rfl, ?_, ?_⟩, ?_⟩
    · intro b off hp
      have hm : MemPlace.cell b off ∈ before := by rw [hps]; simpa using hp
      rw [hb.frozen (p := ⟨b, off, none⟩) (hlt _ hm)]
      exact hz b off hm
    · intro ha
      have := hn ha
      rw [hps] at this
      simpa using this
    · intro p hp _
      rw [hps]
      simpa using hp
theorem kidsV : Kids Tryz.prog (· < Tryz.prog.types.size) := kids_rows (by kernel_rfl) (by kernel_rfl)
theorem fullV : ∀ t e, t < Tryz.prog.types.size → Tryz.prog.underlying t = some (.slice e) → 0 < Tryz.prog.cellsOf e := slices_full_of _ (by kernel_rfl)
section
variable {H : Type} {enc : TypeId × Value → H} {W W' : World}
/-- it reads again behind a call that turned nothing of what was there -/
theorem again_trod {ts : List TypeId} {vs : List Value} {ds : List (DataW H)} {ps : List MemPlace} (h : DataW.TrodAll enc Tryz.prog W 0 (fun _ => true) true ts vs ds ps) (hb : Below W.heap.size W W')
    (hlt : ∀ p ∈ ps, p.block < W.heap.size) (hT : ∀ t ∈ ts, t < Tryz.prog.types.size) (sp : Nat → Bool) (hsp : ∀ p ∈ ps, sp p.block = true) : DataW.TrodAll enc Tryz.prog W' 0 sp true ts vs ds ps := by
  have same : ∀ p : MemPlace, p.block < W.heap.size → W.sameAt W' p := fun p hp => by
    cases p with
    | cell b o => exact hb.cell (p := ⟨b, o, none⟩) hp
    | map b => exact hb.block b hp
  have h2 := h.respare kidsV fullV hT hsp
  clear h hT hsp
  induction ts generalizing vs ds ps with
  | nil => exact (show DataW.TrodAll enc Tryz.prog W 0 sp true [] vs ds ps → DataW.TrodAll enc Tryz.prog W' 0 sp true [] vs ds ps from fun h => by cases vs <;> cases ds <;> first | exact h | cases h) h2
  | cons t ts ih =>
    match vs, ds, h2 with
    | v :: vs, d :: ds, ⟨p, q, ⟨n, h1⟩, h3, e⟩ =>
      subst e
      exact ⟨p, q, ⟨n, DataW.trod_carry n _ _ _ h1 (fun x hx => same x (hlt x (List.mem_append_left _ hx)))⟩, ih (fun x hx => hlt x (List.mem_append_right _ hx)) h3, rfl⟩

theorem slice_form {n : Nat} {t e : TypeId} {cs : List Value} {x : DataW H × List MemPlace} (ht : Tryz.prog.underlying t = some (.slice e)) (h : DataW.trod enc Tryz.prog W 0 (fun _ => true) true n t cs = some x) :
    ∃ A k c, cs = [.slice A k c] := by
  cases n with
  | zero => simp [DataW.trod] at h
  | succ n =>
    rcases DataW.trod_slice ht h with ⟨rfl, rfl⟩ | ⟨a, len, cap, elems, rest, n', hn, rfl, rfl, _⟩
    · exact ⟨none, 0, 0, rfl⟩
    · exact ⟨_, _, _, rfl⟩
end
theorem cAct : Tryz.prog.cellsOf 30 = 11 := by kernel_rfl
theorem cVal : Tryz.prog.cellsOf 27 = 6 := by kernel_rfl
theorem cNum : Tryz.prog.cellsOf 23 = 2 := by kernel_rfl
theorem cInt : Tryz.prog.cellsOf 3 = 1 := by kernel_rfl
theorem cInt64 : Tryz.prog.cellsOf 2 = 1 := by kernel_rfl
theorem cStr : Tryz.prog.cellsOf 9 = 1 := by kernel_rfl
theorem cVals : Tryz.prog.cellsOf 24 = 1 := by kernel_rfl
theorem cStrs : Tryz.prog.cellsOf 25 = 1 := by kernel_rfl
theorem cBytes : Tryz.prog.cellsOf 28 = 1 := by kernel_rfl
set_option maxRecDepth 100000 in
/-- an act that comes in -/
theorem open_act {H : Type} {enc : TypeId × Value → H} {W : World} {b0 : Nat} {v : Value} {d : DataW H} {p : List MemPlace}
    (hv : Value.okWide Tryz.prog W .any b0 30 v) (h : DataW.Trod enc Tryz.prog W 0 (fun _ => true) true 30 v d p) :
    ∃ (kd id k m e : Int) (s : ByteArray) (A : Option Addr) (n c : Nat) (A2 : Option Addr) (n2 c2 : Nat) (A3 : Option Addr) (n3 c3 : Nat) (A4 : Option Addr) (n4 c4 : Nat) (A5 : Option Addr) (n5 c5 : Nat),
      v = .agg #[.int .i64 kd, .int .i64 id, .int .i64 k, .int .i64 m, .int .i64 e, .string s, .slice A n c, .slice A2 n2 c2, .slice A3 n3 c3, .slice A4 n4 c4, .slice A5 n5 c5] := by
  obtain ⟨cs, rfl, _⟩ := okWide_struct Tryz.underlying30 hv
  obtain ⟨n, h⟩ := h
  have h : DataW.trod enc Tryz.prog W 0 (fun _ => true) true n 30 cs.toList = some (d, p) := h
  obtain ⟨xs, m, hm, _, hl, hlen, hf⟩ := DataW.trod_struct Tryz.underlying30 h
  rw [cAct] at hl
  obtain ⟨cl, hcl⟩ : ∃ l, cs.toList = l := ⟨_, rfl⟩
  rw [hcl] at h hf hl
  match cl, hl, xs, hlen with
  | [a0, a1, a2, a3, a4, a5, a6, a7, a8, a9, a10], _, [y0, y1, y2, y3, y4, y5], _ =>
    have h0 := hf 0 _ rfl
    have h1 := hf 1 _ rfl
    have h2 := hf 2 _ rfl
    have h3 := hf 3 _ rfl
    have h4 := hf 4 _ rfl
    have h5 := hf 5 _ rfl
    simp only [List.getElem?_cons_zero, List.getElem?_cons_succ] at h0 h1 h2 h3 h4 h5
    obtain ⟨kd, e0, _, _⟩ := DataW.trod_int Tryz.underlying3 h0
    obtain ⟨id, e1, _, _⟩ := DataW.trod_int Tryz.underlying3 h1
    obtain ⟨ys, m2, _, _, _, hl2, hf2⟩ := DataW.trod_struct Tryz.underlying27 h2
    obtain ⟨A3, n3, c3, e3⟩ := slice_form Tryz.underlying25 h3
    obtain ⟨A4, n4, c4, e4⟩ := slice_form Tryz.underlying28 h4
    obtain ⟨A5, n5, c5, e5⟩ := slice_form Tryz.underlying28 h5
    match ys, hl2 with
    | [z0, z1, z2, z3, z4], _ =>
      have g0 := hf2 0 _ rfl
      have g1 := hf2 1 _ rfl
      have g2 := hf2 2 _ rfl
      have g3 := hf2 3 _ rfl
      have g4 := hf2 4 _ rfl
      simp only [List.getElem?_cons_zero, List.getElem?_cons_succ] at g0 g1 g2 g3 g4
      obtain ⟨k, f0, _, _⟩ := DataW.trod_int Tryz.underlying3 g0
      obtain ⟨u0, u1, m', _, _, i0, i1⟩ := trod_struct2 Tryz.underlying23 g1
      simp only [cInt, cInt64, List.drop_zero] at i0 i1
      obtain ⟨mm, f1, _, _⟩ := DataW.trod_int Tryz.underlying2 i0
      obtain ⟨ee, f2, _, _⟩ := DataW.trod_int Tryz.underlying3 i1
      obtain ⟨s, f3, _, _⟩ := DataW.trod_string Tryz.underlying9 g2
      obtain ⟨A, n, c, f4⟩ := slice_form Tryz.underlying24 g3
      obtain ⟨A2, n2, c2, f5⟩ := slice_form Tryz.underlying25 g4
      injection e0 with e0 _
      injection e1 with e1 _
      injection e3 with e3 _
      injection e4 with e4 _
      injection e5 with e5 _
      injection f0 with f0 _
      injection f1 with f1 _
      injection f2 with f2 _
      injection f3 with f3 _
      injection f4 with f4 _
      injection f5 with f5 _
      refine ⟨kd, id, k, mm, ee, s, A, n, c, A2, n2, c2, A3, n3, c3, A4, n4, c4, A5, n5, c5, ?_⟩
      congr 1
      apply Array.toList_inj.1
      rw [hcl, e0, e1, e3, e4, e5, f0, f1, f2, f3, f4, f5]
end Go.Proofs.YtfgcelcmbjokgaaGreatDoor
