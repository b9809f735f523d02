/- Lemmas and contracts for the laws CalcWith, part 8 of 50: Row, NumB, Div. Conditions: those that each lemma names. -/
import Derived.Test.YtnkokhpadcgfbaaGreatDoorCards
import Derived.Test.YtnkokhpadcgfbaaGreatDoorTie
import Derived.Test.YtnkokhpadcgfbaaGreatDoorPw6
import Derived.Test.YtnkokhpadcgfbaaGreatDoorPw1
import Derived.Test.YtnkokhpadcgfbaaGreatDoorPw2
import Derived.WalkKit
import Derived.ProofKit
import Derived.OpenShut
import Derived.ChangeReads
import Derived.LaidSub
import Derived.Deep.DeepHandedRow
import Derived.Deep.DeepLaidRun
import Derived.Lib.LaidTab
import Derived.Lib.SmallJoins
import Derived.Laws.BitsAllLaws
namespace Go.Proofs.YtnkokhpadcgfbaaGreatDoor
open Go Go.Deep Go.WideElems Go.ChangeShapes Go.WideShapes Go.ChangeAt Go.RowKit Go.Proofs Th
theorem own : ownKnob Tryz.prog.godebug = none := by kernel_rfl
theorem gTens : Tryz.prog.globalNamed "thimble/num.tens" = some 2 := by kernel_rfl
theorem gPows : Tryz.prog.globalNamed "internal/strconv.uint64pow10" = some 8 := by kernel_rfl
theorem tTens : (Tryz.prog.globals[2]?).map (·.type) = some 109 := by kernel_rfl
theorem tPows : (Tryz.prog.globals[8]?).map (·.type) = some 109 := by kernel_rfl
theorem u64Cells : Tryz.prog.cellsOf 32 = 1 := by kernel_rfl
theorem u64Cells20 : Tryz.prog.cellsOf 109 = 20 := by kernel_rfl
noncomputable def tenTab : List Int := [1, 10, 100, 1000, 10000, 100000, 1000000, 10000000, 100000000, 1000000000, 10000000000, 100000000000, 1000000000000, 10000000000000, 100000000000000, 1000000000000000, 10000000000000000, 100000000000000000, 1000000000000000000, 10000000000000000000]
noncomputable def flat1 : DataW Unit → List Value
  | .lit (.int k n) => [.int k n]
  | _ => []
noncomputable def flat2 : DataW Unit → List Value
  | .agg ds => ds.flatMap flat1
  | d => flat1 d
noncomputable def flat : DataW Unit → Array Value
  | .agg ds => (ds.flatMap flat2).toArray
  | _ => #[]
noncomputable def lay (h : Array Obj) (x : String × DataW Unit) : Array Obj :=
  match Tryz.prog.globalNamed x.1 with
  | some g => h.modify g fun
    | .cells _ t frozen => .cells (flat x.2) t frozen
    | o => o
  | none => h
theorem call_heap (w : World) (t : Tape) (a : Array Value) : (w.forCall t ⟨#[], a, []⟩).memory.heap = w.heap := by
  simp [World.forCall, World.memory, Input.heap]
theorem post_below {H : Type} {enc : TypeId × Value → H} {P : Program} {f : Func} {s : ChangeSpec} {apart fresh handsOn again : Bool} {W W' : World} {args : Array Value} {v : Value} {ds gs : List (DataW H)} {before pa pv : List MemPlace}
    (hW : DataW.Whole enc P f.params.toList s.vars apart W args.toList ds gs before)
    (hres : ∀ (b : Nat) (sp : Nat → Bool) (hd : Bool), DataW.TrodAll enc P W' b sp hd f.resultTypes.toList (v.resultList f.resultTypes.size) (s.fn H (ds ++ gs)).results [])
    (hargs : ∀ sp : Nat → Bool, (∀ p ∈ before, sp p.block = true) → DataW.TrodAll enc P W' 0 sp true f.params.toList args.toList (s.fn H (ds ++ gs)).args pa)
    (hvars : ∀ sp : Nat → Bool, (∀ p ∈ before, sp p.block = true) → DataW.TrodVars enc P W' sp s.vars (s.fn H (ds ++ gs)).vars pv)
    (hps : before = pa ++ pv) (hb : Below W.heap.size W W')
    (hok : ∀ (j : Nat) (t : TypeId) (r : Value), f.resultTypes[j]? = some t → (v.resultList f.resultTypes.size)[j]? = some r → Value.okWide P W' .any 0 t r) :
    s.post enc P f apart fresh handsOn again W args v W' := by
  have hold : ∀ p ∈ before, (fun b => decide (b < W.heap.size)) p.block = true := fun p hp => by simpa using hW.lt p hp
  have hlt := hW.lt
  refine ⟨ds, gs, before, [], pa, pv, hW, hres _ _ _, hargs _ hold, hvars _ hold, World.keptBut_mono (fun p hp => ⟨hp, ?_⟩) (hb.frame (· ∈ before)), fun _ => ?_⟩
  · rw [hps, List.mem_append] at hp
    exact Or.inr hp
  · obtain ⟨_, _, _, _, _, hz, hn⟩ := hW
    refine ⟨hok, _, _, ([] ++ pa) ++ pv, ⟨[] ++ pa, pv, trodAll_append (hargs _ (fun _ _ => rfl)) (hres _ _ _), hvars _ (fun _ _ => rfl), rfl, ?_, ?_⟩, ?_⟩
    · intro b off hp
      have hm : MemPlace.cell b off ∈ before := by rw [hps]; simpa using hp
      rw [hb.frozen (p := ⟨b, off, none⟩) (hlt _ hm)]
      exact hz b off hm
    · intro ha
      have := hn ha
      rw [hps] at this
      simpa using this
    · intro p hp _
      rw [hps]
      simpa using hp
end Go.Proofs.YtnkokhpadcgfbaaGreatDoor
namespace Go.Proofs.YtnkokhpadcgfbaaGreatDoor
open Go Go.RowKit Go.Proofs Th
attribute [local go_sem] Above.cell
theorem ret_i64 {a b : Int} (h : a = b) : Ending.returned (.int .i64 a) = .returned (.int .i64 b) := by rw [h]
theorem num_sign (m e : Int) (w : World) : Calls Tryz.prog 110 #[.agg #[.int .i64 m, .int .i64 e]] w fun r w' => r = .returned (.int .i64 m.sign) ∧ Below w.heap.size w w' := by
  by_cases h1 : m < 0
  · have K := Lib.hid (Int.sign_eq_neg_one_of_neg h1)
    go_enter Tryz.func110, Tryz.ntmps110
    go_wp2
    go_ret
    exact ⟨ret_i64 K.out.symm, (Below.refl _ _).alloc (Nat.le_refl _) _⟩
  · by_cases h2 : 0 < m
    · have K := Lib.hid (Int.sign_eq_one_of_pos h2)
      go_enter Tryz.func110, Tryz.ntmps110
      go_wp2
      go_ret
      exact ⟨ret_i64 K.out.symm, (Below.refl _ _).alloc (Nat.le_refl _) _⟩
    · have h0 : m = 0 := by omega
      subst h0
      go_enter Tryz.func110, Tryz.ntmps110
      go_wp2
      go_ret
      exact ⟨rfl, (Below.refl _ _).alloc (Nat.le_refl _) _⟩
def cmp3 (a b : Int) : Int := if a < b then -1 else if b < a then 1 else 0
theorem num_compare (a b : Int) (w : World) : Calls Tryz.prog 174 #[.int .i64 a, .int .i64 b] w fun r w' => r = .returned (.int .i64 (cmp3 a b)) ∧ Below w.heap.size w w' := by
  by_cases h1 : a < b
  · have K := Lib.hid (show cmp3 a b = -1 from if_pos h1)
    go_enter Tryz.func174, Tryz.ntmps174
    go_wp2
    go_ret
    exact ⟨ret_i64 K.out.symm, Below.refl _ _⟩
  · by_cases h2 : b < a
    · have K := Lib.hid (show cmp3 a b = 1 from by unfold cmp3; rw [if_neg h1, if_pos h2])
      go_enter Tryz.func174, Tryz.ntmps174
      go_wp2
      go_ret
      exact ⟨ret_i64 K.out.symm, Below.refl _ _⟩
    · have K := Lib.hid (show cmp3 a b = 0 from by unfold cmp3; rw [if_neg h1, if_neg h2])
      go_enter Tryz.func174, Tryz.ntmps174
      go_wp2
      go_ret
      exact ⟨ret_i64 K.out.symm, Below.refl _ _⟩
end Go.Proofs.YtnkokhpadcgfbaaGreatDoor
namespace Go.Proofs.YtnkokhpadcgfbaaGreatDoor
open Go Go.RowKit Go.Proofs Th
attribute [local go_sem] Above.cell
theorem and_mask32 (x : Int) (h0 : 0 ≤ x) (h1 : x < 18446744073709551616) : bits BinOp.and IntKind.u64 x 4294967295 = x % 4294967296 := by
  obtain ⟨a, rfl⟩ := Int.eq_ofNat_of_zero_le h0
  have h := u64_and_nat a 4294967295 (by omega) (by omega)
  rw [nat_mask32] at h
  simpa using h
theorem or_join60 (h l : Nat) (hh : h < 10) (hl : l < 1152921504606846976) : bits BinOp.or IntKind.u64 ((h : Int) * 1152921504606846976) (l : Int) = ((h * 1152921504606846976 + l : Nat) : Int) := by
  have e := u64_or_nat (h * 1152921504606846976) l (by omega) (by omega)
  rw [nat_join 60 _ _ (by simp) (by simpa using hl)] at e
  simpa using e
structure HiLo (hi lo : Nat) : Prop where
  hi : hi < 10
  lo : lo < 18446744073709551616
def dA (hi lo : Nat) : Nat := hi * 1152921504606846976 + lo / 16
def dB (lo : Nat) : Nat := lo % 16
theorem r1 : bits BinOp.and IntKind.u64 11529215046068469760 4294967295 = 0 := by rw [and_mask32 _ (by omega) (by omega)]; omega
theorem r2 {hi lo : Nat} (h : HiLo hi lo) : bits BinOp.or IntKind.u64 ((dB hi : Int) * 1152921504606846976) ((lo : Int) / 16) = (dA hi lo : Int) := by
  have e := or_join60 hi (lo / 16) h.hi (by have := h.lo; omega)
  have : dB hi = hi := by have := h.hi; unfold dB; omega
  rw [show (((lo / 16 : Nat)) : Int) = (lo : Int) / 16 by omega] at e
  rw [this]
  exact e
theorem r3 {lo : Nat} : IntKind.u64.wrap ((lo : Int) * 1152921504606846976) = (dB lo : Int) * 1152921504606846976 := by rw [IntKind.wrap_u64]; unfold dB; omega
theorem r4 {lo : Nat} : (dB lo : Int) * 1152921504606846976 / 4294967296 = (dB lo : Int) * 268435456 := by omega
theorem r5 {lo : Nat} : bits BinOp.and IntKind.u64 ((dB lo : Int) * 1152921504606846976) 4294967295 = 0 := by
  have : dB lo < 16 := by unfold dB; omega
  rw [and_mask32 _ (by omega) (by omega)]; omega
attribute [local go_sem] r1 r2 r3 r4 r5
end Go.Proofs.YtnkokhpadcgfbaaGreatDoor
