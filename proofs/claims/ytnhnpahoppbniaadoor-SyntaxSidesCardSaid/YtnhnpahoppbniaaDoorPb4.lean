/- Lemmas and contracts for the laws SyntaxBrackets, SyntaxJoins, SyntaxSides, part 4 of 44: Row, NumB, Div, Ref2, Quote, TokMath. Conditions: those that each lemma names. -/
import Derived.Test.YtnhnpahoppbniaaDoorCards
import Derived.Test.YtnhnpahoppbniaaDoorTie
import Derived.Test.YtnhnpahoppbniaaDoorPb3
import Derived.Test.YtnhnpahoppbniaaDoorPb1
import Derived.Test.YtnhnpahoppbniaaDoorPb2
import Derived.WalkKit
import Derived.ProofKit
import Derived.OpenShut
import Derived.ChangeReads
import Derived.LaidSub
import Derived.Deep.DeepHandedRow
import Derived.Deep.DeepLaidRun
import Derived.Lib.LaidTab
import Derived.Lib.SmallJoins
import Derived.Laws.BitsAllLaws
import Derived.Deep.LoopGhost
import Derived.Outline
import Derived.Deep.CutBlock
import Derived.Deep.DeepCutAuto
import Derived.Deep.AppendLies
import Derived.Deep.RegionLaw
import Derived.Deep.DrawnRows
import Derived.IntWalk
import Derived.Lib.Bytealg
namespace Go.Proofs.YtnhnpahoppbniaaDoor
open Go Go.Deep Go.WideElems Go.ChangeShapes Go.WideShapes Go.ChangeAt Go.RowKit Go.Proofs Th
theorem own : ownKnob Tryd.prog.godebug = none := by kernel_rfl
theorem gTens : Tryd.prog.globalNamed "thimble/num.tens" = some 1 := by kernel_rfl
theorem tTens : (Tryd.prog.globals[1]?).map (·.type) = some 110 := by kernel_rfl
theorem u64Cells : Tryd.prog.cellsOf 37 = 1 := by kernel_rfl
theorem u64Cells20 : Tryd.prog.cellsOf 110 = 20 := by kernel_rfl
noncomputable def tenTab : List Int := [1, 10, 100, 1000, 10000, 100000, 1000000, 10000000, 100000000, 1000000000, 10000000000, 100000000000, 1000000000000, 10000000000000, 100000000000000, 1000000000000000, 10000000000000000, 100000000000000000, 1000000000000000000, 10000000000000000000]
noncomputable def flat1 : DataW Unit → List Value
  | .lit (.int k n) => [.int k n]
  | _ => []
noncomputable def flat2 : DataW Unit → List Value
  | .agg ds => ds.flatMap flat1
  | d => flat1 d
noncomputable def flat : DataW Unit → Array Value
  | .agg ds => (ds.flatMap flat2).toArray
  | _ => #[]
noncomputable def lay (h : Array Obj) (x : String × DataW Unit) : Array Obj :=
  match Tryd.prog.globalNamed x.1 with
  | some g => h.modify g fun
    | .cells _ t frozen => .cells (flat x.2) t frozen
    | o => o
  | none => h
theorem call_heap (w : World) (t : Tape) (a : Array Value) : (w.forCall t ⟨#[], a, []⟩).memory.heap = w.heap := by
  simp [World.forCall, World.memory, Input.heap]
theorem post_below {H : Type} {enc : TypeId × Value → H} {P : Program} {f : Func} {s : ChangeSpec} {apart fresh handsOn again : Bool} {W W' : World} {args : Array Value} {v : Value} {ds gs : List (DataW H)} {before pa pv : List MemPlace}
    (hW : DataW.Whole enc P f.params.toList s.vars apart W args.toList ds gs before)
    (hres : ∀ (b : Nat) (sp : Nat → Bool) (hd : Bool), DataW.TrodAll enc P W' b sp hd f.resultTypes.toList (v.resultList f.resultTypes.size) (s.fn H (ds ++ gs)).results [])
    (hargs : ∀ sp : Nat → Bool, (∀ p ∈ before, sp p.block = true) → DataW.TrodAll enc P W' 0 sp true f.params.toList args.toList (s.fn H (ds ++ gs)).args pa)
    (hvars : ∀ sp : Nat → Bool, (∀ p ∈ before, sp p.block = true) → DataW.TrodVars enc P W' sp s.vars (s.fn H (ds ++ gs)).vars pv)
    (hps : before = pa ++ pv) (hb : Below W.heap.size W W')
    (hok : ∀ (j : Nat) (t : TypeId) (r : Value), f.resultTypes[j]? = some t → (v.resultList f.resultTypes.size)[j]? = some r → Value.okWide P W' .any 0 t r) :
    s.post enc P f apart fresh handsOn again W args v W' := by
  have hold : ∀ p ∈ before, (fun b => decide (b < W.heap.size)) p.block = true := fun p hp => by simpa using hW.lt p hp
  have hlt := hW.lt
  refine ⟨ds, gs, before, [], pa, pv, hW, hres _ _ _, hargs _ hold, hvars _ hold, World.keptBut_mono (fun p hp => ⟨hp, ?_⟩) (hb.frame (· ∈ before)), fun _ => ?_⟩
  · rw [hps, List.mem_append] at hp
    exact Or.inr hp
  · obtain ⟨_, _, _, _, _, hz, hn⟩ := hW
    refine ⟨hok, _, _, ([] ++ pa) ++ pv, ⟨[] ++ pa, pv, trodAll_append (hargs _ (fun _ _ => rfl)) (hres _ _ _), hvars _ (fun _ _ => rfl), rfl, ?_, ?_⟩, ?_⟩
    · intro b off hp
      have hm : MemPlace.cell b off ∈ before := by rw [hps]; simpa using hp
      rw [hb.frozen (p := ⟨b, off, none⟩) (hlt _ hm)]
      exact hz b off hm
    · intro ha
      have := hn ha
      rw [hps] at this
      simpa using this
    · intro p hp _
      rw [hps]
      simpa using hp
end Go.Proofs.YtnhnpahoppbniaaDoor
namespace Go.Proofs.YtnhnpahoppbniaaDoor
open Go Go.RowKit Go.Proofs Th
attribute [local go_sem] Above.cell
theorem ret_i64 {a b : Int} (h : a = b) : Ending.returned (.int .i64 a) = .returned (.int .i64 b) := by rw [h]
theorem drop_at (s : ByteArray) (k : Nat) (h : k < s.size) : s.data.toList.drop k = s[k] :: s.data.toList.drop (k + 1) := by
  rw [List.drop_eq_getElem_cons (by simpa using h)]; rfl
theorem num_digits (s : ByteArray) (hs : s.size ≤ 9223372036854775807) (w : World) : Calls Tryd.prog 62 #[.string s] w fun r w' => r = .returned (.int .i64 (nDig s.data.toList)) ∧ Below w.heap.size w w' := by
  go_enter Tryd.func62, Tryd.ntmps62
  go_wp2
  go_loop [3] (fun i => ∃ k : Nat, k ≤ s.size ∧ nDig s.data.toList = k + nDig (s.data.toList.drop k) ∧ i = .int .i64 k) (fun i => s.size - (intOf i).toNat)
  case atStart => exact ⟨0, Nat.zero_le _, by simp, rfl⟩
  case round =>
    obtain ⟨k, hk, hn, rfl⟩ := hrel
    have HN := Lib.hid hn
    clear hn
    by_cases hlt : k < s.size
    · have hd := drop_at s k hlt
      by_cases h1 : 48 ≤ s[k].toNat
      · by_cases h2 : s[k].toNat ≤ 57
        · have HS := Lib.hid (show nDig (s.data.toList.drop k) = nDig (s.data.toList.drop (k + 1)) + 1 by rw [hd, nDig, if_pos ⟨h1, h2⟩])
          clear hd
          go_wp2
          go_round
          case rel => exact ⟨k + 1, by omega, by rw [HN.out, HS.out]; omega, by go_num⟩
          case measure => simp [intOf]; omega
        · have HS := Lib.hid (show nDig (s.data.toList.drop k) = 0 by rw [hd, nDig, if_neg (by omega)])
          clear hd
          go_wp2
          go_ret
          exact ⟨ret_i64 (by rw [HN.out, HS.out]; simp), Below.refl _ _⟩
      · have HS := Lib.hid (show nDig (s.data.toList.drop k) = 0 by rw [hd, nDig, if_neg (by omega)])
        clear hd
        go_wp2
        go_ret
        exact ⟨ret_i64 (by rw [HN.out, HS.out]; simp), Below.refl _ _⟩
    · have hk' : k = s.size := by omega
      have HS := Lib.hid (show nDig (s.data.toList.drop k) = 0 by rw [List.drop_eq_nil_of_le (by simp; omega)]; rfl)
      go_wp2
      go_ret
      exact ⟨ret_i64 (by rw [HN.out, HS.out]; omega), Below.refl _ _⟩
end Go.Proofs.YtnhnpahoppbniaaDoor
namespace Go.Proofs.YtnhnpahoppbniaaDoor
open Go Go.RowKit Go.Proofs Th
attribute [local go_sem] Above.cell
theorem and_mask32 (x : Int) (h0 : 0 ≤ x) (h1 : x < 18446744073709551616) : bits BinOp.and IntKind.u64 x 4294967295 = x % 4294967296 := by
  obtain ⟨a, rfl⟩ := Int.eq_ofNat_of_zero_le h0
  have h := u64_and_nat a 4294967295 (by omega) (by omega)
  rw [nat_mask32] at h
  simpa using h
theorem or_join60 (h l : Nat) (hh : h < 10) (hl : l < 1152921504606846976) : bits BinOp.or IntKind.u64 ((h : Int) * 1152921504606846976) (l : Int) = ((h * 1152921504606846976 + l : Nat) : Int) := by
  have e := u64_or_nat (h * 1152921504606846976) l (by omega) (by omega)
  rw [nat_join 60 _ _ (by simp) (by simpa using hl)] at e
  simpa using e
structure LtY (a : Nat) : Prop where
  out : a < 11529215046068469760
structure HiLo (hi lo : Nat) : Prop where
  hi : hi < 10
  lo : lo < 18446744073709551616
def dA (hi lo : Nat) : Nat := hi * 1152921504606846976 + lo / 16
def dB (lo : Nat) : Nat := lo % 16
def dq (a : Nat) : Nat := a / 2684354560
def dr (a : Nat) : Nat := a % 2684354560
def du (a b : Nat) : Nat := dr a * 4294967296 + b * 268435456
theorem r1 : bits BinOp.and IntKind.u64 11529215046068469760 4294967295 = 0 := by rw [and_mask32 _ (by omega) (by omega)]; omega
theorem r2 {hi lo : Nat} (h : HiLo hi lo) : bits BinOp.or IntKind.u64 ((dB hi : Int) * 1152921504606846976) ((lo : Int) / 16) = (dA hi lo : Int) := by
  have e := or_join60 hi (lo / 16) h.hi (by have := h.lo; omega)
  have : dB hi = hi := by have := h.hi; unfold dB; omega
  rw [show (((lo / 16 : Nat)) : Int) = (lo : Int) / 16 by omega] at e
  rw [this]
  exact e
theorem r3 {lo : Nat} : IntKind.u64.wrap ((lo : Int) * 1152921504606846976) = (dB lo : Int) * 1152921504606846976 := by rw [IntKind.wrap_u64]; unfold dB; omega
theorem r4 {lo : Nat} : (dB lo : Int) * 1152921504606846976 / 4294967296 = (dB lo : Int) * 268435456 := by omega
theorem r5 {lo : Nat} : bits BinOp.and IntKind.u64 ((dB lo : Int) * 1152921504606846976) 4294967295 = 0 := by
  have : dB lo < 16 := by unfold dB; omega
  rw [and_mask32 _ (by omega) (by omega)]; omega
theorem r6 {a : Nat} (h : LtY a) : IntKind.u64.wrap ((a : Int).tdiv 2684354560) = (dq a : Int) := by
  have := h.out
  rw [Int.tdiv_eq_ediv_of_nonneg (by omega), IntKind.wrap_u64]; unfold dq; omega
theorem r6' {a : Nat} (h : LtY a) : IntKind.u64.wrap ((a : Int) / 2684354560) = (dq a : Int) := by
  have := h.out
  rw [IntKind.wrap_u64]; unfold dq; omega
theorem r7 {a : Nat} (h : LtY a) : IntKind.u64.wrap ((a : Int) - IntKind.u64.wrap ((dq a : Int) * 2684354560)) = (dr a : Int) := by
  have := h.out
  rw [IntKind.wrap_u64, IntKind.wrap_u64]; unfold dq dr; omega
theorem r8 {a lo : Nat} (h : LtY a) :
    IntKind.u64.wrap (IntKind.u64.wrap (IntKind.u64.wrap ((a : Int) * 4294967296) + (dB lo : Int) * 268435456) - IntKind.u64.wrap ((dq a : Int) * 11529215046068469760)) = (du a (dB lo) : Int) := by
  have := h.out
  have : dB lo < 16 := by unfold dB; omega
  rw [IntKind.wrap_u64, IntKind.wrap_u64, IntKind.wrap_u64, IntKind.wrap_u64]; unfold du dq dr; omega
theorem test32 {a : Nat} (h : LtY a) : (4294967296 ≤ (dq a : Int)) = False := by have := h.out; simp; unfold dq; omega
theorem dA_lt {hi lo : Nat} (h : hi < 10) (hl : lo < 18446744073709551616) : dA hi lo < 11529215046068469760 := by unfold dA; omega
theorem du_lt (a lo : Nat) : du a (dB lo) < 11529215046068469760 := by unfold du dr dB; omega
theorem div_fin1 (hi lo : Nat) (h : hi < 10) (hl : lo < 18446744073709551616) :
    IntKind.u64.wrap (IntKind.u64.wrap ((dq (dA hi lo) : Int) * 4294967296) + (dq (du (dA hi lo) (dB lo)) : Int)) = (((hi * 18446744073709551616 + lo) / 10 : Nat) : Int) := by
  rw [IntKind.wrap_u64, IntKind.wrap_u64]; unfold du dq dr dA dB; omega
theorem wrap_sub3 (x y : Int) : IntKind.u64.wrap (IntKind.u64.wrap (IntKind.u64.wrap x) - IntKind.u64.wrap y) = (x - y) % 18446744073709551616 := by
  simp only [IntKind.wrap_u64]; omega
theorem div_fin3 (u : Nat) : IntKind.u64.wrap (IntKind.u64.wrap (IntKind.u64.wrap ((u : Int) * 4294967296)) - IntKind.u64.wrap ((dq u : Int) * 11529215046068469760)) / 1152921504606846976 = ((u % 2684354560 / 268435456 : Nat) : Int) := by
  rw [wrap_sub3]
  have h1 : (u : Int) * 4294967296 - (dq u : Int) * 11529215046068469760 = ((u % 2684354560 : Nat) : Int) * 4294967296 := by unfold dq; omega
  rw [h1]
  have h2 : u % 2684354560 < 2684354560 := Nat.mod_lt _ (by omega)
  generalize u % 2684354560 = r at *
  omega
theorem div_fin2 (hi lo : Nat) :
    IntKind.u64.wrap (IntKind.u64.wrap (IntKind.u64.wrap ((du (dA hi lo) (dB lo) : Int) * 4294967296)) - IntKind.u64.wrap ((dq (du (dA hi lo) (dB lo)) : Int) * 11529215046068469760)) / 1152921504606846976 =
      (((hi * 18446744073709551616 + lo) % 10 : Nat) : Int) := by
  have e1 : du (dA hi lo) (dB lo) % 2684354560 / 268435456 = (hi * 18446744073709551616 + lo) % 10 := by unfold du dr dA dB; omega
  rw [← e1]
  exact div_fin3 _
theorem wrap_neg {n : Int} : (IntKind.u64.wrap n < 0) = False := by rw [IntKind.wrap_u64]; simp; omega
attribute [local go_sem] test32 wrap_neg r1 r2 r3 r4 r5 r6 r6' r7 r8
theorem ret2_u64 {a b c d : Int} (h1 : a = c) (h2 : b = d) : Ending.returned (.tuple #[.int .u64 a, .int .u64 b]) = .returned (.tuple #[.int .u64 c, .int .u64 d]) := by rw [h1, h2]
theorem div64_small (lo : Nat) (hl : lo < 18446744073709551616) (w : World) : Calls Tryd.prog 81 #[.int .u64 0, .int .u64 lo, .int .u64 10] w fun r w' =>
    r = .returned (.tuple #[.int .u64 ((lo / 10 : Nat) : Int), .int .u64 ((lo % 10 : Nat) : Int)]) ∧ Below w.heap.size w w' := by
  go_enter Tryd.func81, Tryd.ntmps81
  go_wp2
  refine wp_region_above (by kernel_rfl) (by kernel_rfl) ?_
  repeat (go_big_quiet_step (fail))
  refine wpQuiet_nil ?_
  rintro _ ⟨z, rfl⟩
  go_wp2
  go_ret2
  exact ⟨by simp, z.property⟩
set_option maxRecDepth 100000 in
theorem div64_big (hi lo : Nat) (h0 : 0 < hi) (hh : hi < 10) (hl : lo < 18446744073709551616) (w : World) : Calls Tryd.prog 81 #[.int .u64 hi, .int .u64 lo, .int .u64 10] w fun r w' =>
    r = .returned (.tuple #[.int .u64 (((hi * 18446744073709551616 + lo) / 10 : Nat) : Int), .int .u64 (((hi * 18446744073709551616 + lo) % 10 : Nat) : Int)]) ∧ Below w.heap.size w w' := by
  have g1 : ((hi : Int) == 0) = false := by simp; omega
  have hbl : (64 - (Lib.bitLen 10 : Int)) = 60 := by decide
  have HB := Lib.hid hbl
  clear hbl
  have HK := HiLo.mk hh hl
  have HA := LtY.mk (dA_lt hh hl)
  have HU := LtY.mk (du_lt (dA hi lo) lo)
  have HF1 := Keep.mk (div_fin1 hi lo hh hl)
  have HF2 := Keep.mk (div_fin2 hi lo)
  clear hl
  go_enter Tryd.func81, Tryd.ntmps81
  go_wp2_with fail
  refine (Tryd.bits_LeadingZeros64 10 _ (by omega) (by omega)).mono ?_
  rintro e w' ⟨rfl, rfl⟩
  rw [show (10 : Int).toNat = 10 from rfl, HB.out]
  go_wp2
  refine wp_loop_once ?_
  go_wp2
  refine wp_loop_once ?_
  go_wp2
  go_ret2
  exact ⟨ret2_u64 HF1.out HF2.out, Below.refl _ _⟩
theorem div64_ten (hi lo : Nat) (hh : hi < 10) (hl : lo < 18446744073709551616) (w : World) : Calls Tryd.prog 81 #[.int .u64 hi, .int .u64 lo, .int .u64 10] w fun r w' =>
    r = .returned (.tuple #[.int .u64 (((hi * 18446744073709551616 + lo) / 10 : Nat) : Int), .int .u64 (((hi * 18446744073709551616 + lo) % 10 : Nat) : Int)]) ∧ Below w.heap.size w w' := by
  by_cases h : hi = 0
  · subst h
    have := div64_small lo hl w
    simpa using this
  · exact div64_big hi lo (by omega) hh hl w
theorem div64_ten' (h l : Int) (h0 : 0 ≤ h) (h1 : h < 10) (l0 : 0 ≤ l) (l1 : l < 18446744073709551616) (w : World) : Calls Tryd.prog 81 #[.int .u64 h, .int .u64 l, .int .u64 10] w fun r w' =>
    r = .returned (.tuple #[.int .u64 (dq10 h l), .int .u64 (dm10 h l)]) ∧ Below w.heap.size w w' := by
  obtain ⟨h, rfl⟩ := Int.eq_ofNat_of_zero_le h0
  obtain ⟨l, rfl⟩ := Int.eq_ofNat_of_zero_le l0
  refine (div64_ten h l (by omega) (by omega) w).mono ?_
  rintro e w' ⟨rfl, hb⟩
  refine ⟨ret2_u64 ?_ ?_, hb⟩
  · unfold dq10; omega
  · unfold dm10; omega
end Go.Proofs.YtnhnpahoppbniaaDoor
namespace Go.Proofs.YtnhnpahoppbniaaDoor
open Go Go.RowKit Go.Proofs Th
attribute [local go_sem] Above.cell
end Go.Proofs.YtnhnpahoppbniaaDoor
namespace Go.Proofs.YtnhnpahoppbniaaDoor
open Go Go.RowKit Go.Proofs Th
attribute [local go_sem] Above.cell
def headS (n : Nat) : Int := if n = 2 then 192 else if n = 3 then 224 else if n = 4 then 240 else 0
end Go.Proofs.YtnhnpahoppbniaaDoor
namespace Go.Proofs.YtnhnpahoppbniaaDoor
open Go Go.RowKit Go.Proofs Th
attribute [local go_sem] Above.cell
end Go.Proofs.YtnhnpahoppbniaaDoor
namespace Go.Proofs.YtnhnpahoppbniaaDoor
open Go Go.RowKit Go.Proofs Th
attribute [local go_sem] Above.cell
def Utf (w : World) : Prop := Lib.Utf8Tabs 4 5 w
theorem Utf.below {w w' : World} (h : Utf w) (b : Below w.heap.size w w') : Utf w' := by
  refine ⟨fun c hc => (b.cell (lt_of_cell (h.1 c hc))).trans (h.1 c hc), fun i hi => ⟨(b.cell (lt_of_cell (h.2 i hi).1)).trans (h.2 i hi).1, (b.cell (lt_of_cell (h.2 i hi).2)).trans (h.2 i hi).2⟩⟩
theorem append_rune (B : Nat) (v : Value) (acc : List UInt8) (c : Nat) (hc : c ≤ 1114111) (w : World) (hO : OwnB w B v acc) (hl : acc.length ≤ 100000000000) (hB : B ≤ w.heap.size) :
    Calls Tryd.prog 72 #[v, .int .i32 c] w fun r w' => ∃ v', r = .returned v' ∧ OwnB w' B v' (acc ++ Lib.encodeRune c) ∧ Below B w w' ∧ (∀ k s pos, Iter w k s pos → Iter w' k s pos) := by
  refine (Tryd.utf8_AppendRune_plain B v acc.length (Lib.byteCells acc) c (by omega) (by omega) w hO (by omega) hB).mono ?_
  rintro r w' ⟨v', rfl, h1, o, h2⟩
  refine ⟨v', rfl, ?_, ((Below.refl B w).alloc hB o).grown h2 (by simp; omega) fun k hk => (World.ownsRow.lt hO k hk).1, fun k s pos hi => (hi.alloc o).grown (hO.alloc o) h2⟩
  unfold OwnB
  rw [List.length_append, Lib.byteCells_append, Lib.byteCells_encodeRune, ← Lib.runeCells_length]
  exact h1
end Go.Proofs.YtnhnpahoppbniaaDoor
namespace Th
open Go Go.Lib
def blankC (c : UInt8) : Bool := decide (c.toNat = 32) || decide (c.toNat = 9) || decide (c.toNat = 10) || decide (c.toNat = 13)
def runB (p : UInt8 → Bool) : List UInt8 → Nat
  | [] => 0
  | c :: r => if p c = true then runB p r + 1 else 0
theorem runB_le (p : UInt8 → Bool) : ∀ l : List UInt8, runB p l ≤ l.length
  | [] => Nat.le_refl _
  | c :: r => by
    have := runB_le p r
    simp only [runB, List.length_cons]
    split <;> omega
theorem runB_in (p : UInt8 → Bool) : ∀ (l : List UInt8) (i : Nat) (h : i < l.length), i < runB p l → p l[i] = true
  | c :: r, 0, _, h => by
    simp only [runB] at h
    split at h
    · assumption
    · omega
  | c :: r, i + 1, h, hi => by
    simp only [runB] at hi
    split at hi
    · exact runB_in p r i (by simpa using h) (by omega)
    · omega
theorem runB_at (p : UInt8 → Bool) : ∀ (l : List UInt8) (h : runB p l < l.length), p l[runB p l] = false
  | [], h => by simp at h
  | c :: r, h => by
    by_cases hc : p c = true
    · have e : runB p (c :: r) = runB p r + 1 := by simp only [runB]; rw [if_pos hc]
      have := runB_at p r (by rw [e] at h; simpa using h)
      simp only [e, List.getElem_cons_succ]
      exact this
    · have e : runB p (c :: r) = 0 := by simp only [runB]; rw [if_neg hc]
      simp only [e, List.getElem_cons_zero]
      simpa using hc
theorem runB_stop (p : UInt8 → Bool) (l : List UInt8) (n : Nat) (hn : n ≤ l.length) (h1 : ∀ i (h : i < l.length), i < n → p l[i] = true) (h2 : n = l.length ∨ ∃ h : n < l.length, p l[n] = false) : runB p l = n := by
  rcases Nat.lt_trichotomy (runB p l) n with h | h | h
  · have := runB_at p l (by omega)
    rw [h1 _ _ h] at this; cases this
  · exact h
  · rcases h2 with h2 | ⟨hl, h2⟩
    · have := runB_le p l; omega
    · have := runB_in p l n hl h
      rw [this] at h2; cases h2
end Th
