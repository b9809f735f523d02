/- Lemmas and contracts. Conditions: those that each lemma names. -/
import Derived.Test.YtakncilicoefdaaGreatDoorCards
import Derived.Test.YtakncilicoefdaaGreatDoorTie
import Derived.Test.YtakncilicoefdaaGreatDoorPz3
import Derived.Deep.DeepHandedRow
import Derived.Deep.DeepLaidRun
import Derived.Lib.SmallJoins
import Derived.Deep.AppendLies
import Derived.Deep.DrawnRows
set_option maxRecDepth 100000
set_option maxHeartbeats 4000000
namespace Go.Proofs.YtakncilicoefdaaGreatDoor
open Go Go.Deep Go.WideElems Go.ChangeShapes Go.WideShapes Go.ChangeAt Go.RowKit Go.Proofs Th
theorem own : ownKnob Tryz.prog.godebug = none := by kernel_rfl
theorem Xu : Tryz.prog.globalNamed "thimble/num.tens" = some 0 := by kernel_rfl
theorem aa : Tryz.prog.globalNamed "internal/strconv.uint64pow10" = some 3 := by kernel_rfl
theorem Z4 : (Tryz.prog.globals[0]?).map (·.type) = some 96 := by kernel_rfl
theorem Z5 : (Tryz.prog.globals[3]?).map (·.type) = some 96 := by kernel_rfl
theorem O5 : Tryz.prog.cellsOf 72 = 1 := by kernel_rfl
theorem Ml : Tryz.prog.cellsOf 96 = 20 := by kernel_rfl
noncomputable def YY : List Int := [1, 10, 100, 1000, 10000, 100000, 1000000, 10000000, 100000000, 1000000000, 10000000000, 100000000000, 1000000000000, 10000000000000, 100000000000000, 1000000000000000, 10000000000000000, 100000000000000000, 1000000000000000000, 10000000000000000000]
noncomputable def Xn : DataW Unit → List Value
 | .lit (.int k n) => [.int k n]
 | _ => []
noncomputable def am : DataW Unit → List Value
 | .agg ds => ds.flatMap Xn
 | d => Xn d
noncomputable def flat : DataW Unit → Array Value
 | .agg ds => (ds.flatMap am).toArray
 | _ => #[]
noncomputable def lay (h : Array Obj) (x : String × DataW Unit) : Array Obj :=
 match Tryz.prog.globalNamed x.1 with
 | some g => h.modify g fun
  | .cells _ t frozen => .cells (flat x.2) t frozen
  | o => o
 | none => h
theorem Ut (w : World) (t : Tape) (a : Array Value) : (w.forCall t ⟨#[], a, []⟩).memory.heap = w.heap := by
 simp [World.forCall, World.memory, Input.heap]
theorem RJ {H : Type} {enc : TypeId × Value → H} {P : Program} {f : Func} {s : ChangeSpec} {apart fresh handsOn again : Bool} {W W' : World} {args : Array Value} {v : Value} {ds gs : List (DataW H)} {before pa pv : List MemPlace}
  (hW : DataW.Whole enc P f.params.toList s.vars apart W args.toList ds gs before)
  (hres : ∀ (b : Nat) (sp : Nat → Bool) (hd : Bool), DataW.TrodAll enc P W' b sp hd f.resultTypes.toList (v.resultList f.resultTypes.size) (s.fn H (ds ++ gs)).results [])
  (hargs : ∀ sp : Nat → Bool, (∀ p ∈ before, sp p.block = true) → DataW.TrodAll enc P W' 0 sp true f.params.toList args.toList (s.fn H (ds ++ gs)).args pa)
  (hvars : ∀ sp : Nat → Bool, (∀ p ∈ before, sp p.block = true) → DataW.TrodVars enc P W' sp s.vars (s.fn H (ds ++ gs)).vars pv)
  (hps : before = pa ++ pv) (hb : Below W.heap.size W W')
  (hok : ∀ (j : Nat) (t : TypeId) (r : Value), f.resultTypes[j]? = some t → (v.resultList f.resultTypes.size)[j]? = some r → Value.okWide P W' .any 0 t r) :
  s.post enc P f apart fresh handsOn again W args v W' := by
 have hold : ∀ p ∈ before, (fun b => decide (b < W.heap.size)) p.block = true := fun p hp => by simpa using hW.lt p hp
 have hlt := hW.lt; refine ⟨ds, gs, before, [], pa, pv, hW, hres _ _ _, hargs _ hold, hvars _ hold, World.keptBut_mono (fun p hp => ⟨hp, ?_⟩) (hb.frame (· ∈ before)), fun _ => ?_⟩
 ·rw [hps, List.mem_append] at hp
  exact Or.inr hp
 obtain ⟨_, _, _, _, _, hz, hn⟩ := hW; refine ⟨hok, _, _, ([] ++ pa) ++ pv, ⟨[] ++ pa, pv, trodAll_append (hargs _ (fun _ _ => rfl)) (hres _ _ _), hvars _ (fun _ _ => rfl), rfl, ?_, ?_⟩, ?_⟩
 ·intro b off hp
  have hm : MemPlace.cell b off ∈ before := by rw [hps]; simpa using hp
  rw [hb.frozen (p := ⟨b, off, none⟩) (hlt _ hm)]; exact hz b off hm
 ·intro ha
  have := hn ha; rw [hps] at this; simpa using this
 intro p hp _; rw [hps]; simpa using hp
open Go Go.RowKit Go.Proofs Th
attribute [local go_sem] Above.cell
theorem MA {a b : Int} (h : a = b) : Ending.returned (.int .i64 a) = .returned (.int .i64 b) := by rw [h]
theorem XF (s : ByteArray) (k : Nat) (h : k < s.size) : s.data.toList.drop k = s[k] :: s.data.toList.drop (k + 1) := by
 rw [List.drop_eq_getElem_cons (by simpa using h)]; rfl
theorem Bo (s : ByteArray) (hs : s.size ≤ 9223372036854775807) (w : World) : Calls Tryz.prog 157 #[.string s] w fun r w' => r = .returned (.int .i64 (AK s.data.toList)) ∧ Below w.heap.size w w' := by
 go_enter Tryz.func157, Tryz.ntmps157
 go_wp2
 go_loop [3] (fun i => ∃ k : Nat, k ≤ s.size ∧ AK s.data.toList = k + AK (s.data.toList.drop k) ∧ i = .int .i64 k) (fun i => s.size - (intOf i).toNat)
 case atStart => exact ⟨0, Nat.zero_le _, by simp, rfl⟩
 case round =>
  obtain ⟨k, hk, hn, rfl⟩ := hrel; have HN := Lib.hid hn; clear hn; by_cases hlt : k < s.size
  ·have hd := XF s k hlt
   by_cases h1 : 48 ≤ s[k].toNat
   ·by_cases h2 : s[k].toNat ≤ 57
    ·have HS := Lib.hid (show AK (s.data.toList.drop k) = AK (s.data.toList.drop (k + 1)) + 1 by rw [hd, AK, if_pos ⟨h1, h2⟩])
     clear hd; go_wp2
     go_round
     case rel => exact ⟨k + 1, by omega, by rw [HN.out, HS.out]; omega, by go_num⟩
     case measure => simp [intOf]; omega
    have HS := Lib.hid (show AK (s.data.toList.drop k) = 0 by rw [hd, AK, if_neg (by omega)]); clear hd; go_wp2
    go_ret
    exact ⟨MA (by rw [HN.out, HS.out]; simp), Below.refl _ _⟩
   have HS := Lib.hid (show AK (s.data.toList.drop k) = 0 by rw [hd, AK, if_neg (by omega)]); clear hd; go_wp2
   go_ret
   exact ⟨MA (by rw [HN.out, HS.out]; simp), Below.refl _ _⟩
  have hk' : k = s.size := by omega
  have HS := Lib.hid (show AK (s.data.toList.drop k) = 0 by rw [List.drop_eq_nil_of_le (by simp; omega)]; rfl); go_wp2
  go_ret
  exact ⟨MA (by rw [HN.out, HS.out]; omega), Below.refl _ _⟩
open Go Go.RowKit Go.Proofs Th
theorem L3 (x : Int) (h0 : 0 ≤ x) (h1 : x < 18446744073709551616) : bits BinOp.and IntKind.u64 x 4294967295 = x % 4294967296 := by
 obtain ⟨a, rfl⟩ := Int.eq_ofNat_of_zero_le h0; have h := u64_and_nat a 4294967295 (by omega) (by omega); rw [nat_mask32] at h; simpa using h
theorem S9 (h l : Nat) (hh : h < 10) (hl : l < 1152921504606846976) : bits BinOp.or IntKind.u64 ((h : Int) * 1152921504606846976) (l : Int) = ((h * 1152921504606846976 + l : Nat) : Int) := by
 have e := u64_or_nat (h * 1152921504606846976) l (by omega) (by omega); rw [nat_join 60 _ _ (by simp) (by simpa using hl)] at e; simpa using e
structure LtY (a : Nat) : Prop where
 out : a < 11529215046068469760
structure HiLo (hi lo : Nat) : Prop where
 hi : hi < 10
 lo : lo < 18446744073709551616
def dA (hi lo : Nat) : Nat := hi * 1152921504606846976 + lo / 16
def dB (lo : Nat) : Nat := lo % 16
def dq (a : Nat) : Nat := a / 2684354560
def dr (a : Nat) : Nat := a % 2684354560
def du (a b : Nat) : Nat := dr a * 4294967296 + b * 268435456
theorem r1 : bits BinOp.and IntKind.u64 11529215046068469760 4294967295 = 0 := by rw [L3 _ (by omega) (by omega)]; omega
theorem r2 {hi lo : Nat} (h : HiLo hi lo) : bits BinOp.or IntKind.u64 ((dB hi : Int) * 1152921504606846976) ((lo : Int) / 16) = (dA hi lo : Int) := by
 have e := S9 hi (lo / 16) h.hi (by have := h.lo; omega); have : dB hi = hi := by have := h.hi; unfold dB; omega
 rw [show (((lo / 16 : Nat)) : Int) = (lo : Int) / 16 by omega] at e; rw [this]; exact e
theorem r3 {lo : Nat} : IntKind.u64.wrap ((lo : Int) * 1152921504606846976) = (dB lo : Int) * 1152921504606846976 := by rw [IntKind.wrap_u64]; unfold dB; omega
theorem r4 {lo : Nat} : (dB lo : Int) * 1152921504606846976 / 4294967296 = (dB lo : Int) * 268435456 := by omega
theorem r5 {lo : Nat} : bits BinOp.and IntKind.u64 ((dB lo : Int) * 1152921504606846976) 4294967295 = 0 := by
 have : dB lo < 16 := by unfold dB; omega
 rw [L3 _ (by omega) (by omega)]; omega
theorem r6 {a : Nat} (h : LtY a) : IntKind.u64.wrap ((a : Int).tdiv 2684354560) = (dq a : Int) := by
 have := h.out; rw [Int.tdiv_eq_ediv_of_nonneg (by omega), IntKind.wrap_u64]; unfold dq; omega
theorem r6' {a : Nat} (h : LtY a) : IntKind.u64.wrap ((a : Int) / 2684354560) = (dq a : Int) := by
 have := h.out; rw [IntKind.wrap_u64]; unfold dq; omega
theorem r7 {a : Nat} (h : LtY a) : IntKind.u64.wrap ((a : Int) - IntKind.u64.wrap ((dq a : Int) * 2684354560)) = (dr a : Int) := by
 have := h.out; rw [IntKind.wrap_u64, IntKind.wrap_u64]; unfold dq dr; omega
theorem r8 {a lo : Nat} (h : LtY a) :
  IntKind.u64.wrap (IntKind.u64.wrap (IntKind.u64.wrap ((a : Int) * 4294967296) + (dB lo : Int) * 268435456) - IntKind.u64.wrap ((dq a : Int) * 11529215046068469760)) = (du a (dB lo) : Int) := by
 have := h.out; have : dB lo < 16 := by unfold dB; omega
 rw [IntKind.wrap_u64, IntKind.wrap_u64, IntKind.wrap_u64, IntKind.wrap_u64]; unfold du dq dr; omega
theorem Zh {a : Nat} (h : LtY a) : (4294967296 ≤ (dq a : Int)) = False := by have := h.out; simp; unfold dq; omega
theorem aA {hi lo : Nat} (h : hi < 10) (hl : lo < 18446744073709551616) : dA hi lo < 11529215046068469760 := by unfold dA; omega
theorem ae (a lo : Nat) : du a (dB lo) < 11529215046068469760 := by unfold du dr dB; omega
theorem W7 (hi lo : Nat) (h : hi < 10) (hl : lo < 18446744073709551616) :
  IntKind.u64.wrap (IntKind.u64.wrap ((dq (dA hi lo) : Int) * 4294967296) + (dq (du (dA hi lo) (dB lo)) : Int)) = (((hi * 18446744073709551616 + lo) / 10 : Nat) : Int) := by
 rw [IntKind.wrap_u64, IntKind.wrap_u64]; unfold du dq dr dA dB; omega
theorem Tc (x y : Int) : IntKind.u64.wrap (IntKind.u64.wrap (IntKind.u64.wrap x) - IntKind.u64.wrap y) = (x - y) % 18446744073709551616 := by
 simp only [IntKind.wrap_u64]; omega
theorem Xm (u : Nat) : IntKind.u64.wrap (IntKind.u64.wrap (IntKind.u64.wrap ((u : Int) * 4294967296)) - IntKind.u64.wrap ((dq u : Int) * 11529215046068469760)) / 1152921504606846976 = ((u % 2684354560 / 268435456 : Nat) : Int) := by
 rw [Tc]; have h1 : (u : Int) * 4294967296 - (dq u : Int) * 11529215046068469760 = ((u % 2684354560 : Nat) : Int) * 4294967296 := by unfold dq; omega
 rw [h1]; have h2 : u % 2684354560 < 2684354560 := Nat.mod_lt _ (by omega); generalize u % 2684354560 = r at *; omega
theorem Wu (hi lo : Nat) :
  IntKind.u64.wrap (IntKind.u64.wrap (IntKind.u64.wrap ((du (dA hi lo) (dB lo) : Int) * 4294967296)) - IntKind.u64.wrap ((dq (du (dA hi lo) (dB lo)) : Int) * 11529215046068469760)) / 1152921504606846976 =
   (((hi * 18446744073709551616 + lo) % 10 : Nat) : Int) := by
 have e1 : du (dA hi lo) (dB lo) % 2684354560 / 268435456 = (hi * 18446744073709551616 + lo) % 10 := by unfold du dr dA dB; omega
 rw [← e1]; exact Xm _
theorem VB {n : Int} : (IntKind.u64.wrap n < 0) = False := by rw [IntKind.wrap_u64]; simp; omega
attribute [local go_sem] Zh VB r1 r2 r3 r4 r5 r6 r6' r7 r8
theorem OQ {a b c d : Int} (h1 : a = c) (h2 : b = d) : Ending.returned (.tuple #[.int .u64 a, .int .u64 b]) = .returned (.tuple #[.int .u64 c, .int .u64 d]) := by rw [h1, h2]
theorem Qx (lo : Nat) (hl : lo < 18446744073709551616) (w : World) : Calls Tryz.prog 174 #[.int .u64 0, .int .u64 lo, .int .u64 10] w fun r w' =>
  r = .returned (.tuple #[.int .u64 ((lo / 10 : Nat) : Int), .int .u64 ((lo % 10 : Nat) : Int)]) ∧ Below w.heap.size w w' := by
 go_enter Tryz.func174, Tryz.ntmps174
 go_wp2
 refine A9 (by kernel_rfl) (by kernel_rfl) ?_; repeat (go_big_quiet_step (fail))
 refine wpQuiet_nil ?_; rintro _ ⟨z, rfl⟩; go_wp2
 go_ret2
 exact ⟨by simp, z.property⟩
theorem TW (hi lo : Nat) (h0 : 0 < hi) (hh : hi < 10) (hl : lo < 18446744073709551616) (w : World) : Calls Tryz.prog 174 #[.int .u64 hi, .int .u64 lo, .int .u64 10] w fun r w' =>
  r = .returned (.tuple #[.int .u64 (((hi * 18446744073709551616 + lo) / 10 : Nat) : Int), .int .u64 (((hi * 18446744073709551616 + lo) % 10 : Nat) : Int)]) ∧ Below w.heap.size w w' := by
 have g1 : ((hi : Int) == 0) = false := by simp; omega
 have hbl : (64 - (Lib.bitLen 10 : Int)) = 60 := by decide
 have HB := Lib.hid hbl; clear hbl; have HK := HiLo.mk hh hl; have HA := LtY.mk (aA hh hl); have HU := LtY.mk (ae (dA hi lo) lo); have HF1 := Keep.mk (W7 hi lo hh hl); have HF2 := Keep.mk (Wu hi lo); clear hl; go_enter Tryz.func174, Tryz.ntmps174
 go_wp2_with fail
 refine (Tryz.bits_LeadingZeros64 10 _ (by omega) (by omega)).mono ?_; rintro e w' ⟨rfl, rfl⟩; rw [show (10 : Int).toNat = 10 from rfl, HB.out]; go_wp2
 refine wp_loop_once ?_; go_wp2
 refine wp_loop_once ?_; go_wp2
 go_ret2
 exact ⟨OQ HF1.out HF2.out, Below.refl _ _⟩
theorem S7 (hi lo : Nat) (hh : hi < 10) (hl : lo < 18446744073709551616) (w : World) : Calls Tryz.prog 174 #[.int .u64 hi, .int .u64 lo, .int .u64 10] w fun r w' =>
  r = .returned (.tuple #[.int .u64 (((hi * 18446744073709551616 + lo) / 10 : Nat) : Int), .int .u64 (((hi * 18446744073709551616 + lo) % 10 : Nat) : Int)]) ∧ Below w.heap.size w w' := by
 by_cases h : hi = 0
 ·subst h
  have := Qx lo hl w; simpa using this
 exact TW hi lo (by omega) hh hl w
theorem IE (h l : Int) (h0 : 0 ≤ h) (h1 : h < 10) (l0 : 0 ≤ l) (l1 : l < 18446744073709551616) (w : World) : Calls Tryz.prog 174 #[.int .u64 h, .int .u64 l, .int .u64 10] w fun r w' =>
  r = .returned (.tuple #[.int .u64 (Je h l), .int .u64 (MY h l)]) ∧ Below w.heap.size w w' := by
 obtain ⟨h, rfl⟩ := Int.eq_ofNat_of_zero_le h0; obtain ⟨l, rfl⟩ := Int.eq_ofNat_of_zero_le l0; refine (S7 h l (by omega) (by omega) w).mono ?_; rintro e w' ⟨rfl, hb⟩; refine ⟨OQ ?_ ?_, hb⟩
 ·unfold Je; omega
 unfold MY; omega
open Go Go.RowKit Go.Proofs Th
open Go Go.RowKit Go.Proofs Th
def Oh (n : Nat) : Int := if n = 2 then 192 else if n = 3 then 224 else if n = 4 then 240 else 0
open Go Go.RowKit Go.Proofs Th
open Go Go.RowKit Go.Proofs Th
def Utf (w : World) : Prop := Lib.Utf8Tabs 1 2 w
theorem Utf.below {w w' : World} (h : Utf w) (b : Below w.heap.size w w') : Utf w' := by
 refine ⟨fun c hc => (b.cell (BX (h.1 c hc))).trans (h.1 c hc), fun i hi => ⟨(b.cell (BX (h.2 i hi).1)).trans (h.2 i hi).1, (b.cell (BX (h.2 i hi).2)).trans (h.2 i hi).2⟩⟩
theorem VC (l : List UInt8) (hb : ¬ CV l) : (Lib.decodeL l).1 < 55296 ∨ (57343 < (Lib.decodeL l).1 ∧ (Lib.decodeL l).1 ≤ 1114111) := by
 unfold CV at hb; rw [Lib.decodeL_N] at hb ⊢; have k0 := (l.getD 0 0).toNat_lt; rcases Lib.decodeN_shape l.length (l.getD 0 0).toNat (l.getD 1 0).toNat (l.getD 2 0).toNat (l.getD 3 0).toNat with ⟨c, e⟩ | ⟨c1, c2, c3, cv, e⟩ | ⟨c1, c2, c3, c4, cv, cs, e⟩ | ⟨c1, c2, c3, c4, c5, cv, cw, e⟩ | e
 all_goals (rw [e] at hb ⊢; dsimp only at hb ⊢)
 ·omega
 ·omega
 ·omega
 ·omega
 exact absurd ⟨rfl, rfl⟩ hb
theorem Wm (w : World) (s : ByteArray) {k : Nat} (h : w.heap.size = k) : Iter (w.iter s 0) k s 0 := by
 subst h; exact World.iter_heap w s 0
theorem Ms (w : World) (s : ByteArray) (pos : Nat) : Below w.heap.size w (w.iter s pos) := al1 w _
theorem WW {w W : World} (h : Below w.heap.size w W) {k : Nat} (hk : w.heap.size ≤ k) (s : ByteArray) (pos : Nat) : Below w.heap.size w (W.iterAt k s pos) := Lib.below_iterAt h hk s pos
theorem Vd {w : World} {base : Nat} {v : Value} {bs : List UInt8} (h : OwnB w base v bs) (s : ByteArray) (pos : Nat) : OwnB (w.iter s pos) base v bs := h.below (Ms w s pos) (Nat.le_refl _)
theorem ak : ∀ X : Fin 32, bits .and .i32 ((X.val : Nat) : Int) 15 = ((X.val % 16 : Nat) : Int) := by decide
theorem Y7 : ∀ (d : Nat), d < 16 → ∀ w : World, (Instr.index 9 (.string ⟨#[48, 49, 50, 51, 52, 53, 54, 55, 56, 57, 97, 98, 99, 100, 101, 102]⟩) (.int .i32 (d : Int))).run Tryz.prog w = .ok (.int .u8 ((DB d).toNat : Int)) w := by
 intro d h w; have : d = 0 ∨ d = 1 ∨ d = 2 ∨ d = 3 ∨ d = 4 ∨ d = 5 ∨ d = 6 ∨ d = 7 ∨ d = 8 ∨ d = 9 ∨ d = 10 ∨ d = 11 ∨ d = 12 ∨ d = 13 ∨ d = 14 ∨ d = 15 := by omega
 rcases this with rfl | rfl | rfl | rfl | rfl | rfl | rfl | rfl | rfl | rfl | rfl | rfl | rfl | rfl | rfl | rfl
 all_goals (clear h; revert w; intro w; first | rfl | (show _ = _; kernel_rfl))
theorem Ku (B : Nat) (v : Value) (acc : List UInt8) (c : Nat) (hc : c ≤ 1114111) (w : World) (hO : OwnB w B v acc) (hl : acc.length ≤ 100000000000) (hB : B ≤ w.heap.size) :
  Calls Tryz.prog 90 #[v, .int .i32 c] w fun r w' => ∃ v', r = .returned v' ∧ OwnB w' B v' (acc ++ Lib.encodeRune c) ∧ Below B w w' ∧ (∀ k s pos, Iter w k s pos → Iter w' k s pos) := by
 refine (Tryz.utf8_AppendRune_plain B v acc.length (Lib.byteCells acc) c (by omega) (by omega) w hO (by omega) hB).mono ?_; rintro r w' ⟨v', rfl, h1, o, h2⟩; refine ⟨v', rfl, ?_, ((Below.refl B w).alloc hB o).grown h2 (by simp; omega) fun k hk => (World.ownsRow.lt hO k hk).1, fun k s pos hi => (hi.alloc o).grown (hO.alloc o) h2⟩; unfold OwnB; rw [List.length_append, Lib.byteCells_append, Lib.byteCells_encodeRune, ← Lib.runeCells_length]; exact h1
theorem Kt (s : ByteArray) (hs : s.size ≤ 9223372036854775807) (w : World) (hu : Utf w) : Calls Tryz.prog 63 #[.string s] w fun r w' => r = .returned (.bool (Lib.validD s.data.toList)) ∧ Below w.heap.size w w' := by
 go_enter Tryz.func63, Tryz.ntmps63
 go_wp2_with fail
 refine (Tryz.utf8_ValidString s _ hs hu).mono ?_; rintro r w1 ⟨rfl, hb⟩; go_wp2
 go_ret
 exact ⟨rfl, hb⟩
theorem Qn (s : ByteArray) (hs : s.size ≤ 1000000000) (hv : Lib.validD s.data.toList = true) (w : World) (hu : Utf w) : Calls Tryz.prog 55 #[.string s] w fun r w' => ∃ b : ByteArray, r = .returned (.tuple #[.string b, .int .i64 0]) ∧ b.data.toList = D8 s.data.toList ∧ Below w.heap.size w w' := by
 have hbl := K1 s.data.toList; rw [Ai] at hbl; have HV := Keep.mk hv; go_enter Tryz.func55, Tryz.ntmps55
 go_wp2_with fail
 refine (Kt s (by omega) _ hu).mono ?_; rw [hv]; rintro r w1 ⟨rfl, hb⟩; have HB := Keep.mk hb; clear hb hv; go_upto_block 0 with fail
 refine GV (fun W => OwnB W w1.heap.size (.slice (some ⟨w1.heap.size, 0, none⟩) 1 1) [34] ∧ Iter W (w1.heap.size + 1) s 0 ∧ Below w.heap.size w W)
  ⟨Vd (OwnB.new (w := w1) [34] rfl (Nat.le_refl _) (by simp [maxLen]) rfl) s 0, Wm _ _ (by simp), up (up HB.out (al1 _ _)) (Ms _ _ _)⟩ ?_
 have hwB := HB.out.size; generalize w1.heap.size = B at *; rintro W0 ⟨HO0, HI0, HB0⟩; replace HO0 := Keep.mk HO0; replace HI0 := Keep.mk HI0; replace HB0 := Keep.mk HB0; clear HB; go_cut [4] (fun s4 wx => ∃ (v : Value) (acc : List UInt8), v = s4 ∧ B ≤ wx.heap.size ∧ Keep (OwnB wx B v acc) ∧ Keep (acc = 34 :: Bk s.data.toList) ∧ Keep (Below w.heap.size w wx))
 case first =>
  go_wp2_with fail
  go_loopg [4] s.size (fun gk v' wr => ∃ (v : Value) (pos : Nat) (acc : List UInt8), v = v' ∧ pos + gk = s.size ∧ acc.length + (Bk (s.data.toList.drop pos)).length = 1 + (Bk s.data.toList).length ∧ Keep (OwnB wr B v acc) ∧ Keep (Iter wr (B + 1) s pos) ∧ Keep (acc ++ Bk (s.data.toList.drop pos) = 34 :: Bk s.data.toList) ∧ Keep (Lib.validD (s.data.toList.drop pos) = true) ∧ Keep (Below w.heap.size w wr))
  case atStart => exact ⟨_, 0, [34], rfl, by omega, by rw [List.drop_zero]; rfl, HO0, HI0, ⟨by rw [List.drop_zero]; rfl⟩, ⟨by rw [List.drop_zero]; exact HV.out⟩, HB0⟩
  case round =>
   clear HO0 HI0 HB0; obtain ⟨v, pos, acc, rfl, hpos, hlen, HO, HI, HA, HT, HW⟩ := hrel; by_cases hp : pos < s.size
   ·have hgk : gk ≠ 0 := by omega
    have hne : s.data.toList.drop pos ≠ [] := by
     intro h; have h2 := congrArg List.length h; rw [List.length_drop, Ai] at h2; simp at h2; omega
    have hnb : ¬ CV (s.data.toList.drop pos) := by
     intro hb; have := HT.out; rw [CM _ hne, if_pos hb] at this; cases this
    have hst := Fo _ hne; have hvt := CM _ hne; rw [if_neg hnb, HT.out] at hvt; have hr := VC _ hnb; have hn1 := Lib.decodeL_width (s.data.toList.drop pos); have hn2 := Lib.decodeL_le _ hne; rw [List.length_drop, Ai] at hn2; have hdd := Lib.decodeL_drop s pos; obtain ⟨⟨c, n⟩, hcn⟩ : ∃ x, Lib.decodeL (s.data.toList.drop pos) = x := ⟨_, rfl⟩
    rw [hcn] at hst hvt hr hn1 hn2 hdd; simp only [List.drop_drop] at hst hvt hr hn1 hn2; have hnx : ∀ ty, (Instr.next (.pointer (some ⟨B + 1, 0, none⟩)) true ty).run Tryz.prog wr = .ok (.tuple #[.bool true, .int .i64 pos, .int .i32 c]) (wr.iterAt (B + 1) s (pos + n)) := fun ty => by
     have := Lib.run_next_any_at (P := Tryz.prog) wr (B + 1) s pos ty HI.out hp; rw [← hdd] at this; exact this
    have hle := QX c; have hsl : (Bk (s.data.toList.drop pos)).length = (CA c).length + (Bk (s.data.toList.drop (pos + n))).length := by rw [hst, List.length_append]
    have HST := Keep.mk hst; have HVT := Keep.mk hvt.symm; clear hne hnb hst hvt hdd hcn; go_upto_block 2 with fail
    refine GV (fun W => OwnB W B v acc ∧ Iter W (B + 1) s (pos + n) ∧ Below w.heap.size w W) ⟨HO.out.iter HI.out _, Lib.iterAt_heap _ _ _ _ _ HI.out, WW HW.out (by omega) _ _⟩ ?_; clear hnx HO HI HW; rintro W1 ⟨HO, HI, HW⟩; replace HO := Keep.mk HO; replace HI := Keep.mk HI; replace HW := Keep.mk HW; have hwB1 : B ≤ W1.heap.size := by have := HI.out.lt; omega
    have HREL : Keep (∀ (v9 : Value) (w9 : World), OwnB w9 B v9 (acc ++ CA c) → Iter w9 (B + 1) s (pos + n) → Below w.heap.size w w9 → ∃ (v : Value) (pos' : Nat) (acc' : List UInt8), v = v9 ∧ pos' + (gk - n) = s.size ∧ acc'.length + (Bk (s.data.toList.drop pos')).length = 1 + (Bk s.data.toList).length ∧ Keep (OwnB w9 B v acc') ∧ Keep (Iter w9 (B + 1) s pos') ∧ Keep (acc' ++ Bk (s.data.toList.drop pos') = 34 :: Bk s.data.toList) ∧ Keep (Lib.validD (s.data.toList.drop pos') = true) ∧ Keep (Below w.heap.size w w9)) :=
     ⟨fun v9 w9 h1 h2 h3 => ⟨v9, pos + n, acc ++ CA c, rfl, by omega, by rw [List.length_append]; omega, ⟨h1⟩, ⟨h2⟩, ⟨by rw [← HA.out, HST.out, List.append_assoc]⟩, HVT, ⟨h3⟩⟩⟩
    have hal : acc.length ≤ 10000000000 := by omega
    clear hlen hsl hle HA HST HVT hpos; by_cases h34 : c = 34
    ·subst h34
     have HE := Keep.mk (show CA 34 = [92, 34] by decide); go_wp2_with (at_builtin; refine BQ rfl (.tmp 26) (.tmp 29) rfl B v acc rfl (HO.out.alloc _) ⟨W1.heap.size, 0, none⟩ 2 2 [92, 34] rfl rfl (Do [92, 34] _ rfl) (by simp; omega) (by simp; omega) ?_)
     intro v9 w9 hO9 hb9 hi9; go_wp2
     go_roundg (gk - n)
     case rel => exact HREL.out v9 w9 (by rw [HE.out]; exact hO9) (hi9 _ _ _ (HI.out.alloc _)) (HW.out.trans ((al1 _ _).mono HW.out.size |>.trans (hb9.mono hwB)))
     case measure => omega
    by_cases h92 : c = 92
    ·subst h92
     have HE := Keep.mk (show CA 92 = [92, 92] by decide); go_wp2_with (at_builtin; refine BQ rfl (.tmp 26) (.tmp 29) rfl B v acc rfl (HO.out.alloc _) ⟨W1.heap.size, 0, none⟩ 2 2 [92, 92] rfl rfl (Do [92, 92] _ rfl) (by simp; omega) (by simp; omega) ?_)
     intro v9 w9 hO9 hb9 hi9; go_wp2
     go_roundg (gk - n)
     case rel => exact HREL.out v9 w9 (by rw [HE.out]; exact hO9) (hi9 _ _ _ (HI.out.alloc _)) (HW.out.trans ((al1 _ _).mono HW.out.size |>.trans (hb9.mono hwB)))
     case measure => omega
    by_cases h8 : c = 8
    ·subst h8
     clear h34 h92; have HE := Keep.mk (show CA 8 = [92, 98] by decide); go_wp2_with (at_builtin; refine BQ rfl (.tmp 34) (.tmp 35) rfl B v acc rfl (HO.out.alloc _) ⟨W1.heap.size, 0, none⟩ 2 2 [92, 98] rfl rfl (Do [92, 98] _ rfl) (by simp; omega) (by simp; omega) ?_)
     intro v9 w9 hO9 hb9 hi9; go_wp2
     go_roundg (gk - n)
     case rel => exact HREL.out v9 w9 (by rw [HE.out]; exact hO9) (hi9 _ _ _ (HI.out.alloc _)) (HW.out.trans ((al1 _ _).mono HW.out.size |>.trans (hb9.mono hwB)))
     case measure => omega
    by_cases h9 : c = 9
    ·subst h9
     clear h34 h92; have HE := Keep.mk (show CA 9 = [92, 116] by decide); go_wp2_with (at_builtin; refine BQ rfl (.tmp 40) (.tmp 41) rfl B v acc rfl (HO.out.alloc _) ⟨W1.heap.size, 0, none⟩ 2 2 [92, 116] rfl rfl (Do [92, 116] _ rfl) (by simp; omega) (by simp; omega) ?_)
     intro v9 w9 hO9 hb9 hi9; go_wp2
     go_roundg (gk - n)
     case rel => exact HREL.out v9 w9 (by rw [HE.out]; exact hO9) (hi9 _ _ _ (HI.out.alloc _)) (HW.out.trans ((al1 _ _).mono HW.out.size |>.trans (hb9.mono hwB)))
     case measure => omega
    by_cases h10 : c = 10
    ·subst h10
     clear h34 h92; have HE := Keep.mk (show CA 10 = [92, 110] by decide); go_wp2_with (at_builtin; refine BQ rfl (.tmp 46) (.tmp 47) rfl B v acc rfl (HO.out.alloc _) ⟨W1.heap.size, 0, none⟩ 2 2 [92, 110] rfl rfl (Do [92, 110] _ rfl) (by simp; omega) (by simp; omega) ?_)
     intro v9 w9 hO9 hb9 hi9; go_wp2
     go_roundg (gk - n)
     case rel => exact HREL.out v9 w9 (by rw [HE.out]; exact hO9) (hi9 _ _ _ (HI.out.alloc _)) (HW.out.trans ((al1 _ _).mono HW.out.size |>.trans (hb9.mono hwB)))
     case measure => omega
    by_cases h12 : c = 12
    ·subst h12
     clear h34 h92; have HE := Keep.mk (show CA 12 = [92, 102] by decide); go_wp2_with (at_builtin; refine BQ rfl (.tmp 52) (.tmp 53) rfl B v acc rfl (HO.out.alloc _) ⟨W1.heap.size, 0, none⟩ 2 2 [92, 102] rfl rfl (Do [92, 102] _ rfl) (by simp; omega) (by simp; omega) ?_)
     intro v9 w9 hO9 hb9 hi9; go_wp2
     go_roundg (gk - n)
     case rel => exact HREL.out v9 w9 (by rw [HE.out]; exact hO9) (hi9 _ _ _ (HI.out.alloc _)) (HW.out.trans ((al1 _ _).mono HW.out.size |>.trans (hb9.mono hwB)))
     case measure => omega
    by_cases h13 : c = 13
    ·subst h13
     clear h34 h92; have HE := Keep.mk (show CA 13 = [92, 114] by decide); go_wp2_with (at_builtin; refine BQ rfl (.tmp 58) (.tmp 59) rfl B v acc rfl (HO.out.alloc _) ⟨W1.heap.size, 0, none⟩ 2 2 [92, 114] rfl rfl (Do [92, 114] _ rfl) (by simp; omega) (by simp; omega) ?_)
     intro v9 w9 hO9 hb9 hi9; go_wp2
     go_roundg (gk - n)
     case rel => exact HREL.out v9 w9 (by rw [HE.out]; exact hO9) (hi9 _ _ _ (HI.out.alloc _)) (HW.out.trans ((al1 _ _).mono HW.out.size |>.trans (hb9.mono hwB)))
     case measure => omega
    by_cases h32 : c < 32
    ·have HE := Keep.mk (show CA c = [92, 117, 48, 48, DB (c / 16), DB (c % 16)] by
      unfold CA; rw [if_neg (by omega), if_neg h8, if_neg h9, if_neg h10, if_neg h12, if_neg h13, if_pos h32])
     have b0 : ((c : Int) == 34) = false := by simp; omega
     have b1 : ((c : Int) == 92) = false := by simp; omega
     have b2 : ((c : Int) == 8) = false := by simp; omega
     have b3 : ((c : Int) == 9) = false := by simp; omega
     have b4 : ((c : Int) == 10) = false := by simp; omega
     have b5 : ((c : Int) == 12) = false := by simp; omega
     have b6 : ((c : Int) == 13) = false := by simp; omega
     have hlt : (c : Int) < 32 := by omega
     clear h34 h92 h8 h9 h10 h12 h13; obtain ⟨q, hq⟩ : ∃ q : Nat, (c : Int) / 16 = q := ⟨c / 16, by push_cast; rfl⟩
     have hqe : c / 16 = q := by omega
     obtain ⟨m, hm⟩ : ∃ m : Nat, c % 16 = m := ⟨_, rfl⟩
     have hand : bits .and .i32 (c : Int) 15 = m := by
      have := ak ⟨c, by omega⟩; rw [hm] at this; exact this
     rw [hqe, hm] at HE; have hiq := Y7 q (by omega); have him := Y7 m (by omega); have hq2 : q < 2 := by omega
     have hm2 : m < 16 := by omega
     generalize DB q = x1 at *; generalize DB m = x2 at *; clear hqe hm; go_upto_region 21 with fail
     go_region_law ((refine Kl rfl (.tmp 64) (.tmp 71) rfl B v acc (by simp [Act.eval]) (by first | exact HO.out.alloc _ | exact (HO.out.below (ED _) (Nat.le_refl _)).alloc _ | exact (HO.out.alloc _).below (ED _) (Nat.le_refl _)) ⟨W1.heap.size, 0, none⟩ 6 6 [92, 117, 48, 48, x1, x2] rfl (by simp [Act.eval]) (by first | exact Do _ _ rfl | exact My _ _ rfl) (by simp; omega) (by simp; omega) ?_; intro v9 w9 hO9 hb9 hi9))
     all_goals
      go_wp2
      go_roundg (gk - n)
      case rel => exact HREL.out v9 w9 (by rw [HE.out]; exact hO9) (hi9 _ _ _ (by first | exact HI.out.alloc _ | exact (HI.out.alloc _).below (ED _))) (HW.out.trans (((by first | exact al1 _ _ | exact up (ED _) (al1 _ _) | exact up (al1 _ _) (ED _) : Below W1.heap.size W1 _)).mono HW.out.size |>.trans (hb9.mono hwB)))
      case measure => omega
    have HE := Keep.mk (show CA c = Lib.encodeRune c by
     unfold CA; rw [if_neg (by omega), if_neg h8, if_neg h9, if_neg h10, if_neg h12, if_neg h13, if_neg h32])
    have b0 : ((c : Int) == 34) = false := by simp; omega
    have b1 : ((c : Int) == 92) = false := by simp; omega
    have b2 : ((c : Int) == 8) = false := by simp; omega
    have b3 : ((c : Int) == 9) = false := by simp; omega
    have b4 : ((c : Int) == 10) = false := by simp; omega
    have b5 : ((c : Int) == 12) = false := by simp; omega
    have b6 : ((c : Int) == 13) = false := by simp; omega
    have hlt : ¬ (c : Int) < 32 := by omega
    clear h34 h92 h8 h9 h10 h12 h13 h32; go_wp2_with fail
    refine (Ku B v acc c (by omega) W1 HO.out (by omega) hwB1).mono ?_; rintro r w9 ⟨v9, rfl, hO9, hb9, hi9⟩; go_wp2
    go_roundg (gk - n)
    case rel => exact HREL.out v9 w9 (by rw [HE.out]; exact hO9) (hi9 _ _ _ HI.out) (HW.out.trans (hb9.mono hwB))
    case measure => omega
   have hnx : ∀ ty, (Instr.next (.pointer (some ⟨B + 1, 0, none⟩)) true ty).run Tryz.prog wr = _ := fun ty => Lib.run_next_end_at (P := Tryz.prog) wr (B + 1) s pos ty HI.out hp
   have hdr : s.data.toList.drop pos = [] := List.drop_eq_nil_of_le (by rw [Ai]; omega); have HE := Keep.mk (show acc = 34 :: Bk s.data.toList by rw [← HA.out, hdr, JE, List.append_nil]); clear hdr; go_wp2_with fail
   go_meet
   exact ⟨v, acc, rfl, by have := HI.out.lt; omega, HO, HE, HW⟩
 case rest =>
  clear HO0 HI0 HB0; obtain ⟨v, acc, rfl, hwB1, HO, HE, HW⟩ := hcut; have hal : acc.length ≤ 10000000000 := by rw [HE.out, List.length_cons]; omega
  go_wp2_with (at_builtin; refine BQ rfl (.tmp 73) (.tmp 74) rfl B v acc rfl (HO.out.alloc _) ⟨wc.heap.size, 0, none⟩ 1 1 [34] rfl rfl (Do [34] _ rfl) (by simp; omega) (by simp; omega) ?_)
  intro v9 w9 hO9 hb9 _; have HS := Keep.mk hO9.string; have hs9 := HS.out; go_wp2
  go_ret2
  exact ⟨_, rfl, by rw [Xr, HE.out]; rfl, HW.out.trans (((al1 _ _).mono HW.out.size).trans (hb9.mono hwB))⟩
end Go.Proofs.YtakncilicoefdaaGreatDoor
namespace Th
open Go Go.Lib
def CI (c : UInt8) : Bool := decide (c.toNat = 32) || decide (c.toNat = 9) || decide (c.toNat = 10) || decide (c.toNat = 13)
def Bi (p : UInt8 → Bool) : List UInt8 → Nat
 | [] => 0
 | c :: r => if p c = true then Bi p r + 1 else 0
theorem H6 (p : UInt8 → Bool) : ∀ l : List UInt8, Bi p l ≤ l.length
 | [] => Nat.le_refl _
 | c :: r => by
  have := H6 p r; simp only [Bi, List.length_cons]; split <;> omega
theorem Rn (p : UInt8 → Bool) : ∀ (l : List UInt8) (i : Nat) (h : i < l.length), i < Bi p l → p l[i] = true
 | c :: r, 0, _, h => by
  simp only [Bi] at h; split at h
  ·assumption
  omega
 | c :: r, i + 1, h, hi => by
  simp only [Bi] at hi; split at hi
  ·exact Rn p r i (by simpa using h) (by omega)
  omega
theorem Kb (p : UInt8 → Bool) : ∀ (l : List UInt8) (h : Bi p l < l.length), p l[Bi p l] = false
 | [], h => by simp at h
 | c :: r, h => by
  by_cases hc : p c = true
  ·have e : Bi p (c :: r) = Bi p r + 1 := by simp only [Bi]; rw [if_pos hc]
   have := Kb p r (by rw [e] at h; simpa using h); simp only [e, List.getElem_cons_succ]; exact this
  have e : Bi p (c :: r) = 0 := by simp only [Bi]; rw [if_neg hc]
  simp only [e, List.getElem_cons_zero]; simpa using hc
theorem Tg (p : UInt8 → Bool) (l : List UInt8) (n : Nat) (hn : n ≤ l.length) (h1 : ∀ i (h : i < l.length), i < n → p l[i] = true) (h2 : n = l.length ∨ ∃ h : n < l.length, p l[n] = false) : Bi p l = n := by
 rcases Nat.lt_trichotomy (Bi p l) n with h | h | h
 ·have := Kb p l (by omega)
  rw [h1 _ _ h] at this; cases this
 ·exact h
 rcases h2 with h2 | ⟨hl, h2⟩
 ·have := H6 p l; omega
 have := Rn p l n hl h; rw [this] at h2; cases h2
end Th
namespace Th
open Go Go.Lib
theorem QO {a : List UInt8} (b : List UInt8) (hne : a ≠ []) (h : ¬ CV a) : ¬ CV (a ++ b) := by
 unfold CV at *; rw [EN a b hne h]; exact h
/-! texts in quotes -/
theorem Nx (n : Nat) (h : n < 16) : EQ (DB n) = some n := by
 revert h; revert n; decide
theorem UM (c : Nat) (h : c < 32) (r : List UInt8) : CY (48 :: 48 :: DB (c / 16) :: DB (c % 16) :: r) = some c := by
 unfold CY; simp only [Ex, show EQ 48 = some 0 from rfl, Nx (c / 16) (by omega), Nx (c % 16) (by omega)]; congr 1; omega
theorem JA (c : Nat) : encodeRune (c : Int) ≠ [] := by
 unfold encodeRune encodeRuneZ; repeat' split
 all_goals simp
theorem KB (c : Nat) : ¬ CV (encodeRune (c : Int)) := by
 intro h; have hv := IR (c : Int); rw [CM _ (JA c), if_pos h] at hv; cases hv
theorem R8 : ∀ (n : Nat) (l : List UInt8), l.length ≤ n → validD l = true → ∀ r, CB (Bk l ++ 34 :: r) = some (l, (Bk l).length + 1) := by
 intro n; induction n with
 | zero => intro l h _ r; obtain rfl : l = [] := List.eq_nil_of_length_eq_zero (by omega); rw [JE, List.nil_append, DF, if_pos rfl]; rfl
 | succ n ih =>
  intro l h hv r; by_cases hne : l = []
  ·subst hne; rw [JE, List.nil_append, DF, if_pos rfl]; rfl
  rw [CM l hne] at hv; by_cases hb : CV l
  ·rw [if_pos hb] at hv; cases hv
  rw [if_neg hb] at hv; have hw := decodeL_width l; have hle := decodeL_le l hne; have hl : 0 < l.length := List.length_pos_iff.2 hne; have hi := ih (l.drop (decodeL l).2) (by rw [List.length_drop]; omega) hv r; have he : encodeRune ((decodeL l).1 : Int) = l.take (decodeL l).2 := encode_decode l hne hb; have hd : decodeL (l.take (decodeL l).2) = decodeL l := by
   have h1 : decodeL (l.take (decodeL l).2 ++ l.drop (decodeL l).2) = decodeL (l.take (decodeL l).2) := EN _ _ (by rw [← he]; exact JA _) (by rw [← he]; exact KB _); rw [List.take_append_drop] at h1; exact h1.symm
  have hsplit : l = encodeRune ((decodeL l).1 : Int) ++ l.drop (decodeL l).2 := by rw [he, List.take_append_drop]
  rw [Fo l hne, List.append_assoc]; generalize hX : Bk (l.drop (decodeL l).2) = X at *; generalize hc : (decodeL l).1 = c at *; have hz : ∀ (c : UInt8) (t : List UInt8) (k : Nat), CK (c :: t) = some (k, 1) → CB (92 :: c :: t) = (CB t).map fun p => (encodeRune (k : Int) ++ p.1, p.2 + 1 + 1) := by
   intro c t k hk; rw [DF, if_neg (by decide), if_neg (by decide), if_pos rfl, hk]; rfl
  have two : ∀ (d : UInt8), CA c = [92, d] → CK (d :: (X ++ 34 :: r)) = some (c, 1) → CB (CA c ++ (X ++ 34 :: r)) = some (l, (CA c ++ X).length + 1) := by
   intro d h1 h2; rw [h1]; show CB (92 :: d :: (X ++ 34 :: r)) = _
   rw [hz d _ c h2, hi]; simp only [Option.map_some, ← hsplit]; congr 2
  by_cases c1 : c = 34 ∨ c = 92
  ·refine two (UInt8.ofNat c) (by unfold CA; rw [if_pos c1]) ?_
   rcases c1 with rfl | rfl <;> rfl
  by_cases c2 : c = 8
  ·refine two 98 (by subst c2; rfl) ?_; subst c2; rfl
  by_cases c3 : c = 9
  ·refine two 116 (by subst c3; rfl) ?_; subst c3; rfl
  by_cases c4 : c = 10
  ·refine two 110 (by subst c4; rfl) ?_; subst c4; rfl
  by_cases c5 : c = 12
  ·refine two 102 (by subst c5; rfl) ?_; subst c5; rfl
  by_cases c6 : c = 13
  ·refine two 114 (by subst c6; rfl) ?_; subst c6; rfl
  by_cases c7 : c < 32
  ·have h1 : CA c = [92, 117, 48, 48, DB (c / 16), DB (c % 16)] := by
    unfold CA; rw [if_neg c1, if_neg c2, if_neg c3, if_neg c4, if_neg c5, if_neg c6, if_pos c7]
   have h4 := UM c c7 (X ++ 34 :: r); have hu : DJ (48 :: 48 :: DB (c / 16) :: DB (c % 16) :: (X ++ 34 :: r)) = some (c, 4) := by
    unfold DJ; rw [h4]; simp only; rw [if_neg (by omega), if_pos (by omega)]
   rw [h1]; show CB (92 :: 117 :: 48 :: 48 :: DB (c / 16) :: DB (c % 16) :: (X ++ 34 :: r)) = _
   rw [DF, if_neg (by decide), if_neg (by decide), if_pos rfl]; rw [show CK (117 :: 48 :: 48 :: DB (c / 16) :: DB (c % 16) :: (X ++ 34 :: r)) = some (c, 5) by
    simp only [CK]; rw [if_neg (by decide), if_neg (by decide), if_neg (by decide), if_neg (by decide), if_neg (by decide), if_neg (by decide), if_pos True.intro, hu]]
   simp only [List.drop_succ_cons, List.drop_zero]; rw [hi]; simp only [Option.map_some, ← hsplit]; congr 2
  have h1 : CA c = encodeRune (c : Int) := by
   unfold CA; rw [if_neg c1, if_neg c2, if_neg c3, if_neg c4, if_neg c5, if_neg c6, if_neg c7]
  rw [h1]; have hin := J0 c (by omega) (by omega) (by omega); have hg := KB c; have hen := JA c; have hlen : (encodeRune (c : Int)).length = (decodeL l).2 := by rw [he, List.length_take]; omega
  have hdd : decodeL (encodeRune (c : Int) ++ (X ++ 34 :: r)) = decodeL l := by rw [EN _ _ hen hg, he, hd]
  have hbb := QO (X ++ 34 :: r) hen hg; generalize hE : encodeRune (c : Int) = E at *; cases E with
  | nil => exact absurd rfl hen
  | cons x t =>
   have hx := hin x (by simp); rw [List.cons_append] at hdd hbb ⊢; rw [DF, if_neg (by intro h; subst h; exact hx.2.1 rfl), if_neg (by omega), if_neg (by intro h; subst h; exact hx.2.2 rfl), if_neg hbb, hdd, ← List.cons_append, ← hlen]; rw [List.drop_left, List.take_left, hi]; simp only [Option.map_some, ← hsplit]; congr 2
   simp <;> omega
theorem KD (l : List UInt8) (hv : validD l = true) (r : List UInt8) : BA (D8 l ++ r) = (l, (D8 l).length, 0) := by
 have h := R8 l.length l (Nat.le_refl _) hv r; have e : D8 l ++ r = 34 :: (Bk l ++ 34 :: r) := by unfold D8; simp
 rw [e]; simp only [BA]; rw [if_pos True.intro, h]; simp only; unfold D8; simp
/-! what is read may be -/
theorem RS (l : List UInt8) (hne : l ≠ []) (hb : ¬ CV l) : validD (l.take (decodeL l).2) = true := by
 rw [← encode_decode l hne hb]; exact IR _
theorem Qr : ∀ (f : Nat) (l : List UInt8), l.length ≤ f → ∀ t k, CB l = some (t, k) → validD t = true := by
 intro f; induction f with
 | zero => intro l h t k hb; obtain rfl : l = [] := List.eq_nil_of_length_eq_zero (by omega); cases hb
 | succ f ih =>
  intro l hl t k hb; cases l with
  | nil => cases hb
  | cons c r =>
   have hw := decodeL_width (c :: r); rw [DF] at hb; rw [List.length_cons] at hl; split at hb
   ·injection hb with hb; injection hb with h1 h2; subst h1; rfl
   split at hb
   ·cases hb
   split at hb
   ·cases he : CK r with
    | none => rw [he] at hb; cases hb
    | some p =>
     obtain ⟨x, n⟩ := p; rw [he] at hb; simp only at hb; cases hq : CB (r.drop n) with
     | none => rw [hq] at hb; cases hb
     | some q =>
      obtain ⟨t', k'⟩ := q; rw [hq] at hb; injection hb with hb; injection hb with h1 h2; subst h1; exact Ga (IR _) (ih (r.drop n) (by rw [List.length_drop]; omega) t' k' hq)
   split at hb
   ·cases hb
   rename_i hbad
   cases hq : CB ((c :: r).drop (decodeL (c :: r)).2) with
   | none => rw [hq] at hb; cases hb
   | some q =>
    obtain ⟨t', k'⟩ := q; rw [hq] at hb; injection hb with hb; injection hb with h1 h2; subst h1; exact Ga (RS _ (by simp) hbad) (ih ((c :: r).drop (decodeL (c :: r)).2) (by rw [List.length_drop, List.length_cons]; omega) t' k' hq)
theorem Qm (l : List UInt8) (h : (BA l).2.2 = 0) : validD (BA l).1 = true := by
 cases l with
 | nil => simp [BA] at h
 | cons c r =>
  simp only [BA] at h ⊢; by_cases hc : c = 34
  ·rw [if_pos hc] at h ⊢
   cases hb : CB r with
   | none => rw [hb] at h; simp at h
   | some p =>
    obtain ⟨t, k⟩ := p; exact Qr _ r (Nat.le_refl _) t k hb
  rw [if_neg hc] at h; simp at h
end Th
