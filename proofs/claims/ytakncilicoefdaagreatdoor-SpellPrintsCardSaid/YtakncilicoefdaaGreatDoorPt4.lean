/- Lemmas and contracts. Conditions: those that each lemma names. -/
import Derived.Test.YtakncilicoefdaaGreatDoorCards
import Derived.Test.YtakncilicoefdaaGreatDoorTie
import Derived.Test.YtakncilicoefdaaGreatDoorPt3
import Derived.Deep.DeepHandedRow
import Derived.Deep.DeepLaidRun
import Derived.Lib.SmallJoins
import Derived.Deep.AppendLies
import Derived.Deep.DrawnRows
set_option maxRecDepth 100000
set_option maxHeartbeats 4000000
namespace Go.Proofs.YtakncilicoefdaaGreatDoor
open Go Go.Deep Go.WideElems Go.ChangeShapes Go.WideShapes Go.ChangeAt Go.RowKit Go.Proofs Th
theorem own : ownKnob Tryz.prog.godebug = none := by kernel_rfl
theorem T8 : Tryz.prog.globalNamed "thimble/num.tens" = some 0 := by kernel_rfl
theorem Wx : Tryz.prog.globalNamed "internal/strconv.uint64pow10" = some 3 := by kernel_rfl
theorem WZ : (Tryz.prog.globals[0]?).map (·.type) = some 96 := by kernel_rfl
theorem WU : (Tryz.prog.globals[3]?).map (·.type) = some 96 := by kernel_rfl
theorem M5 : Tryz.prog.cellsOf 72 = 1 := by kernel_rfl
theorem JI : Tryz.prog.cellsOf 96 = 20 := by kernel_rfl
noncomputable def VR : List Int := [1, 10, 100, 1000, 10000, 100000, 1000000, 10000000, 100000000, 1000000000, 10000000000, 100000000000, 1000000000000, 10000000000000, 100000000000000, 1000000000000000, 10000000000000000, 100000000000000000, 1000000000000000000, 10000000000000000000]
noncomputable def T9 : DataW Unit → List Value
 | .lit (.int k n) => [.int k n]
 | _ => []
noncomputable def Wt : DataW Unit → List Value
 | .agg ds => ds.flatMap T9
 | d => T9 d
noncomputable def flat : DataW Unit → Array Value
 | .agg ds => (ds.flatMap Wt).toArray
 | _ => #[]
noncomputable def lay (h : Array Obj) (x : String × DataW Unit) : Array Obj :=
 match Tryz.prog.globalNamed x.1 with
 | some g => h.modify g fun
  | .cells _ t frozen => .cells (flat x.2) t frozen
  | o => o
 | none => h
theorem RK (w : World) (t : Tape) (a : Array Value) : (w.forCall t ⟨#[], a, []⟩).memory.heap = w.heap := by
 simp [World.forCall, World.memory, Input.heap]
theorem PX {H : Type} {enc : TypeId × Value → H} {P : Program} {f : Func} {s : ChangeSpec} {apart fresh handsOn again : Bool} {W W' : World} {args : Array Value} {v : Value} {ds gs : List (DataW H)} {before pa pv : List MemPlace}
  (hW : DataW.Whole enc P f.params.toList s.vars apart W args.toList ds gs before)
  (hres : ∀ (b : Nat) (sp : Nat → Bool) (hd : Bool), DataW.TrodAll enc P W' b sp hd f.resultTypes.toList (v.resultList f.resultTypes.size) (s.fn H (ds ++ gs)).results [])
  (hargs : ∀ sp : Nat → Bool, (∀ p ∈ before, sp p.block = true) → DataW.TrodAll enc P W' 0 sp true f.params.toList args.toList (s.fn H (ds ++ gs)).args pa)
  (hvars : ∀ sp : Nat → Bool, (∀ p ∈ before, sp p.block = true) → DataW.TrodVars enc P W' sp s.vars (s.fn H (ds ++ gs)).vars pv)
  (hps : before = pa ++ pv) (hb : Below W.heap.size W W')
  (hok : ∀ (j : Nat) (t : TypeId) (r : Value), f.resultTypes[j]? = some t → (v.resultList f.resultTypes.size)[j]? = some r → Value.okWide P W' .any 0 t r) :
  s.post enc P f apart fresh handsOn again W args v W' := by
 have hold : ∀ p ∈ before, (fun b => decide (b < W.heap.size)) p.block = true := fun p hp => by simpa using hW.lt p hp
 have hlt := hW.lt; refine ⟨ds, gs, before, [], pa, pv, hW, hres _ _ _, hargs _ hold, hvars _ hold, World.keptBut_mono (fun p hp => ⟨hp, ?_⟩) (hb.frame (· ∈ before)), fun _ => ?_⟩
 ·rw [hps, List.mem_append] at hp
  exact Or.inr hp
 obtain ⟨_, _, _, _, _, hz, hn⟩ := hW; refine ⟨hok, _, _, ([] ++ pa) ++ pv, ⟨[] ++ pa, pv, trodAll_append (hargs _ (fun _ _ => rfl)) (hres _ _ _), hvars _ (fun _ _ => rfl), rfl, ?_, ?_⟩, ?_⟩
 ·intro b off hp
  have hm : MemPlace.cell b off ∈ before := by rw [hps]; simpa using hp
  rw [hb.frozen (p := ⟨b, off, none⟩) (hlt _ hm)]; exact hz b off hm
 ·intro ha
  have := hn ha; rw [hps] at this; simpa using this
 intro p hp _; rw [hps]; simpa using hp
open Go Go.RowKit Go.Proofs Th
attribute [local go_sem] Above.cell Above.frozen
theorem KY {a b : Int} (h : a = b) : Ending.returned (.int .i64 a) = .returned (.int .i64 b) := by rw [h]
theorem UT (s : ByteArray) (k : Nat) (h : k < s.size) : s.data.toList.drop k = s[k] :: s.data.toList.drop (k + 1) := by
 rw [List.drop_eq_getElem_cons (by simpa using h)]; rfl
theorem A0 (s : ByteArray) (hs : s.size ≤ 9223372036854775807) (w : World) : Calls Tryz.prog 157 #[.string s] w fun r w' => r = .returned (.int .i64 (AC s.data.toList)) ∧ Below w.heap.size w w' := by
 go_enter Tryz.func157, Tryz.ntmps157
 go_wp2
 go_loop [3] (fun i => ∃ k : Nat, k ≤ s.size ∧ AC s.data.toList = k + AC (s.data.toList.drop k) ∧ i = .int .i64 k) (fun i => s.size - (intOf i).toNat)
 case atStart => exact ⟨0, Nat.zero_le _, by simp, rfl⟩
 case round =>
  obtain ⟨k, hk, hn, rfl⟩ := hrel; have HN := Lib.hid hn; clear hn; by_cases hlt : k < s.size
  ·have hd := UT s k hlt
   by_cases h1 : 48 ≤ s[k].toNat
   ·by_cases h2 : s[k].toNat ≤ 57
    ·have HS := Lib.hid (show AC (s.data.toList.drop k) = AC (s.data.toList.drop (k + 1)) + 1 by rw [hd, AC, if_pos ⟨h1, h2⟩])
     clear hd; go_wp2
     go_round
     case rel => exact ⟨k + 1, by omega, by rw [HN.out, HS.out]; omega, by go_num⟩
     case measure => simp [intOf]; omega
    have HS := Lib.hid (show AC (s.data.toList.drop k) = 0 by rw [hd, AC, if_neg (by omega)]); clear hd; go_wp2
    go_ret
    exact ⟨KY (by rw [HN.out, HS.out]; simp), Below.refl _ _⟩
   have HS := Lib.hid (show AC (s.data.toList.drop k) = 0 by rw [hd, AC, if_neg (by omega)]); clear hd; go_wp2
   go_ret
   exact ⟨KY (by rw [HN.out, HS.out]; simp), Below.refl _ _⟩
  have hk' : k = s.size := by omega
  have HS := Lib.hid (show AC (s.data.toList.drop k) = 0 by rw [List.drop_eq_nil_of_le (by simp; omega)]; rfl); go_wp2
  go_ret
  exact ⟨KY (by rw [HN.out, HS.out]; omega), Below.refl _ _⟩
open Go Go.RowKit Go.Proofs Th
theorem J1 (x : Int) (h0 : 0 ≤ x) (h1 : x < 18446744073709551616) : bits BinOp.and IntKind.u64 x 4294967295 = x % 4294967296 := by
 obtain ⟨a, rfl⟩ := Int.eq_ofNat_of_zero_le h0; have h := u64_and_nat a 4294967295 (by omega) (by omega); rw [nat_mask32] at h; simpa using h
theorem Qs (h l : Nat) (hh : h < 10) (hl : l < 1152921504606846976) : bits BinOp.or IntKind.u64 ((h : Int) * 1152921504606846976) (l : Int) = ((h * 1152921504606846976 + l : Nat) : Int) := by
 have e := u64_or_nat (h * 1152921504606846976) l (by omega) (by omega); rw [nat_join 60 _ _ (by simp) (by simpa using hl)] at e; simpa using e
structure LtY (a : Nat) : Prop where
 out : a < 11529215046068469760
structure HiLo (hi lo : Nat) : Prop where
 hi : hi < 10
 lo : lo < 18446744073709551616
def dA (hi lo : Nat) : Nat := hi * 1152921504606846976 + lo / 16
def dB (lo : Nat) : Nat := lo % 16
def dq (a : Nat) : Nat := a / 2684354560
def dr (a : Nat) : Nat := a % 2684354560
def du (a b : Nat) : Nat := dr a * 4294967296 + b * 268435456
theorem r1 : bits BinOp.and IntKind.u64 11529215046068469760 4294967295 = 0 := by rw [J1 _ (by omega) (by omega)]; omega
theorem r2 {hi lo : Nat} (h : HiLo hi lo) : bits BinOp.or IntKind.u64 ((dB hi : Int) * 1152921504606846976) ((lo : Int) / 16) = (dA hi lo : Int) := by
 have e := Qs hi (lo / 16) h.hi (by have := h.lo; omega); have : dB hi = hi := by have := h.hi; unfold dB; omega
 rw [show (((lo / 16 : Nat)) : Int) = (lo : Int) / 16 by omega] at e; rw [this]; exact e
theorem r3 {lo : Nat} : IntKind.u64.wrap ((lo : Int) * 1152921504606846976) = (dB lo : Int) * 1152921504606846976 := by rw [IntKind.wrap_u64]; unfold dB; omega
theorem r4 {lo : Nat} : (dB lo : Int) * 1152921504606846976 / 4294967296 = (dB lo : Int) * 268435456 := by omega
theorem r5 {lo : Nat} : bits BinOp.and IntKind.u64 ((dB lo : Int) * 1152921504606846976) 4294967295 = 0 := by
 have : dB lo < 16 := by unfold dB; omega
 rw [J1 _ (by omega) (by omega)]; omega
theorem r6 {a : Nat} (h : LtY a) : IntKind.u64.wrap ((a : Int).tdiv 2684354560) = (dq a : Int) := by
 have := h.out; rw [Int.tdiv_eq_ediv_of_nonneg (by omega), IntKind.wrap_u64]; unfold dq; omega
theorem r6' {a : Nat} (h : LtY a) : IntKind.u64.wrap ((a : Int) / 2684354560) = (dq a : Int) := by
 have := h.out; rw [IntKind.wrap_u64]; unfold dq; omega
theorem r7 {a : Nat} (h : LtY a) : IntKind.u64.wrap ((a : Int) - IntKind.u64.wrap ((dq a : Int) * 2684354560)) = (dr a : Int) := by
 have := h.out; rw [IntKind.wrap_u64, IntKind.wrap_u64]; unfold dq dr; omega
theorem r8 {a lo : Nat} (h : LtY a) :
  IntKind.u64.wrap (IntKind.u64.wrap (IntKind.u64.wrap ((a : Int) * 4294967296) + (dB lo : Int) * 268435456) - IntKind.u64.wrap ((dq a : Int) * 11529215046068469760)) = (du a (dB lo) : Int) := by
 have := h.out; have : dB lo < 16 := by unfold dB; omega
 rw [IntKind.wrap_u64, IntKind.wrap_u64, IntKind.wrap_u64, IntKind.wrap_u64]; unfold du dq dr; omega
theorem VQ {a : Nat} (h : LtY a) : (4294967296 ≤ (dq a : Int)) = False := by have := h.out; simp; unfold dq; omega
theorem UD {a : Nat} (h : LtY a) : ((dq a : Int) < 4294967296) = True := by have := h.out; simp; unfold dq; omega
theorem WT {hi lo : Nat} (h : hi < 10) (hl : lo < 18446744073709551616) : dA hi lo < 11529215046068469760 := by unfold dA; omega
theorem Wu (a lo : Nat) : du a (dB lo) < 11529215046068469760 := by unfold du dr dB; omega
theorem Tv (hi lo : Nat) (h : hi < 10) (hl : lo < 18446744073709551616) :
  IntKind.u64.wrap (IntKind.u64.wrap ((dq (dA hi lo) : Int) * 4294967296) + (dq (du (dA hi lo) (dB lo)) : Int)) = (((hi * 18446744073709551616 + lo) / 10 : Nat) : Int) := by
 rw [IntKind.wrap_u64, IntKind.wrap_u64]; unfold du dq dr dA dB; omega
theorem RA (x y : Int) : IntKind.u64.wrap (IntKind.u64.wrap (IntKind.u64.wrap x) - IntKind.u64.wrap y) = (x - y) % 18446744073709551616 := by
 simp only [IntKind.wrap_u64]; omega
theorem S9 (u : Nat) : IntKind.u64.wrap (IntKind.u64.wrap (IntKind.u64.wrap ((u : Int) * 4294967296)) - IntKind.u64.wrap ((dq u : Int) * 11529215046068469760)) / 1152921504606846976 = ((u % 2684354560 / 268435456 : Nat) : Int) := by
 rw [RA]; have h1 : (u : Int) * 4294967296 - (dq u : Int) * 11529215046068469760 = ((u % 2684354560 : Nat) : Int) * 4294967296 := by unfold dq; omega
 rw [h1]; have h2 : u % 2684354560 < 2684354560 := Nat.mod_lt _ (by omega); generalize u % 2684354560 = r at *; omega
theorem SS (hi lo : Nat) :
  IntKind.u64.wrap (IntKind.u64.wrap (IntKind.u64.wrap ((du (dA hi lo) (dB lo) : Int) * 4294967296)) - IntKind.u64.wrap ((dq (du (dA hi lo) (dB lo)) : Int) * 11529215046068469760)) / 1152921504606846976 =
   (((hi * 18446744073709551616 + lo) % 10 : Nat) : Int) := by
 have e1 : du (dA hi lo) (dB lo) % 2684354560 / 268435456 = (hi * 18446744073709551616 + lo) % 10 := by unfold du dr dA dB; omega
 rw [← e1]; exact S9 _
theorem SU {n : Int} : (IntKind.u64.wrap n < 0) = False := by rw [IntKind.wrap_u64]; simp; omega
attribute [local go_sem] VQ UD SU r1 r2 r3 r4 r5 r6 r6' r7 r8
theorem NH {a b c d : Int} (h1 : a = c) (h2 : b = d) : Ending.returned (.tuple #[.int .u64 a, .int .u64 b]) = .returned (.tuple #[.int .u64 c, .int .u64 d]) := by rw [h1, h2]
theorem Of (lo : Nat) (hl : lo < 18446744073709551616) (w : World) : Calls Tryz.prog 174 #[.int .u64 0, .int .u64 lo, .int .u64 10] w fun r w' =>
  r = .returned (.tuple #[.int .u64 ((lo / 10 : Nat) : Int), .int .u64 ((lo % 10 : Nat) : Int)]) ∧ Below w.heap.size w w' := by
 go_enter Tryz.func174, Tryz.ntmps174
 go_wp2
 refine Ay (by kernel_rfl) (by kernel_rfl) ?_; repeat (go_big_quiet_step (fail))
 refine wpQuiet_nil ?_; rintro _ ⟨z, rfl⟩; go_wp2
 go_ret2
 exact ⟨by simp, z.property⟩
theorem Qx (hi lo : Nat) (h0 : 0 < hi) (hh : hi < 10) (hl : lo < 18446744073709551616) (w : World) : Calls Tryz.prog 174 #[.int .u64 hi, .int .u64 lo, .int .u64 10] w fun r w' =>
  r = .returned (.tuple #[.int .u64 (((hi * 18446744073709551616 + lo) / 10 : Nat) : Int), .int .u64 (((hi * 18446744073709551616 + lo) % 10 : Nat) : Int)]) ∧ Below w.heap.size w w' := by
 have g1 : ((hi : Int) == 0) = false := by simp; omega
 have hbl : (64 - (Lib.bitLen 10 : Int)) = 60 := by decide
 have HB := Lib.hid hbl; clear hbl; have HK := HiLo.mk hh hl; have HA := LtY.mk (WT hh hl); have HU := LtY.mk (Wu (dA hi lo) lo); have HF1 := Keep.mk (Tv hi lo hh hl); have HF2 := Keep.mk (SS hi lo); clear hl; go_enter Tryz.func174, Tryz.ntmps174
 go_wp2_with fail
 refine (Tryz.bits_LeadingZeros64 10 _ (by omega) (by omega)).mono ?_; rintro e w' ⟨rfl, rfl⟩; rw [show (10 : Int).toNat = 10 from rfl, HB.out]; go_wp2
 refine wp_loop_once ?_; go_wp2
 refine wp_loop_once ?_; go_wp2
 go_ret2
 exact ⟨NH HF1.out HF2.out, Below.refl _ _⟩
theorem Qn (hi lo : Nat) (hh : hi < 10) (hl : lo < 18446744073709551616) (w : World) : Calls Tryz.prog 174 #[.int .u64 hi, .int .u64 lo, .int .u64 10] w fun r w' =>
  r = .returned (.tuple #[.int .u64 (((hi * 18446744073709551616 + lo) / 10 : Nat) : Int), .int .u64 (((hi * 18446744073709551616 + lo) % 10 : Nat) : Int)]) ∧ Below w.heap.size w w' := by
 by_cases h : hi = 0
 ·subst h
  have := Of lo hl w; simpa using this
 exact Qx hi lo (by omega) hh hl w
theorem G3 (h l : Int) (h0 : 0 ≤ h) (h1 : h < 10) (l0 : 0 ≤ l) (l1 : l < 18446744073709551616) (w : World) : Calls Tryz.prog 174 #[.int .u64 h, .int .u64 l, .int .u64 10] w fun r w' =>
  r = .returned (.tuple #[.int .u64 (HY h l), .int .u64 (KB h l)]) ∧ Below w.heap.size w w' := by
 obtain ⟨h, rfl⟩ := Int.eq_ofNat_of_zero_le h0; obtain ⟨l, rfl⟩ := Int.eq_ofNat_of_zero_le l0; refine (Qn h l (by omega) (by omega) w).mono ?_; rintro e w' ⟨rfl, hb⟩; refine ⟨NH ?_ ?_, hb⟩
 ·unfold HY; omega
 unfold KB; omega
open Go Go.RowKit Go.Proofs Th
attribute [local go_sem ↓] WW Wn W8 Wz
theorem L7 (c : Int) (hbad : c < 0 ∨ 1114111 < c ∨ (55296 ≤ c ∧ c ≤ 57343)) (w : World) : Calls Tryz.prog 124 #[.int .i64 c] w fun r w' => r = .returned (DB (BF c)) ∧ Below w.heap.size w w' := by
 have HE := Keep.mk (LX hbad); rcases hbad with hb | hb | ⟨hb, hb2⟩
 all_goals
  go_enter Tryz.func124, Tryz.ntmps124
  go_wp2
  go_ret
  exact ⟨Fq HE.out.symm, Below.refl _ _⟩
theorem M0 (c : Int) (h0 : 0 ≤ c) (h1 : c ≤ 1114111) (h2 : c < 55296 ∨ 57343 < c) (w : World) : Calls Tryz.prog 124 #[.int .i64 c] w fun r w' => r = .returned (DB (BF c)) ∧ Below w.heap.size w w' := by
 by_cases c1 : c < 128
 ·have HE := Keep.mk (LC h0 c1)
  clear h2; go_enter Tryz.func124, Tryz.ntmps124
  go_wp2
  go_ret
  exact ⟨by rw [GR]; exact Fq HE.out.symm, al1 _ _⟩
 by_cases c2 : c < 2048
 ·have HE := Keep.mk (Lp (by omega) c2)
  clear h2; go_enter Tryz.func124, Tryz.ntmps124
  go_wp2
  go_ret
  exact ⟨by rw [GR]; exact Fq HE.out.symm, al1 _ _⟩
 by_cases c3 : c < 65536
 ·have HE := Keep.mk (IX (by omega) c3 h2)
  rcases h2 with h2 | h2
  all_goals
   go_enter Tryz.func124, Tryz.ntmps124
   go_wp2
   go_ret
   exact ⟨by rw [GR]; exact Fq HE.out.symm, al1 _ _⟩
 have HE := Keep.mk (Ka (by omega) h1); go_enter Tryz.func124, Tryz.ntmps124
 go_wp2
 go_ret
 exact ⟨by rw [GR]; exact Fq HE.out.symm, al1 _ _⟩
theorem FQ (c : Int) (w : World) : Calls Tryz.prog 124 #[.int .i64 c] w fun r w' => r = .returned (DB (BF c)) ∧ Below w.heap.size w w' := by
 by_cases hbad : c < 0 ∨ 1114111 < c ∨ (55296 ≤ c ∧ c ≤ 57343)
 ·exact L7 c hbad w
 exact M0 c (by omega) (by omega) (by omega) w
open Go Go.RowKit Go.Proofs Th
def C8 (n : Nat) : Int := if n = 2 then 192 else if n = 3 then 224 else if n = 4 then 240 else 0
def Ei (l : List UInt8) (n : Nat) : Nat → Int
 | 0 => ((l.getD 0 0).toNat : Int) - C8 n
 | j + 1 => Ei l n j * 64 + ((l.getD (j + 1) 0).toNat : Int) - 128
theorem Pa (s : ByteArray) (i : Nat) (h : i < s.size) : s.data.toList.getD i 0 = s[i] := by
 have h2 : i < s.data.toList.length := by simpa using h
 rw [List.getD_eq_getElem?_getD, List.getElem?_eq_getElem h2]; rfl
theorem Rh (l : List UInt8) (n : Nat) (h1 : 1 ≤ n) (h4 : n ≤ 4) : Ei l n (n - 1) = AV l n := by
 have hn : n = 1 ∨ n = 2 ∨ n = 3 ∨ n = 4 := by omega
 rcases hn with rfl | rfl | rfl | rfl
 ·show ((l.getD 0 0).toNat : Int) - 0 = _
  simp only [AV]; omega
 ·rfl
 ·rfl
 rfl
theorem Vn (l : List UInt8) (n j : Nat) (hj : j ≤ 3) : -100000000 ≤ Ei l n j ∧ Ei l n j ≤ 100000000 := by
 have hh : 0 ≤ C8 n ∧ C8 n ≤ 240 := by unfold C8; split; omega; split; omega; split <;> omega
 have k0 := (l.getD 0 0).toNat_lt; have k1 := (l.getD (0 + 1) 0).toNat_lt; have k2 := (l.getD (1 + 1) 0).toNat_lt; have k3 := (l.getD (2 + 1) 0).toNat_lt; have hj : j = 0 ∨ j = 1 ∨ j = 2 ∨ j = 3 := by omega
 rcases hj with rfl | rfl | rfl | rfl
 all_goals (simp only [Ei]; omega)
theorem JN (l : List UInt8) (n : Nat) (h1 : 1 ≤ n) (h4 : n ≤ 4) (hl : n ≤ l.length) (h : BF (AV l n) = l.take n) : Cj l = ((AV l n).toNat, n) ∧ 0 ≤ AV l n := by
 obtain ⟨hb, hn⟩ := (Nn l n h1 h4 hl).1 h; have hv := S6 l n hn hb; unfold Cj; rw [if_neg (fun h' => h'.elim (fun h0 => by clear hb hn hv h h'; rw [h0] at hl; exact absurd (Nat.le_trans h1 hl) (by decide)) hb)]; refine ⟨?_, by omega⟩; rw [hv, ← hn, Int.toNat_natCast]
theorem JX (l : List UInt8) (h : ∀ n, 1 ≤ n → n ≤ 4 → n ≤ l.length → ¬ BF (AV l n) = l.take n) : Cj l = (0, 0) := by
 unfold Cj; by_cases hl : l = [] ∨ De l
 ·rw [if_pos hl]
 exfalso; have hne : l ≠ [] := fun h => hl (Or.inl h)
 have h1 := Lib.decodeL_width l; have h4 := Qc l; have h5 := Lib.decodeL_le l hne; obtain ⟨n, hn⟩ : ∃ n, (Lib.decodeL l).2 = n := ⟨_, rfl⟩
 rw [hn] at h1 h4 h5; exact h n h1 h4 h5 ((Nn l n h1 h4 h5).2 ⟨fun h => hl (Or.inr h), hn⟩)
structure HeadsAt (w : World) (g : Nat) (W : World) : Prop where
 at_ : ∀ n, n ≤ 4 → W.cell? ⟨g, n, none⟩ = some (.int .i64 (C8 n))
 lt : g < W.heap.size
 old : Below w.heap.size w W
theorem HeadsAt.below {w W W' : World} {g : Nat} (h : HeadsAt w g W) (hb : Below W.heap.size W W') : HeadsAt w g W' :=
 ⟨fun n hn => (hb.cell (p := ⟨g, n, none⟩) h.lt).trans (h.at_ n hn), Nat.lt_of_lt_of_le h.lt hb.size, up h.old hb⟩
theorem JY (s : ByteArray) (hs : s.size ≤ 9223372036854775000) (w : World) : Calls Tryz.prog 92 #[.string s] w fun r w' => r = .returned (.tuple #[.int .i64 (Cj s.data.toList).1, .int .i64 (Cj s.data.toList).2]) ∧ Below w.heap.size w w' := by
 go_enter Tryz.func92, Tryz.ntmps92
 go_upto_block 0 with fail
 refine BC (fun W => HeadsAt w w.heap.size W) ⟨fun n hn => ?_, by simp, al1 _ _⟩ ?_
 ·have : n = 0 ∨ n = 1 ∨ n = 2 ∨ n = 3 ∨ n = 4 := by omega
  rcases this with rfl | rfl | rfl | rfl | rfl <;> simp [go_sem, C8]
 rintro W0 HW0; replace HW0 := Keep.mk HW0; go_cut [5] (fun s5 wx => Keep (Cj s.data.toList = (0, 0)) ∧ Keep (Below w.heap.size w wx))
 case first =>
  go_wp2_with fail
  go_loopg [5] 4 (fun gk n wr => ∃ k : Nat, n = .int .i64 k ∧ 1 ≤ k ∧ k + gk = 5 ∧ Keep (∀ j, 1 ≤ j → j < k → j ≤ s.size → ¬ BF (AV s.data.toList j) = s.data.toList.take j) ∧ Keep (HeadsAt w w.heap.size wr))
  case atStart => exact ⟨1, rfl, by omega, by omega, ⟨by omega⟩, HW0⟩
  case round =>
   obtain ⟨k, rfl, hk1, hk, HN, HW⟩ := hrel; by_cases hk4 : k ≤ 4
   ·by_cases hks : k ≤ s.size
    ·have hgk : gk ≠ 0 := by omega
     have h0s : 0 < s.size := by omega
     have hc := HW.out.at_ k hk4; have hlt := HW.out.lt; have HP := Keep.mk (show Ei s.data.toList k 0 = (s[0].toNat : Int) - C8 k by rw [← Pa s 0 h0s]; rfl); have hb0 := s[0].toNat_lt; have hh : 0 ≤ C8 k ∧ C8 k ≤ 240 := by unfold C8; split; omega; split; omega; split <;> omega
     obtain ⟨hh0, hh1⟩ := hh; generalize C8 k = hd at *; go_upto_region 5 with fail
     refine Ay (by kernel_rfl) (by kernel_rfl) ?_; repeat (go_big_quiet_step (fail))
     refine wpQuiet_nil ?_; rintro _ ⟨x, rfl⟩; have HW1 := Keep.mk (HW.out.below x.property); go_upto_block 2 with fail
     go_cut [6] (fun s6 wx => s6 = .int .i64 (AV s.data.toList k) ∧ Keep (HeadsAt w w.heap.size wx))
     case first =>
      go_wp2_with fail
      go_loop [6, 7] (fun c i => ∃ j : Nat, j < k ∧ i = .int .i64 ((j : Int) + 1) ∧ c = .int .i64 (Ei s.data.toList k j)) (fun _ i => k - (intOf i).toNat)
      case atStart => exact ⟨0, by omega, rfl, by rw [HP.out]⟩
      case round =>
       obtain ⟨j, hj, rfl, rfl⟩ := hrel; by_cases hjk : j + 1 < k
       ·have hjs : j + 1 < s.size := by omega
        have HS := Keep.mk (show Ei s.data.toList k (j + 1) = Ei s.data.toList k j * 64 + (s[j + 1].toNat : Int) - 128 by rw [← Pa s (j + 1) hjs]; rfl); obtain ⟨hp0, hp1⟩ := Vn s.data.toList k j (by omega); have hb1 := s[j + 1].toNat_lt; generalize Ei s.data.toList k j = pj at *; go_wp2
        go_round
        case rel => exact ⟨j + 1, by omega, by go_num, by rw [HS.out]⟩
        case measure => simp [intOf]; omega
       have HE := Keep.mk (show Ei s.data.toList k j = AV s.data.toList k by rw [← Rh _ _ hk1 hk4]; congr 1; omega); go_wp2_with fail
       go_meet
       exact ⟨by rw [HE.out], HW1⟩
     case rest =>
      clear HW HW1; obtain ⟨rfl, HW⟩ := hcut; have HC := Keep.mk (fun w => FQ (AV s.data.toList k) w); have HF := Keep.mk (JN s.data.toList k hk1 hk4 (by simpa using hks)); obtain ⟨bs, hbs⟩ : ∃ bs : ByteArray, (⟨(BF (AV s.data.toList k)).toArray⟩ : ByteArray) = bs := ⟨_, rfl⟩
      have hcs : BF (AV s.data.toList k) = bs.toList := by rw [← hbs, Fh]
      have hex : s.data.toList.take k = (s.extract 0 k).toList := by rw [Fh, OQ]
      have HC := Keep.mk (fun w => show Calls Tryz.prog 124 #[.int .i64 (AV s.data.toList k)] w fun r w' => r = .returned (.string bs) ∧ Below w.heap.size w w' from hbs ▸ FQ (AV s.data.toList k) w); by_cases heq : BF (AV s.data.toList k) = s.data.toList.take k
      ·have hbb : (bs.toList == (s.extract 0 k).toList) = true := by rw [beq_iff_eq, ← hcs, ← hex]; exact heq
       obtain ⟨hF, hF0⟩ := JN s.data.toList k hk1 hk4 (by simpa using hks) heq; have HF := Keep.mk (show (Value.tuple #[.int .i64 (AV s.data.toList k), .int .i64 k]) = (.tuple #[.int .i64 (Cj s.data.toList).1, .int .i64 (Cj s.data.toList).2]) by rw [hF]; simp only; rw [Int.toNat_of_nonneg hF0]); clear heq hF hF0 hbs hcs hex; generalize AV s.data.toList k = cd at *; go_upto_region 10 with fail
       refine Ay (by kernel_rfl) (by kernel_rfl) ?_; repeat (go_big_quiet_step ((go_at_call 124; exact Be (HC.out _))))
       refine wpQuiet_nil ?_; rintro _ ⟨x2, rfl⟩; go_wp2
       go_ret2
       exact ⟨by rw [← HF.out]; rfl, up HW.out.old x2.property⟩
      have hbb : (bs.toList == (s.extract 0 k).toList) = false := by rw [beq_eq_false_iff_ne, ← hcs, ← hex]; exact heq
      have HN2 := Keep.mk (show ∀ j, 1 ≤ j → j < k + 1 → j ≤ s.size → ¬ BF (AV s.data.toList j) = s.data.toList.take j by
       intro j h1 h2 h3; by_cases hjk : j < k
       ·exact HN.out j h1 hjk h3
       obtain rfl : j = k := by omega
       exact heq)
      clear heq hbs hcs hex; generalize AV s.data.toList k = cd at *; go_upto_region 10 with fail
      refine Ay (by kernel_rfl) (by kernel_rfl) ?_; repeat (go_big_quiet_step ((go_at_call 124; exact Be (HC.out _))))
      refine wpQuiet_nil ?_; rintro _ ⟨x2, rfl⟩; have HW2 := Keep.mk (HW.out.below x2.property); go_wp2
      go_roundg (gk - 1)
      case rel => exact ⟨k + 1, by go_num, by omega, by omega, HN2, HW2⟩
      case measure => omega
    have HE := Keep.mk (JX s.data.toList (by
     intro n h1 h4 hl; exact HN.out n h1 (by simp at hl; omega) (by simpa using hl)))
    go_wp2_with fail
    go_meet
    exact ⟨HE, ⟨HW.out.old⟩⟩
   have HE := Keep.mk (JX s.data.toList (by
    intro n h1 h4 hl; exact HN.out n h1 (by omega) (by simpa using hl)))
   go_wp2_with fail
   go_meet
   exact ⟨HE, ⟨HW.out.old⟩⟩
 case rest =>
  clear HW0; obtain ⟨HE, HW⟩ := hcut; go_wp2_with fail
  go_ret2
  exact ⟨by rw [HE.out]; rfl, HW.out⟩
theorem Kf (s : ByteArray) (hs : s.size ≤ 9223372036854775000) (w : World) : Calls Tryz.prog 67 #[.string s] w fun r w' => r = .returned (.bool (Lib.validD s.data.toList)) ∧ Below w.heap.size w w' := by
 go_enter Tryz.func67, Tryz.ntmps67
 go_wp2_with fail
 go_loopg [0] (s.size + 1) (fun gk v wr => ∃ t : ByteArray, v = .string t ∧ t.size < gk ∧ t.size ≤ s.size ∧ Keep (Lib.validD t.data.toList = Lib.validD s.data.toList) ∧ Keep (Below w.heap.size w wr))
 case atStart => exact ⟨s, rfl, by omega, by omega, ⟨rfl⟩, ⟨Below.refl _ _⟩⟩
 case round =>
  obtain ⟨t, rfl, hg, hts, HV, HW⟩ := hrel; by_cases h0 : 0 < t.size
  ·have hne : t.data.toList ≠ [] := by intro h; have h2 := Al t; rw [h] at h2; exact absurd h2 (by show ¬ 0 = _; omega)
   have HC := Keep.mk (fun w => JY t (by omega) w); have HS := Keep.mk (DV t.data.toList hne); have hgk : gk ≠ 0 := by omega
   by_cases hb : De t.data.toList
   ·have HF := Keep.mk (show Cj t.data.toList = (0, 0) by unfold Cj; rw [if_pos (Or.inr hb)])
    have HE := Keep.mk (show Lib.validD s.data.toList = false by rw [← HV.out, HS.out, if_pos hb]); clear hb hne; go_wp2_with fail
    refine (HC.out _).mono ?_; rw [HF.out]; rintro r w1 ⟨rfl, hb1⟩; go_wp2
    go_ret
    exact ⟨by rw [HE.out]; rfl, up HW.out hb1⟩
   obtain ⟨n, hn⟩ : ∃ n, (Lib.decodeL t.data.toList).2 = n := ⟨_, rfl⟩
   have hn1 := Lib.decodeL_width t.data.toList; have hn2 := Lib.decodeL_le t.data.toList hne; rw [hn] at hn1 hn2; have hn3 : n ≤ t.size := by simpa using hn2
   have HF := Keep.mk (show (Cj t.data.toList).2 = n by unfold Cj; rw [if_neg (by rintro (h | h); exact hne h; exact hb h)]; exact hn); have HE := Keep.mk (show Lib.validD (t.extract n t.size).data.toList = Lib.validD s.data.toList by rw [← HV.out, HS.out, if_neg hb, EK, hn]); have hsz : (t.extract n t.size).size = t.size - n := by rw [ByteArray.size_extract]; omega
   have hnb : ((n : Int) == 0) = false := by simp; omega
   obtain ⟨c, hc⟩ : ∃ c, (Cj t.data.toList).1 = c := ⟨_, rfl⟩
   have HF1 := Keep.mk hc; clear hb hne hn hn2 hc; go_wp2_with fail
   refine (HC.out _).mono ?_; rw [HF.out, HF1.out]; rintro r w1 ⟨rfl, hb1⟩; go_wp2
   go_roundg (gk - 1)
   case rel => exact ⟨t.extract n t.size, rfl, by omega, by omega, HE, ⟨up HW.out hb1⟩⟩
   case measure => omega
  have HE := Keep.mk (show Lib.validD s.data.toList = true by
   rw [← HV.out, show t.data.toList = [] from List.eq_nil_of_length_eq_zero ((Al t).trans (by omega))]; rfl)
  go_wp2
  go_ret
  exact ⟨by rw [HE.out]; rfl, HW.out⟩
open Go Go.RowKit Go.Proofs Th
def hexB : ByteArray := ⟨#[48, 49, 50, 51, 52, 53, 54, 55, 56, 57, 97, 98, 99, 100, 101, 102]⟩
theorem Q6 (d : Nat) (h : d < 16) : hexB.extract d (d + 1) = ⟨#[EZ d]⟩ := by
 have : d = 0 ∨ d = 1 ∨ d = 2 ∨ d = 3 ∨ d = 4 ∨ d = 5 ∨ d = 6 ∨ d = 7 ∨ d = 8 ∨ d = 9 ∨ d = 10 ∨ d = 11 ∨ d = 12 ∨ d = 13 ∨ d = 14 ∨ d = 15 := by omega
 rcases this with rfl | rfl | rfl | rfl | rfl | rfl | rfl | rfl | rfl | rfl | rfl | rfl | rfl | rfl | rfl | rfl <;> decide
theorem PG {c : Nat} (h : c < 55296 ∨ (57343 < c ∧ c ≤ 1114111)) : BF c = Lib.encodeRune c := by unfold BF; rw [if_neg (by omega)]
theorem KO (c : Nat) (h : c = 34 ∨ c = 92) (w : World) : Calls Tryz.prog 93 #[.int .i64 c] w fun r w' => r = .returned (DB (B6 c)) ∧ Below w.heap.size w w' := by
 have HC := Keep.mk (fun w => Hk (FQ c w)); have HE : Keep (B6 c = [92] ++ BF c ∧ (BF c).length = 1) := ⟨by rcases h with rfl | rfl <;> decide⟩; generalize BF c = l at *; generalize B6 c = l2 at *; have hc2 : ((c : Int) == 34) = true ∨ (((c : Int) == 34) = false ∧ ((c : Int) == 92) = true) := by rcases h with rfl | rfl <;> simp
 clear h; rcases hc2 with h1 | ⟨h1, h2⟩
 all_goals
  go_enter Tryz.func93, Tryz.ntmps93
  go_wp2_with fail
  refine (HC.out _).mono ?_; rintro r w1 ⟨b, rfl, hl, hsz, hb⟩; rw [HE.out.2] at hsz; have HL := Keep.mk hl; clear hl; go_wp2
  go_ret
  exact ⟨J3 (by rw [Dx, HL.out, HE.out.1]), hb⟩
theorem K8 (c : Nat) (h : c = 8 ∨ c = 9 ∨ c = 10 ∨ c = 12 ∨ c = 13) (w : World) : Calls Tryz.prog 93 #[.int .i64 c] w fun r w' => r = .returned (DB (B6 c)) ∧ Below w.heap.size w w' := by
 rcases h with rfl | rfl | rfl | rfl | rfl
 all_goals
  go_enter Tryz.func93, Tryz.ntmps93
  go_wp2
  go_ret
  exact ⟨J3 (by rw [Dx]; decide), Below.refl _ _⟩
theorem MA (c : Nat) (h : c < 8 ∨ c = 11 ∨ (13 < c ∧ c < 32)) (w : World) : Calls Tryz.prog 93 #[.int .i64 c] w fun r w' => r = .returned (DB (B6 c)) ∧ Below w.heap.size w w' := by
 have HE := Keep.mk (show B6 c = [92, 117, 48, 48] ++ [EZ (c / 16)] ++ [EZ (c % 16)] by
  unfold B6; rw [if_neg (by omega), if_neg (by omega), if_neg (by omega), if_neg (by omega), if_neg (by omega), if_neg (by omega), if_pos (by omega)]; rfl)
 have H1 := Keep.mk (Q6 (c / 16) (by omega)); have H2 := Keep.mk (Q6 (c % 16) (by omega)); have h1 : ((c : Int) == 34) = false := by simp; omega
 have h2 : ((c : Int) == 92) = false := by simp; omega
 have hlt : (c : Int) < 32 := by omega
 obtain ⟨q, hq⟩ : ∃ q : Nat, (c : Int) / 16 = q := ⟨c / 16, by push_cast; rfl⟩
 obtain ⟨m, hm⟩ : ∃ m : Nat, (c : Int) % 16 = m := ⟨c % 16, by push_cast; rfl⟩
 have hq' : c / 16 = q := by omega
 have hm' : c % 16 = m := by omega
 rw [hq'] at H1 HE; rw [hm'] at H2 HE; have hq2 : q < 2 := by omega
 have hm2 : m < 16 := by omega
 have HH : Keep (hexB.extract q (q + 1) = ⟨#[EZ q]⟩ ∧ hexB.extract m (m + 1) = ⟨#[EZ m]⟩) := ⟨H1.out, H2.out⟩; clear hq' hm' H1 H2; have h3 : (c : Int) < 8 ∨ ((c : Int) != 11) = false ∧ 8 ≤ (c : Int) ∧ (c : Int) ≤ 13 ∨ 13 < (c : Int) := by
  rcases h with h | h | h
  ·left; omega
  ·right; left; subst h; exact ⟨by simp, by omega, by omega⟩
  right; right; omega
 clear h; rcases h3 with h3 | ⟨h3, h4, h5⟩ | h3
 all_goals
  go_enter Tryz.func93, Tryz.ntmps93
  go_wp2_with fail
  refine Ay (by kernel_rfl) (by kernel_rfl) ?_; repeat (go_big_quiet_step (fail))
  refine wpQuiet_nil ?_; rintro _ ⟨x, rfl⟩; go_wp2
  go_ret
  exact ⟨J3 (by simp only [Dx]; show _ ++ (hexB.extract q (q + 1)).data.toList ++ (hexB.extract m (m + 1)).data.toList = _; rw [HH.out.1, HH.out.2, HE.out]), x.property⟩
theorem KT (c : Nat) (h1 : 32 ≤ c) (h2 : c ≠ 34) (h3 : c ≠ 92) (h : c < 55296 ∨ (57343 < c ∧ c ≤ 1114111)) (w : World) : Calls Tryz.prog 93 #[.int .i64 c] w fun r w' => r = .returned (DB (B6 c)) ∧ Below w.heap.size w w' := by
 have HC := Keep.mk (fun w => Hk (FQ c w)); have HE := Keep.mk (show B6 c = BF c by
  unfold B6; rw [if_neg (by omega), if_neg (by omega), if_neg (by omega), if_neg (by omega), if_neg (by omega), if_neg (by omega), if_neg (by omega), PG h])
 have k1 : ((c : Int) == 34) = false := by simp; omega
 have k2 : ((c : Int) == 92) = false := by simp; omega
 clear h; go_enter Tryz.func93, Tryz.ntmps93
 go_wp2_with fail
 refine (HC.out _).mono ?_; rintro r w1 ⟨b, rfl, hl, hsz, hb⟩; have HL := Keep.mk hl; clear hl hsz; go_wp2
 go_ret
 exact ⟨J3 (by rw [HL.out, HE.out]), hb⟩
theorem U1 {a : ByteArray} {l : List UInt8} {v : Value} (h : a.data.toList = l) : Ending.returned (.tuple #[.string a, v]) = .returned (.tuple #[DB l, v]) := by
 rw [show DB l = .string ⟨l.toArray⟩ from rfl, Fu (a := a) (b := ⟨l.toArray⟩) h]
theorem So (c : Nat) (h : c < 55296 ∨ (57343 < c ∧ c ≤ 1114111)) (w : World) : Calls Tryz.prog 93 #[.int .i64 c] w fun r w' => r = .returned (DB (B6 c)) ∧ Below w.heap.size w w' := by
 by_cases h1 : c = 34 ∨ c = 92
 ·exact KO c h1 w
 by_cases h2 : c = 8 ∨ c = 9 ∨ c = 10 ∨ c = 12 ∨ c = 13
 ·exact K8 c h2 w
 by_cases h3 : c < 32
 ·exact MA c (by omega) w
 exact KT c (by omega) (by omega) (by omega) h w
theorem Uv (l : List UInt8) (hb : ¬ De l) : (Lib.decodeL l).1 < 55296 ∨ (57343 < (Lib.decodeL l).1 ∧ (Lib.decodeL l).1 ≤ 1114111) := by
 unfold De at hb; rw [Lib.decodeL_N] at hb ⊢; have k0 := (l.getD 0 0).toNat_lt; rcases Lib.decodeN_shape l.length (l.getD 0 0).toNat (l.getD 1 0).toNat (l.getD 2 0).toNat (l.getD 3 0).toNat with ⟨c, e⟩ | ⟨c1, c2, c3, cv, e⟩ | ⟨c1, c2, c3, c4, cv, cs, e⟩ | ⟨c1, c2, c3, c4, c5, cv, cw, e⟩ | e
 all_goals (rw [e] at hb ⊢; dsimp only at hb ⊢)
 ·omega
 ·omega
 ·omega
 ·omega
 exact absurd ⟨rfl, rfl⟩ hb
theorem QR {t : ByteArray} (h : 0 < t.size) : t.data.toList ≠ [] := by
 intro h1; have h2 := Al t; rw [h1] at h2; exact absurd h2 (by show ¬ 0 = _; omega)
theorem IZ {t : ByteArray} (h : ¬ 0 < t.size) : t.data.toList = [] := List.eq_nil_of_length_eq_zero ((Al t).trans (by omega))
theorem PD (s : ByteArray) (hs : s.size ≤ 100000000000) (hv : Lib.validD s.data.toList = true) (w : World) : Calls Tryz.prog 62 #[.string s] w fun r w' => r = .returned (.tuple #[DB (Gf s.data.toList), .int .i64 0]) ∧ Below w.heap.size w w' := by
 have hbl := Gr s.data.toList; rw [Al] at hbl; have HV := Keep.mk hv; go_enter Tryz.func62, Tryz.ntmps62
 go_wp2_with fail
 refine (Kf s (by omega) _).mono ?_; rw [hv]; rintro r w1 ⟨rfl, hb⟩; have HB := Keep.mk hb; clear hb hv; go_wp2_with fail
 go_loopg [0, 4] (s.size + 1) (fun gk v o wr => ∃ t ob : ByteArray, v = .string t ∧ o = .string ob ∧ t.size < gk ∧ t.size ≤ s.size ∧ ob.size + (BN t.data.toList).length = 1 + (BN s.data.toList).length ∧ Keep (ob.data.toList ++ BN t.data.toList = 34 :: BN s.data.toList) ∧ Keep (Lib.validD t.data.toList = true) ∧ Keep (Below w.heap.size w wr))
 case atStart => exact ⟨s, ⟨#[34]⟩, rfl, rfl, by omega, by omega, rfl, ⟨rfl⟩, HV, HB⟩
 case round =>
  obtain ⟨t, ob, rfl, rfl, hg, hts, hsz, HO, HT, HW⟩ := hrel; by_cases h0 : 0 < t.size
  ·have hne := QR h0
   have hgk : gk ≠ 0 := by omega
   have hnb : ¬ De t.data.toList := by
    intro hb; have := HT.out; rw [DV _ hne, if_pos hb] at this; cases this
   have HC := Keep.mk (fun w => JY t (by omega) w); have hr := Uv _ hnb; have hn1 := Lib.decodeL_width t.data.toList; have hn2 := Lib.decodeL_le t.data.toList hne; rw [Al] at hn2; have hst := Ke _ hne; have hvt := DV _ hne; rw [if_neg hnb, HT.out] at hvt; have hf : Cj t.data.toList = Lib.decodeL t.data.toList := by unfold Cj; rw [if_neg (by rintro (h | h); exact hne h; exact hnb h)]
   obtain ⟨c, hc⟩ : ∃ c, (Lib.decodeL t.data.toList).1 = c := ⟨_, rfl⟩
   obtain ⟨n, hn⟩ : ∃ n, (Lib.decodeL t.data.toList).2 = n := ⟨_, rfl⟩
   rw [hc] at hr hst; rw [hn] at hn1 hn2 hst hvt; have HF := Keep.mk (show (Cj t.data.toList).1 = c ∧ (Cj t.data.toList).2 = n by rw [hf]; exact ⟨hc, hn⟩); have HC1 := Keep.mk (fun w => Hk (So c hr w)); have hex : (t.extract n t.size).data.toList = t.data.toList.drop n := EK t n; rw [← hex] at hst hvt; have HST := Keep.mk hst; have HVT := Keep.mk hvt.symm; have hle := KW c; have hsl : (BN t.data.toList).length = (B6 c).length + (BN (t.extract n t.size).data.toList).length := by rw [hst, List.length_append]
   have hxs : (t.extract n t.size).size = t.size - n := by rw [ByteArray.size_extract]; omega
   clear hne hnb hf hc hn hst hvt hex; go_wp2_with fail
   refine (HC.out _).mono ?_; rw [HF.out.1, HF.out.2]; rintro r w1 ⟨rfl, hb1⟩; go_wp2_with fail
   refine (HC1.out _).mono ?_; rintro r w2 ⟨b, rfl, hbl2, hbs, hb2⟩; have HBL := Keep.mk hbl2; clear hbl2; go_wp2
   go_roundg (gk - 1)
   case rel => exact ⟨t.extract n t.size, ob ++ b, rfl, rfl, by omega, by omega, by rw [ByteArray.size_append]; omega, ⟨by rw [Dx, HBL.out, ← HO.out, HST.out, List.append_assoc]⟩, HVT, ⟨up (up HW.out hb1) hb2⟩⟩
   case measure => omega
  have HE := Keep.mk (show ob.data.toList = 34 :: BN s.data.toList by rw [← HO.out, IZ h0, Ln, List.append_nil]); have hbz : (BN t.data.toList).length = 0 := by rw [IZ h0]; rfl
  go_wp2
  go_ret2
  exact ⟨U1 (by rw [Dx, HE.out]; rfl), HW.out⟩
open Go Go.RowKit Go.Proofs Th
structure Cell2 (W : World) (n : Nat) (a b : Value) : Prop where
 c0 : W.cell? ⟨n, 0, none⟩ = some a
 c1 : W.cell? ⟨n, 1, none⟩ = some b
theorem Cell2.lt {W : World} {n : Nat} {a b : Value} (h : Cell2 W n a b) : n < W.heap.size := Bm h.c0
theorem Cell2.below {W W' : World} {n : Nat} {a b : Value} (h : Cell2 W n a b) (hb : Below W.heap.size W W') : Cell2 W' n a b :=
 ⟨(hb.cell h.lt).trans h.c0, (hb.cell h.lt).trans h.c1⟩
theorem Cell2.alloc {W : World} {n : Nat} {a b : Value} (h : Cell2 W n a b) (o : Obj) : Cell2 (W.alloc o) n a b := h.below ((Below.refl _ _).alloc (Nat.le_refl _) _)
theorem Cell2.set {W : World} {n m o : Nat} {a b v : Value} (h : Cell2 W n a b) (hm : m ≠ n) : Cell2 (W.setCell ⟨m, o, none⟩ v) n a b := by
 refine ⟨?_, ?_⟩
 ·rw [World.cell?_setCell_other _ _ _ _ (by intro e; injection e; omega)]; exact h.c0
 rw [World.cell?_setCell_other _ _ _ _ (by intro e; injection e; omega)]; exact h.c1
theorem Cell2.new (W : World) (a b : Value) (t : TypeId) : Cell2 (W.alloc (.cells #[a, b] t)) W.heap.size a b := by
 refine ⟨?_, ?_⟩ <;> simp [go_sem]
theorem Cell2.make {W : World} {n : Nat} {a b : Value} (h : Cell2 W n a b) (x y p q : Value) (t : TypeId) : Cell2 (((W.alloc (.cells #[x, y] t)).setCell ⟨W.heap.size, 0, none⟩ p).setCell ⟨W.heap.size, 1, none⟩ q) n a b :=
 (((h.alloc _).set (by have := h.lt; omega)).set (by have := h.lt; omega))
theorem Pt {w W : World} (h : Below w.heap.size w W) (x y p q : Value) (t : TypeId) : Below w.heap.size w (((W.alloc (.cells #[x, y] t)).setCell ⟨W.heap.size, 0, none⟩ p).setCell ⟨W.heap.size, 1, none⟩ q) :=
 st1 (st1 (up h (al1 _ _)) _ _ _ h.size) _ _ _ h.size
theorem Glob.make {W : World} (h : Glob W) (x y p q : Value) (t : TypeId) : Glob (((W.alloc (.cells #[x, y] t)).setCell ⟨W.heap.size, 0, none⟩ p).setCell ⟨W.heap.size, 1, none⟩ q) :=
 h.below (Pt (Below.refl _ _) x y p q t)
theorem ER {P : Program} {f : FuncId} {args : Array Value} {w : World} {Q : Ending → World → Prop} (F : World → Prop) (h : F w) (k : ∀ W, F W → Calls P f args W Q) : Calls P f args w Q := k w h
open Go Go.RowKit Go.Proofs Th
def Utf (w : World) : Prop := Lib.Utf8Tabs 1 2 w
theorem Utf.below {w w' : World} (h : Utf w) (b : Below w.heap.size w w') : Utf w' := by
 refine ⟨fun c hc => (b.cell (Bm (h.1 c hc))).trans (h.1 c hc), fun i hi => ⟨(b.cell (Bm (h.2 i hi).1)).trans (h.2 i hi).1, (b.cell (Bm (h.2 i hi).2)).trans (h.2 i hi).2⟩⟩
theorem TX (l : List UInt8) (hb : ¬ De l) : (Lib.decodeL l).1 < 55296 ∨ (57343 < (Lib.decodeL l).1 ∧ (Lib.decodeL l).1 ≤ 1114111) := by
 unfold De at hb; rw [Lib.decodeL_N] at hb ⊢; have k0 := (l.getD 0 0).toNat_lt; rcases Lib.decodeN_shape l.length (l.getD 0 0).toNat (l.getD 1 0).toNat (l.getD 2 0).toNat (l.getD 3 0).toNat with ⟨c, e⟩ | ⟨c1, c2, c3, cv, e⟩ | ⟨c1, c2, c3, c4, cv, cs, e⟩ | ⟨c1, c2, c3, c4, c5, cv, cw, e⟩ | e
 all_goals (rw [e] at hb ⊢; dsimp only at hb ⊢)
 ·omega
 ·omega
 ·omega
 ·omega
 exact absurd ⟨rfl, rfl⟩ hb
theorem S5 (w : World) (s : ByteArray) {k : Nat} (h : w.heap.size = k) : Iter (w.iter s 0) k s 0 := by
 subst h; exact World.iter_heap w s 0
theorem JR (w : World) (s : ByteArray) (pos : Nat) : Below w.heap.size w (w.iter s pos) := al1 w _
theorem Sa {w W : World} (h : Below w.heap.size w W) {k : Nat} (hk : w.heap.size ≤ k) (s : ByteArray) (pos : Nat) : Below w.heap.size w (W.iterAt k s pos) := Lib.below_iterAt h hk s pos
theorem SP {w : World} {base : Nat} {v : Value} {bs : List UInt8} (h : OwnB w base v bs) (s : ByteArray) (pos : Nat) : OwnB (w.iter s pos) base v bs := h.below (JR w s pos) (Nat.le_refl _)
theorem Ws : ∀ X : Fin 32, bits .and .i32 ((X.val : Nat) : Int) 15 = ((X.val % 16 : Nat) : Int) := by decide
theorem V0 : ∀ (d : Nat), d < 16 → ∀ w : World, (Instr.index 9 (.string ⟨#[48, 49, 50, 51, 52, 53, 54, 55, 56, 57, 97, 98, 99, 100, 101, 102]⟩) (.int .i32 (d : Int))).run Tryz.prog w = .ok (.int .u8 ((EZ d).toNat : Int)) w := by
 intro d h w; have : d = 0 ∨ d = 1 ∨ d = 2 ∨ d = 3 ∨ d = 4 ∨ d = 5 ∨ d = 6 ∨ d = 7 ∨ d = 8 ∨ d = 9 ∨ d = 10 ∨ d = 11 ∨ d = 12 ∨ d = 13 ∨ d = 14 ∨ d = 15 := by omega
 rcases this with rfl | rfl | rfl | rfl | rfl | rfl | rfl | rfl | rfl | rfl | rfl | rfl | rfl | rfl | rfl | rfl
 all_goals (clear h; revert w; intro w; first | rfl | (show _ = _; kernel_rfl))
theorem Oh (B : Nat) (v : Value) (acc : List UInt8) (c : Nat) (hc : c ≤ 1114111) (w : World) (hO : OwnB w B v acc) (hl : acc.length ≤ 100000000000) (hB : B ≤ w.heap.size) :
  Calls Tryz.prog 90 #[v, .int .i32 c] w fun r w' => ∃ v', r = .returned v' ∧ OwnB w' B v' (acc ++ Lib.encodeRune c) ∧ Below B w w' ∧ (∀ k s pos, Iter w k s pos → Iter w' k s pos) := by
 refine (Tryz.utf8_AppendRune_plain B v acc.length (Lib.byteCells acc) c (by omega) (by omega) w hO (by omega) hB).mono ?_; rintro r w' ⟨v', rfl, h1, o, h2⟩; refine ⟨v', rfl, ?_, ((Below.refl B w).alloc hB o).grown h2 (by simp; omega) fun k hk => (World.ownsRow.lt hO k hk).1, fun k s pos hi => (hi.alloc o).grown (hO.alloc o) h2⟩; unfold OwnB; rw [List.length_append, Lib.byteCells_append, Lib.byteCells_encodeRune, ← Lib.runeCells_length]; exact h1
theorem I1 (s : ByteArray) (hs : s.size ≤ 9223372036854775807) (w : World) (hu : Utf w) : Calls Tryz.prog 63 #[.string s] w fun r w' => r = .returned (.bool (Lib.validD s.data.toList)) ∧ Below w.heap.size w w' := by
 go_enter Tryz.func63, Tryz.ntmps63
 go_wp2_with fail
 refine (Tryz.utf8_ValidString s _ hs hu).mono ?_; rintro r w1 ⟨rfl, hb⟩; go_wp2
 go_ret
 exact ⟨rfl, hb⟩
theorem Oj (s : ByteArray) (hs : s.size ≤ 1000000000) (hv : Lib.validD s.data.toList = true) (w : World) (hu : Utf w) : Calls Tryz.prog 55 #[.string s] w fun r w' => ∃ b : ByteArray, r = .returned (.tuple #[.string b, .int .i64 0]) ∧ b.data.toList = Gf s.data.toList ∧ Below w.heap.size w w' := by
 have hbl := Gr s.data.toList; rw [Al] at hbl; have HV := Keep.mk hv; go_enter Tryz.func55, Tryz.ntmps55
 go_wp2_with fail
 refine (I1 s (by omega) _ hu).mono ?_; rw [hv]; rintro r w1 ⟨rfl, hb⟩; have HB := Keep.mk hb; clear hb hv; go_upto_block 0 with fail
 refine BC (fun W => OwnB W w1.heap.size (.slice (some ⟨w1.heap.size, 0, none⟩) 1 1) [34] ∧ Iter W (w1.heap.size + 1) s 0 ∧ Below w.heap.size w W)
  ⟨SP (OwnB.new (w := w1) [34] rfl (Nat.le_refl _) (by simp [maxLen]) rfl) s 0, S5 _ _ (by simp), up (up HB.out (al1 _ _)) (JR _ _ _)⟩ ?_
 have hwB := HB.out.size; generalize w1.heap.size = B at *; rintro W0 ⟨HO0, HI0, HB0⟩; replace HO0 := Keep.mk HO0; replace HI0 := Keep.mk HI0; replace HB0 := Keep.mk HB0; clear HB; go_cut [4] (fun s4 wx => ∃ (v : Value) (acc : List UInt8), v = s4 ∧ B ≤ wx.heap.size ∧ Keep (OwnB wx B v acc) ∧ Keep (acc = 34 :: BN s.data.toList) ∧ Keep (Below w.heap.size w wx))
 case first =>
  go_wp2_with fail
  go_loopg [4] s.size (fun gk v' wr => ∃ (v : Value) (pos : Nat) (acc : List UInt8), v = v' ∧ pos + gk = s.size ∧ acc.length + (BN (s.data.toList.drop pos)).length = 1 + (BN s.data.toList).length ∧ Keep (OwnB wr B v acc) ∧ Keep (Iter wr (B + 1) s pos) ∧ Keep (acc ++ BN (s.data.toList.drop pos) = 34 :: BN s.data.toList) ∧ Keep (Lib.validD (s.data.toList.drop pos) = true) ∧ Keep (Below w.heap.size w wr))
  case atStart => exact ⟨_, 0, [34], rfl, by omega, by rw [List.drop_zero]; rfl, HO0, HI0, ⟨by rw [List.drop_zero]; rfl⟩, ⟨by rw [List.drop_zero]; exact HV.out⟩, HB0⟩
  case round =>
   clear HO0 HI0 HB0; obtain ⟨v, pos, acc, rfl, hpos, hlen, HO, HI, HA, HT, HW⟩ := hrel; by_cases hp : pos < s.size
   ·have hgk : gk ≠ 0 := by omega
    have hne : s.data.toList.drop pos ≠ [] := by
     intro h; have h2 := congrArg List.length h; rw [List.length_drop, Al] at h2; simp at h2; omega
    have hnb : ¬ De (s.data.toList.drop pos) := by
     intro hb; have := HT.out; rw [DV _ hne, if_pos hb] at this; cases this
    have hst := Ke _ hne; have hvt := DV _ hne; rw [if_neg hnb, HT.out] at hvt; have hr := TX _ hnb; have hn1 := Lib.decodeL_width (s.data.toList.drop pos); have hn2 := Lib.decodeL_le _ hne; rw [List.length_drop, Al] at hn2; have hdd := Lib.decodeL_drop s pos; obtain ⟨⟨c, n⟩, hcn⟩ : ∃ x, Lib.decodeL (s.data.toList.drop pos) = x := ⟨_, rfl⟩
    rw [hcn] at hst hvt hr hn1 hn2 hdd; simp only [List.drop_drop] at hst hvt hr hn1 hn2; have hnx : ∀ ty, (Instr.next (.pointer (some ⟨B + 1, 0, none⟩)) true ty).run Tryz.prog wr = .ok (.tuple #[.bool true, .int .i64 pos, .int .i32 c]) (wr.iterAt (B + 1) s (pos + n)) := fun ty => by
     have := Lib.run_next_any_at (P := Tryz.prog) wr (B + 1) s pos ty HI.out hp; rw [← hdd] at this; exact this
    have hle := KW c; have hsl : (BN (s.data.toList.drop pos)).length = (B6 c).length + (BN (s.data.toList.drop (pos + n))).length := by rw [hst, List.length_append]
    have HST := Keep.mk hst; have HVT := Keep.mk hvt.symm; clear hne hnb hst hvt hdd hcn; go_upto_block 2 with fail
    refine BC (fun W => OwnB W B v acc ∧ Iter W (B + 1) s (pos + n) ∧ Below w.heap.size w W) ⟨HO.out.iter HI.out _, Lib.iterAt_heap _ _ _ _ _ HI.out, Sa HW.out (by omega) _ _⟩ ?_; clear hnx HO HI HW; rintro W1 ⟨HO, HI, HW⟩; replace HO := Keep.mk HO; replace HI := Keep.mk HI; replace HW := Keep.mk HW; have hwB1 : B ≤ W1.heap.size := by have := HI.out.lt; omega
    have HREL : Keep (∀ (v9 : Value) (w9 : World), OwnB w9 B v9 (acc ++ B6 c) → Iter w9 (B + 1) s (pos + n) → Below w.heap.size w w9 → ∃ (v : Value) (pos' : Nat) (acc' : List UInt8), v = v9 ∧ pos' + (gk - n) = s.size ∧ acc'.length + (BN (s.data.toList.drop pos')).length = 1 + (BN s.data.toList).length ∧ Keep (OwnB w9 B v acc') ∧ Keep (Iter w9 (B + 1) s pos') ∧ Keep (acc' ++ BN (s.data.toList.drop pos') = 34 :: BN s.data.toList) ∧ Keep (Lib.validD (s.data.toList.drop pos') = true) ∧ Keep (Below w.heap.size w w9)) :=
     ⟨fun v9 w9 h1 h2 h3 => ⟨v9, pos + n, acc ++ B6 c, rfl, by omega, by rw [List.length_append]; omega, ⟨h1⟩, ⟨h2⟩, ⟨by rw [← HA.out, HST.out, List.append_assoc]⟩, HVT, ⟨h3⟩⟩⟩
    have hal : acc.length ≤ 10000000000 := by omega
    clear hlen hsl hle HA HST HVT hpos; by_cases h34 : c = 34
    ·subst h34
     have HE := Keep.mk (show B6 34 = [92, 34] by decide); go_wp2_with (at_builtin; refine Br rfl (.tmp 26) (.tmp 29) rfl B v acc rfl (HO.out.alloc _) ⟨W1.heap.size, 0, none⟩ 2 2 [92, 34] rfl rfl (CB [92, 34] _ rfl) (by simp; omega) (by simp; omega) ?_)
     intro v9 w9 hO9 hb9 hi9; go_wp2
     go_roundg (gk - n)
     case rel => exact HREL.out v9 w9 (by rw [HE.out]; exact hO9) (hi9 _ _ _ (HI.out.alloc _)) (HW.out.trans ((al1 _ _).mono HW.out.size |>.trans (hb9.mono hwB)))
     case measure => omega
    by_cases h92 : c = 92
    ·subst h92
     have HE := Keep.mk (show B6 92 = [92, 92] by decide); go_wp2_with (at_builtin; refine Br rfl (.tmp 26) (.tmp 29) rfl B v acc rfl (HO.out.alloc _) ⟨W1.heap.size, 0, none⟩ 2 2 [92, 92] rfl rfl (CB [92, 92] _ rfl) (by simp; omega) (by simp; omega) ?_)
     intro v9 w9 hO9 hb9 hi9; go_wp2
     go_roundg (gk - n)
     case rel => exact HREL.out v9 w9 (by rw [HE.out]; exact hO9) (hi9 _ _ _ (HI.out.alloc _)) (HW.out.trans ((al1 _ _).mono HW.out.size |>.trans (hb9.mono hwB)))
     case measure => omega
    by_cases h8 : c = 8
    ·subst h8
     clear h34 h92; have HE := Keep.mk (show B6 8 = [92, 98] by decide); go_wp2_with (at_builtin; refine Br rfl (.tmp 34) (.tmp 35) rfl B v acc rfl (HO.out.alloc _) ⟨W1.heap.size, 0, none⟩ 2 2 [92, 98] rfl rfl (CB [92, 98] _ rfl) (by simp; omega) (by simp; omega) ?_)
     intro v9 w9 hO9 hb9 hi9; go_wp2
     go_roundg (gk - n)
     case rel => exact HREL.out v9 w9 (by rw [HE.out]; exact hO9) (hi9 _ _ _ (HI.out.alloc _)) (HW.out.trans ((al1 _ _).mono HW.out.size |>.trans (hb9.mono hwB)))
     case measure => omega
    by_cases h9 : c = 9
    ·subst h9
     clear h34 h92; have HE := Keep.mk (show B6 9 = [92, 116] by decide); go_wp2_with (at_builtin; refine Br rfl (.tmp 40) (.tmp 41) rfl B v acc rfl (HO.out.alloc _) ⟨W1.heap.size, 0, none⟩ 2 2 [92, 116] rfl rfl (CB [92, 116] _ rfl) (by simp; omega) (by simp; omega) ?_)
     intro v9 w9 hO9 hb9 hi9; go_wp2
     go_roundg (gk - n)
     case rel => exact HREL.out v9 w9 (by rw [HE.out]; exact hO9) (hi9 _ _ _ (HI.out.alloc _)) (HW.out.trans ((al1 _ _).mono HW.out.size |>.trans (hb9.mono hwB)))
     case measure => omega
    by_cases h10 : c = 10
    ·subst h10
     clear h34 h92; have HE := Keep.mk (show B6 10 = [92, 110] by decide); go_wp2_with (at_builtin; refine Br rfl (.tmp 46) (.tmp 47) rfl B v acc rfl (HO.out.alloc _) ⟨W1.heap.size, 0, none⟩ 2 2 [92, 110] rfl rfl (CB [92, 110] _ rfl) (by simp; omega) (by simp; omega) ?_)
     intro v9 w9 hO9 hb9 hi9; go_wp2
     go_roundg (gk - n)
     case rel => exact HREL.out v9 w9 (by rw [HE.out]; exact hO9) (hi9 _ _ _ (HI.out.alloc _)) (HW.out.trans ((al1 _ _).mono HW.out.size |>.trans (hb9.mono hwB)))
     case measure => omega
    by_cases h12 : c = 12
    ·subst h12
     clear h34 h92; have HE := Keep.mk (show B6 12 = [92, 102] by decide); go_wp2_with (at_builtin; refine Br rfl (.tmp 52) (.tmp 53) rfl B v acc rfl (HO.out.alloc _) ⟨W1.heap.size, 0, none⟩ 2 2 [92, 102] rfl rfl (CB [92, 102] _ rfl) (by simp; omega) (by simp; omega) ?_)
     intro v9 w9 hO9 hb9 hi9; go_wp2
     go_roundg (gk - n)
     case rel => exact HREL.out v9 w9 (by rw [HE.out]; exact hO9) (hi9 _ _ _ (HI.out.alloc _)) (HW.out.trans ((al1 _ _).mono HW.out.size |>.trans (hb9.mono hwB)))
     case measure => omega
    by_cases h13 : c = 13
    ·subst h13
     clear h34 h92; have HE := Keep.mk (show B6 13 = [92, 114] by decide); go_wp2_with (at_builtin; refine Br rfl (.tmp 58) (.tmp 59) rfl B v acc rfl (HO.out.alloc _) ⟨W1.heap.size, 0, none⟩ 2 2 [92, 114] rfl rfl (CB [92, 114] _ rfl) (by simp; omega) (by simp; omega) ?_)
     intro v9 w9 hO9 hb9 hi9; go_wp2
     go_roundg (gk - n)
     case rel => exact HREL.out v9 w9 (by rw [HE.out]; exact hO9) (hi9 _ _ _ (HI.out.alloc _)) (HW.out.trans ((al1 _ _).mono HW.out.size |>.trans (hb9.mono hwB)))
     case measure => omega
    by_cases h32 : c < 32
    ·have HE := Keep.mk (show B6 c = [92, 117, 48, 48, EZ (c / 16), EZ (c % 16)] by
      unfold B6; rw [if_neg (by omega), if_neg h8, if_neg h9, if_neg h10, if_neg h12, if_neg h13, if_pos h32])
     have b0 : ((c : Int) == 34) = false := by simp; omega
     have b1 : ((c : Int) == 92) = false := by simp; omega
     have b2 : ((c : Int) == 8) = false := by simp; omega
     have b3 : ((c : Int) == 9) = false := by simp; omega
     have b4 : ((c : Int) == 10) = false := by simp; omega
     have b5 : ((c : Int) == 12) = false := by simp; omega
     have b6 : ((c : Int) == 13) = false := by simp; omega
     have hlt : (c : Int) < 32 := by omega
     clear h34 h92 h8 h9 h10 h12 h13; obtain ⟨q, hq⟩ : ∃ q : Nat, (c : Int) / 16 = q := ⟨c / 16, by push_cast; rfl⟩
     have hqe : c / 16 = q := by omega
     obtain ⟨m, hm⟩ : ∃ m : Nat, c % 16 = m := ⟨_, rfl⟩
     have hand : bits .and .i32 (c : Int) 15 = m := by
      have := Ws ⟨c, by omega⟩; rw [hm] at this; exact this
     rw [hqe, hm] at HE; have hiq := V0 q (by omega); have him := V0 m (by omega); have hq2 : q < 2 := by omega
     have hm2 : m < 16 := by omega
     generalize EZ q = x1 at *; generalize EZ m = x2 at *; clear hqe hm; go_upto_region 21 with fail
     go_region_law ((refine IM rfl (.tmp 64) (.tmp 71) rfl B v acc (by simp [Act.eval]) (by first | exact HO.out.alloc _ | exact (HO.out.below (DP _) (Nat.le_refl _)).alloc _ | exact (HO.out.alloc _).below (DP _) (Nat.le_refl _)) ⟨W1.heap.size, 0, none⟩ 6 6 [92, 117, 48, 48, x1, x2] rfl (by simp [Act.eval]) (by first | exact CB _ _ rfl | exact Lf _ _ rfl) (by simp; omega) (by simp; omega) ?_; intro v9 w9 hO9 hb9 hi9))
     all_goals
      go_wp2
      go_roundg (gk - n)
      case rel => exact HREL.out v9 w9 (by rw [HE.out]; exact hO9) (hi9 _ _ _ (by first | exact HI.out.alloc _ | exact (HI.out.alloc _).below (DP _))) (HW.out.trans (((by first | exact al1 _ _ | exact up (DP _) (al1 _ _) | exact up (al1 _ _) (DP _) : Below W1.heap.size W1 _)).mono HW.out.size |>.trans (hb9.mono hwB)))
      case measure => omega
    have HE := Keep.mk (show B6 c = Lib.encodeRune c by
     unfold B6; rw [if_neg (by omega), if_neg h8, if_neg h9, if_neg h10, if_neg h12, if_neg h13, if_neg h32])
    have b0 : ((c : Int) == 34) = false := by simp; omega
    have b1 : ((c : Int) == 92) = false := by simp; omega
    have b2 : ((c : Int) == 8) = false := by simp; omega
    have b3 : ((c : Int) == 9) = false := by simp; omega
    have b4 : ((c : Int) == 10) = false := by simp; omega
    have b5 : ((c : Int) == 12) = false := by simp; omega
    have b6 : ((c : Int) == 13) = false := by simp; omega
    have hlt : ¬ (c : Int) < 32 := by omega
    clear h34 h92 h8 h9 h10 h12 h13 h32; go_wp2_with fail
    refine (Oh B v acc c (by omega) W1 HO.out (by omega) hwB1).mono ?_; rintro r w9 ⟨v9, rfl, hO9, hb9, hi9⟩; go_wp2
    go_roundg (gk - n)
    case rel => exact HREL.out v9 w9 (by rw [HE.out]; exact hO9) (hi9 _ _ _ HI.out) (HW.out.trans (hb9.mono hwB))
    case measure => omega
   have hnx : ∀ ty, (Instr.next (.pointer (some ⟨B + 1, 0, none⟩)) true ty).run Tryz.prog wr = _ := fun ty => Lib.run_next_end_at (P := Tryz.prog) wr (B + 1) s pos ty HI.out hp
   have hdr : s.data.toList.drop pos = [] := List.drop_eq_nil_of_le (by rw [Al]; omega); have HE := Keep.mk (show acc = 34 :: BN s.data.toList by rw [← HA.out, hdr, Ln, List.append_nil]); clear hdr; go_wp2_with fail
   go_meet
   exact ⟨v, acc, rfl, by have := HI.out.lt; omega, HO, HE, HW⟩
 case rest =>
  clear HO0 HI0 HB0; obtain ⟨v, acc, rfl, hwB1, HO, HE, HW⟩ := hcut; have hal : acc.length ≤ 10000000000 := by rw [HE.out, List.length_cons]; omega
  go_wp2_with (at_builtin; refine Br rfl (.tmp 73) (.tmp 74) rfl B v acc rfl (HO.out.alloc _) ⟨wc.heap.size, 0, none⟩ 1 1 [34] rfl rfl (CB [34] _ rfl) (by simp; omega) (by simp; omega) ?_)
  intro v9 w9 hO9 hb9 _; have HS := Keep.mk hO9.string; have hs9 := HS.out; go_wp2
  go_ret2
  exact ⟨_, rfl, by rw [Um, HE.out]; rfl, HW.out.trans (((al1 _ _).mono HW.out.size).trans (hb9.mono hwB))⟩
end Go.Proofs.YtakncilicoefdaaGreatDoor
namespace Th
open Go Go.Lib
def CQ (c : UInt8) : Bool := decide (c.toNat = 32) || decide (c.toNat = 9) || decide (c.toNat = 10) || decide (c.toNat = 13)
def A8 (p : UInt8 → Bool) : List UInt8 → Nat
 | [] => 0
 | c :: r => if p c = true then A8 p r + 1 else 0
theorem F5 (p : UInt8 → Bool) : ∀ l : List UInt8, A8 p l ≤ l.length
 | [] => Nat.le_refl _
 | c :: r => by
  have := F5 p r; simp only [A8, List.length_cons]; split <;> omega
theorem OU (p : UInt8 → Bool) : ∀ (l : List UInt8) (i : Nat) (h : i < l.length), i < A8 p l → p l[i] = true
 | c :: r, 0, _, h => by
  simp only [A8] at h; split at h
  ·assumption
  omega
 | c :: r, i + 1, h, hi => by
  simp only [A8] at hi; split at hi
  ·exact OU p r i (by simpa using h) (by omega)
  omega
theorem Is (p : UInt8 → Bool) : ∀ (l : List UInt8) (h : A8 p l < l.length), p l[A8 p l] = false
 | [], h => by simp at h
 | c :: r, h => by
  by_cases hc : p c = true
  ·have e : A8 p (c :: r) = A8 p r + 1 := by simp only [A8]; rw [if_pos hc]
   have := Is p r (by rw [e] at h; simpa using h); simp only [e, List.getElem_cons_succ]; exact this
  have e : A8 p (c :: r) = 0 := by simp only [A8]; rw [if_neg hc]
  simp only [e, List.getElem_cons_zero]; simpa using hc
theorem QI (p : UInt8 → Bool) (l : List UInt8) (n : Nat) (hn : n ≤ l.length) (h1 : ∀ i (h : i < l.length), i < n → p l[i] = true) (h2 : n = l.length ∨ ∃ h : n < l.length, p l[n] = false) : A8 p l = n := by
 rcases Nat.lt_trichotomy (A8 p l) n with h | h | h
 ·have := Is p l (by omega)
  rw [h1 _ _ h] at this; cases this
 ·exact h
 rcases h2 with h2 | ⟨hl, h2⟩
 ·have := F5 p l; omega
 have := OU p l n hl h; rw [this] at h2; cases h2
structure Tk where
 sign : Nat
 k : Int
 m : Int
 x : Int
 s : ByteArray
 at_ : Nat
 to_ : Nat
 e : Int
def Tk.v (t : Tk) : JV := .mk t.k t.m t.x t.s [] []
end Th
