/- Lemmas and contracts. Conditions: those that each lemma names. -/
import Derived.Test.YtakncilicoefdaaGreatDoorPz5
set_option maxRecDepth 100000
set_option maxHeartbeats 4000000
namespace Go.Proofs.YtakncilicoefdaaGreatDoor
open Go Go.RowKit Go.Proofs Th
attribute [local go_sem] Above.cell
theorem SQ (s : ByteArray) : (s.extract 1 s.size).data.toList = s.data.toList.drop 1 := by
 rw [Lib.extract_data, List.take_of_length_le]; simp
theorem Im (s : ByteArray) : (s.extract 1 s.size).size = s.size - 1 := by simp
def C0 (p : Int × Bool) : Value := .tuple #[.int .i64 p.1, .bool p.2]
def BM (l : List UInt8) : Int × Bool := match DH l with | none => (0, false) | some (neg, u) => (sg neg (BD u), true)
theorem Gx {p : Int × Bool} {a : Int} {c : Bool} (h : p = (a, c)) : Ending.returned (.tuple #[.int .i64 a, .bool c]) = .returned (C0 p) := by rw [h]; rfl
theorem Zb (c : UInt8) (l : List UInt8) (d : UInt8) : Lib.hasPrefix (c :: l) [d] = (d == c) := by simp [Lib.hasPrefix, List.isPrefixOf]
theorem W5 (d : UInt8) : Lib.hasPrefix [] [d] = false := rfl
theorem YP (w : World) : Calls Tryz.prog 158 #[.string ⟨#[]⟩] w fun r w' => r = .returned (C0 (0, true)) ∧ Below w.heap.size w w' := by
 go_enter Tryz.func158, Tryz.ntmps158
 go_wp2
 go_ret2
 exact ⟨rfl, Below.refl _ _⟩
theorem TC (s : ByteArray) (hs0 : 0 < s.size) (h1 : (s[0].toNat : Int) ≠ 101) (h2 : (s[0].toNat : Int) ≠ 69) (w : World) : Calls Tryz.prog 158 #[.string s] w fun r w' => r = .returned (C0 (0, false)) ∧ Below w.heap.size w w' := by
 have h1' : ((s[0].toNat : Int) != 101) = true := by simpa using h1
 have h2' : ((s[0].toNat : Int) != 69) = true := by simpa using h2
 have he : s.toList.isEmpty = false := by
  have : s.toList.length = s.size := by simp [ByteArray.toList_eq]
  cases hh : s.toList with
  | nil => rw [hh] at this; simp at this; omega
  | cons _ _ => rfl
 clear h1 h2; go_enter Tryz.func158, Tryz.ntmps158
 go_wp2
 go_ret2
 exact ⟨rfl, Below.refl _ _⟩
theorem D3 {s : ByteArray} (h : 0 < s.size) : s.toList.isEmpty = false := by
 have : s.toList.length = s.size := by simp [ByteArray.toList_eq]
 cases hh : s.toList with
 | nil => rw [hh] at this; simp at this; omega
 | cons _ _ => rfl
theorem XY (U : ByteArray) (h : AK U.data.toList = U.size) (k : Nat) (hk : k < U.size) : 48 ≤ U[k].toNat ∧ U[k].toNat ≤ 57 :=
 K4 U.data.toList k (by simpa using hk) (by omega)
theorem IY (U : ByteArray) (k : Nat) (hk : k < U.size) : BD (U.data.toList.take (k + 1)) = min (BD (U.data.toList.take k) * 10 + dg U[k]) 1099511627776 := by
 rw [List.take_succ_eq_append_getElem (by simpa using hk), QC]; rfl
theorem TL (s : ByteArray) (hs : s.size ≤ 4611686018427387904) (hs0 : 0 < s.size) (h1 : ((s[0].toNat : Int) != 101) = false ∨ (((s[0].toNat : Int) != 101) = true ∧ ((s[0].toNat : Int) != 69) = false)) (T : ByteArray) (hT : s.extract 1 s.size = T) (U : ByteArray) (hU : T.extract 1 T.size = U) (hT1 : 0 < T.size) (hp : Lib.hasPrefix T.data.toList [45] = true) (hsz : U.size ≤ 9223372036854775807) (hn : ((AK U.data.toList : Int) == 0) = true ∨ (((AK U.data.toList : Int) == 0) = false ∧ (AK U.data.toList : Int) < U.size)) (HX : Keep (BM s.data.toList = (0, false))) (w : World) :
  Calls Tryz.prog 158 #[.string s] w fun r w' => r = .returned (C0 (BM s.data.toList)) ∧ Below w.heap.size w w' := by
 have he := D3 hs0; have HT := Keep.mk hT; clear hT; have HU := Keep.mk hU; clear hU; have BB0 := Below.refl w.heap.size w; rcases h1 with h1 | ⟨h1, h2⟩
 all_goals
  rcases hn with hn | ⟨hn, hn2⟩
 all_goals
  go_enter Tryz.func158, Tryz.ntmps158
  go_wp2_with fail
  rw [HT.out]; refine (hasPrefix T ⟨#[45]⟩ _).mono ?_; rw [hp]; rintro r w1 ⟨rfl, hb1⟩; go_wp2_with fail
  rw [HU.out]; have BB := hb1; go_wp2_with fail
  refine (Bo U hsz _).mono ?_; rintro r w9 ⟨rfl, hb9⟩; go_wp2
  go_ret2
  exact ⟨Gx HX.out, BB.trans (hb9.mono BB.size)⟩
theorem Y0 (s : ByteArray) (hs : s.size ≤ 4611686018427387904) (hs0 : 0 < s.size) (h1 : ((s[0].toNat : Int) != 101) = false ∨ (((s[0].toNat : Int) != 101) = true ∧ ((s[0].toNat : Int) != 69) = false)) (T : ByteArray) (hT : s.extract 1 s.size = T) (U : ByteArray) (hU : T.extract 1 T.size = U) (hT1 : 0 < T.size) (hp : Lib.hasPrefix T.data.toList [45] = true) (hsz : U.size ≤ 9223372036854775807) (hn : ((AK U.data.toList : Int) == 0) = false) (hn2 : ¬ (AK U.data.toList : Int) < U.size) (HD : Keep (∀ k (hk : k < U.size), 48 ≤ U[k].toNat ∧ U[k].toNat ≤ 57)) (HX : Keep (BM s.data.toList = (sg true (BD U.data.toList), true))) (w : World) :
  Calls Tryz.prog 158 #[.string s] w fun r w' => r = .returned (C0 (BM s.data.toList)) ∧ Below w.heap.size w w' := by
 have he := D3 hs0; have HT := Keep.mk hT; clear hT; have HU := Keep.mk hU; clear hU; have BB0 := Below.refl w.heap.size w; rcases h1 with h1 | ⟨h1, h2⟩
 all_goals
  go_enter Tryz.func158, Tryz.ntmps158
  go_wp2_with fail
  rw [HT.out]; refine (hasPrefix T ⟨#[45]⟩ _).mono ?_; rw [hp]; rintro r w1 ⟨rfl, hb1⟩; go_wp2_with fail
  rw [HU.out]; have BB := hb1; go_wp2_with fail
  refine (Bo U hsz _).mono ?_; rintro r w9 ⟨rfl, hb9⟩; go_wp2_with fail
  go_loop [6, 41] (fun e i => ∃ k : Nat, k ≤ U.size ∧ i = .int .i64 k ∧ e = .int .i64 (BD (U.data.toList.take k))) (fun _ i => U.size - (intOf i).toNat)
  case atStart => exact ⟨0, Nat.zero_le _, rfl, rfl⟩
  case round =>
   obtain ⟨k, hk, rfl, rfl⟩ := hrel; have hcl := FS (U.data.toList.take k); by_cases hlt : k < U.size
   ·have hdk := HD.out k hlt
    obtain ⟨hd1, hd2⟩ := hdk; have HS := Keep.mk (IY U k hlt); go_wp2
    refine ⟨⟨k + 1, by omega, by go_num, ?_⟩, by simp [intOf]; omega⟩; rw [HS.out]; congr 1; unfold dg; omega
   have hk2 : k = U.size := by omega
   have HS := Keep.mk (show U.data.toList.take k = U.data.toList by rw [List.take_of_length_le]; simp; omega); clear hk2; go_wp2
   go_ret2
   exact ⟨Gx (by rw [HX.out, HS.out]; rfl), BB.trans (hb9.mono BB.size)⟩
theorem Tb (s : ByteArray) (hs : s.size ≤ 4611686018427387904) (hs0 : 0 < s.size) (h1 : ((s[0].toNat : Int) != 101) = false ∨ (((s[0].toNat : Int) != 101) = true ∧ ((s[0].toNat : Int) != 69) = false)) (T : ByteArray) (hT : s.extract 1 s.size = T) (U : ByteArray) (hU : T.extract 1 T.size = U) (hT1 : 0 < T.size) (hp : Lib.hasPrefix T.data.toList [45] = false) (hp2 : Lib.hasPrefix T.data.toList [43] = true) (hsz : U.size ≤ 9223372036854775807) (hn : ((AK U.data.toList : Int) == 0) = true ∨ (((AK U.data.toList : Int) == 0) = false ∧ (AK U.data.toList : Int) < U.size)) (HX : Keep (BM s.data.toList = (0, false))) (w : World) :
  Calls Tryz.prog 158 #[.string s] w fun r w' => r = .returned (C0 (BM s.data.toList)) ∧ Below w.heap.size w w' := by
 have he := D3 hs0; have HT := Keep.mk hT; clear hT; have HU := Keep.mk hU; clear hU; have BB0 := Below.refl w.heap.size w; rcases h1 with h1 | ⟨h1, h2⟩
 all_goals
  rcases hn with hn | ⟨hn, hn2⟩
 all_goals
  go_enter Tryz.func158, Tryz.ntmps158
  go_wp2_with fail
  rw [HT.out]; refine (hasPrefix T ⟨#[45]⟩ _).mono ?_; rw [hp]; rintro r w1 ⟨rfl, hb1⟩; go_wp2_with fail
  refine (hasPrefix T ⟨#[43]⟩ _).mono ?_; rw [hp2]; rintro r w2 ⟨rfl, hb2⟩; have BB := hb1.trans (hb2.mono hb1.size); go_wp2_with fail
  rw [HU.out]; go_wp2_with fail
  refine (Bo U hsz _).mono ?_; rintro r w9 ⟨rfl, hb9⟩; go_wp2
  go_ret2
  exact ⟨Gx HX.out, BB.trans (hb9.mono BB.size)⟩
theorem ZO (s : ByteArray) (hs : s.size ≤ 4611686018427387904) (hs0 : 0 < s.size) (h1 : ((s[0].toNat : Int) != 101) = false ∨ (((s[0].toNat : Int) != 101) = true ∧ ((s[0].toNat : Int) != 69) = false)) (T : ByteArray) (hT : s.extract 1 s.size = T) (U : ByteArray) (hU : T.extract 1 T.size = U) (hT1 : 0 < T.size) (hp : Lib.hasPrefix T.data.toList [45] = false) (hp2 : Lib.hasPrefix T.data.toList [43] = true) (hsz : U.size ≤ 9223372036854775807) (hn : ((AK U.data.toList : Int) == 0) = false) (hn2 : ¬ (AK U.data.toList : Int) < U.size) (HD : Keep (∀ k (hk : k < U.size), 48 ≤ U[k].toNat ∧ U[k].toNat ≤ 57)) (HX : Keep (BM s.data.toList = (sg false (BD U.data.toList), true))) (w : World) :
  Calls Tryz.prog 158 #[.string s] w fun r w' => r = .returned (C0 (BM s.data.toList)) ∧ Below w.heap.size w w' := by
 have he := D3 hs0; have HT := Keep.mk hT; clear hT; have HU := Keep.mk hU; clear hU; have BB0 := Below.refl w.heap.size w; rcases h1 with h1 | ⟨h1, h2⟩
 all_goals
  go_enter Tryz.func158, Tryz.ntmps158
  go_wp2_with fail
  rw [HT.out]; refine (hasPrefix T ⟨#[45]⟩ _).mono ?_; rw [hp]; rintro r w1 ⟨rfl, hb1⟩; go_wp2_with fail
  refine (hasPrefix T ⟨#[43]⟩ _).mono ?_; rw [hp2]; rintro r w2 ⟨rfl, hb2⟩; have BB := hb1.trans (hb2.mono hb1.size); go_wp2_with fail
  rw [HU.out]; go_wp2_with fail
  refine (Bo U hsz _).mono ?_; rintro r w9 ⟨rfl, hb9⟩; go_wp2_with fail
  go_loop [6, 41] (fun e i => ∃ k : Nat, k ≤ U.size ∧ i = .int .i64 k ∧ e = .int .i64 (BD (U.data.toList.take k))) (fun _ i => U.size - (intOf i).toNat)
  case atStart => exact ⟨0, Nat.zero_le _, rfl, rfl⟩
  case round =>
   obtain ⟨k, hk, rfl, rfl⟩ := hrel; have hcl := FS (U.data.toList.take k); by_cases hlt : k < U.size
   ·have hdk := HD.out k hlt
    obtain ⟨hd1, hd2⟩ := hdk; have HS := Keep.mk (IY U k hlt); go_wp2
    refine ⟨⟨k + 1, by omega, by go_num, ?_⟩, by simp [intOf]; omega⟩; rw [HS.out]; congr 1; unfold dg; omega
   have hk2 : k = U.size := by omega
   have HS := Keep.mk (show U.data.toList.take k = U.data.toList by rw [List.take_of_length_le]; simp; omega); clear hk2; go_wp2
   go_ret2
   exact ⟨Gx (by rw [HX.out, HS.out]; rfl), BB.trans (hb9.mono BB.size)⟩
theorem Un (s : ByteArray) (hs : s.size ≤ 4611686018427387904) (hs0 : 0 < s.size) (h1 : ((s[0].toNat : Int) != 101) = false ∨ (((s[0].toNat : Int) != 101) = true ∧ ((s[0].toNat : Int) != 69) = false)) (T : ByteArray) (hT : s.extract 1 s.size = T) (hp : Lib.hasPrefix T.data.toList [45] = false) (hp2 : Lib.hasPrefix T.data.toList [43] = false) (hsz : T.size ≤ 9223372036854775807) (hn : ((AK T.data.toList : Int) == 0) = true ∨ (((AK T.data.toList : Int) == 0) = false ∧ (AK T.data.toList : Int) < T.size)) (HX : Keep (BM s.data.toList = (0, false))) (w : World) :
  Calls Tryz.prog 158 #[.string s] w fun r w' => r = .returned (C0 (BM s.data.toList)) ∧ Below w.heap.size w w' := by
 have he := D3 hs0; have HT := Keep.mk hT; clear hT; have BB0 := Below.refl w.heap.size w; rcases h1 with h1 | ⟨h1, h2⟩
 all_goals
  rcases hn with hn | ⟨hn, hn2⟩
 all_goals
  go_enter Tryz.func158, Tryz.ntmps158
  go_wp2_with fail
  rw [HT.out]; refine (hasPrefix T ⟨#[45]⟩ _).mono ?_; rw [hp]; rintro r w1 ⟨rfl, hb1⟩; go_wp2_with fail
  refine (hasPrefix T ⟨#[43]⟩ _).mono ?_; rw [hp2]; rintro r w2 ⟨rfl, hb2⟩; have BB := hb1.trans (hb2.mono hb1.size); go_wp2_with fail
  refine (Bo T hsz _).mono ?_; rintro r w9 ⟨rfl, hb9⟩; go_wp2
  go_ret2
  exact ⟨Gx HX.out, BB.trans (hb9.mono BB.size)⟩
theorem ZR (s : ByteArray) (hs : s.size ≤ 4611686018427387904) (hs0 : 0 < s.size) (h1 : ((s[0].toNat : Int) != 101) = false ∨ (((s[0].toNat : Int) != 101) = true ∧ ((s[0].toNat : Int) != 69) = false)) (T : ByteArray) (hT : s.extract 1 s.size = T) (hp : Lib.hasPrefix T.data.toList [45] = false) (hp2 : Lib.hasPrefix T.data.toList [43] = false) (hsz : T.size ≤ 9223372036854775807) (hn : ((AK T.data.toList : Int) == 0) = false) (hn2 : ¬ (AK T.data.toList : Int) < T.size) (HD : Keep (∀ k (hk : k < T.size), 48 ≤ T[k].toNat ∧ T[k].toNat ≤ 57)) (HX : Keep (BM s.data.toList = (sg false (BD T.data.toList), true))) (w : World) :
  Calls Tryz.prog 158 #[.string s] w fun r w' => r = .returned (C0 (BM s.data.toList)) ∧ Below w.heap.size w w' := by
 have he := D3 hs0; have HT := Keep.mk hT; clear hT; have BB0 := Below.refl w.heap.size w; rcases h1 with h1 | ⟨h1, h2⟩
 all_goals
  go_enter Tryz.func158, Tryz.ntmps158
  go_wp2_with fail
  rw [HT.out]; refine (hasPrefix T ⟨#[45]⟩ _).mono ?_; rw [hp]; rintro r w1 ⟨rfl, hb1⟩; go_wp2_with fail
  refine (hasPrefix T ⟨#[43]⟩ _).mono ?_; rw [hp2]; rintro r w2 ⟨rfl, hb2⟩; have BB := hb1.trans (hb2.mono hb1.size); go_wp2_with fail
  refine (Bo T hsz _).mono ?_; rintro r w9 ⟨rfl, hb9⟩; go_wp2_with fail
  go_loop [6, 41] (fun e i => ∃ k : Nat, k ≤ T.size ∧ i = .int .i64 k ∧ e = .int .i64 (BD (T.data.toList.take k))) (fun _ i => T.size - (intOf i).toNat)
  case atStart => exact ⟨0, Nat.zero_le _, rfl, rfl⟩
  case round =>
   obtain ⟨k, hk, rfl, rfl⟩ := hrel; have hcl := FS (T.data.toList.take k); by_cases hlt : k < T.size
   ·have hdk := HD.out k hlt
    obtain ⟨hd1, hd2⟩ := hdk; have HS := Keep.mk (IY T k hlt); go_wp2
    refine ⟨⟨k + 1, by omega, by go_num, ?_⟩, by simp [intOf]; omega⟩; rw [HS.out]; congr 1; unfold dg; omega
   have hk2 : k = T.size := by omega
   have HS := Keep.mk (show T.data.toList.take k = T.data.toList by rw [List.take_of_length_le]; simp; omega); clear hk2; go_wp2
   go_ret2
   exact ⟨Gx (by rw [HX.out, HS.out]; rfl), BB.trans (hb9.mono BB.size)⟩
theorem HY {l : List UInt8} {c : UInt8} (h : Lib.hasPrefix l [c] = true) : l = c :: l.drop 1 := by
 cases l with
 | nil => simp [W5] at h
 | cons d l => rw [Zb] at h; simp at h; simp [h]
theorem MX {d : UInt8} {l : List UInt8} {c : UInt8} (h : Lib.hasPrefix (d :: l) [c] = false) : d ≠ c := by
 rw [Zb] at h; simp at h; exact fun hh => h hh.symm
def F5 (neg : Bool) (u : List UInt8) : Int × Bool := if AK u = 0 ∨ AK u < u.length then (0, false) else (sg neg (BD u), true)
theorem MF (neg : Bool) (u : List UInt8) : (match Lr neg u with | none => ((0, false) : Int × Bool) | some (neg, u) => (sg neg (BD u), true)) = F5 neg u := by
 unfold F5 Lr; split <;> rename_i h <;> split at h <;> simp_all
theorem UU {c : UInt8} (hc : c = 101 ∨ c = 69) (u : List UInt8) : BM (c :: 45 :: u) = F5 true u := by
 rw [← MF]; unfold BM DH; simp [hc]
theorem Ta {c : UInt8} (hc : c = 101 ∨ c = 69) (u : List UInt8) : BM (c :: 43 :: u) = F5 false u := by
 rw [← MF]; unfold BM DH; simp [hc]
theorem R1 {c : UInt8} (hc : c = 101 ∨ c = 69) (t : List UInt8) (h1 : Lib.hasPrefix t [45] = false) (h2 : Lib.hasPrefix t [43] = false) : BM (c :: t) = F5 false t := by
 rw [← MF]; unfold BM DH; cases t with
 | nil => simp [hc]
 | cons d t =>
  have g1 := MX h1; have g2 := MX h2; simp [hc, g1, g2]
theorem Gy {neg : Bool} {u : List UInt8} (h : AK u = 0 ∨ AK u < u.length) : F5 neg u = (0, false) := by unfold F5; rw [if_pos h]
theorem KM {neg : Bool} {u : List UInt8} (h1 : ¬ AK u = 0) (h2 : ¬ AK u < u.length) : F5 neg u = (sg neg (BD u), true) := by unfold F5; rw [if_neg (by omega)]
theorem Dg (s : ByteArray) (hs : s.size ≤ 4611686018427387904) (w : World) :
  Calls Tryz.prog 158 #[.string s] w fun r w' => r = .returned (C0 (BM s.data.toList)) ∧ Below w.heap.size w w' := by
 by_cases hs0 : 0 < s.size
 case neg =>
  have : s = ⟨#[]⟩ := by
   obtain ⟨⟨l⟩⟩ := s; have : l = [] := by cases l with | nil => rfl | cons _ _ => simp [ByteArray.size] at hs0
   rw [this]
  subst this; exact YP w
 have hl : s.data.toList = s[0] :: s.data.toList.drop 1 := by
  have hlen : 0 < s.data.toList.length := by simpa using hs0
  have := List.drop_eq_getElem_cons hlen; rw [List.drop_zero] at this; exact this
 by_cases hc : s[0] = 101 ∨ s[0] = 69
 case neg =>
  have hr : BM s.data.toList = (0, false) := by
   rw [hl]; unfold BM DH; simp [hc]
  have q := TC s hs0 (fun h => hc (.inl (UInt8.toNat.inj (by simpa using (by exact_mod_cast h : s[0].toNat = 101))))) (fun h => hc (.inr (UInt8.toNat.inj (by simpa using (by exact_mod_cast h : s[0].toNat = 69))))) w; rw [← hr] at q; exact q
 have h1 : ((s[0].toNat : Int) != 101) = false ∨ (((s[0].toNat : Int) != 101) = true ∧ ((s[0].toNat : Int) != 69) = false) := by
  rcases hc with hc | hc <;> rw [hc] <;> decide
 generalize hT : s.extract 1 s.size = T; have hTl : T.data.toList = s.data.toList.drop 1 := by rw [← hT, SQ]
 have hTs : T.size = s.size - 1 := by rw [← hT, Im]
 rw [← hTl] at hl; have hlen : T.data.toList.length = T.size := by simp
 have key (U : ByteArray) (neg : Bool) : ((AK U.data.toList : Int) == 0) = true ∨ (((AK U.data.toList : Int) == 0) = false ∧ (AK U.data.toList : Int) < U.size) ∨ (((AK U.data.toList : Int) == 0) = false ∧ ¬ (AK U.data.toList : Int) < U.size) := by
  cases h : ((AK U.data.toList : Int) == 0)
  ·by_cases h2 : (AK U.data.toList : Int) < U.size
   ·exact .inr (.inl ⟨rfl, h2⟩)
   exact .inr (.inr ⟨rfl, h2⟩)
  exact .inl rfl
 have zero (U : ByteArray) (h : ((AK U.data.toList : Int) == 0) = true) : AK U.data.toList = 0 := by simpa using h
 have nzero (U : ByteArray) (h : ((AK U.data.toList : Int) == 0) = false) : ¬ AK U.data.toList = 0 := by simpa using h
 have less (U : ByteArray) (h : (AK U.data.toList : Int) < U.size) : AK U.data.toList < U.data.toList.length := by simpa using h
 have nless (U : ByteArray) (h : ¬ (AK U.data.toList : Int) < U.size) : ¬ AK U.data.toList < U.data.toList.length := by simpa using h
 have dgt (U : ByteArray) (h : ¬ (AK U.data.toList : Int) < U.size) : Keep (∀ k (hk : k < U.size), 48 ≤ U[k].toNat ∧ U[k].toNat ≤ 57) := by
  refine ⟨fun k hk => XY U ?_ k hk⟩; have := MZ U.data.toList; have := nless U h; simp at *; omega
 by_cases hp : Lib.hasPrefix T.data.toList [45] = true
 ·have hT1 : 0 < T.size := by
   have := congrArg List.length (HY hp); simp at this; omega
  generalize hU : T.extract 1 T.size = U; have hUl : U.data.toList = T.data.toList.drop 1 := by rw [← hU, SQ]
  have hUs : U.size = T.size - 1 := by rw [← hU, Im]
  have hX : BM s.data.toList = F5 true U.data.toList := by rw [hl, HY hp, ← hUl]; exact UU hc _
  have hsz : U.size ≤ 9223372036854775807 := by omega
  rcases key U true with h | h | h
  ·exact TL s hs hs0 h1 T hT U hU hT1 hp hsz (.inl h) ⟨by rw [hX, Gy (.inl (zero U h))]⟩ w
  ·exact TL s hs hs0 h1 T hT U hU hT1 hp hsz (.inr h) ⟨by rw [hX, Gy (.inr (less U h.2))]⟩ w
  exact Y0 s hs hs0 h1 T hT U hU hT1 hp hsz h.1 h.2 (dgt U h.2) ⟨by rw [hX, KM (nzero U h.1) (nless U h.2)]⟩ w
 have hp : Lib.hasPrefix T.data.toList [45] = false := by simpa using hp
 by_cases hp2 : Lib.hasPrefix T.data.toList [43] = true
 ·have hT1 : 0 < T.size := by
   have := congrArg List.length (HY hp2); simp at this; omega
  generalize hU : T.extract 1 T.size = U; have hUl : U.data.toList = T.data.toList.drop 1 := by rw [← hU, SQ]
  have hUs : U.size = T.size - 1 := by rw [← hU, Im]
  have hX : BM s.data.toList = F5 false U.data.toList := by rw [hl, HY hp2, ← hUl]; exact Ta hc _
  have hsz : U.size ≤ 9223372036854775807 := by omega
  rcases key U true with h | h | h
  ·exact Tb s hs hs0 h1 T hT U hU hT1 hp hp2 hsz (.inl h) ⟨by rw [hX, Gy (.inl (zero U h))]⟩ w
  ·exact Tb s hs hs0 h1 T hT U hU hT1 hp hp2 hsz (.inr h) ⟨by rw [hX, Gy (.inr (less U h.2))]⟩ w
  exact ZO s hs hs0 h1 T hT U hU hT1 hp hp2 hsz h.1 h.2 (dgt U h.2) ⟨by rw [hX, KM (nzero U h.1) (nless U h.2)]⟩ w
 have hp2 : Lib.hasPrefix T.data.toList [43] = false := by simpa using hp2
 have hX : BM s.data.toList = F5 false T.data.toList := by rw [hl]; exact R1 hc _ hp hp2
 have hsz : T.size ≤ 9223372036854775807 := by omega
 rcases key T true with h | h | h
 ·exact Un s hs hs0 h1 T hT hp hp2 hsz (.inl h) ⟨by rw [hX, Gy (.inl (zero T h))]⟩ w
 ·exact Un s hs hs0 h1 T hT hp hp2 hsz (.inr h) ⟨by rw [hX, Gy (.inr (less T h.2))]⟩ w
 exact ZR s hs hs0 h1 T hT hp hp2 hsz h.1 h.2 (dgt T h.2) ⟨by rw [hX, KM (nzero T h.1) (nless T h.2)]⟩ w
open Go Go.RowKit Go.Proofs Th
theorem OS (T : ByteArray) (h : ∀ k (hk : k < T.size), 48 ≤ T[k].toNat ∧ T[k].toNat ≤ 57) (k : Nat) (hk : k < T.size) (h18 : T.size ≤ 18) :
  val (dgs (T.data.toList.take (k + 1))) = val (dgs (T.data.toList.take k)) * 10 + (T[k].toNat - 48) ∧ val (dgs (T.data.toList.take k)) ≤ 99999999999999999 := by
 constructor
 ·rw [List.take_succ_eq_append_getElem (by simpa using hk)]
  unfold dgs; rw [List.map_append]; exact I0 _ _
 have hd : Pg (dgs (T.data.toList.take k)) := by
  intro d hd; obtain ⟨c, hc, rfl⟩ := List.mem_map.1 hd; obtain ⟨j, hj, rfl⟩ := List.getElem_of_mem (List.mem_of_mem_take hc); have := h j (by simpa using hj); show T.data.toList[j].toNat - 48 ≤ 9
  have e : T.data.toList[j] = T[j]'(by simpa using hj) := rfl; rw [e]; omega
 have := Om _ hd; have hl : (dgs (T.data.toList.take k)).length ≤ 17 := by
  unfold dgs; simp; omega
 have := Nat.pow_le_pow_right (n := 10) (by omega) hl; omega
theorem UO (T : ByteArray) (h : ∀ k (hk : k < T.size), 48 ≤ T[k].toNat ∧ T[k].toNat ≤ 57) (h18 : T.size ≤ 18) : val (dgs T.data.toList) ≤ 999999999999999999 := by
 have hd : Pg (dgs T.data.toList) := by
  intro d hd; obtain ⟨c, hc, rfl⟩ := List.mem_map.1 hd; obtain ⟨j, hj, rfl⟩ := List.getElem_of_mem hc; have := h j (by simpa using hj); show T.data.toList[j].toNat - 48 ≤ 9
  have e : T.data.toList[j] = T[j]'(by simpa using hj) := rfl; rw [e]; omega
 have := Om _ hd; have hl : (dgs T.data.toList).length ≤ 18 := by
  unfold dgs; simp; omega
 have := Nat.pow_le_pow_right (n := 10) (by omega) hl; omega
theorem VA (s : ByteArray) (hs : s.size ≤ 2305843009213693952) (hp : Lib.hasPrefix s.data.toList [45] = false) (d : Nat) (hd : AK s.data.toList = d) (hz0 : ((d : Int) == 0) = true) (w : World) (_hg : Glob w) :
  Calls Tryz.prog 150 #[.string s] w fun r w' => r = .returned (A4 ((0, 0), 10)) ∧ Below w.heap.size w w' := by
 go_enter Tryz.func150, Tryz.ntmps150
 go_wp2_with fail
 refine (hasPrefix s ⟨#[45]⟩ _).mono ?_; rw [hp]; rintro r w1 ⟨rfl, hb1⟩; obtain ⟨hc, hf⟩ := Am hb1; go_wp2_with fail
 refine (Bo s (by omega) _).mono ?_; rw [hd]; rintro r w2 ⟨rfl, hb2'⟩; have hb2 := up hb1 hb2'; clear hc hf; obtain ⟨hc, hf⟩ := Am hb2; go_wp2_with fail
 refine (Dj _).mono ?_; rintro r w3 ⟨rfl, hb3'⟩; have hb3 := up hb2 hb3'; clear hc hf; obtain ⟨hc, hf⟩ := Am hb3; go_wp2
 refine bodyPost_ret (v := A4 ((0, 0), 10)) ?_ rfl ⟨rfl, ?_⟩
 ·simp [A4, results, Tryz.results150, go_sem, hc]
 exact st1 (st1 (up (al1 _ _) hb3) _ _ _ (by omega)) _ _ _ (by omega)
theorem Vp (s : ByteArray) (hs : s.size ≤ 2305843009213693952) (hp : Lib.hasPrefix s.data.toList [45] = false) (d : Nat) (hd : AK s.data.toList = d) (h1 : d ≤ s.size) (hz0 : ((d : Int) == 0) = false) (hz : 1 < d) (hu : (((s[0]'(by omega)).toNat : Int) == 48) = true) (w : World) (_hg : Glob w) :
  Calls Tryz.prog 150 #[.string s] w fun r w' => r = .returned (A4 ((0, 0), 10)) ∧ Below w.heap.size w w' := by
 go_enter Tryz.func150, Tryz.ntmps150
 go_wp2_with fail
 refine (hasPrefix s ⟨#[45]⟩ _).mono ?_; rw [hp]; rintro r w1 ⟨rfl, hb1⟩; obtain ⟨hc, hf⟩ := Am hb1; go_wp2_with fail
 refine (Bo s (by omega) _).mono ?_; rw [hd]; rintro r w2 ⟨rfl, hb2'⟩; have hb2 := up hb1 hb2'; clear hc hf; obtain ⟨hc, hf⟩ := Am hb2; go_wp2_with fail
 refine (Dj _).mono ?_; rintro r w3 ⟨rfl, hb3'⟩; have hb3 := up hb2 hb3'; clear hc hf; obtain ⟨hc, hf⟩ := Am hb3; go_wp2
 refine bodyPost_ret (v := A4 ((0, 0), 10)) ?_ rfl ⟨rfl, ?_⟩
 ·simp [A4, results, Tryz.results150, go_sem, hc]
 exact st1 (st1 (up (al1 _ _) hb3) _ _ _ (by omega)) _ _ _ (by omega)
theorem VD (s : ByteArray) (hs : s.size ≤ 2305843009213693952) (hp : Lib.hasPrefix s.data.toList [45] = false) (d : Nat) (hd : AK s.data.toList = d) (h1 : d ≤ s.size) (h01 : 1 ≤ d) (hz0 : ((d : Int) == 0) = false) (hz : ¬ 1 < d ∨ (1 < d ∧ (((s[0]'(by omega)).toNat : Int) == 48) = false)) (A R : ByteArray) (hA : s.extract 0 d = A) (hR : s.extract d s.size = R) (_hAs : A.size ≤ 2305843009213693952) (hRs : R.size ≤ 2305843009213693952) (hr : Lib.hasPrefix R.data.toList [46] = true) (hR1 : 0 < R.size) (S : ByteArray) (hS : R.extract 1 R.size = S) (hSs : S.size ≤ 2305843009213693952) (f : Nat) (hf0 : AK S.data.toList = f) (_hff : f + 1 ≤ R.size) (hf1 : ((f : Int) == 0) = true) (w : World) (_hg : Glob w) :
  Calls Tryz.prog 150 #[.string s] w fun r w' => r = .returned (A4 ((0, 0), 10)) ∧ Below w.heap.size w w' := by
 have HA := Keep.mk hA; have HR := Keep.mk hR; clear hA hR; have HS := Keep.mk hS; clear hS; rcases hz with hz | ⟨hz, hu⟩
 all_goals
  go_enter Tryz.func150, Tryz.ntmps150
  go_wp2_with fail
  refine (hasPrefix s ⟨#[45]⟩ _).mono ?_; rw [hp]; rintro r w1 ⟨rfl, hb1⟩; obtain ⟨hc, hf⟩ := Am hb1; go_wp2_with fail
  refine (Bo s (by omega) _).mono ?_; rw [hd]; rintro r w2 ⟨rfl, hb2'⟩; have hb2 := up hb1 hb2'; clear hc hf; obtain ⟨hc, hf⟩ := Am hb2; go_wp2_with fail
  refine Bh hb2 (by kernel_rfl) (by kernel_rfl) ?_; repeat (go_big_quiet_step (fail))
  refine wpQuiet_nil ?_; rintro _ ⟨x3, rfl⟩; have hb3 := x3.property; clear hc hf; obtain ⟨hc, hf⟩ := Am hb3; go_wp2_with fail
  rw [HR.out]; go_wp2_with fail
  refine (hasPrefix R ⟨#[46]⟩ _).mono ?_; rw [hr]; rintro r w4 ⟨rfl, hb4'⟩; have hb4 := up hb3 hb4'; clear hc hf; obtain ⟨hc, hf⟩ := Am hb4; go_wp2_with fail
  rw [HS.out]; go_wp2_with fail
  refine (Bo S (by omega) _).mono ?_; rw [hf0]; rintro r w5 ⟨rfl, hb5'⟩; have hb5 := up hb4 hb5'; clear hc hf; obtain ⟨hc, hf⟩ := Am hb5; go_wp2_with fail
  refine (Dj _).mono ?_; rintro r w6 ⟨rfl, hb6'⟩; have hb6 := up hb5 hb6'; clear hc hf; obtain ⟨hc, hf⟩ := Am hb6; go_wp2
  refine bodyPost_ret (v := A4 ((0, 0), 10)) ?_ rfl ⟨rfl, ?_⟩
  ·simp [A4, results, Tryz.results150, go_sem, hc]
  exact st1 (st1 (up (al1 _ _) hb6) _ _ _ (by omega)) _ _ _ (by omega)
theorem V5 (s : ByteArray) (hs : s.size ≤ 2305843009213693952) (hp : Lib.hasPrefix s.data.toList [45] = false) (d : Nat) (hd : AK s.data.toList = d) (h1 : d ≤ s.size) (h01 : 1 ≤ d) (hz0 : ((d : Int) == 0) = false) (hz : ¬ 1 < d ∨ (1 < d ∧ (((s[0]'(by omega)).toNat : Int) == 48) = false)) (A R : ByteArray) (hA : s.extract 0 d = A) (hR : s.extract d s.size = R) (_hAs : A.size ≤ 2305843009213693952) (hRs : R.size ≤ 2305843009213693952) (hr : Lib.hasPrefix R.data.toList [46] = false) (e : Int) (he : BM R.data.toList = (e, false)) (_he0 : -1099511627776 ≤ e) (_he1 : e ≤ 1099511627776) (w : World) (_hg : Glob w) :
  Calls Tryz.prog 150 #[.string s] w fun r w' => r = .returned (A4 ((0, 0), 10)) ∧ Below w.heap.size w w' := by
 have HA := Keep.mk hA; have HR := Keep.mk hR; clear hA hR; rcases hz with hz | ⟨hz, hu⟩
 all_goals
  go_enter Tryz.func150, Tryz.ntmps150
  go_wp2_with fail
  refine (hasPrefix s ⟨#[45]⟩ _).mono ?_; rw [hp]; rintro r w1 ⟨rfl, hb1⟩; obtain ⟨hc, hf⟩ := Am hb1; go_wp2_with fail
  refine (Bo s (by omega) _).mono ?_; rw [hd]; rintro r w2 ⟨rfl, hb2'⟩; have hb2 := up hb1 hb2'; clear hc hf; obtain ⟨hc, hf⟩ := Am hb2; go_wp2_with fail
  refine Bh hb2 (by kernel_rfl) (by kernel_rfl) ?_; repeat (go_big_quiet_step (fail))
  refine wpQuiet_nil ?_; rintro _ ⟨x3, rfl⟩; have hb3 := x3.property; clear hc hf; obtain ⟨hc, hf⟩ := Am hb3; go_wp2_with fail
  rw [HR.out]; go_wp2_with fail
  refine (hasPrefix R ⟨#[46]⟩ _).mono ?_; rw [hr]; rintro r w4 ⟨rfl, hb4'⟩; have hb4 := up hb3 hb4'; clear hc hf; obtain ⟨hc, hf⟩ := Am hb4; go_wp2_with fail
  rw [HA.out]; go_wp2_with fail
  refine (Dg R (by omega) _).mono ?_; rw [he]; unfold C0; rintro r w5 ⟨rfl, hb5'⟩; have hb5 := up hb4 hb5'; clear hc hf; obtain ⟨hc, hf⟩ := Am hb5; go_wp2_with fail
  refine (Dj _).mono ?_; rintro r w6 ⟨rfl, hb6'⟩; have hb6 := up hb5 hb6'; clear hc hf; obtain ⟨hc, hf⟩ := Am hb6; go_wp2
  refine bodyPost_ret (v := A4 ((0, 0), 10)) ?_ rfl ⟨rfl, ?_⟩
  ·simp [A4, results, Tryz.results150, go_sem, hc]
  exact st1 (st1 (up (al1 _ _) hb6) _ _ _ (by omega)) _ _ _ (by omega)
theorem Uv (s : ByteArray) (hs : s.size ≤ 2305843009213693952) (hp : Lib.hasPrefix s.data.toList [45] = false) (d : Nat) (hd : AK s.data.toList = d) (h1 : d ≤ s.size) (h01 : 1 ≤ d) (hz0 : ((d : Int) == 0) = false) (hz : ¬ 1 < d ∨ (1 < d ∧ (((s[0]'(by omega)).toNat : Int) == 48) = false)) (A R : ByteArray) (hA : s.extract 0 d = A) (hR : s.extract d s.size = R) (_hAs : A.size ≤ 2305843009213693952) (hRs : R.size ≤ 2305843009213693952) (hr : Lib.hasPrefix R.data.toList [46] = true) (hR1 : 0 < R.size) (S : ByteArray) (hS : R.extract 1 R.size = S) (hSs : S.size ≤ 2305843009213693952) (f : Nat) (hf0 : AK S.data.toList = f) (hff : f + 1 ≤ R.size) (hf1 : ((f : Int) == 0) = false) (A2 R2 : ByteArray) (hA2 : A ++ R.extract 1 (1 + f) = A2) (hR2 : R.extract (1 + f) R.size = R2) (_hA2s : A2.size ≤ 2305843009213693952) (hR2s : R2.size ≤ 2305843009213693952) (e : Int) (he : BM R2.data.toList = (e, false)) (_he0 : -1099511627776 ≤ e) (_he1 : e ≤ 1099511627776) (w : World) (_hg : Glob w) :
  Calls Tryz.prog 150 #[.string s] w fun r w' => r = .returned (A4 ((0, 0), 10)) ∧ Below w.heap.size w w' := by
 have HA := Keep.mk hA; have HR := Keep.mk hR; clear hA hR; have HS := Keep.mk hS; clear hS; have HA2 := Keep.mk hA2; have HR2 := Keep.mk hR2; clear hA2 hR2; rcases hz with hz | ⟨hz, hu⟩
 all_goals
  go_enter Tryz.func150, Tryz.ntmps150
  go_wp2_with fail
  refine (hasPrefix s ⟨#[45]⟩ _).mono ?_; rw [hp]; rintro r w1 ⟨rfl, hb1⟩; obtain ⟨hc, hf⟩ := Am hb1; go_wp2_with fail
  refine (Bo s (by omega) _).mono ?_; rw [hd]; rintro r w2 ⟨rfl, hb2'⟩; have hb2 := up hb1 hb2'; clear hc hf; obtain ⟨hc, hf⟩ := Am hb2; go_wp2_with fail
  refine Bh hb2 (by kernel_rfl) (by kernel_rfl) ?_; repeat (go_big_quiet_step (fail))
  refine wpQuiet_nil ?_; rintro _ ⟨x3, rfl⟩; have hb3 := x3.property; clear hc hf; obtain ⟨hc, hf⟩ := Am hb3; go_wp2_with fail
  rw [HR.out]; go_wp2_with fail
  refine (hasPrefix R ⟨#[46]⟩ _).mono ?_; rw [hr]; rintro r w4 ⟨rfl, hb4'⟩; have hb4 := up hb3 hb4'; clear hc hf; obtain ⟨hc, hf⟩ := Am hb4; go_wp2_with fail
  rw [HS.out]; go_wp2_with fail
  refine (Bo S (by omega) _).mono ?_; rw [hf0]; rintro r w5 ⟨rfl, hb5'⟩; have hb5 := up hb4 hb5'; clear hc hf; obtain ⟨hc, hf⟩ := Am hb5; go_wp2_with fail
  refine Bh hb5 (by kernel_rfl) (by kernel_rfl) ?_; repeat (go_big_quiet_step (fail))
  refine wpQuiet_nil ?_; rintro _ ⟨x6, rfl⟩; have hb6 := x6.property; clear hc hf; obtain ⟨hc, hf⟩ := Am hb6; go_wp2_with fail
  rw [HA.out, HA2.out, HR2.out]; go_wp2_with fail
  refine (Dg R2 (by omega) _).mono ?_; rw [he]; unfold C0; rintro r w7 ⟨rfl, hb7'⟩; have hb7 := up hb6 hb7'; clear hc hf; obtain ⟨hc, hf⟩ := Am hb7; go_wp2_with fail
  refine (Dj _).mono ?_; rintro r w8 ⟨rfl, hb8'⟩; have hb8 := up hb7 hb8'; clear hc hf; obtain ⟨hc, hf⟩ := Am hb8; go_wp2
  refine bodyPost_ret (v := A4 ((0, 0), 10)) ?_ rfl ⟨rfl, ?_⟩
  ·simp [A4, results, Tryz.results150, go_sem, hc]
  exact st1 (st1 (up (al1 _ _) hb8) _ _ _ (by omega)) _ _ _ (by omega)
theorem Vy (s : ByteArray) (hs : s.size ≤ 2305843009213693952) (hp : Lib.hasPrefix s.data.toList [45] = false) (d : Nat) (hd : AK s.data.toList = d) (h1 : d ≤ s.size) (h01 : 1 ≤ d) (hz0 : ((d : Int) == 0) = false) (hz : ¬ 1 < d ∨ (1 < d ∧ (((s[0]'(by omega)).toNat : Int) == 48) = false)) (A R : ByteArray) (hA : s.extract 0 d = A) (hR : s.extract d s.size = R) (hAs : A.size ≤ 2305843009213693952) (hRs : R.size ≤ 2305843009213693952) (hr : Lib.hasPrefix R.data.toList [46] = false) (e : Int) (he : BM R.data.toList = (e, true)) (_he0 : -1099511627776 ≤ e) (_he1 : e ≤ 1099511627776) (L T : ByteArray) (hL : ⟨(Lib.trimLeftB A.data.toList 48).toArray⟩ = L) (hT : ⟨(Lib.trimRightB L.data.toList 48).toArray⟩ = T) (hLs : L.size ≤ A.size) (hTs : T.size ≤ L.size) (hT0 : T = ⟨#[]⟩) (w : World) (_hg : Glob w) :
  Calls Tryz.prog 150 #[.string s] w fun r w' => r = .returned (A4 ((0, 0), 0)) ∧ Below w.heap.size w w' := by
 have HA := Keep.mk hA; have HR := Keep.mk hR; clear hA hR; have HL := Keep.mk hL; have HT := Keep.mk hT; clear hL hT; rcases hz with hz | ⟨hz, hu⟩
 all_goals
  go_enter Tryz.func150, Tryz.ntmps150
  go_wp2_with fail
  refine (hasPrefix s ⟨#[45]⟩ _).mono ?_; rw [hp]; rintro r w1 ⟨rfl, hb1⟩; obtain ⟨hc, hf⟩ := Am hb1; go_wp2_with fail
  refine (Bo s (by omega) _).mono ?_; rw [hd]; rintro r w2 ⟨rfl, hb2'⟩; have hb2 := up hb1 hb2'; clear hc hf; obtain ⟨hc, hf⟩ := Am hb2; go_wp2_with fail
  refine Bh hb2 (by kernel_rfl) (by kernel_rfl) ?_; repeat (go_big_quiet_step (fail))
  refine wpQuiet_nil ?_; rintro _ ⟨x3, rfl⟩; have hb3 := x3.property; clear hc hf; obtain ⟨hc, hf⟩ := Am hb3; go_wp2_with fail
  rw [HR.out]; go_wp2_with fail
  refine (hasPrefix R ⟨#[46]⟩ _).mono ?_; rw [hr]; rintro r w4 ⟨rfl, hb4'⟩; have hb4 := up hb3 hb4'; clear hc hf; obtain ⟨hc, hf⟩ := Am hb4; go_wp2_with fail
  rw [HA.out]; go_wp2_with fail
  refine (Dg R (by omega) _).mono ?_; rw [he]; unfold C0; rintro r w5 ⟨rfl, hb5'⟩; have hb5 := up hb4 hb5'; clear hc hf; obtain ⟨hc, hf⟩ := Am hb5; go_wp2_with fail
  refine (Fw A _).mono ?_; rw [HL.out]; rintro r w6 ⟨rfl, hb6'⟩; have hb6 := up hb5 hb6'; clear hc hf; obtain ⟨hc, hf⟩ := Am hb6; go_wp2_with fail
  refine (E6 L (by omega) _).mono ?_; rw [HT.out]; rintro r w7 ⟨rfl, hb7'⟩; have hb7 := up hb6 hb7'; clear hc hf; obtain ⟨hc, hf⟩ := Am hb7; subst hT0; go_wp2_with fail
  refine (Dj _).mono ?_; rintro r w8 ⟨rfl, hb8'⟩; have hb8 := up hb7 hb8'; clear hc hf; obtain ⟨hc, hf⟩ := Am hb8; go_wp2
  refine bodyPost_ret (v := A4 ((0, 0), 0)) ?_ rfl ⟨rfl, ?_⟩
  ·simp [A4, results, Tryz.results150, go_sem, hc]
  exact st1 (st1 (up (al1 _ _) hb8) _ _ _ (by omega)) _ _ _ (by omega)
theorem Uq (s : ByteArray) (hs : s.size ≤ 2305843009213693952) (hp : Lib.hasPrefix s.data.toList [45] = false) (d : Nat) (hd : AK s.data.toList = d) (h1 : d ≤ s.size) (h01 : 1 ≤ d) (hz0 : ((d : Int) == 0) = false) (hz : ¬ 1 < d ∨ (1 < d ∧ (((s[0]'(by omega)).toNat : Int) == 48) = false)) (A R : ByteArray) (hA : s.extract 0 d = A) (hR : s.extract d s.size = R) (_hAs : A.size ≤ 2305843009213693952) (hRs : R.size ≤ 2305843009213693952) (hr : Lib.hasPrefix R.data.toList [46] = true) (hR1 : 0 < R.size) (S : ByteArray) (hS : R.extract 1 R.size = S) (hSs : S.size ≤ 2305843009213693952) (f : Nat) (hf0 : AK S.data.toList = f) (hff : f + 1 ≤ R.size) (hf1 : ((f : Int) == 0) = false) (A2 R2 : ByteArray) (hA2 : A ++ R.extract 1 (1 + f) = A2) (hR2 : R.extract (1 + f) R.size = R2) (hA2s : A2.size ≤ 2305843009213693952) (hR2s : R2.size ≤ 2305843009213693952) (e : Int) (he : BM R2.data.toList = (e, true)) (_he0 : -1099511627776 ≤ e) (_he1 : e ≤ 1099511627776) (L T : ByteArray) (hL : ⟨(Lib.trimLeftB A2.data.toList 48).toArray⟩ = L) (hT : ⟨(Lib.trimRightB L.data.toList 48).toArray⟩ = T) (hLs : L.size ≤ A2.size) (hTs : T.size ≤ L.size) (hT0 : T = ⟨#[]⟩) (w : World) (_hg : Glob w) :
  Calls Tryz.prog 150 #[.string s] w fun r w' => r = .returned (A4 ((0, 0), 0)) ∧ Below w.heap.size w w' := by
 have HA := Keep.mk hA; have HR := Keep.mk hR; clear hA hR; have HS := Keep.mk hS; clear hS; have HA2 := Keep.mk hA2; have HR2 := Keep.mk hR2; clear hA2 hR2; have HL := Keep.mk hL; have HT := Keep.mk hT; clear hL hT; rcases hz with hz | ⟨hz, hu⟩
 all_goals
  go_enter Tryz.func150, Tryz.ntmps150
  go_wp2_with fail
  refine (hasPrefix s ⟨#[45]⟩ _).mono ?_; rw [hp]; rintro r w1 ⟨rfl, hb1⟩; obtain ⟨hc, hf⟩ := Am hb1; go_wp2_with fail
  refine (Bo s (by omega) _).mono ?_; rw [hd]; rintro r w2 ⟨rfl, hb2'⟩; have hb2 := up hb1 hb2'; clear hc hf; obtain ⟨hc, hf⟩ := Am hb2; go_wp2_with fail
  refine Bh hb2 (by kernel_rfl) (by kernel_rfl) ?_; repeat (go_big_quiet_step (fail))
  refine wpQuiet_nil ?_; rintro _ ⟨x3, rfl⟩; have hb3 := x3.property; clear hc hf; obtain ⟨hc, hf⟩ := Am hb3; go_wp2_with fail
  rw [HR.out]; go_wp2_with fail
  refine (hasPrefix R ⟨#[46]⟩ _).mono ?_; rw [hr]; rintro r w4 ⟨rfl, hb4'⟩; have hb4 := up hb3 hb4'; clear hc hf; obtain ⟨hc, hf⟩ := Am hb4; go_wp2_with fail
  rw [HS.out]; go_wp2_with fail
  refine (Bo S (by omega) _).mono ?_; rw [hf0]; rintro r w5 ⟨rfl, hb5'⟩; have hb5 := up hb4 hb5'; clear hc hf; obtain ⟨hc, hf⟩ := Am hb5; go_wp2_with fail
  refine Bh hb5 (by kernel_rfl) (by kernel_rfl) ?_; repeat (go_big_quiet_step (fail))
  refine wpQuiet_nil ?_; rintro _ ⟨x6, rfl⟩; have hb6 := x6.property; clear hc hf; obtain ⟨hc, hf⟩ := Am hb6; go_wp2_with fail
  rw [HA.out, HA2.out, HR2.out]; go_wp2_with fail
  refine (Dg R2 (by omega) _).mono ?_; rw [he]; unfold C0; rintro r w7 ⟨rfl, hb7'⟩; have hb7 := up hb6 hb7'; clear hc hf; obtain ⟨hc, hf⟩ := Am hb7; go_wp2_with fail
  refine (Fw A2 _).mono ?_; rw [HL.out]; rintro r w8 ⟨rfl, hb8'⟩; have hb8 := up hb7 hb8'; clear hc hf; obtain ⟨hc, hf⟩ := Am hb8; go_wp2_with fail
  refine (E6 L (by omega) _).mono ?_; rw [HT.out]; rintro r w9 ⟨rfl, hb9'⟩; have hb9 := up hb8 hb9'; clear hc hf; obtain ⟨hc, hf⟩ := Am hb9; subst hT0; go_wp2_with fail
  refine (Dj _).mono ?_; rintro r w10 ⟨rfl, hb10'⟩; have hb10 := up hb9 hb10'; clear hc hf; obtain ⟨hc, hf⟩ := Am hb10; go_wp2
  refine bodyPost_ret (v := A4 ((0, 0), 0)) ?_ rfl ⟨rfl, ?_⟩
  ·simp [A4, results, Tryz.results150, go_sem, hc]
  exact st1 (st1 (up (al1 _ _) hb10) _ _ _ (by omega)) _ _ _ (by omega)
theorem WM (s : ByteArray) (hs : s.size ≤ 2305843009213693952) (hp : Lib.hasPrefix s.data.toList [45] = false) (d : Nat) (hd : AK s.data.toList = d) (h1 : d ≤ s.size) (h01 : 1 ≤ d) (hz0 : ((d : Int) == 0) = false) (hz : ¬ 1 < d ∨ (1 < d ∧ (((s[0]'(by omega)).toNat : Int) == 48) = false)) (A R : ByteArray) (hA : s.extract 0 d = A) (hR : s.extract d s.size = R) (hAs : A.size ≤ 2305843009213693952) (hRs : R.size ≤ 2305843009213693952) (hr : Lib.hasPrefix R.data.toList [46] = false) (e : Int) (he : BM R.data.toList = (e, true)) (_he0 : -1099511627776 ≤ e) (_he1 : e ≤ 1099511627776) (L T : ByteArray) (hL : ⟨(Lib.trimLeftB A.data.toList 48).toArray⟩ = L) (hT : ⟨(Lib.trimRightB L.data.toList 48).toArray⟩ = T) (hLs : L.size ≤ A.size) (_hTs : T.size ≤ L.size) (hTe : T.toList.isEmpty = false) (hT1 : 18 < T.size) (w : World) (_hg : Glob w) :
  Calls Tryz.prog 150 #[.string s] w fun r w' => r = .returned (A4 ((0, 0), 11)) ∧ Below w.heap.size w w' := by
 have HA := Keep.mk hA; have HR := Keep.mk hR; clear hA hR; have HL := Keep.mk hL; have HT := Keep.mk hT; clear hL hT; rcases hz with hz | ⟨hz, hu⟩
 all_goals
  go_enter Tryz.func150, Tryz.ntmps150
  go_wp2_with fail
  refine (hasPrefix s ⟨#[45]⟩ _).mono ?_; rw [hp]; rintro r w1 ⟨rfl, hb1⟩; obtain ⟨hc, hf⟩ := Am hb1; go_wp2_with fail
  refine (Bo s (by omega) _).mono ?_; rw [hd]; rintro r w2 ⟨rfl, hb2'⟩; have hb2 := up hb1 hb2'; clear hc hf; obtain ⟨hc, hf⟩ := Am hb2; go_wp2_with fail
  refine Bh hb2 (by kernel_rfl) (by kernel_rfl) ?_; repeat (go_big_quiet_step (fail))
  refine wpQuiet_nil ?_; rintro _ ⟨x3, rfl⟩; have hb3 := x3.property; clear hc hf; obtain ⟨hc, hf⟩ := Am hb3; go_wp2_with fail
  rw [HR.out]; go_wp2_with fail
  refine (hasPrefix R ⟨#[46]⟩ _).mono ?_; rw [hr]; rintro r w4 ⟨rfl, hb4'⟩; have hb4 := up hb3 hb4'; clear hc hf; obtain ⟨hc, hf⟩ := Am hb4; go_wp2_with fail
  rw [HA.out]; go_wp2_with fail
  refine (Dg R (by omega) _).mono ?_; rw [he]; unfold C0; rintro r w5 ⟨rfl, hb5'⟩; have hb5 := up hb4 hb5'; clear hc hf; obtain ⟨hc, hf⟩ := Am hb5; go_wp2_with fail
  refine (Fw A _).mono ?_; rw [HL.out]; rintro r w6 ⟨rfl, hb6'⟩; have hb6 := up hb5 hb6'; clear hc hf; obtain ⟨hc, hf⟩ := Am hb6; go_wp2_with fail
  refine (E6 L (by omega) _).mono ?_; rw [HT.out]; rintro r w7 ⟨rfl, hb7'⟩; have hb7 := up hb6 hb7'; clear hc hf; obtain ⟨hc, hf⟩ := Am hb7; go_wp2_with fail
  refine (Dj _).mono ?_; rintro r w8 ⟨rfl, hb8'⟩; have hb8 := up hb7 hb8'; clear hc hf; obtain ⟨hc, hf⟩ := Am hb8; go_wp2
  refine bodyPost_ret (v := A4 ((0, 0), 11)) ?_ rfl ⟨rfl, ?_⟩
  ·simp [A4, results, Tryz.results150, go_sem, hc]
  exact st1 (st1 (up (al1 _ _) hb8) _ _ _ (by omega)) _ _ _ (by omega)
theorem US (s : ByteArray) (hs : s.size ≤ 2305843009213693952) (hp : Lib.hasPrefix s.data.toList [45] = false) (d : Nat) (hd : AK s.data.toList = d) (h1 : d ≤ s.size) (h01 : 1 ≤ d) (hz0 : ((d : Int) == 0) = false) (hz : ¬ 1 < d ∨ (1 < d ∧ (((s[0]'(by omega)).toNat : Int) == 48) = false)) (A R : ByteArray) (hA : s.extract 0 d = A) (hR : s.extract d s.size = R) (_hAs : A.size ≤ 2305843009213693952) (hRs : R.size ≤ 2305843009213693952) (hr : Lib.hasPrefix R.data.toList [46] = true) (hR1 : 0 < R.size) (S : ByteArray) (hS : R.extract 1 R.size = S) (hSs : S.size ≤ 2305843009213693952) (f : Nat) (hf0 : AK S.data.toList = f) (hff : f + 1 ≤ R.size) (hf1 : ((f : Int) == 0) = false) (A2 R2 : ByteArray) (hA2 : A ++ R.extract 1 (1 + f) = A2) (hR2 : R.extract (1 + f) R.size = R2) (hA2s : A2.size ≤ 2305843009213693952) (hR2s : R2.size ≤ 2305843009213693952) (e : Int) (he : BM R2.data.toList = (e, true)) (_he0 : -1099511627776 ≤ e) (_he1 : e ≤ 1099511627776) (L T : ByteArray) (hL : ⟨(Lib.trimLeftB A2.data.toList 48).toArray⟩ = L) (hT : ⟨(Lib.trimRightB L.data.toList 48).toArray⟩ = T) (hLs : L.size ≤ A2.size) (_hTs : T.size ≤ L.size) (hTe : T.toList.isEmpty = false) (hT1 : 18 < T.size) (w : World) (_hg : Glob w) :
  Calls Tryz.prog 150 #[.string s] w fun r w' => r = .returned (A4 ((0, 0), 11)) ∧ Below w.heap.size w w' := by
 have HA := Keep.mk hA; have HR := Keep.mk hR; clear hA hR; have HS := Keep.mk hS; clear hS; have HA2 := Keep.mk hA2; have HR2 := Keep.mk hR2; clear hA2 hR2; have HL := Keep.mk hL; have HT := Keep.mk hT; clear hL hT; rcases hz with hz | ⟨hz, hu⟩
 all_goals
  go_enter Tryz.func150, Tryz.ntmps150
  go_wp2_with fail
  refine (hasPrefix s ⟨#[45]⟩ _).mono ?_; rw [hp]; rintro r w1 ⟨rfl, hb1⟩; obtain ⟨hc, hf⟩ := Am hb1; go_wp2_with fail
  refine (Bo s (by omega) _).mono ?_; rw [hd]; rintro r w2 ⟨rfl, hb2'⟩; have hb2 := up hb1 hb2'; clear hc hf; obtain ⟨hc, hf⟩ := Am hb2; go_wp2_with fail
  refine Bh hb2 (by kernel_rfl) (by kernel_rfl) ?_; repeat (go_big_quiet_step (fail))
  refine wpQuiet_nil ?_; rintro _ ⟨x3, rfl⟩; have hb3 := x3.property; clear hc hf; obtain ⟨hc, hf⟩ := Am hb3; go_wp2_with fail
  rw [HR.out]; go_wp2_with fail
  refine (hasPrefix R ⟨#[46]⟩ _).mono ?_; rw [hr]; rintro r w4 ⟨rfl, hb4'⟩; have hb4 := up hb3 hb4'; clear hc hf; obtain ⟨hc, hf⟩ := Am hb4; go_wp2_with fail
  rw [HS.out]; go_wp2_with fail
  refine (Bo S (by omega) _).mono ?_; rw [hf0]; rintro r w5 ⟨rfl, hb5'⟩; have hb5 := up hb4 hb5'; clear hc hf; obtain ⟨hc, hf⟩ := Am hb5; go_wp2_with fail
  refine Bh hb5 (by kernel_rfl) (by kernel_rfl) ?_; repeat (go_big_quiet_step (fail))
  refine wpQuiet_nil ?_; rintro _ ⟨x6, rfl⟩; have hb6 := x6.property; clear hc hf; obtain ⟨hc, hf⟩ := Am hb6; go_wp2_with fail
  rw [HA.out, HA2.out, HR2.out]; go_wp2_with fail
  refine (Dg R2 (by omega) _).mono ?_; rw [he]; unfold C0; rintro r w7 ⟨rfl, hb7'⟩; have hb7 := up hb6 hb7'; clear hc hf; obtain ⟨hc, hf⟩ := Am hb7; go_wp2_with fail
  refine (Fw A2 _).mono ?_; rw [HL.out]; rintro r w8 ⟨rfl, hb8'⟩; have hb8 := up hb7 hb8'; clear hc hf; obtain ⟨hc, hf⟩ := Am hb8; go_wp2_with fail
  refine (E6 L (by omega) _).mono ?_; rw [HT.out]; rintro r w9 ⟨rfl, hb9'⟩; have hb9 := up hb8 hb9'; clear hc hf; obtain ⟨hc, hf⟩ := Am hb9; go_wp2_with fail
  refine (Dj _).mono ?_; rintro r w10 ⟨rfl, hb10'⟩; have hb10 := up hb9 hb10'; clear hc hf; obtain ⟨hc, hf⟩ := Am hb10; go_wp2
  refine bodyPost_ret (v := A4 ((0, 0), 11)) ?_ rfl ⟨rfl, ?_⟩
  ·simp [A4, results, Tryz.results150, go_sem, hc]
  exact st1 (st1 (up (al1 _ _) hb10) _ _ _ (by omega)) _ _ _ (by omega)
theorem V2 (s : ByteArray) (hs : s.size ≤ 2305843009213693952) (hp : Lib.hasPrefix s.data.toList [45] = false) (d : Nat) (hd : AK s.data.toList = d) (h1 : d ≤ s.size) (h01 : 1 ≤ d) (hz0 : ((d : Int) == 0) = false) (hz : ¬ 1 < d ∨ (1 < d ∧ (((s[0]'(by omega)).toNat : Int) == 48) = false)) (A R : ByteArray) (hA : s.extract 0 d = A) (hR : s.extract d s.size = R) (hAs : A.size ≤ 2305843009213693952) (hRs : R.size ≤ 2305843009213693952) (hr : Lib.hasPrefix R.data.toList [46] = false) (e : Int) (he : BM R.data.toList = (e, true)) (he0 : -1099511627776 ≤ e) (he1 : e ≤ 1099511627776) (L T : ByteArray) (hL : ⟨(Lib.trimLeftB A.data.toList 48).toArray⟩ = L) (hT : ⟨(Lib.trimRightB L.data.toList 48).toArray⟩ = T) (hLs : L.size ≤ A.size) (hTs : T.size ≤ L.size) (hTe : T.toList.isEmpty = false) (hT0 : 0 < T.size) (hT1 : T.size ≤ 18) (HD : Keep (∀ k (hk : k < T.size), 48 ≤ T[k].toNat ∧ T[k].toNat ≤ 57)) (w : World) (hg : Glob w) :
  Calls Tryz.prog 150 #[.string s] w fun r w' => r = .returned (A4 (Ct false (val (dgs T.data.toList)) (e + L.size - T.size))) ∧ Below w.heap.size w w' := by
 have HA := Keep.mk hA; have HR := Keep.mk hR; clear hA hR; have HL := Keep.mk hL; have HT := Keep.mk hT; clear hL hT; rcases hz with hz | ⟨hz, hu⟩
 all_goals
  go_enter Tryz.func150, Tryz.ntmps150
  go_wp2_with fail
  refine (hasPrefix s ⟨#[45]⟩ _).mono ?_; rw [hp]; rintro r w1 ⟨rfl, hb1⟩; obtain ⟨hc, hf⟩ := Am hb1; go_wp2_with fail
  refine (Bo s (by omega) _).mono ?_; rw [hd]; rintro r w2 ⟨rfl, hb2'⟩; have hb2 := up hb1 hb2'; clear hc hf; obtain ⟨hc, hf⟩ := Am hb2; go_wp2_with fail
  refine Bh hb2 (by kernel_rfl) (by kernel_rfl) ?_; repeat (go_big_quiet_step (fail))
  refine wpQuiet_nil ?_; rintro _ ⟨x3, rfl⟩; have hb3 := x3.property; clear hc hf; obtain ⟨hc, hf⟩ := Am hb3; go_wp2_with fail
  rw [HR.out]; go_wp2_with fail
  refine (hasPrefix R ⟨#[46]⟩ _).mono ?_; rw [hr]; rintro r w4 ⟨rfl, hb4'⟩; have hb4 := up hb3 hb4'; clear hc hf; obtain ⟨hc, hf⟩ := Am hb4; go_wp2_with fail
  rw [HA.out]; go_wp2_with fail
  refine (Dg R (by omega) _).mono ?_; rw [he]; unfold C0; rintro r w5 ⟨rfl, hb5'⟩; have hb5 := up hb4 hb5'; clear hc hf; obtain ⟨hc, hf⟩ := Am hb5; go_wp2_with fail
  refine (Fw A _).mono ?_; rw [HL.out]; rintro r w6 ⟨rfl, hb6'⟩; have hb6 := up hb5 hb6'; clear hc hf; obtain ⟨hc, hf⟩ := Am hb6; go_wp2_with fail
  refine (E6 L (by omega) _).mono ?_; rw [HT.out]; rintro r w7 ⟨rfl, hb7'⟩; have hb7 := up hb6 hb7'; clear hc hf; obtain ⟨hc, hf⟩ := Am hb7; go_wp2_with fail
  go_loop [12, 78] (fun m i => ∃ k : Nat, k ≤ T.size ∧ i = .int .i64 k ∧ m = .int .u64 (val (dgs (T.data.toList.take k)) : Nat)) (fun _ i => T.size - (intOf i).toNat)
  case atStart => exact ⟨0, Nat.zero_le _, rfl, rfl⟩
  case round =>
   obtain ⟨k, hk, rfl, rfl⟩ := hrel; by_cases hlt : k < T.size
   ·obtain ⟨hv, hv1⟩ := OS T HD.out k hlt hT1
    have hdk := HD.out k hlt; obtain ⟨hd1, hd2⟩ := hdk; have HV := Keep.mk hv; clear hv; generalize val (dgs (T.data.toList.take k)) = v at *; go_wp2
    refine ⟨⟨k + 1, by omega, by go_num, ?_⟩, by simp [intOf]; omega⟩; rw [HV.out]; congr 1; omega
   have hk2 : k = T.size := by omega
   have HS := Keep.mk (show T.data.toList.take k = T.data.toList by rw [List.take_of_length_le]; simp; omega); clear hk2; rw [HS.out]; have HV := Keep.mk (UO T HD.out hT1); generalize hvv : val (dgs T.data.toList) = v; rw [hvv] at HV; obtain ⟨hv1⟩ := HV; have HVV := Keep.mk hvv; clear hvv; go_wp2_with fail
   refine (Ow false 0 v (e + L.size - T.size) (by omega) (by omega) (by omega) (by omega) (by omega) (by omega) _ (hg.below (up (al1 _ _) hb7))).mono ?_; rw [show CP 0 (v : Int) = v by unfold CP; omega]; rintro r w8 ⟨rfl, hb8'⟩; have hb8 := up hb7 hb8'; clear hc hf; obtain ⟨hc, hf⟩ := Am hb8; generalize hres : Ct false v (e + L.size - T.size) = res; have HRES := Keep.mk hres; clear hres; unfold A4; go_wp2
   refine bodyPost_ret (v := A4 res) ?_ rfl ⟨H9 (by rw [HVV.out, HRES.out]), ?_⟩
   ·simp [A4, results, Tryz.results150, go_sem, hc]
   exact st1 (st1 (up (al1 _ _) hb8) _ _ _ (by omega)) _ _ _ (by omega)
theorem S5 (s : ByteArray) (hs : s.size ≤ 2305843009213693952) (hp : Lib.hasPrefix s.data.toList [45] = false) (d : Nat) (hd : AK s.data.toList = d) (h1 : d ≤ s.size) (h01 : 1 ≤ d) (hz0 : ((d : Int) == 0) = false) (hz : ¬ 1 < d ∨ (1 < d ∧ (((s[0]'(by omega)).toNat : Int) == 48) = false)) (A R : ByteArray) (hA : s.extract 0 d = A) (hR : s.extract d s.size = R) (_hAs : A.size ≤ 2305843009213693952) (hRs : R.size ≤ 2305843009213693952) (hr : Lib.hasPrefix R.data.toList [46] = true) (hR1 : 0 < R.size) (S : ByteArray) (hS : R.extract 1 R.size = S) (hSs : S.size ≤ 2305843009213693952) (f : Nat) (hf0 : AK S.data.toList = f) (hff : f + 1 ≤ R.size) (hf1 : ((f : Int) == 0) = false) (A2 R2 : ByteArray) (hA2 : A ++ R.extract 1 (1 + f) = A2) (hR2 : R.extract (1 + f) R.size = R2) (hA2s : A2.size ≤ 2305843009213693952) (hR2s : R2.size ≤ 2305843009213693952) (e : Int) (he : BM R2.data.toList = (e, true)) (he0 : -1099511627776 ≤ e) (he1 : e ≤ 1099511627776) (L T : ByteArray) (hL : ⟨(Lib.trimLeftB A2.data.toList 48).toArray⟩ = L) (hT : ⟨(Lib.trimRightB L.data.toList 48).toArray⟩ = T) (hLs : L.size ≤ A2.size) (hTs : T.size ≤ L.size) (hTe : T.toList.isEmpty = false) (hT0 : 0 < T.size) (hT1 : T.size ≤ 18) (HD : Keep (∀ k (hk : k < T.size), 48 ≤ T[k].toNat ∧ T[k].toNat ≤ 57)) (w : World) (hg : Glob w) :
  Calls Tryz.prog 150 #[.string s] w fun r w' => r = .returned (A4 (Ct false (val (dgs T.data.toList)) (e - f + L.size - T.size))) ∧ Below w.heap.size w w' := by
 have HA := Keep.mk hA; have HR := Keep.mk hR; clear hA hR; have HS := Keep.mk hS; clear hS; have HA2 := Keep.mk hA2; have HR2 := Keep.mk hR2; clear hA2 hR2; have HL := Keep.mk hL; have HT := Keep.mk hT; clear hL hT; rcases hz with hz | ⟨hz, hu⟩
 all_goals
  go_enter Tryz.func150, Tryz.ntmps150
  go_wp2_with fail
  refine (hasPrefix s ⟨#[45]⟩ _).mono ?_; rw [hp]; rintro r w1 ⟨rfl, hb1⟩; obtain ⟨hc, hf⟩ := Am hb1; go_wp2_with fail
  refine (Bo s (by omega) _).mono ?_; rw [hd]; rintro r w2 ⟨rfl, hb2'⟩; have hb2 := up hb1 hb2'; clear hc hf; obtain ⟨hc, hf⟩ := Am hb2; go_wp2_with fail
  refine Bh hb2 (by kernel_rfl) (by kernel_rfl) ?_; repeat (go_big_quiet_step (fail))
  refine wpQuiet_nil ?_; rintro _ ⟨x3, rfl⟩; have hb3 := x3.property; clear hc hf; obtain ⟨hc, hf⟩ := Am hb3; go_wp2_with fail
  rw [HR.out]; go_wp2_with fail
  refine (hasPrefix R ⟨#[46]⟩ _).mono ?_; rw [hr]; rintro r w4 ⟨rfl, hb4'⟩; have hb4 := up hb3 hb4'; clear hc hf; obtain ⟨hc, hf⟩ := Am hb4; go_wp2_with fail
  rw [HS.out]; go_wp2_with fail
  refine (Bo S (by omega) _).mono ?_; rw [hf0]; rintro r w5 ⟨rfl, hb5'⟩; have hb5 := up hb4 hb5'; clear hc hf; obtain ⟨hc, hf⟩ := Am hb5; go_wp2_with fail
  refine Bh hb5 (by kernel_rfl) (by kernel_rfl) ?_; repeat (go_big_quiet_step (fail))
  refine wpQuiet_nil ?_; rintro _ ⟨x6, rfl⟩; have hb6 := x6.property; clear hc hf; obtain ⟨hc, hf⟩ := Am hb6; go_wp2_with fail
  rw [HA.out, HA2.out, HR2.out]; go_wp2_with fail
  refine (Dg R2 (by omega) _).mono ?_; rw [he]; unfold C0; rintro r w7 ⟨rfl, hb7'⟩; have hb7 := up hb6 hb7'; clear hc hf; obtain ⟨hc, hf⟩ := Am hb7; go_wp2_with fail
  refine (Fw A2 _).mono ?_; rw [HL.out]; rintro r w8 ⟨rfl, hb8'⟩; have hb8 := up hb7 hb8'; clear hc hf; obtain ⟨hc, hf⟩ := Am hb8; go_wp2_with fail
  refine (E6 L (by omega) _).mono ?_; rw [HT.out]; rintro r w9 ⟨rfl, hb9'⟩; have hb9 := up hb8 hb9'; clear hc hf; obtain ⟨hc, hf⟩ := Am hb9; go_wp2_with fail
  go_loop [12, 78] (fun m i => ∃ k : Nat, k ≤ T.size ∧ i = .int .i64 k ∧ m = .int .u64 (val (dgs (T.data.toList.take k)) : Nat)) (fun _ i => T.size - (intOf i).toNat)
  case atStart => exact ⟨0, Nat.zero_le _, rfl, rfl⟩
  case round =>
   obtain ⟨k, hk, rfl, rfl⟩ := hrel; by_cases hlt : k < T.size
   ·obtain ⟨hv, hv1⟩ := OS T HD.out k hlt hT1
    have hdk := HD.out k hlt; obtain ⟨hd1, hd2⟩ := hdk; have HV := Keep.mk hv; clear hv; generalize val (dgs (T.data.toList.take k)) = v at *; go_wp2
    refine ⟨⟨k + 1, by omega, by go_num, ?_⟩, by simp [intOf]; omega⟩; rw [HV.out]; congr 1; omega
   have hk2 : k = T.size := by omega
   have HS := Keep.mk (show T.data.toList.take k = T.data.toList by rw [List.take_of_length_le]; simp; omega); clear hk2; rw [HS.out]; have HV := Keep.mk (UO T HD.out hT1); generalize hvv : val (dgs T.data.toList) = v; rw [hvv] at HV; obtain ⟨hv1⟩ := HV; have HVV := Keep.mk hvv; clear hvv; go_wp2_with fail
   refine (Ow false 0 v (e - f + L.size - T.size) (by omega) (by omega) (by omega) (by omega) (by omega) (by omega) _ (hg.below (up (al1 _ _) hb9))).mono ?_; rw [show CP 0 (v : Int) = v by unfold CP; omega]; rintro r w10 ⟨rfl, hb10'⟩; have hb10 := up hb9 hb10'; clear hc hf; obtain ⟨hc, hf⟩ := Am hb10; generalize hres : Ct false v (e - f + L.size - T.size) = res; have HRES := Keep.mk hres; clear hres; unfold A4; go_wp2
   refine bodyPost_ret (v := A4 res) ?_ rfl ⟨H9 (by rw [HVV.out, HRES.out]), ?_⟩
   ·simp [A4, results, Tryz.results150, go_sem, hc]
   exact st1 (st1 (up (al1 _ _) hb10) _ _ _ (by omega)) _ _ _ (by omega)
open Go Go.RowKit Go.Proofs Th
theorem OW (s : ByteArray) (k : Nat) : (s.extract k s.size).data.toList = s.data.toList.drop k := by
 rw [Lib.extract_data, List.take_of_length_le]; simp
theorem Xi (s : ByteArray) (k : Nat) : (s.extract 0 k).data.toList = s.data.toList.take k := by
 rw [Lib.extract_data]; simp
theorem Yg (s : ByteArray) (f : Nat) : (s.extract 1 (1 + f)).data.toList = (s.data.toList.drop 1).take f := by
 rw [Lib.extract_data]; congr 1; omega
theorem A7 (s : ByteArray) : s.size = s.data.toList.length := by simp
theorem SX (s : ByteArray) (h : 0 < s.size) : s.data.toList.head? = some s[0] := by
 have h2 : 0 < s.data.toList.length := by simpa using h
 rw [List.head?_eq_getElem?, List.getElem?_eq_getElem h2]; rfl
theorem Ks {l : List UInt8} {c : UInt8} (h : Lib.hasPrefix l [c] = true) : l.head? = some c := by rw [HY h]; rfl
theorem PG {l : List UInt8} {c : UInt8} (h : Lib.hasPrefix l [c] = false) : l.head? ≠ some c := by
 cases l with
 | nil => simp
 | cons d l => have := MX h; simpa using this
theorem I8 {l : List UInt8} (h : DH l = none) : BM l = (0, false) := by unfold BM; rw [h]
theorem I4 {l x : List UInt8} {en : Bool} (h : DH l = some (en, x)) : BM l = (sg en (BD x), true) := by unfold BM; rw [h]
theorem Xq (en : Bool) (x : List UInt8) : -1099511627776 ≤ sg en (BD x) := by have := FS x; unfold sg; split <;> omega
theorem Xx (en : Bool) (x : List UInt8) : sg en (BD x) ≤ 1099511627776 := by have := FS x; unfold sg; split <;> omega
theorem KH (neg : Bool) (v : Nat) (e : Int) (h1 : v % 10 ≠ 0) (h2 : 1000000000000000000 ≤ v) : Ct neg v e = ((0, 0), 11) := by
 rw [KV _ _ _ h1]; unfold fin; rw [if_pos (.inl h2)]
theorem Jj (T : ByteArray) (h : T.data.toList ≠ []) : T.toList.isEmpty = false := D3 (by
 cases h2 : T.data.toList with
 | nil => exact absurd h2 h
 | cons _ _ => rw [A7, h2]; simp)
theorem Ma (T : ByteArray) (h : T.data.toList = []) : T = ⟨#[]⟩ := by
 obtain ⟨⟨l⟩⟩ := T; have : l = [] := h; rw [this]
theorem LA (T : ByteArray) (h : BP T.data.toList) : Keep (∀ k (hk : k < T.size), 48 ≤ T[k].toNat ∧ T[k].toNat ≤ 57) :=
 ⟨fun k hk => h T[k] (List.getElem_mem (l := T.data.toList) (n := k) (by simpa using hk))⟩
theorem Ph (s : ByteArray) (hs : s.size ≤ 2305843009213693952) (hp : Lib.hasPrefix s.data.toList [45] = false) (w : World) (hg : Glob w) :
  Calls Tryz.prog 150 #[.string s] w fun r w' => r = .returned (A4 (Dh false s.data.toList)) ∧ Below w.heap.size w w' := by
 generalize hd : AK s.data.toList = d; have h1 : d ≤ s.size := by rw [← hd, A7]; exact MZ _
 by_cases hz0 : d = 0
 ·rw [O7 _ _ (.inl (by rw [hd, hz0]))]; exact VA s hs hp d hd (by rw [hz0]; rfl) w hg
 have h01 : 1 ≤ d := by omega
 have hU0 : 0 < s.size := by omega
 have hh := SX s hU0; have hzf : ((d : Int) == 0) = false := by simpa using hz0
 by_cases hb : 1 < d ∧ s[0] = 48
 ·rw [O7 _ _ (.inr ⟨by rw [hd]; exact hb.1, by rw [hh, hb.2]⟩)]; exact Vp s hs hp d hd h1 hzf hb.1 (by rw [hb.2]; rfl) w hg
 have hnb : ¬ (d = 0 ∨ (1 < d ∧ s.data.toList.head? = some 48)) := by
  rw [hh]; rintro (h | ⟨h, h2⟩)
  ·exact hz0 h
  exact hb ⟨h, Option.some.inj h2⟩
 have hz : ¬ 1 < d ∨ (1 < d ∧ ((s[0].toNat : Int) == 48) = false) := by
  by_cases hlt : 1 < d
  ·right; refine ⟨hlt, ?_⟩
   have : s[0].toNat ≠ 48 := fun h => hb ⟨hlt, UInt8.toNat.inj h⟩
   simp; omega
  exact .inl hlt
 generalize hA : s.extract 0 d = A; generalize hR : s.extract d s.size = R; have hAl : A.data.toList = s.data.toList.take d := by rw [← hA, Xi]
 have hRl : R.data.toList = s.data.toList.drop d := by rw [← hR, OW]
 have hAn : A.size = d := by rw [A7, hAl, List.length_take, ← A7]; omega
 have hRn : R.size = s.size - d := by rw [A7, hRl, List.length_drop, ← A7]
 have hAs : A.size ≤ 2305843009213693952 := by omega
 have hRs : R.size ≤ 2305843009213693952 := by omega
 have hAd : BP A.data.toList := by rw [hAl, ← hd]; exact KF _
 by_cases hr : Lib.hasPrefix R.data.toList [46] = true
 ·have hR1 : 0 < R.size := by
   have := congrArg List.length (HY hr); rw [A7]; simp at this; simp; omega
  have hRh := Ks hr; generalize hS : R.extract 1 R.size = S; have hSl : S.data.toList = R.data.toList.drop 1 := by rw [← hS, OW]
  have hSn : S.size = R.size - 1 := by rw [A7, hSl, List.length_drop, ← A7]
  have hSs : S.size ≤ 2305843009213693952 := by omega
  generalize hf0 : AK S.data.toList = f; have hff : f + 1 ≤ R.size := by have := MZ S.data.toList; rw [← A7] at this; omega
  by_cases hfz : f = 0
  ·have hF : DP (s.data.toList.drop (AK s.data.toList)) = none := by
    rw [hd, ← hRl]; unfold DP; rw [if_pos hRh, ← hSl, if_pos (by rw [hf0]; exact hfz)]
   rw [TA _ _ hF]; exact VD s hs hp d hd h1 h01 hzf hz A R hA hR hAs hRs hr hR1 S hS hSs f hf0 hff (by rw [hfz]; rfl) w hg
  have hf1 : ((f : Int) == 0) = false := by simpa using hfz
  generalize hA2 : A ++ R.extract 1 (1 + f) = A2; generalize hR2 : R.extract (1 + f) R.size = R2; have hR2l : R2.data.toList = S.data.toList.drop f := by rw [← hR2, OW, hSl, List.drop_drop]
  generalize hFF : S.data.toList.take f = F; have hF : DP (s.data.toList.drop (AK s.data.toList)) = some (F, R2.data.toList) := by
   rw [hd, ← hRl]; unfold DP; rw [if_pos hRh, ← hSl, if_neg (by rw [hf0]; exact hfz), hf0, hR2l, hFF]
  have hA2l : A2.data.toList = A.data.toList ++ F := by rw [← hA2, ByteArray.data_append, Array.toList_append, Yg, ← hSl, hFF]
  have hAF : s.data.toList.take d ++ F = A2.data.toList := by rw [hA2l, hAl]
  have hFn : (F.length : Int) = f := by
   rw [← hFF, List.length_take, ← A7]; omega
  have hAD : BP A2.data.toList := by
   rw [hA2l, ← hFF, ← hf0]; exact Ea hAd (KF _)
  have hA2s : A2.size ≤ 2305843009213693952 := by rw [A7, hA2l, List.length_append, ← A7]; omega
  have hR2s : R2.size ≤ 2305843009213693952 := by rw [A7, hR2l, List.length_drop, ← A7]; omega
  cases hx : DH R2.data.toList with
  | none =>
   rw [NI _ _ _ _ hF hx]; exact Uv s hs hp d hd h1 h01 hzf hz A R hA hR hAs hRs hr hR1 S hS hSs f hf0 hff hf1 A2 R2 hA2 hR2 hA2s hR2s 0 (I8 hx) (by omega) (by omega) w hg
  | some p =>
   obtain ⟨en, x⟩ := p; rw [FX _ _ _ _ x en (by rw [hd]; exact hnb) hF hx]; have hal : BP A2.data.toList := hAD; rw [hd, hAF]; generalize hL : (⟨(Lib.trimLeftB A2.data.toList 48).toArray⟩ : ByteArray) = L; generalize hT : (⟨(Lib.trimRightB L.data.toList 48).toArray⟩ : ByteArray) = T; have hLl : Lib.trimLeftB A2.data.toList 48 = L.data.toList := by rw [← hL]
   have hTl : Lib.trimRightB L.data.toList 48 = T.data.toList := by rw [← hT]
   obtain ⟨g1, g2, g3, g4, g5, g6⟩ := Pk _ hal _ _ hLl hTl; have hLs : L.size ≤ A2.size := by rw [A7, A7]; exact g1
   have hTs : T.size ≤ L.size := by rw [A7, A7]; exact g2
   have e0 := Xq en x; have e1 := Xx en x; have he := I4 hx; by_cases hT0 : T.data.toList = []
   ·rw [g5 hT0, Jn]
    exact Uq s hs hp d hd h1 h01 hzf hz A R hA hR hAs hRs hr hR1 S hS hSs f hf0 hff hf1 A2 R2 hA2 hR2 hA2s hR2s _ he e0 e1 L T hL hT hLs hTs (Ma T hT0) w hg
   obtain ⟨g7, g8⟩ := g6 hT0; have hTe := Jj T hT0; have hT1 : 0 < T.size := by
    rw [A7]; cases h2 : T.data.toList with
    | nil => exact absurd h2 hT0
    | cons _ _ => simp
   rw [g4, Gb]; by_cases h18 : 18 < T.size
   ·have g9 : 10 ^ 18 ≤ 10 ^ (T.data.toList.length - 1) := Nat.pow_le_pow_right (by omega) (by rw [← A7]; omega)
    rw [KH _ _ _ g7 (by omega)]; exact US s hs hp d hd h1 h01 hzf hz A R hA hR hAs hRs hr hR1 S hS hSs f hf0 hff hf1 A2 R2 hA2 hR2 hA2s hR2s _ he e0 e1 L T hL hT hLs hTs hTe h18 w hg
   have q := S5 s hs hp d hd h1 h01 hzf hz A R hA hR hAs hRs hr hR1 S hS hSs f hf0 hff hf1 A2 R2 hA2 hR2 hA2s hR2s _ he e0 e1 L T hL hT hLs hTs hTe hT1 (by omega) (LA T g3) w hg; rw [← A7, ← A7, show sg en (BD x) - (F.length : Int) + ((L.size - T.size : Nat) : Int) = (sg en (BD x) - f) + L.size - T.size by rw [hFn]; omega]; exact q
 have hr : Lib.hasPrefix R.data.toList [46] = false := by simpa using hr
 have hF : DP (s.data.toList.drop (AK s.data.toList)) = some ([], R.data.toList) := by
  rw [hd, ← hRl]; unfold DP; rw [if_neg (PG hr)]
 have hAF : s.data.toList.take d ++ [] = A.data.toList := by rw [hAl, List.append_nil]
 have hAD := hAd; have hFn : ((([] : List UInt8).length : Nat) : Int) = 0 := rfl; cases hx : DH R.data.toList with
 | none =>
  rw [NI _ _ _ _ hF hx]; exact V5 s hs hp d hd h1 h01 hzf hz A R hA hR hAs hRs hr 0 (I8 hx) (by omega) (by omega) w hg
 | some p =>
  obtain ⟨en, x⟩ := p; rw [FX _ _ _ _ x en (by rw [hd]; exact hnb) hF hx]; have hal : BP A.data.toList := hAD; rw [hd, hAF]; generalize hL : (⟨(Lib.trimLeftB A.data.toList 48).toArray⟩ : ByteArray) = L; generalize hT : (⟨(Lib.trimRightB L.data.toList 48).toArray⟩ : ByteArray) = T; have hLl : Lib.trimLeftB A.data.toList 48 = L.data.toList := by rw [← hL]
  have hTl : Lib.trimRightB L.data.toList 48 = T.data.toList := by rw [← hT]
  obtain ⟨g1, g2, g3, g4, g5, g6⟩ := Pk _ hal _ _ hLl hTl; have hLs : L.size ≤ A.size := by rw [A7, A7]; exact g1
  have hTs : T.size ≤ L.size := by rw [A7, A7]; exact g2
  have e0 := Xq en x; have e1 := Xx en x; have he := I4 hx; by_cases hT0 : T.data.toList = []
  ·rw [g5 hT0, Jn]
   exact Vy s hs hp d hd h1 h01 hzf hz A R hA hR hAs hRs hr _ he e0 e1 L T hL hT hLs hTs (Ma T hT0) w hg
  obtain ⟨g7, g8⟩ := g6 hT0; have hTe := Jj T hT0; have hT1 : 0 < T.size := by
   rw [A7]; cases h2 : T.data.toList with
   | nil => exact absurd h2 hT0
   | cons _ _ => simp
  rw [g4, Gb]; by_cases h18 : 18 < T.size
  ·have g9 : 10 ^ 18 ≤ 10 ^ (T.data.toList.length - 1) := Nat.pow_le_pow_right (by omega) (by rw [← A7]; omega)
   rw [KH _ _ _ g7 (by omega)]; exact WM s hs hp d hd h1 h01 hzf hz A R hA hR hAs hRs hr _ he e0 e1 L T hL hT hLs hTs hTe h18 w hg
  have q := V2 s hs hp d hd h1 h01 hzf hz A R hA hR hAs hRs hr _ he e0 e1 L T hL hT hLs hTs hTe hT1 (by omega) (LA T g3) w hg; rw [← A7, ← A7, show sg en (BD x) - ((([] : List UInt8).length : Nat) : Int) + ((L.size - T.size : Nat) : Int) = sg en (BD x) + L.size - T.size by rw [hFn]; omega]; exact q
theorem SO (s : ByteArray) (hs : s.size ≤ 2305843009213693952) (h : s.data.toList.head? ≠ some 45) (w : World) (hg : Glob w) :
  Calls Tryz.prog 150 #[.string s] w fun r w' => r = .returned (A4 (BT s.data.toList)) ∧ Below w.heap.size w w' := by
 unfold BT; rw [if_neg h]; refine Ph s hs ?_ w hg; cases hp : Lib.hasPrefix s.data.toList [45] with
 | false => rfl
 | true => exact absurd (Ks hp) h
end Go.Proofs.YtakncilicoefdaaGreatDoor
