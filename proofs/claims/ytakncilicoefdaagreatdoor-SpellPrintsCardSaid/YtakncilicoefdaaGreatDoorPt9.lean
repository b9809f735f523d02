/- Lemmas and contracts. Conditions: those that each lemma names. -/
import Derived.Test.YtakncilicoefdaaGreatDoorPt8
set_option maxRecDepth 100000
set_option maxHeartbeats 4000000
namespace Go.Proofs.YtakncilicoefdaaGreatDoor
open Go Go.RowKit Go.Proofs Th
attribute [local go_sem] Above.cell Above.frozen
theorem L2 {m e : Int} (h : e < -64 ∨ 64 < e) : right m e = false := by
 unfold right; split
 ·simp; omega
 simp; omega
theorem PK (m e : Int) (r : (Int × Int) × Int) (h : Bq (decide (m < 0)) m.natAbs e = r) : (if r.2 = 0 then (r.1.1 == m && r.1.2 == e) else false) = right m e := by
 cases hr : right m e with
 | true =>
  have h2 := Oa hr; unfold PZ at h2; rw [h2] at h; subst h; simp
 | false =>
  split
  ·rename_i h0
   obtain ⟨⟨a, b⟩, c⟩ := r; simp only at h0; subst h0; simp only [Bool.and_eq_false_iff, beq_eq_false_iff_ne]; by_cases ha : a = m
   ·by_cases hb : b = e
    ·subst ha hb
     rw [Mi h] at hr; cases hr
    right; exact hb
   left; exact ha
  rfl
theorem B0 (m e : Int) (hm : I64 m) (w : World) :
  Calls Tryz.prog 58 #[.agg #[.int .i64 m, .int .i64 e]] w fun r w' => r = .returned (.bool (right m e)) ∧ Below w.heap.size w w' := by
 by_cases h1 : e < -64
 ·have HR := Keep.mk (L2 (m := m) (Or.inl h1))
  go_enter Tryz.func58, Tryz.ntmps58
  go_wp2
  go_ret
  exact ⟨Fx HR.out.symm, al1 _ _⟩
 by_cases h2 : 64 < e
 ·have HR := Keep.mk (L2 (m := m) (Or.inr h2))
  go_enter Tryz.func58, Tryz.ntmps58
  go_wp2
  go_ret
  exact ⟨Fx HR.out.symm, al1 _ _⟩
 have HN := Keep.mk (BR m.natAbs (by have := hm.lo; have := hm.hi; omega)); have HD := Keep.mk (BI m.natAbs); have HV := Keep.mk (Je m.natAbs); obtain ⟨r, hr⟩ : ∃ r, Bq (decide (m < 0)) m.natAbs e = r := ⟨_, rfl⟩
 have HR := Keep.mk (PK m e r hr); have HE := Keep.mk (Sq (decide (m < 0)) m.natAbs e); have HH := Keep.mk hr; clear hr; go_enter Tryz.func58, Tryz.ntmps58
 go_wp2_with fail
 refine (NR m e hm _).mono ?_; rintro r1 w1 ⟨A, c, rfl, hI, hb1⟩; unfold FJ; go_wp2_with fail
 refine (Rq (decide (m < 0)) A c (Ap m.natAbs) e HD.out (by have := HN.out; omega) (by omega) (by omega) w1 hI).mono ?_; rw [HV.out, HH.out]; rintro r2 w2 ⟨rfl, hb2'⟩; have hb2 := up hb1 hb2'; obtain ⟨hc, hf⟩ := An hb2; have n0 : w.heap.size < w2.heap.size := by have := hb2.size; simp at this; omega
 obtain ⟨⟨a, b⟩, k⟩ := r; by_cases hk : k = 0
 ·subst hk
  have HR2 := Keep.mk (show (a == m && b == e) = right m e from HR.out); unfold AA; go_wp2
  go_ret
  exact ⟨Fx HR2.out, up (up (al1 _ _) hb2) (al1 _ _)⟩
 have hkb : (k == 0) = false := by simpa using hk
 have HR2 := Keep.mk (show false = right m e by have := HR.out; rw [if_neg hk] at this; exact this); unfold AA; go_wp2
 go_ret
 exact ⟨Fx HR2.out, up (up (al1 _ _) hb2) (al1 _ _)⟩
end Go.Proofs.YtakncilicoefdaaGreatDoor
namespace Th
open Go Go.Lib
/-! a fault stays -/
structure SameS (s s' : St) : Prop where
 e : s'.err = s.err
 a : s'.at_ = s.at_
theorem SameS.refl (s : St) : SameS s s := ⟨rfl, rfl⟩
theorem SameS.trans {a b c : St} (h : SameS a b) (h2 : SameS b c) : SameS a c := ⟨h2.e.trans h.e, h2.a.trans h.a⟩
theorem SameS.next {a b : St} (h : SameS a b) : SameS a b.next := ⟨h.e, h.a⟩
theorem SameS.fail {a b : St} (hn : a.err ≠ 0) (h : SameS a b) (E : Env) (e : Nat) : SameS a (Mn E b e) := by
 unfold Mn; rw [if_neg (by rw [h.e]; exact hn)]; exact ⟨h.e, h.a⟩
theorem SameS.want {a b : St} (hn : a.err ≠ 0) (h : SameS a b) (E : Env) (x : ByteArray) : SameS a (Un E b x) := by
 unfold Un; split
 ·exact h.next
 exact h.fail hn E 60
theorem SameS.named {a b : St} (hn : a.err ≠ 0) (h : SameS a b) (E : Env) (k : Nat) : SameS a (Gb E b k).2 := by
 unfold Gb; split
 ·exact h.fail hn E 60
 exact h.next
def Kp {α : Type} (s : St) (o : Option (α × St)) : Prop := ∀ n s', o = some (n, s') → SameS s s'
theorem Kp.ret {α : Type} {s s1 : St} {n : α} (h : SameS s s1) : Kp s (some (n, s1)) := fun _ _ h2 => by cases h2; exact h
theorem Kp.none_ {α : Type} {s : St} : Kp (α := α) s none := fun _ _ h2 => by cases h2
theorem Kp.ite {α : Type} {s : St} {c : Prop} [Decidable c] {a b : Option (α × St)} (h1 : Kp s a) (h2 : Kp s b) : Kp s (if c then a else b) := by
 split
 ·exact h1
 exact h2
theorem Kp.bind {α : Type} {s : St} {a : Option (NJ × St)} {k : NJ → St → Option (α × St)} (h : Kp s a) (hk : ∀ n s1, SameS s s1 → Kp s (k n s1)) : Kp s (Po a k) := by
 cases a with
 | none => exact Kp.none_
 | some p => exact hk p.1 p.2 (h p.1 p.2 rfl)
theorem R1 (E : Env) {s0 : St} (hn : s0.err ≠ 0) : ∀ (n : Nat) (acc : List ByteArray) (s : St), SameS s0 s → Kp s0 (JJ E n acc s) := by
 intro n; induction n with
 | zero => intro acc s _; exact Kp.none_
 | succ n ih =>
  intro acc s h; simp only [JJ]; by_cases hk : (Aj E s.i).kind = 2
  ·simp only [if_pos hk]
   exact Kp.ite (ih _ _ (h.named hn E 2).next) (Kp.ret (h.named hn E 2))
  simp only [if_neg hk]; exact Kp.ite (ih _ _ (h.named hn E 1).next) (Kp.ret (h.named hn E 1))
theorem Kp.args {α : Type} {E : Env} {s0 : St} (hn : s0.err ≠ 0) {n : Nat} {acc : List ByteArray} {s : St} (h : SameS s0 s) {k : List ByteArray → St → Option (α × St)} (hk : ∀ a s1, SameS s0 s1 → Kp s0 (k a s1)) :
  Kp s0 (T5 (JJ E n acc s) k) := by
 have := R1 E hn n acc s h; cases ha : JJ E n acc s with
 | none => exact Kp.none_
 | some p => exact hk p.1 p.2 (this p.1 p.2 ha)
end Th
namespace Go.Proofs.YtakncilicoefdaaGreatDoor
open Go Go.RowKit Go.Proofs Th
attribute [local go_sem] Above.cell Above.frozen
theorem T4 (s : ByteArray) (hs : s.size ≤ 100000000) (a : Nat) (h : a ≤ s.size) (w : World) : Calls Tryz.prog 104 #[.string (s.extract a s.size)] w fun r w' => r = .returned (.int .i64 (A7 (s.data.toList.drop a) : Int)) ∧ w' = w := by
 have h1 := OZ (s.extract a s.size) (by rw [Gw s a h]; omega) w; rw [EK] at h1; exact h1
theorem Vq (s : ByteArray) (a : Nat) (b : Bool) (hb : decide (s.data.toList[a]? = some 46) = b) (w : World) : Calls Tryz.prog 84 #[.string (s.extract a s.size), .string ⟨#[46]⟩] w fun e w' => e = .returned (.bool b) ∧ w' = w := by
 have h := Tryz.strings_HasPrefix (s.extract a s.size) ⟨#[46]⟩ w; rw [EK, show (⟨#[46]⟩ : ByteArray).data.toList = [46] from rfl, Ph, hb] at h; exact h
theorem Io (s : ByteArray) (a : Nat) (h : a < s.size) : s.data.toList[a]? = some s[a] := by
 rw [List.getElem?_eq_getElem (by rw [Al]; exact h)]; rfl
theorem KE (s : ByteArray) (a : Nat) (h : ¬ a < s.size) : s.data.toList[a]? = none := List.getElem?_eq_none (by rw [Al]; omega)
theorem Jb (l : List UInt8) (a : Nat) (h : a ≤ l.length) : a + A7 (l.drop a) ≤ l.length := by
 have := Fg (l.drop a); rw [List.length_drop] at this; omega
theorem Kb (s : ByteArray) (hs : s.size ≤ 100000000) (w : World) : Calls Tryz.prog 76 #[.string s] w fun r w' => r = .returned (.int .i64 (CT s.data.toList : Int)) ∧ w' = w := by
 have HL := Keep.mk (Al s); have HR := Keep.mk (fun a h W => T4 s hs a h W); have HR0 := Keep.mk (OZ s hs w); obtain ⟨n0, hn0⟩ : ∃ n : Nat, A7 s.data.toList = n := ⟨_, rfl⟩
 have hle : n0 ≤ s.size := by rw [← hn0, ← Al]; exact Fg _
 rw [hn0] at HR0; by_cases h0 : n0 = 0
 ·subst h0
  have HN := Keep.mk (show CT s.data.toList = 0 by unfold CT; rw [if_pos hn0]); clear HR hn0 hle; go_enter Tryz.func76, Tryz.ntmps76
  go_wp2_with fail
  refine HR0.out.mono ?_; rintro r w1 ⟨rfl, rfl⟩; go_wp2
  go_ret
  exact ⟨by rw [HN.out]; rfl, rfl⟩
 have HN := Keep.mk (show CT s.data.toList = Ea s.data.toList (C9 s.data.toList n0) by rw [QP _ (by rw [hn0]; exact h0), hn0]); have b0 : ((n0 : Int) == 0) = false := by rw [beq_eq_false_iff_ne]; omega
 clear hn0; go_enter Tryz.func76, Tryz.ntmps76
 go_wp2_with fail
 refine HR0.out.mono ?_; rintro r w1 ⟨rfl, rfl⟩; clear HR0; go_wp2_with fail
 obtain ⟨p, hp⟩ : ∃ p, decide (s.data.toList[n0]? = some 46) = p := ⟨_, rfl⟩
 refine (Vq s n0 p hp w1).mono ?_; rintro r w2 ⟨rfl, rfl⟩; go_upto_if 14 with fail
 go_cut [3] (fun v wx => ∃ n1 : Nat, v = .int .i64 n1 ∧ Keep (C9 s.data.toList n0 = n1 ∧ n1 ≤ s.size) ∧ w2 = wx)
 case first =>
  cases p
  ·have HD := Keep.mk (show C9 s.data.toList n0 = n0 by unfold C9; rw [if_neg (fun h => of_decide_eq_false hp h.1)])
   clear hp; go_wp2_with fail
   go_meet
   exact ⟨n0, rfl, ⟨HD.out, hle⟩, rfl⟩
  have hd := of_decide_eq_true hp; have hlt : n0 < s.size := by
   have := (List.getElem?_eq_some_iff.1 hd).1; rw [Al] at this; exact this
  obtain ⟨k, hk⟩ : ∃ k, A7 (s.data.toList.drop (n0 + 1)) = k := ⟨_, rfl⟩
  have hkl := Jb s.data.toList (n0 + 1) (by rw [Al]; omega); rw [hk, Al] at hkl; have HRN := Keep.mk (HR.out (n0 + 1) (by omega) w2); rw [hk] at HRN; have HD := Keep.mk (show C9 s.data.toList n0 = if 0 < k then n0 + 1 + k else n0 by
   unfold C9; rw [hk]; by_cases h : 0 < k
   ·rw [if_pos ⟨hd, h⟩, if_pos h]
   rw [if_neg (fun h2 => h h2.2), if_neg h])
  clear hp hd hk; go_wp2_with fail
  refine HRN.out.mono ?_; rintro r w3 ⟨rfl, rfl⟩; by_cases hk0 : 0 < k
  ·have HD2 := Keep.mk (HD.out.trans (if_pos hk0))
   go_wp2_with fail
   go_meet
   exact ⟨n0 + 1 + k, by go_num, ⟨HD2.out, by omega⟩, rfl⟩
  have HD2 := Keep.mk (HD.out.trans (if_neg hk0)); go_wp2_with fail
  go_meet
  exact ⟨n0, rfl, ⟨HD2.out, by omega⟩, rfl⟩
 case rest =>
  obtain ⟨n1, rfl, HD, rfl⟩ := hcut; obtain ⟨hd1, hle1⟩ := HD.out; replace HN := Keep.mk (HN.out.trans (by rw [hd1])); clear HD hd1 hp b0 h0 hle; obtain ⟨b, hb⟩ : ∃ b, decide (s.data.toList[n1]? = some 101 ∨ s.data.toList[n1]? = some 69) = b := ⟨_, rfl⟩
  go_upto_region 8 with fail
  go_cut [41] (fun v wx => v = .bool b ∧ w2 = wx)
  case first =>
   by_cases hlt : n1 < s.size
   ·rw [Io s n1 hlt] at hb
    by_cases h1 : s[n1] = 101
    ·have hb1 := hb.symm.trans (decide_eq_true (Or.inl (congrArg some h1)))
     subst hb1; have f1 : (s[n1].toNat : Int) = 101 := by rw [h1]; rfl
     clear hb h1; go_wp2_with fail
     go_meet
     exact ⟨rfl, rfl⟩
    have f1 : ¬ (s[n1].toNat : Int) = 101 := fun h => h1 (UInt8.toNat_inj.1 (by show s[n1].toNat = 101; omega))
    have g1 : ((s[n1].toNat : Int) == 101) = false := by rw [beq_eq_false_iff_ne]; exact f1
    by_cases h2 : s[n1] = 69
    ·have hb1 := hb.symm.trans (decide_eq_true (Or.inr (congrArg some h2)))
     subst hb1; have f2 : (s[n1].toNat : Int) = 69 := by rw [h2]; rfl
     clear hb h1 h2 g1 f1; go_wp2_with fail
     go_meet
     exact ⟨rfl, rfl⟩
    have hb1 := hb.symm.trans (decide_eq_false (fun h => h.elim (fun h => h1 (Option.some.inj h)) (fun h => h2 (Option.some.inj h)))); subst hb1; have f2 : ¬ (s[n1].toNat : Int) = 69 := fun h => h2 (UInt8.toNat_inj.1 (by show s[n1].toNat = 69; omega))
    have g2 : ((s[n1].toNat : Int) == 69) = false := by rw [beq_eq_false_iff_ne]; exact f2
    clear hb h1 h2; go_wp2_with fail
    go_meet
    exact ⟨rfl, rfl⟩
   rw [KE s n1 hlt] at hb; have hb1 := hb.symm.trans (decide_eq_false (fun h => by rcases h with h | h <;> cases h)); subst hb1; clear hb; go_wp2_with fail
   go_meet
   exact ⟨rfl, rfl⟩
  case rest =>
   obtain ⟨rfl, rfl⟩ := hcut; cases b
   ·have HN2 := Keep.mk (show CT s.data.toList = n1 by rw [HN.out]; unfold Ea; rw [if_neg (fun h => of_decide_eq_false hb h.1)])
    clear hb HN HR; go_wp2
    go_ret
    exact ⟨by rw [HN2.out]; rfl, rfl⟩
   have he := of_decide_eq_true hb; have hlt : n1 < s.size := by
    rcases he with h | h <;> (have := (List.getElem?_eq_some_iff.1 h).1; rw [Al] at this; exact this)
   clear hb; obtain ⟨b, hb⟩ : ∃ b, decide (s.data.toList[n1 + 1]? = some 43 ∨ s.data.toList[n1 + 1]? = some 45) = b := ⟨_, rfl⟩
   have HE := Keep.mk he; clear he; go_upto_region 10 with fail
   go_cut [59] (fun v wx => v = .bool b ∧ w2 = wx)
   case first =>
    by_cases hlt2 : n1 + 1 < s.size
    ·rw [Io s (n1 + 1) hlt2] at hb
     by_cases h1 : s[n1 + 1] = 43
     ·have hb1 := hb.symm.trans (decide_eq_true (Or.inl (congrArg some h1)))
      subst hb1; have f1 : (s[n1 + 1].toNat : Int) = 43 := by rw [h1]; rfl
      clear hb h1; go_wp2_with fail
      go_meet
      exact ⟨rfl, rfl⟩
     have f1 : ¬ (s[n1 + 1].toNat : Int) = 43 := fun h => h1 (UInt8.toNat_inj.1 (by show s[n1 + 1].toNat = 43; omega))
     have g1 : ((s[n1 + 1].toNat : Int) == 43) = false := by rw [beq_eq_false_iff_ne]; exact f1
     by_cases h2 : s[n1 + 1] = 45
     ·have hb1 := hb.symm.trans (decide_eq_true (Or.inr (congrArg some h2)))
      subst hb1; have f2 : (s[n1 + 1].toNat : Int) = 45 := by rw [h2]; rfl
      clear hb h1 h2 g1 f1; go_wp2_with fail
      go_meet
      exact ⟨rfl, rfl⟩
     have hb1 := hb.symm.trans (decide_eq_false (fun h => h.elim (fun h => h1 (Option.some.inj h)) (fun h => h2 (Option.some.inj h)))); subst hb1; have f2 : ¬ (s[n1 + 1].toNat : Int) = 45 := fun h => h2 (UInt8.toNat_inj.1 (by show s[n1 + 1].toNat = 45; omega))
     have g2 : ((s[n1 + 1].toNat : Int) == 45) = false := by rw [beq_eq_false_iff_ne]; exact f2
     clear hb h1 h2; go_wp2_with fail
     go_meet
     exact ⟨rfl, rfl⟩
    rw [KE s (n1 + 1) hlt2] at hb; have hb1 := hb.symm.trans (decide_eq_false (fun h => by rcases h with h | h <;> cases h)); subst hb1; clear hb; go_wp2_with fail
    go_meet
    exact ⟨rfl, rfl⟩
   case rest =>
    obtain ⟨rfl, rfl⟩ := hcut; cases b
    ·have ha : Bu s.data.toList n1 = n1 + 1 := by unfold Bu; rw [if_neg (of_decide_eq_false hb)]
     have hroom : n1 + 1 ≤ s.size := by omega
     obtain ⟨k, hk⟩ : ∃ k, A7 (s.data.toList.drop (n1 + 1)) = k := ⟨_, rfl⟩
     have HRN := Keep.mk (HR.out (n1 + 1) hroom w2); rw [hk] at HRN; have hkl := Jb s.data.toList (n1 + 1) (by rw [Al]; exact hroom); rw [hk, Al] at hkl; have HX := Keep.mk (show Ea s.data.toList n1 = if 0 < k then n1 + 1 + k else n1 by
      unfold Ea; rw [ha, hk]; by_cases h : 0 < k
      ·rw [if_pos ⟨HE.out, h⟩, if_pos h]
      rw [if_neg (fun h2 => h h2.2), if_neg h])
     clear hb hk ha HE HR; go_wp2_with fail
     refine HRN.out.mono ?_; rintro r w3 ⟨rfl, rfl⟩; by_cases hk0 : 0 < k
     ·have HX2 := Keep.mk (HN.out.trans (HX.out.trans (if_pos hk0)))
      go_wp2
      go_ret
      exact ⟨by rw [HX2.out]; go_num, rfl⟩
     have HX2 := Keep.mk (HN.out.trans (HX.out.trans (if_neg hk0))); go_wp2
     go_ret
     exact ⟨by rw [HX2.out]; rfl, rfl⟩
    have ha : Bu s.data.toList n1 = n1 + 2 := by unfold Bu; rw [if_pos (of_decide_eq_true hb)]
    have hroom : n1 + 2 ≤ s.size := by
     rcases of_decide_eq_true hb with h | h <;> (have := (List.getElem?_eq_some_iff.1 h).1; rw [Al] at this; omega)
    obtain ⟨k, hk⟩ : ∃ k, A7 (s.data.toList.drop (n1 + 2)) = k := ⟨_, rfl⟩
    have HRN := Keep.mk (HR.out (n1 + 2) hroom w2); rw [hk] at HRN; have hkl := Jb s.data.toList (n1 + 2) (by rw [Al]; exact hroom); rw [hk, Al] at hkl; have HX := Keep.mk (show Ea s.data.toList n1 = if 0 < k then n1 + 2 + k else n1 by
     unfold Ea; rw [ha, hk]; by_cases h : 0 < k
     ·rw [if_pos ⟨HE.out, h⟩, if_pos h]
     rw [if_neg (fun h2 => h h2.2), if_neg h])
    clear hb hk ha HE HR; go_wp2_with fail
    refine HRN.out.mono ?_; rintro r w3 ⟨rfl, rfl⟩; by_cases hk0 : 0 < k
    ·have HX2 := Keep.mk (HN.out.trans (HX.out.trans (if_pos hk0)))
     go_wp2
     go_ret
     exact ⟨by rw [HX2.out]; go_num, rfl⟩
    have HX2 := Keep.mk (HN.out.trans (HX.out.trans (if_neg hk0))); go_wp2
    go_ret
    exact ⟨by rw [HX2.out]; rfl, rfl⟩
end Go.Proofs.YtakncilicoefdaaGreatDoor
namespace Th
open Go Go.Lib
mutual
/-- a node's depth -/
def Bp : NJ → Nat
 | .mk _ _ _ _ l _ => 1 + CJ l
def CJ : List NJ → Nat
 | [] => 0
 | n :: r => max (Bp n) (CJ r)
end
theorem Ri : ∀ (l : List NJ) (k : Nat) (h : k < l.length), CJ (l.drop k) = max (Bp l[k]) (CJ (l.drop (k + 1)))
 | l, k, h => by rw [List.drop_eq_getElem_cons h, CJ]
def DepO (b : Nat) (o : Option (NJ × St)) : Prop := ∀ n s, o = some (n, s) → Bp n ≤ b
theorem DepO.up {b c : Nat} {o : Option (NJ × St)} (h : DepO b o) (hc : b ≤ c) : DepO c o := fun n s e => Nat.le_trans (h n s e) hc
theorem DepO.ret {b : Nat} {n : NJ} {s : St} (h : Bp n ≤ b) : DepO b (some (n, s)) := fun m t e => by cases e; exact h
theorem DepO.ite {b : Nat} {c : Prop} [Decidable c] {x y : Option (NJ × St)} (h1 : DepO b x) (h2 : DepO b y) : DepO b (if c then x else y) := by
 split
 ·exact h1
 exact h2
theorem DepO.bind {b c : Nat} {a : Option (NJ × St)} {k : NJ → St → Option (NJ × St)} (h : DepO c a) (hk : ∀ n s, Bp n ≤ c → DepO b (k n s)) : DepO b (Po a k) := by
 cases a with
 | none => intro n s e; cases e
 | some x => obtain ⟨n, s⟩ := x; exact hk n s (h n s rfl)
theorem DepO.args {b : Nat} {a : Option (List ByteArray × St)} {k : List ByteArray → St → Option (NJ × St)} (hk : ∀ n s, DepO b (k n s)) : DepO b (T5 a k) := by
 cases a with
 | none => intro n s e; cases e
 | some x => obtain ⟨n, s⟩ := x; exact hk n s
end Th
namespace Go.Proofs.YtakncilicoefdaaGreatDoor
open Go Go.RowKit Go.Proofs Th
open Go Go.RowKit Go.Proofs Th
def Last (l : List UInt8) : Prop := ∀ h : l ≠ [], l.getLast h ≠ 48
theorem Last.tail {x : UInt8} {l : List UInt8} (h : Last (x :: l)) : Last l := by
 intro hl; have := h (by simp); rwa [List.getLast_cons hl] at this
def V (m e : Int) : Int := m * (10 ^ (e + 64).toNat : Nat)
open Go Go.RowKit Go.Proofs Th
end Go.Proofs.YtakncilicoefdaaGreatDoor
