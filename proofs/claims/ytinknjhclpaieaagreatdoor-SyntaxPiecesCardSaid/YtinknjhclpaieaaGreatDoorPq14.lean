/- Lemmas and contracts for the laws SyntaxPieces, part 14 of 48: ValD, Tree, R9B, SynEq, TokC, RefPair, SynDep. Conditions: those that each lemma names. -/
import Derived.Test.YtinknjhclpaieaaGreatDoorPq10
import Derived.Test.YtinknjhclpaieaaGreatDoorPq2
import Derived.Test.YtinknjhclpaieaaGreatDoorPq8
import Derived.Test.YtinknjhclpaieaaGreatDoorPq4
import Derived.Test.YtinknjhclpaieaaGreatDoorPq12
import Derived.Test.YtinknjhclpaieaaGreatDoorPq3
import Derived.Test.YtinknjhclpaieaaGreatDoorPq1
import Derived.WalkLawsBesides
import Derived.IntWalk
import Derived.Outline
import Derived.Deep.CutBlock
import Derived.Deep.DeepCutAuto
import Derived.StillTail
import Derived.Deep.RegionLawGrows
import Derived.Deep.OwnRows
import Derived.Laws.OwnMore
import Derived.Deep.RegionHeld3
set_option maxRecDepth 100000
set_option maxHeartbeats 4000000
namespace Go.Proofs.YtinknjhclpaieaaGreatDoor
open Go Go.RowKit Go.Proofs Th
attribute [local go_sem] Above.cell
open Go Go.RowKit Go.Proofs Th
open Go Go.RowKit Go.Proofs Th
structure GlobV (w : World) : Prop where
  num : Glob w
  utf : Utf w
open Go Go.RowKit Go.Proofs Th
theorem cell_block {W W' : World} {g o : Nat} (h : W'.heap[g]? = W.heap[g]?) : W'.cell? ⟨g, o, none⟩ = W.cell? ⟨g, o, none⟩ := World.cell?_of_block h
/-! rows of a call's own -/
theorem own_block_lt {w : World} {base size n : Nat} {e : TypeId} {v : Value} {xs : List Value} (h : w.ownsRow base e size v n xs) : ∀ k, v.ownBlock = some k → base ≤ k ∧ k < w.heap.size := World.ownsRow.lt h
theorem row_keep {w w' : World} {base size n : Nat} {e : TypeId} {v : Value} {xs : List Value} (h : w.ownsRow base e size v n xs) (hb : ∀ k, v.ownBlock = some k → w'.heap[k]? = w.heap[k]?) : w'.ownsRow base e size v n xs := by
  refine ⟨h.1, ?_⟩; rcases h.2 with h2 | ⟨g, cap, cur, rfl, h4, h5, h6⟩
  · exact Or.inl h2
  exact Or.inr ⟨g, cap, cur, rfl, h4, (hb g rfl).trans h5, h6⟩
open Go Go.RowKit Go.Proofs Th
def newIn (w w' : World) (g : Nat) : Prop := w.heap.size ≤ g ∧ g < w'.heap.size
open Go Go.RowKit Go.Proofs Th
theorem run_go (p : UInt8 → Bool) (L : List UInt8) (j : Nat) (c : UInt8) (h : L[j]? = some c) : runB p (L.drop j) = if p c = true then runB p (L.drop (j + 1)) + 1 else 0 := by
  obtain ⟨hl, he⟩ := List.getElem?_eq_some_iff.1 h; rw [List.drop_eq_getElem_cons hl, he]; rfl
theorem nb {c d : UInt8} {n : Int} (hd : (d.toNat : Int) = n) (h : c ≠ d) : ¬ (c.toNat : Int) = n := fun h2 => h (UInt8.toNat_inj.1 (by omega))
theorem nbf {c d : UInt8} {n : Int} (hd : (d.toNat : Int) = n) (h : c ≠ d) : ((c.toNat : Int) == n) = false := by rw [beq_eq_false_iff_ne]; exact nb hd h
theorem long_sp {c : UInt8} (h : longC c = true) (h1 : letF c = false) (h2 : isDg c = false) : (c.toNat : Int) = 46 ∨ (c.toNat : Int) = 43 ∨ (c.toNat : Int) = 45 ∨ (c.toNat : Int) = 61 ∨ (c.toNat : Int) = 47 := by
  unfold longC at h; rw [h1, h2] at h; simp only [Bool.false_or, Bool.or_eq_true, decide_eq_true_eq] at h; rcases h with (((rfl | rfl) | rfl) | rfl) | rfl
  · exact Or.inl rfl
  · exact Or.inr (Or.inl rfl)
  · exact Or.inr (Or.inr (Or.inl rfl))
  · exact Or.inr (Or.inr (Or.inr (Or.inl rfl)))
  exact Or.inr (Or.inr (Or.inr (Or.inr rfl)))
theorem long_no {c : UInt8} (h : longC c = false) : letF c = false ∧ isDg c = false ∧ c ≠ 46 ∧ c ≠ 43 ∧ c ≠ 45 ∧ c ≠ 61 ∧ c ≠ 47 := by
  unfold longC at h; simp only [Bool.or_eq_false_iff, decide_eq_false_iff_not] at h; obtain ⟨⟨⟨⟨⟨⟨h1, h2⟩, h3⟩, h4⟩, h5⟩, h6⟩, h7⟩ := h; exact ⟨h1, h2, h3, h4, h5, h6, h7⟩
theorem r9_long (s : ByteArray) (hs : s.size ≤ 100000000) (a : Nat) (ha : a < s.size) (w : World) : Calls Tryz.prog 34 #[.string s, .int .i64 (a : Int)] w fun r w' => r = .returned (.int .i64 ((a + longF (s.data.toList.drop a) : Nat) : Int)) ∧ w' = w := by
  have HL := Keep.mk (size_listU s); have HA := Keep.mk (fun j h => at_r9 s j h); have hlo : a + longF (s.data.toList.drop a) = a + 1 + runB longC (s.data.toList.drop (a + 1)) := by
    obtain ⟨hl, he⟩ := List.getElem?_eq_some_iff.1 (HA.out a ha); rw [List.drop_eq_getElem_cons hl]; show a + (1 + runB longC (s.data.toList.drop (a + 1))) = _
    omega
  rw [hlo]; obtain ⟨F, hF⟩ : ∃ F, a + 1 + runB longC (s.data.toList.drop (a + 1)) = F := ⟨_, rfl⟩
  rw [hF]; have HF := Keep.mk hF; clear hlo hF; go_enter Tryz.func34, Tryz.ntmps34
  go_wp2_with fail
  go_loopg [5] (s.size - (a + 1)) (fun gk v5 wr => ∃ (j : Nat), j + gk = s.size ∧ v5 = .int .i64 j ∧ Keep (j + runB longC (s.data.toList.drop j) = F) ∧ w = wr)
  case atStart => exact ⟨a + 1, by omega, by go_num, HF, rfl⟩
  case round =>
    obtain ⟨j, hj, rfl, HK, rfl⟩ := hrel; by_cases hlt : j < s.size
    · have hgk : gk ≠ 0 := by omega
      have hk := HK.out; rw [run_go longC _ j s[j] (HA.out j hlt)] at hk; have HC := Keep.mk (r9_letter s[j] w); have HC2 := Keep.mk (r9_digit s[j] w); cases hc : longC s[j]
      · rw [hc, if_neg (by decide)] at hk
        have HE := Keep.mk hk.symm; obtain ⟨h1, h2, h3, h4, h5, h6, h7⟩ := long_no hc; have e3 := nb (n := 46) rfl h3; have e4 := nb (n := 43) rfl h4; have e5 := nb (n := 45) rfl h5; have e6 := nb (n := 61) rfl h6; have e7 := nb (n := 47) rfl h7; have f3 := nbf (n := 46) rfl h3; have f4 := nbf (n := 43) rfl h4; have f5 := nbf (n := 45) rfl h5; have f6 := nbf (n := 61) rfl h6; have f7 := nbf (n := 47) rfl h7; rw [h1] at HC; rw [h2] at HC2; clear hk HK hc h1 h2 h3 h4 h5 h6 h7 HF; go_wp2_with fail
        refine HC.out.mono ?_; rintro r w1 ⟨rfl, rfl⟩; go_wp2_with fail
        refine HC2.out.mono ?_; rintro r w2 ⟨rfl, rfl⟩; go_wp2
        go_ret
        exact ⟨by rw [HE.out]; rfl, rfl⟩
      rw [hc, if_pos rfl] at hk; have HM := Keep.mk (show j + 1 + runB longC (s.data.toList.drop (j + 1)) = F by omega); cases h1 : letF s[j]
      · rw [h1] at HC
        cases h2 : isDg s[j]
        · rw [h2] at HC2
          have hsp := long_sp hc h1 h2; clear hk HK hc h1 h2 HF; rcases hsp with e | e | e | e | e
          all_goals (
            rw [e] at HC HC2; go_wp2_with fail
            refine HC.out.mono ?_; rintro r w1 ⟨rfl, rfl⟩; go_wp2_with fail
            refine HC2.out.mono ?_; rintro r w2 ⟨rfl, rfl⟩; go_wp2
            go_roundg (gk - 1)
            case rel => exact ⟨j + 1, by omega, by go_num, HM, rfl⟩
            case measure => omega)
        rw [h2] at HC2; clear hk HK hc h1 h2 HF; go_wp2_with fail
        refine HC.out.mono ?_; rintro r w1 ⟨rfl, rfl⟩; go_wp2_with fail
        refine HC2.out.mono ?_; rintro r w2 ⟨rfl, rfl⟩; go_wp2
        go_roundg (gk - 1)
        case rel => exact ⟨j + 1, by omega, by go_num, HM, rfl⟩
        case measure => omega
      rw [h1] at HC; clear hk HK hc h1 HF HC2; go_wp2_with fail
      refine HC.out.mono ?_; rintro r w1 ⟨rfl, rfl⟩; go_wp2
      go_roundg (gk - 1)
      case rel => exact ⟨j + 1, by omega, by go_num, HM, rfl⟩
      case measure => omega
    have HE := Keep.mk (show F = j by
      have := HK.out; rw [List.drop_eq_nil_of_le (by rw [HL.out]; omega)] at this; simp only [runB] at this; omega)
    clear HK HF; go_wp2
    go_ret
    exact ⟨by rw [HE.out]; rfl, rfl⟩
def notAB (a b c : UInt8) : Bool := !(decide (c = a) || decide (c = b))
def cutV (s : ByteArray) (n : Nat) : Value := if n < s.size then .tuple #[.string (s.extract 0 n), .string (s.extract (n + 1) s.size), .bool true] else .tuple #[.string s, .string ⟨#[]⟩, .bool false]
theorem r9_cut (s : ByteArray) (hs : s.size ≤ 100000000) (a b : UInt8) (w : World) : Calls Tryz.prog 67 #[.string s, .int .u8 a.toNat, .int .u8 b.toNat] w fun r w' => r = .returned (cutV s (runB (notAB a b) s.data.toList)) ∧ Below w.heap.size w w' := by
  have HR := Keep.mk (fun (j : Nat) (hj : j ≤ s.size) (h1 : ∀ i (h : i < s.data.toList.length), i < j → notAB a b s.data.toList[i] = true) (h2 : j = s.size ∨ ∃ h : j < s.size, notAB a b s[j] = false) => show runB (notAB a b) s.data.toList = j from tk_end hj h1 h2); obtain ⟨an, han⟩ : ∃ an : Int, (a.toNat : Int) = an := ⟨_, rfl⟩
  obtain ⟨bn, hbn⟩ : ∃ bn : Int, (b.toNat : Int) = bn := ⟨_, rfl⟩
  have HAB := Keep.mk (And.intro han hbn); rw [han, hbn]; clear han hbn; go_enter Tryz.func67, Tryz.ntmps67
  go_wp2_with fail
  go_loopg [9] s.size (fun gk i wr => ∃ j : Nat, j + gk = s.size ∧ i = .int .i64 j ∧ Keep (∀ i (h : i < s.data.toList.length), i < j → notAB a b s.data.toList[i] = true) ∧ w = wr)
  case atStart => exact ⟨0, by omega, rfl, ⟨fun _ _ h => absurd h (by omega)⟩, rfl⟩
  case round =>
    obtain ⟨j, hj, rfl, HD, rfl⟩ := hrel; by_cases hlt : j < s.size
    · have hgk : gk ≠ 0 := by omega
      have hj1 : j + 1 ≤ s.size := hlt; have hj2 : (j : Int) + 1 ≤ (s.size : Int) := by omega
      have hj3 : ¬ (s.size : Int) < (j : Int) + 1 := by omega
      by_cases ha : s[j] = a
      · have HE := Keep.mk (show cutV s (runB (notAB a b) s.data.toList) = .tuple #[.string (s.extract 0 j), .string (s.extract (j + 1) s.size), .bool true] by
          rw [HR.out j (by omega) HD.out (Or.inr ⟨hlt, by unfold notAB; simp [ha]⟩)]; unfold cutV; rw [if_pos hlt])
        have e : (s[j].toNat : Int) = an := by rw [ha]; exact HAB.out.1
        clear ha HD HR HAB; go_wp2_with fail
        refine wp_region_above (by kernel_rfl) (by kernel_rfl) ?_; repeat (go_big_quiet_step (fail))
        refine wpQuiet_nil ?_; rintro _ ⟨z, rfl⟩; go_wp2
        refine bodyPost_ret (v := .tuple #[.string (s.extract 0 j), .string (s.extract (j + 1) s.size), .bool true]) ?_ rfl ?_
        · simp [results, Tryz.results67, go_sem]
        exact ⟨by rw [HE.out], z.property⟩
      have ne : ¬ (s[j].toNat : Int) = an := fun h => ha (UInt8.toNat_inj.1 (by have := HAB.out.1; show s[j].toNat = a.toNat; omega))
      have nf : ((s[j].toNat : Int) == an) = false := by rw [beq_eq_false_iff_ne]; exact ne
      by_cases hb : s[j] = b
      · have HE := Keep.mk (show cutV s (runB (notAB a b) s.data.toList) = .tuple #[.string (s.extract 0 j), .string (s.extract (j + 1) s.size), .bool true] by
          rw [HR.out j (by omega) HD.out (Or.inr ⟨hlt, by unfold notAB; simp [hb]⟩)]; unfold cutV; rw [if_pos hlt])
        have e : ((s[j].toNat : Int) == bn) = true := by rw [beq_iff_eq, hb]; exact HAB.out.2
        clear ha hb HD HR HAB; go_wp2_with fail
        refine wp_region_above (by kernel_rfl) (by kernel_rfl) ?_; repeat (go_big_quiet_step (fail))
        refine wpQuiet_nil ?_; rintro _ ⟨z, rfl⟩; go_wp2
        refine bodyPost_ret (v := .tuple #[.string (s.extract 0 j), .string (s.extract (j + 1) s.size), .bool true]) ?_ rfl ?_
        · simp [results, Tryz.results67, go_sem]
        exact ⟨by rw [HE.out], z.property⟩
      have ne2 : ¬ (s[j].toNat : Int) = bn := fun h => hb (UInt8.toNat_inj.1 (by have := HAB.out.2; show s[j].toNat = b.toNat; omega))
      have nf2 : ((s[j].toNat : Int) == bn) = false := by rw [beq_eq_false_iff_ne]; exact ne2
      have HM := Keep.mk (tk_more hlt HD.out (show notAB a b s[j] = true by unfold notAB; simp [ha, hb])); clear ha hb HD; go_wp2
      go_roundg (gk - 1)
      case rel => exact ⟨j + 1, by omega, by go_num, HM, rfl⟩
      case measure => omega
    have HE := Keep.mk (show cutV s (runB (notAB a b) s.data.toList) = .tuple #[.string s, .string ⟨#[]⟩, .bool false] by
      rw [HR.out j (by omega) HD.out (Or.inl (by omega))]; unfold cutV; rw [if_neg hlt])
    clear HD HR HAB; go_wp2
    refine bodyPost_ret (v := .tuple #[.string s, .string ⟨#[]⟩, .bool false]) ?_ rfl ?_
    · simp [results, Tryz.results67, go_sem]
    exact ⟨by rw [HE.out], Below.refl _ _⟩
end Go.Proofs.YtinknjhclpaieaaGreatDoor
namespace Th
open Go Go.Lib
structure WfT (t : Tf) : Prop where
  w : t.kind = 1 → isName t.text.data.toList = true
  s : t.kind = 6 → isSignT t.text.data.toList = true
def WfE (E : Env) : Prop := ∀ t ∈ E.l, WfT t
theorem plain_one {t : List UInt8} (h : plainF t = 1) : isName t = true := by
  unfold plainF at h; repeat' split at h
  all_goals first | assumption | (exact absurd h (by decide))
theorem plain_six {t : List UInt8} (h : plainF t = 6) : isSignT t = true := by
  unfold plainF at h; repeat' split at h
  all_goals first | assumption | (exact absurd h (by decide))
theorem oneG_wf (L : List UInt8) (q : Nat → Nat × Nat) (a : Nat) : WfT (oneG L q a).1 := by
  unfold oneG; cases L.drop a with
  | nil => exact ⟨fun h => (by cases h), fun h => (by cases h)⟩
  | cons c r =>
    dsimp only; split
    · split
      · exact ⟨fun h => (by cases h), fun h => (by cases h)⟩
      exact ⟨fun h => (by cases h), fun h => (by cases h)⟩
    split
    · exact ⟨fun h => (by cases h), fun h => (by cases h)⟩
    rename_i hk
    rcases tok_longest c r with ⟨h, _⟩ | ⟨k, n, h, h1, h2, h3, h4, h5, h6⟩
    · rw [h] at hk; exact absurd rfl hk
    rw [h]; refine ⟨fun hk => ?_, fun hk => ?_⟩
    · have hk : k = 1 := hk
      subst hk; exact plain_one h5
    have hk : k = 6 := hk; subst hk; exact plain_six h5
theorem scanGo_wf (L : List UInt8) : ∀ (n a : Nat) (acc : List Tf), (∀ t ∈ acc, WfT t) → ∀ t ∈ (scanGo L n a acc).1, WfT t := by
  intro n; induction n with
  | zero => intro a acc h; exact h
  | succ n ih =>
    intro a acc h; simp only [scanGo]; split
    · intro t ht; cases ht
    split
    · exact h
    refine ih _ _ fun t ht => ?_
    rcases List.mem_append.1 ht with ht | ht
    · exact h t ht
    rw [List.mem_singleton.1 ht, oneF_eq]; exact oneG_wf L _ _
theorem scanF_wf (L : List UInt8) : ∀ t ∈ (scanF L).1, WfT t := by
  unfold scanF; split
  · intro t ht; cases ht
  exact scanGo_wf L _ _ _ (fun t ht => by cases ht)
theorem envOf_wf (s : List UInt8) (b : Nat) : WfE (envOf s b) := scanF_wf s
theorem tokAt_wf {E : Env} (h : WfE E) (i : Nat) : WfT (tokAt E i) := by
  unfold tokAt; rw [List.getD_eq_getElem?_getD]; cases he : E.l[i]? with
  | none => exact ⟨fun h => (by cases h), fun h => (by cases h)⟩
  | some t => exact h t (List.mem_of_getElem? he)
theorem isR_word {E : Env} (h : WfE E) {s : St} {x : ByteArray} (hx : isSignT x.data.toList = false) : isR E s x ↔ isT E s.i 1 x := by
  have hw := tokAt_wf h s.i; unfold isR isT; refine ⟨fun ⟨h1, h2⟩ => ⟨?_, h2⟩, fun ⟨h1, h2⟩ => ⟨Or.inl h1, h2⟩⟩; rcases h1 with h1 | h1
  · exact h1
  have := hw.s h1; rw [h2, hx] at this; cases this
theorem isR_sign {E : Env} (h : WfE E) {s : St} {x : ByteArray} (hx : isName x.data.toList = false) : isR E s x ↔ isT E s.i 6 x := by
  have hw := tokAt_wf h s.i; unfold isR isT; refine ⟨fun ⟨h1, h2⟩ => ⟨?_, h2⟩, fun ⟨h1, h2⟩ => ⟨Or.inr h1, h2⟩⟩; rcases h1 with h1 | h1
  · have := hw.w h1
    rw [h2, hx] at this; cases this
  exact h1
theorem hasR_word {E : Env} (h : WfE E) {s : St} (hs : s.err = 0) {x : ByteArray} (hx : isSignT x.data.toList = false) : hasR E s x ↔ isT E s.i 1 x :=
  ⟨fun hh => (isR_word h hx).1 hh.2, fun hh => ⟨hs, (isR_word h hx).2 hh⟩⟩
theorem hasR_sign {E : Env} (h : WfE E) {s : St} (hs : s.err = 0) {x : ByteArray} (hx : isName x.data.toList = false) : hasR E s x ↔ isT E s.i 6 x :=
  ⟨fun hh => (isR_sign h hx).1 hh.2, fun hh => ⟨hs, (isR_sign h hx).2 hh⟩⟩
/-! a fault stays -/
structure SameS (s s' : St) : Prop where
  e : s'.err = s.err
  a : s'.at_ = s.at_
theorem SameS.refl (s : St) : SameS s s := ⟨rfl, rfl⟩
theorem SameS.next {a b : St} (h : SameS a b) : SameS a b.next := ⟨h.e, h.a⟩
theorem SameS.fail {a b : St} (hn : a.err ≠ 0) (h : SameS a b) (E : Env) (e : Nat) : SameS a (failR E b e) := by
  unfold failR; rw [if_neg (by rw [h.e]; exact hn)]; exact ⟨h.e, h.a⟩
theorem SameS.want {a b : St} (hn : a.err ≠ 0) (h : SameS a b) (E : Env) (x : ByteArray) : SameS a (wantR E b x) := by
  unfold wantR; split
  · exact h.next
  exact h.fail hn E 60
theorem SameS.named {a b : St} (hn : a.err ≠ 0) (h : SameS a b) (E : Env) (k : Nat) : SameS a (namedR E b k).2 := by
  unfold namedR; split
  · exact h.fail hn E 60
  exact h.next
def Kp {α : Type} (s : St) (o : Option (α × St)) : Prop := ∀ n s', o = some (n, s') → SameS s s'
theorem Kp.ret {α : Type} {s s1 : St} {n : α} (h : SameS s s1) : Kp s (some (n, s1)) := fun _ _ h2 => by cases h2; exact h
theorem Kp.none_ {α : Type} {s : St} : Kp (α := α) s none := fun _ _ h2 => by cases h2
theorem Kp.ite {α : Type} {s : St} {c : Prop} [Decidable c] {a b : Option (α × St)} (h1 : Kp s a) (h2 : Kp s b) : Kp s (if c then a else b) := by
  split
  · exact h1
  exact h2
theorem Kp.bind {α : Type} {s : St} {a : Option (NJ × St)} {k : NJ → St → Option (α × St)} (h : Kp s a) (hk : ∀ n s1, SameS s s1 → Kp s (k n s1)) : Kp s (bindR a k) := by
  cases a with
  | none => exact Kp.none_
  | some p => exact hk p.1 p.2 (h p.1 p.2 rfl)
theorem args_keep (E : Env) {s0 : St} (hn : s0.err ≠ 0) : ∀ (n : Nat) (acc : List ByteArray) (s : St), SameS s0 s → Kp s0 (argsR E n acc s) := by
  intro n; induction n with
  | zero => intro acc s _; exact Kp.none_
  | succ n ih =>
    intro acc s h; simp only [argsR]; by_cases hk : (tokAt E s.i).kind = 2
    · simp only [if_pos hk]
      exact Kp.ite (ih _ _ (h.named hn E 2).next) (Kp.ret (h.named hn E 2))
    simp only [if_neg hk]; exact Kp.ite (ih _ _ (h.named hn E 1).next) (Kp.ret (h.named hn E 1))
theorem Kp.args {α : Type} {E : Env} {s0 : St} (hn : s0.err ≠ 0) {n : Nat} {acc : List ByteArray} {s : St} (h : SameS s0 s) {k : List ByteArray → St → Option (α × St)} (hk : ∀ a s1, SameS s0 s1 → Kp s0 (k a s1)) :
    Kp s0 (bindA (argsR E n acc s) k) := by
  have := args_keep E hn n acc s h; cases ha : argsR E n acc s with
  | none => exact Kp.none_
  | some p => exact hk p.1 p.2 (this p.1 p.2 ha)
def noText : RJob → Prop
  | .text => False
  | .parts _ _ _ _ => False
  | _ => True
theorem keepR : ∀ (g : Nat) (E : Env) (job : RJob) (s0 s : St), s0.err ≠ 0 → SameS s0 s → noText job → Kp s0 (runR g E job s) := by
  intro g; induction g with
  | zero => intro E job s0 s _ _ _; exact Kp.none_
  | succ g ih =>
    intro E job s0 s hn h hj; have hs : s.err ≠ 0 := by rw [h.e]; exact hn
    show Kp s0 (stepR (runR g) E job s)
    cases job with
    | text => exact hj.elim
    | parts _ _ _ _ => exact hj.elim
    | _ =>
      simp only [stepR]; first
        | (simp only [if_pos hs]; first | exact Kp.ret h | exact Kp.ret (h.want hn E _))
        | (repeat' (first
            | exact Kp.ret ‹_› | exact Kp.ret (SameS.next ‹_›) | exact Kp.ret (SameS.next (SameS.next ‹_›)) | exact Kp.ret (SameS.want hn ‹_› E _) | exact Kp.ret (SameS.want hn (SameS.want hn ‹_› E _) E _) | exact Kp.ret (SameS.fail hn ‹_› E _) | exact Kp.ret (SameS.named hn ‹_› E _)
            | exact ih _ _ _ _ hn ‹_› trivial | exact ih _ _ _ _ hn (SameS.next ‹_›) trivial | exact ih _ _ _ _ hn (SameS.next (SameS.next ‹_›)) trivial | exact ih _ _ _ _ hn (SameS.want hn ‹_› E _) trivial | exact ih _ _ _ _ hn (SameS.want hn (SameS.next ‹_›) E _) trivial
            | exact ih _ _ _ _ hn (SameS.want hn (SameS.want hn ‹_› E _) E _) trivial | exact ih _ _ _ _ hn (SameS.next (SameS.named hn ‹_› E _)) trivial | exact ih _ _ _ _ hn (SameS.want hn (SameS.named hn (SameS.next ‹_›) E _) E _) trivial | exact ih _ _ _ _ hn (SameS.want hn (SameS.named hn (SameS.want hn ‹_› E _) E _) E _) trivial
            | refine Kp.bind ?_ ?_ | refine Kp.args hn (SameS.next (SameS.named hn (SameS.next ‹_›) E _)) ?_ | refine Kp.ite ?_ ?_ | intro _))
end Th
namespace Go.Proofs.YtinknjhclpaieaaGreatDoor
open Go Go.RowKit Go.Proofs Th
attribute [local go_sem] Above.cell
theorem run_from (s : ByteArray) (hs : s.size ≤ 100000000) (a : Nat) (h : a ≤ s.size) (w : World) : Calls Tryz.prog 45 #[.string (s.extract a s.size)] w fun r w' => r = .returned (.int .i64 (digN (s.data.toList.drop a) : Int)) ∧ w' = w := by
  have h1 := tok_run (s.extract a s.size) (by rw [ext_size s a h]; omega) w; rw [bx_to] at h1; exact h1
theorem pre_at (s : ByteArray) (a : Nat) (b : Bool) (hb : decide (s.data.toList[a]? = some 46) = b) (w : World) : Calls Tryz.prog 43 #[.string (s.extract a s.size), .string ⟨#[46]⟩] w fun e w' => e = .returned (.bool b) ∧ w' = w := by
  have h := Tryz.strings_HasPrefix (s.extract a s.size) ⟨#[46]⟩ w; rw [bx_to, show (⟨#[46]⟩ : ByteArray).data.toList = [46] from rfl, pre_one, hb] at h; exact h
theorem at_some (s : ByteArray) (a : Nat) (h : a < s.size) : s.data.toList[a]? = some s[a] := by
  rw [List.getElem?_eq_getElem (by rw [size_listU]; exact h)]; rfl
theorem at_none (s : ByteArray) (a : Nat) (h : ¬ a < s.size) : s.data.toList[a]? = none := List.getElem?_eq_none (by rw [size_listU]; omega)
theorem dig_room (l : List UInt8) (a : Nat) (h : a ≤ l.length) : a + digN (l.drop a) ≤ l.length := by
  have := digN_le (l.drop a); rw [List.length_drop] at this; omega
theorem tok_number (s : ByteArray) (hs : s.size ≤ 100000000) (w : World) : Calls Tryz.prog 27 #[.string s] w fun r w' => r = .returned (.int .i64 (numN s.data.toList : Int)) ∧ w' = w := by
  have HL := Keep.mk (size_listU s); have HR := Keep.mk (fun a h W => run_from s hs a h W); have HR0 := Keep.mk (tok_run s hs w); obtain ⟨n0, hn0⟩ : ∃ n : Nat, digN s.data.toList = n := ⟨_, rfl⟩
  have hle : n0 ≤ s.size := by rw [← hn0, ← size_listU]; exact digN_le _
  rw [hn0] at HR0; by_cases h0 : n0 = 0
  · subst h0
    have HN := Keep.mk (show numN s.data.toList = 0 by unfold numN; rw [if_pos hn0]); clear HR hn0 hle; go_enter Tryz.func27, Tryz.ntmps27
    go_wp2_with fail
    refine HR0.out.mono ?_; rintro r w1 ⟨rfl, rfl⟩; go_wp2
    go_ret
    exact ⟨by rw [HN.out]; rfl, rfl⟩
  have HN := Keep.mk (show numN s.data.toList = expN s.data.toList (dotN s.data.toList n0) by rw [num_parts _ (by rw [hn0]; exact h0), hn0]); have b0 : ((n0 : Int) == 0) = false := by rw [beq_eq_false_iff_ne]; omega
  clear hn0; go_enter Tryz.func27, Tryz.ntmps27
  go_wp2_with fail
  refine HR0.out.mono ?_; rintro r w1 ⟨rfl, rfl⟩; clear HR0; go_wp2_with fail
  obtain ⟨p, hp⟩ : ∃ p, decide (s.data.toList[n0]? = some 46) = p := ⟨_, rfl⟩
  refine (pre_at s n0 p hp w1).mono ?_; rintro r w2 ⟨rfl, rfl⟩; go_upto_if 14 with fail
  go_cut [3] (fun v wx => ∃ n1 : Nat, v = .int .i64 n1 ∧ Keep (dotN s.data.toList n0 = n1 ∧ n1 ≤ s.size) ∧ w2 = wx)
  case first =>
    cases p
    · have HD := Keep.mk (show dotN s.data.toList n0 = n0 by unfold dotN; rw [if_neg (fun h => of_decide_eq_false hp h.1)])
      clear hp; go_wp2_with fail
      go_meet
      exact ⟨n0, rfl, ⟨HD.out, hle⟩, rfl⟩
    have hd := of_decide_eq_true hp; have hlt : n0 < s.size := by
      have := (List.getElem?_eq_some_iff.1 hd).1; rw [size_listU] at this; exact this
    obtain ⟨k, hk⟩ : ∃ k, digN (s.data.toList.drop (n0 + 1)) = k := ⟨_, rfl⟩
    have hkl := dig_room s.data.toList (n0 + 1) (by rw [size_listU]; omega); rw [hk, size_listU] at hkl; have HRN := Keep.mk (HR.out (n0 + 1) (by omega) w2); rw [hk] at HRN; have HD := Keep.mk (show dotN s.data.toList n0 = if 0 < k then n0 + 1 + k else n0 by
      unfold dotN; rw [hk]; by_cases h : 0 < k
      · rw [if_pos ⟨hd, h⟩, if_pos h]
      rw [if_neg (fun h2 => h h2.2), if_neg h])
    clear hp hd hk; go_wp2_with fail
    refine HRN.out.mono ?_; rintro r w3 ⟨rfl, rfl⟩; by_cases hk0 : 0 < k
    · have HD2 := Keep.mk (HD.out.trans (if_pos hk0))
      go_wp2_with fail
      go_meet
      exact ⟨n0 + 1 + k, by go_num, ⟨HD2.out, by omega⟩, rfl⟩
    have HD2 := Keep.mk (HD.out.trans (if_neg hk0)); go_wp2_with fail
    go_meet
    exact ⟨n0, rfl, ⟨HD2.out, by omega⟩, rfl⟩
  case rest =>
    obtain ⟨n1, rfl, HD, rfl⟩ := hcut; obtain ⟨hd1, hle1⟩ := HD.out; replace HN := Keep.mk (HN.out.trans (by rw [hd1])); clear HD hd1 hp b0 h0 hle; obtain ⟨b, hb⟩ : ∃ b, decide (s.data.toList[n1]? = some 101 ∨ s.data.toList[n1]? = some 69) = b := ⟨_, rfl⟩
    go_upto_region 8 with fail
    go_cut [41] (fun v wx => v = .bool b ∧ w2 = wx)
    case first =>
      by_cases hlt : n1 < s.size
      · rw [at_some s n1 hlt] at hb
        by_cases h1 : s[n1] = 101
        · have hb1 := hb.symm.trans (decide_eq_true (Or.inl (congrArg some h1)))
          subst hb1; have f1 : (s[n1].toNat : Int) = 101 := by rw [h1]; rfl
          clear hb h1; go_wp2_with fail
          go_meet
          exact ⟨rfl, rfl⟩
        have f1 : ¬ (s[n1].toNat : Int) = 101 := fun h => h1 (UInt8.toNat_inj.1 (by show s[n1].toNat = 101; omega))
        have g1 : ((s[n1].toNat : Int) == 101) = false := by rw [beq_eq_false_iff_ne]; exact f1
        by_cases h2 : s[n1] = 69
        · have hb1 := hb.symm.trans (decide_eq_true (Or.inr (congrArg some h2)))
          subst hb1; have f2 : (s[n1].toNat : Int) = 69 := by rw [h2]; rfl
          clear hb h1 h2 g1 f1; go_wp2_with fail
          go_meet
          exact ⟨rfl, rfl⟩
        have hb1 := hb.symm.trans (decide_eq_false (fun h => h.elim (fun h => h1 (Option.some.inj h)) (fun h => h2 (Option.some.inj h)))); subst hb1; have f2 : ¬ (s[n1].toNat : Int) = 69 := fun h => h2 (UInt8.toNat_inj.1 (by show s[n1].toNat = 69; omega))
        have g2 : ((s[n1].toNat : Int) == 69) = false := by rw [beq_eq_false_iff_ne]; exact f2
        clear hb h1 h2; go_wp2_with fail
        go_meet
        exact ⟨rfl, rfl⟩
      rw [at_none s n1 hlt] at hb; have hb1 := hb.symm.trans (decide_eq_false (fun h => by rcases h with h | h <;> cases h)); subst hb1; clear hb; go_wp2_with fail
      go_meet
      exact ⟨rfl, rfl⟩
    case rest =>
      obtain ⟨rfl, rfl⟩ := hcut; cases b
      · have HN2 := Keep.mk (show numN s.data.toList = n1 by rw [HN.out]; unfold expN; rw [if_neg (fun h => of_decide_eq_false hb h.1)])
        clear hb HN HR; go_wp2
        go_ret
        exact ⟨by rw [HN2.out]; rfl, rfl⟩
      have he := of_decide_eq_true hb; have hlt : n1 < s.size := by
        rcases he with h | h <;> (have := (List.getElem?_eq_some_iff.1 h).1; rw [size_listU] at this; exact this)
      clear hb; obtain ⟨b, hb⟩ : ∃ b, decide (s.data.toList[n1 + 1]? = some 43 ∨ s.data.toList[n1 + 1]? = some 45) = b := ⟨_, rfl⟩
      have HE := Keep.mk he; clear he; go_upto_region 10 with fail
      go_cut [59] (fun v wx => v = .bool b ∧ w2 = wx)
      case first =>
        by_cases hlt2 : n1 + 1 < s.size
        · rw [at_some s (n1 + 1) hlt2] at hb
          by_cases h1 : s[n1 + 1] = 43
          · have hb1 := hb.symm.trans (decide_eq_true (Or.inl (congrArg some h1)))
            subst hb1; have f1 : (s[n1 + 1].toNat : Int) = 43 := by rw [h1]; rfl
            clear hb h1; go_wp2_with fail
            go_meet
            exact ⟨rfl, rfl⟩
          have f1 : ¬ (s[n1 + 1].toNat : Int) = 43 := fun h => h1 (UInt8.toNat_inj.1 (by show s[n1 + 1].toNat = 43; omega))
          have g1 : ((s[n1 + 1].toNat : Int) == 43) = false := by rw [beq_eq_false_iff_ne]; exact f1
          by_cases h2 : s[n1 + 1] = 45
          · have hb1 := hb.symm.trans (decide_eq_true (Or.inr (congrArg some h2)))
            subst hb1; have f2 : (s[n1 + 1].toNat : Int) = 45 := by rw [h2]; rfl
            clear hb h1 h2 g1 f1; go_wp2_with fail
            go_meet
            exact ⟨rfl, rfl⟩
          have hb1 := hb.symm.trans (decide_eq_false (fun h => h.elim (fun h => h1 (Option.some.inj h)) (fun h => h2 (Option.some.inj h)))); subst hb1; have f2 : ¬ (s[n1 + 1].toNat : Int) = 45 := fun h => h2 (UInt8.toNat_inj.1 (by show s[n1 + 1].toNat = 45; omega))
          have g2 : ((s[n1 + 1].toNat : Int) == 45) = false := by rw [beq_eq_false_iff_ne]; exact f2
          clear hb h1 h2; go_wp2_with fail
          go_meet
          exact ⟨rfl, rfl⟩
        rw [at_none s (n1 + 1) hlt2] at hb; have hb1 := hb.symm.trans (decide_eq_false (fun h => by rcases h with h | h <;> cases h)); subst hb1; clear hb; go_wp2_with fail
        go_meet
        exact ⟨rfl, rfl⟩
      case rest =>
        obtain ⟨rfl, rfl⟩ := hcut; cases b
        · have ha : expAt s.data.toList n1 = n1 + 1 := by unfold expAt; rw [if_neg (of_decide_eq_false hb)]
          have hroom : n1 + 1 ≤ s.size := by omega
          obtain ⟨k, hk⟩ : ∃ k, digN (s.data.toList.drop (n1 + 1)) = k := ⟨_, rfl⟩
          have HRN := Keep.mk (HR.out (n1 + 1) hroom w2); rw [hk] at HRN; have hkl := dig_room s.data.toList (n1 + 1) (by rw [size_listU]; exact hroom); rw [hk, size_listU] at hkl; have HX := Keep.mk (show expN s.data.toList n1 = if 0 < k then n1 + 1 + k else n1 by
            unfold expN; rw [ha, hk]; by_cases h : 0 < k
            · rw [if_pos ⟨HE.out, h⟩, if_pos h]
            rw [if_neg (fun h2 => h h2.2), if_neg h])
          clear hb hk ha HE HR; go_wp2_with fail
          refine HRN.out.mono ?_; rintro r w3 ⟨rfl, rfl⟩; by_cases hk0 : 0 < k
          · have HX2 := Keep.mk (HN.out.trans (HX.out.trans (if_pos hk0)))
            go_wp2
            go_ret
            exact ⟨by rw [HX2.out]; go_num, rfl⟩
          have HX2 := Keep.mk (HN.out.trans (HX.out.trans (if_neg hk0))); go_wp2
          go_ret
          exact ⟨by rw [HX2.out]; rfl, rfl⟩
        have ha : expAt s.data.toList n1 = n1 + 2 := by unfold expAt; rw [if_pos (of_decide_eq_true hb)]
        have hroom : n1 + 2 ≤ s.size := by
          rcases of_decide_eq_true hb with h | h <;> (have := (List.getElem?_eq_some_iff.1 h).1; rw [size_listU] at this; omega)
        obtain ⟨k, hk⟩ : ∃ k, digN (s.data.toList.drop (n1 + 2)) = k := ⟨_, rfl⟩
        have HRN := Keep.mk (HR.out (n1 + 2) hroom w2); rw [hk] at HRN; have hkl := dig_room s.data.toList (n1 + 2) (by rw [size_listU]; exact hroom); rw [hk, size_listU] at hkl; have HX := Keep.mk (show expN s.data.toList n1 = if 0 < k then n1 + 2 + k else n1 by
          unfold expN; rw [ha, hk]; by_cases h : 0 < k
          · rw [if_pos ⟨HE.out, h⟩, if_pos h]
          rw [if_neg (fun h2 => h h2.2), if_neg h])
        clear hb hk ha HE HR; go_wp2_with fail
        refine HRN.out.mono ?_; rintro r w3 ⟨rfl, rfl⟩; by_cases hk0 : 0 < k
        · have HX2 := Keep.mk (HN.out.trans (HX.out.trans (if_pos hk0)))
          go_wp2
          go_ret
          exact ⟨by rw [HX2.out]; go_num, rfl⟩
        have HX2 := Keep.mk (HN.out.trans (HX.out.trans (if_neg hk0))); go_wp2
        go_ret
        exact ⟨by rw [HX2.out]; rfl, rfl⟩
open Go Go.RowKit Go.Proofs Th
open Go Go.RowKit Go.Proofs Th
open Go Go.RowKit Go.Proofs Th
theorem below_drew (W : World) : Below W.heap.size W W.drew := ⟨rfl, rfl, rfl, Nat.le_refl _, fun _ _ => rfl⟩
end Go.Proofs.YtinknjhclpaieaaGreatDoor
namespace Th
open Go Go.Lib
mutual
/-- a node's depth -/
def depJ : NJ → Nat
  | .mk _ _ _ _ l _ => 1 + depsJ l
def depsJ : List NJ → Nat
  | [] => 0
  | n :: r => max (depJ n) (depsJ r)
end
theorem depsJ_append : ∀ a b, depsJ (a ++ b) = max (depsJ a) (depsJ b)
  | [], b => by rw [List.nil_append, depsJ]; omega
  | x :: r, b => by rw [List.cons_append, depsJ, depsJ, depsJ_append r b]; omega
theorem depsJ_get : ∀ (l : List NJ) (k : Nat) (h : k < l.length), depsJ (l.drop k) = max (depJ l[k]) (depsJ (l.drop (k + 1)))
  | l, k, h => by rw [List.drop_eq_getElem_cons h, depsJ]
theorem dep_join (l : List NJ) : depJ (joinQ l) ≤ 1 + depsJ l := by
  rcases l with _ | ⟨a, _ | ⟨b, l⟩⟩
  · exact Nat.le_refl _
  · show depJ a ≤ 1 + max (depJ a) 0; omega
  exact Nat.le_refl _
def jdep : RJob → Nat
  | .listLoop n | .eitherLoop n | .bothLoop n | .sumLoop n | .productLoop n | .termLoop n | .index n => depJ n
  | .parts _ _ _ kids | .objLoop kids | .callLoop _ kids => depsJ kids
  | _ => 0
def DepO (b : Nat) (o : Option (NJ × St)) : Prop := ∀ n s, o = some (n, s) → depJ n ≤ b
theorem DepO.up {b c : Nat} {o : Option (NJ × St)} (h : DepO b o) (hc : b ≤ c) : DepO c o := fun n s e => Nat.le_trans (h n s e) hc
theorem DepO.ret {b : Nat} {n : NJ} {s : St} (h : depJ n ≤ b) : DepO b (some (n, s)) := fun m t e => by cases e; exact h
theorem DepO.ite {b : Nat} {c : Prop} [Decidable c] {x y : Option (NJ × St)} (h1 : DepO b x) (h2 : DepO b y) : DepO b (if c then x else y) := by
  split
  · exact h1
  exact h2
theorem DepO.bind {b c : Nat} {a : Option (NJ × St)} {k : NJ → St → Option (NJ × St)} (h : DepO c a) (hk : ∀ n s, depJ n ≤ c → DepO b (k n s)) : DepO b (bindR a k) := by
  cases a with
  | none => intro n s e; cases e
  | some x => obtain ⟨n, s⟩ := x; exact hk n s (h n s rfl)
theorem DepO.args {b : Nat} {a : Option (List ByteArray × St)} {k : List ByteArray → St → Option (NJ × St)} (hk : ∀ n s, DepO b (k n s)) : DepO b (bindA a k) := by
  cases a with
  | none => intro n s e; cases e
  | some x => obtain ⟨n, s⟩ := x; exact hk n s
def bndJ (q f : Nat) : RJob → Nat
  | .index x => 1 + max (depJ x) q
  | job => max (jdep job) q + f
theorem dep_run : ∀ (f : Nat) (E : Env) (job : RJob) (s : St), DepO (bndJ (f * f + 2) f job) (runR f E job s) := by
  intro f; induction f with
  | zero => intro E job s n s' h; cases h
  | succ f ih =>
    intro E job s; obtain ⟨q, hq⟩ : ∃ q, f * f + 2 = q := ⟨_, rfl⟩
    have hsq : (f + 1) * (f + 1) + 2 = q + 2 * f + 1 := by rw [Nat.add_mul, Nat.mul_add]; omega
    rw [hsq]; rw [hq] at ih; have hq2 : 2 ≤ q := by omega
    clear hsq hq; show DepO _ (stepR (runR f) E job s)
    have hs : ∀ E job s, bndJ q f job = q + f → DepO (q + f) (runR f E job s) := fun E job s h0 => (ih E job s).up (by rw [h0]; omega)
    have h0 : ∀ job, (match job with | RJob.index _ => False | _ => True) → jdep job = 0 → bndJ q f job = q + f := fun job hj h => by
      cases job <;> first | exact hj.elim | (simp only [bndJ, h]; omega)
    cases job
    case text => exact (ih E _ s).up (by simp only [bndJ, jdep, depsJ]; omega)
    case parts t fs p kids =>
      have hj := fun x => dep_join (kids ++ x)
      have hj0 := dep_join kids; simp only [depsJ_append] at hj; cases t with
      | nil => exact DepO.ret (by simp only [bndJ, jdep]; omega)
      | cons t ts =>
        simp only [stepR]; refine DepO.ite (DepO.ret (by simp only [noNJ, depJ, depsJ, bndJ]; omega)) ?_; cases fs with
        | nil => exact DepO.ret (by have := hj [strJ ⟨(readQ (textQ t)).1.toArray⟩]; simp only [depsJ, depJ, strJ, jdep, bndJ] at this ⊢; omega)
        | cons g fs =>
          refine DepO.bind (hs _ _ _ (h0 _ trivial rfl)) fun m s1 hm => DepO.ite (DepO.ret (by simp only [noNJ, depJ, depsJ, bndJ]; omega)) ?_
          exact (ih _ _ _).up (by simp only [bndJ, jdep, depsJ_append, depsJ, depJ, strJ]; omega)
    all_goals
      simp only [stepR]; repeat' first
        | refine DepO.ite ?_ ?_
        | refine DepO.args fun a s1 => ?_
        | refine DepO.bind (hs _ _ _ (h0 _ trivial rfl)) fun m s1 hm => ?_
        | (refine DepO.bind (ih _ (.index _) _) fun m s1 hm => ?_; simp only [bndJ] at hm)
        | exact DepO.ret (by simp only [bndJ, jdep, depsJ_append, depsJ, depJ, strJ, nodeJ, kidsJ, selfJ, knownJ, noNJ]; omega)
        | exact (ih _ _ _).up (by simp only [bndJ, jdep, depsJ_append, depsJ, depJ, strJ, nodeJ, kidsJ, selfJ, knownJ]; omega)
        | exact (ih _ _ _).up (by simp only [bndJ, jdep]; omega)
end Th
