/- Lemmas and contracts for the laws SpellSames, part 24 of 47: SynM. Conditions: those that each lemma names. -/
import Derived.Test.YtakncilicoefdaaGreatDoorPa22
import Derived.Recover
set_option maxRecDepth 100000
set_option maxHeartbeats 4000000
namespace Go.Proofs.YtakncilicoefdaaGreatDoor
open Go Go.RowKit Go.Proofs Th
set_option maxRecDepth 8000
attribute [local go_sem] aops aopsD stepA chkD disj aguard isWant aop aval abuil acall acallP acallR argsIV valOf aput startS mkS numb look upd toIV allIV zeroFV aload setSeg afill aelems cellsOf toSl toVal valsOf aidx abin ainR FV.ok IV.one IV.er IV.erA IV.er1 iI sI bI nodeIV nodesIV tokIV parIV faultV resP lift AThen ABlock AEnd resL resV rload rcOf imsOf oneV nodeJ kidsJ strJ knownJ selfJ noNJ noTf foot owns pruneS filtF filtO Value.oneCell'
attribute [local go_sem] ti_node ti_tok ti_par ti_fault ti_nodes ti_toks ti_strs ti_ints ti_str ti_int ti_num ti_errno
theorem RelE.pin {X : Ctx} {E : AEnv} {S : CS} {s : ASt} {a : Act} {W : World} (h : RelE X E S s a W) (t b : Nat) (hb : ∃ cs, s.st b = .box cs) : RelE X E S ⟨upd s.fr t (.pin b (E.box b)), s.st⟩ a W := by
  refine ⟨h.sz, h.df, fun t' => ?_, h.ob, h.ap, h.Sb, h.S0, h.Sn, h.u, h.g, h.pk, h.bk⟩; show RepF W S E s.st (upd s.fr t (.pin b (E.box b)) t') _
  by_cases ht : t' = t
  · subst ht; rw [upd_same]; exact ⟨hb, rfl⟩
  rw [upd_ne _ _ ht]; exact h.fr t'
theorem rec_idle (x y z : Value) (w : World) : CallsD Tryz.prog 24 #[x, y, z] .returning w fun e u' w' => e = .returned (.tuple #[]) ∧ u' = .returning ∧ w' = w := by
  refine callsD_of_wpS Tryz.func24 rfl fun c₀ cs hu => ?_
  apply wpS_seq; apply wpS_region; simp [wpOpsS, go_sem, recoverD, hu, Tryz.ntmps24, Exit.thenS]; apply wpS_seq; apply wpS_region; simp [wpOpsS, go_sem, recoverD, hu, Exit.thenS]; refine wpS_cond (t := false) (by simp [Act.eval, Array.replicate]) ?_; simp only [Bool.false_eq_true, if_false]; refine wpS_of_wp (wp_skip ?_); cases c₀; simp_all [bodyPostS, results, Tryz.results24]
def boxesAt (i j k : Nat) (x y z : List IV) : Nat → AObj := look .none [(i, .box (x.map .im)), (j, .box (y.map .im)), (k, .box (z.map .im))]
def ren (E : AEnv) (i j k i' j' k' : Nat) : AEnv := { box := fun n => if n = i' then E.box i else if n = j' then E.box j else if n = k' then E.box k else E.box n, row := E.row }
theorem RelE.three {X : Ctx} {E : AEnv} {S : CS} {s : ASt} {a : Act} {W : World} (h : RelE X E S s a W) (hr : X.rcv = false) {i j k i' j' k' : Nat} {x y z : List IV} (e1 : s.st i = .box (x.map .im)) (e2 : s.st j = .box (y.map .im)) (e3 : s.st k = .box (z.map .im)) (hd : (i ≠ j ∧ i ≠ k ∧ j ≠ k) ∧ i' ≠ j' ∧ i' ≠ k' ∧ j' ≠ k' ∧ i' ≠ 1000 ∧ j' ≠ 1000 ∧ k' ≠ 1000) (N : Nat) (d : List Deferred) (fr : Nat → FV) (a2 : Act) (hsz : a2.tmps.size = N) (hdf : a2.defers = d)
    (hfr : ∀ t, RepF W S (ren E i j k i' j' k') (boxesAt i' j' k' x y z) (fr t) (a2.tmps.getD t undef)) : RelE { X with N := N, dfr := d } (ren E i j k i' j' k') S ⟨fr, boxesAt i' j' k' x y z⟩ a2 W := by
  obtain ⟨⟨d1, d2, d3⟩, d4, d5, d6, d7, d8, d9⟩ := hd; have b1 : (ren E i j k i' j' k').box i' = E.box i := if_pos rfl; have b2 : (ren E i j k i' j' k').box j' = E.box j := (if_neg (Ne.symm d4)).trans (if_pos rfl); have b3 : (ren E i j k i' j' k').box k' = E.box k := (if_neg (Ne.symm d5)).trans ((if_neg (Ne.symm d6)).trans (if_pos rfl)); have s1 : boxesAt i' j' k' x y z i' = .box (x.map .im) := by simp [boxesAt, look]
  have s2 : boxesAt i' j' k' x y z j' = .box (y.map .im) := by simp [boxesAt, look, Ne.symm d4]
  have s3 : boxesAt i' j' k' x y z k' = .box (z.map .im) := by simp [boxesAt, look, Ne.symm d5, Ne.symm d6]
  have s4 : ∀ n, n ≠ i' → n ≠ j' → n ≠ k' → boxesAt i' j' k' x y z n = .none := fun n h1 h2 h3 => by simp [boxesAt, look, h1, h2, h3]
  have ob : ∀ {o n : Nat} {cs : List IV}, s.st o = .box (cs.map .im) → (ren E i j k i' j' k').box n = E.box o → ObjOK { X with N := N, dfr := d } W S (ren E i j k i' j' k') (boxesAt i' j' k' x y z) n (.box (cs.map .im)) := by
    intro o n cs ho hn; have := h.ob o; rw [ho] at this; obtain ⟨⟨us, h1, h2, h3, h4, h5⟩, h6⟩ := this; refine ⟨⟨us, h1, by rw [hn]; exact h2, h3, fun m c u hc hu => ?_, by rw [hn]; exact h5⟩, by rw [hn]; exact h6⟩; have := h4 m c u hc hu; rw [List.getElem?_map] at hc; cases hq : cs[m]? with
    | none => rw [hq] at hc; cases hc
    | some q => rw [hq] at hc; injection hc with hc; subst hc; exact this
  have ap : ∀ {o p : Nat} {cs ds : List FV}, s.st o = .box cs → s.st p = .box ds → E.box o = E.box p → o = p := fun {o p cs ds} ho hp he => h.ap o p (E.box o) (by rw [ho]; rfl) (by rw [hp]; exact congrArg some he.symm)
  refine ⟨hsz, hdf, hfr, fun n => ?_, fun n m g hn hm => ?_, h.Sb, h.S0, h.Sn, h.u, h.g, ?_, fun h2 => (by rw [hr] at h2; cases h2)⟩
  · show ObjOK _ W S _ _ n (boxesAt i' j' k' x y z n)
    by_cases h1 : n = i'
    · subst h1; rw [s1]; exact ob e1 b1
    by_cases h2 : n = j'
    · subst h2; rw [s2]; exact ob e2 b2
    by_cases h3 : n = k'
    · subst h3; rw [s3]; exact ob e3 b3
    rw [s4 n h1 h2 h3]; trivial
  · have cs : ∀ n g, blk (ren E i j k i' j' k') n (boxesAt i' j' k' x y z n) = some g → (n = i' ∧ g = E.box i) ∨ (n = j' ∧ g = E.box j) ∨ (n = k' ∧ g = E.box k) := by
      intro n g hn; by_cases h1 : n = i'
      · subst h1; rw [s1] at hn; exact Or.inl ⟨rfl, (Option.some.inj hn).symm.trans b1⟩
      by_cases h2 : n = j'
      · subst h2; rw [s2] at hn; exact Or.inr (Or.inl ⟨rfl, (Option.some.inj hn).symm.trans b2⟩)
      by_cases h3 : n = k'
      · subst h3; rw [s3] at hn; exact Or.inr (Or.inr ⟨rfl, (Option.some.inj hn).symm.trans b3⟩)
      rw [s4 n h1 h2 h3] at hn; cases hn
    rcases cs n g hn with ⟨rfl, hg⟩ | ⟨rfl, hg⟩ | ⟨rfl, hg⟩ <;> rcases cs m g hm with ⟨rfl, hg2⟩ | ⟨rfl, hg2⟩ | ⟨rfl, hg2⟩ <;> first
      | rfl
      | exact absurd (ap e1 e2 (hg.symm.trans hg2)) d1
      | exact absurd (ap e1 e3 (hg.symm.trans hg2)) d2
      | exact absurd (ap e2 e3 (hg.symm.trans hg2)) d3
      | exact absurd (ap e1 e2 (hg2.symm.trans hg)) d1
      | exact absurd (ap e1 e3 (hg2.symm.trans hg)) d2
      | exact absurd (ap e2 e3 (hg2.symm.trans hg)) d3
  show (if (1000 : Nat) = i' then _ else if (1000 : Nat) = j' then _ else if (1000 : Nat) = k' then _ else _) = _
  rw [if_neg (Ne.symm d7), if_neg (Ne.symm d8), if_neg (Ne.symm d9)]; exact h.pk
def zeroM : List IV := [iI 0, sI ⟨#[]⟩, iI 0, iI 0, .sl [] true, .sl [] true]
def RecEnd (p2 p3 p4 a e : Nat) : AExit → ASt → Prop
  | .normal, s => s.fr 6 = .pin 102 p2 ∧ s.fr 7 = .pin 103 p3 ∧ s.fr 8 = .pin 104 p4 ∧ s.st 102 = .box (zeroM.map .im) ∧ s.st 103 = .box ([iI a].map .im) ∧ s.st 104 = .box ([iI e].map .im)
  | _, _ => False
instance {p2 p3 p4 a e : Nat} : PanicOK (RecEnd p2 p3 p4 a e) := ⟨fun _ _ _ _ h => h⟩
attribute [local go_sem] zeroM RecEnd boxesAt liftA
theorem AW.at {P : Program} {X : Ctx} {c : Code} {Q : AExit → ASt → Prop} {s : ASt} {E : AEnv} {S : CS} {a : Act} {W : World} (h : AW P X c Q s) (hr : RelE X E S s a W) : c.wp P (conc X Q) a W := h a W ⟨E, S, hr⟩
theorem rec_panic {X : Ctx} {E : AEnv} {S : CS} {s : ASt} {a : Act} {W : World} (h : RelE X E S s a W) (hr : X.rcv = false) (u0 u1 u2 u3 u4 u5 v w : IV) (e2 : s.st 2 = .box ([u0, u1, u2, u3, u4, u5].map .im)) (e3 : s.st 3 = .box ([v].map .im)) (e4 : s.st 4 = .box ([w].map .im)) (f2 : s.fr 2 = .ptr 2 0) (f3 : s.fr 3 = .ptr 3 0) (f4 : s.fr 4 = .ptr 4 0) (at_ e : Nat) (older : List PanicEntry) :
    CallsD Tryz.prog 24 #[.pointer (some ⟨E.box 2, 0, none⟩), .pointer (some ⟨E.box 3, 0, none⟩), .pointer (some ⟨E.box 4, 0, none⟩)] (.panicking ({ v := faultV at_ e, recovered := false } :: older)) W fun r u' w' => r = .returned (.tuple #[]) ∧ u' = .panicking ({ v := faultV at_ e, recovered := true } :: older) ∧
      ∃ E' S', RelE X E' S' ⟨look .junk [(2, .ptr 2 0), (3, .ptr 3 0), (4, .ptr 4 0)], boxesAt 2 3 4 zeroM [iI at_] [iI e]⟩ a w' := by
  refine callsD_of_wpS Tryz.func24 rfl fun c₀ cs hu => ?_
  apply wpS_seq; apply wpS_region; simp [wpOpsS, go_sem, recoverD, hu, Tryz.ntmps24, Exit.thenS]; apply wpS_seq; apply wpS_region; simp [wpOpsS, go_sem, recoverD, Exit.thenS]; refine wpS_cond (t := true) (by simp [Act.eval, Array.replicate]) ?_; simp only [if_true]; refine wpS_of_wp ?_; simp only [Array.replicate_succ, Array.replicate_zero, List.push_toArray, List.setIfInBounds_toArray, List.set_cons_zero, List.set_cons_succ, List.append_toArray, List.nil_append, List.cons_append]; have hrel := RelE.three (i := 2) (j := 3) (k := 4) (i' := 102) (j' := 103) (k' := 104) h hr e2 e3 e4 (by decide) 20 [] (look .junk [(0, .ptr 102 0), (1, .ptr 103 0), (2, .ptr 104 0), (3, .im (.v (faultV at_ e))), (6, .pin 102 (E.box 2)), (7, .pin 103 (E.box 3)), (8, .pin 104 (E.box 4))]) { tmps := #[.pointer (some ⟨E.box 2, 0, none⟩), .pointer (some ⟨E.box 3, 0, none⟩), .pointer (some ⟨E.box 4, 0, none⟩), faultV at_ e, undef, undef, faultV at_ e, faultV at_ e, .bool true, undef, undef, undef, undef, undef, undef, undef, undef, undef, undef, undef], defers := [] } rfl rfl fun t => by
    match t with
    | 0 => exact ⟨⟨_, rfl⟩, rfl⟩
    | 1 => exact ⟨⟨_, rfl⟩, rfl⟩
    | 2 => exact ⟨⟨_, rfl⟩, rfl⟩
    | 3 => exact .v _
    | 4 => trivial
    | 5 => trivial
    | 6 => exact ⟨⟨_, rfl⟩, rfl⟩
    | 7 => exact ⟨⟨_, rfl⟩, rfl⟩
    | 8 => exact ⟨⟨_, rfl⟩, rfl⟩
    | n + 9 =>
      rw [show look FV.junk [(0, .ptr 102 0), (1, .ptr 103 0), (2, .ptr 104 0), (3, .im (.v (faultV at_ e))), (6, .pin 102 (E.box 2)), (7, .pin 103 (E.box 3)), (8, .pin 104 (E.box 4))] (n + 9) = .junk from by simp [look]]; trivial
  refine wp_mono (AW.at (Q := RecEnd (E.box 2) (E.box 3) (E.box 4) at_ e) ?hA hrel) ?post
  case hA =>
    clear hrel hr h e2 e3 e4 f2 f3 f4; have F : Fit { X with N := 20, dfr := [] } X.G 20 := ⟨rfl, Nat.le_refl _⟩; apply Ar F; go_simp; apply Ar F; go_simp; apply Ar F; go_simp; refine At (by go_simp) ?_; refine Ad F [0, 1, 2, 3, 4, 5] [(1, 4), (1, 5), (3, 4), (3, 5), (4, 5)] mixed (by kernel_rfl) ?_; go_simp
  case post =>
    intro r a' W' hq; cases r with
    | normal =>
      obtain ⟨s2, ⟨E2, S2, hR⟩, g6, g7, g8, k2, k3, k4⟩ := hq; refine ⟨hR.df, _, rfl, .tuple #[], by simp [results, Tryz.results24], rfl, rfl, ren E2 102 103 104 2 3 4, S2, ?_⟩; have q2 : E2.box 102 = E.box 2 := by have := hR.fr 6; rw [g6] at this; exact this.2
      have q3 : E2.box 103 = E.box 3 := by have := hR.fr 7; rw [g7] at this; exact this.2
      have q4 : E2.box 104 = E.box 4 := by have := hR.fr 8; rw [g8] at this; exact this.2
      have hf := hR.three (i := 102) (j := 103) (k := 104) (i' := 2) (j' := 3) (k' := 4) hr k2 k3 k4 (by decide) X.N X.dfr (look .junk [(2, .ptr 2 0), (3, .ptr 3 0), (4, .ptr 4 0)]) a h.sz h.df fun t => by
        have p2 := h.fr 2; rw [f2] at p2; have p3 := h.fr 3; rw [f3] at p3; have p4 := h.fr 4; rw [f4] at p4; match t with
        | 0 => trivial
        | 1 => trivial
        | 2 => exact ⟨⟨_, rfl⟩, p2.2.trans (by rw [← q2]; rfl)⟩
        | 3 => exact ⟨⟨_, rfl⟩, p3.2.trans (by rw [← q3]; rfl)⟩
        | 4 => exact ⟨⟨_, rfl⟩, p4.2.trans (by rw [← q4]; rfl)⟩
        | n + 5 =>
          rw [show look FV.junk [(2, .ptr 2 0), (3, .ptr 3 0), (4, .ptr 4 0)] (n + 5) = .junk from by simp [look]]; trivial
      exact hf
    | ret => obtain ⟨_, _, hA⟩ := hq; exact hA.elim
    | panic ch => obtain ⟨_, _, _, _, hA⟩ := hq; exact hA.elim
    | exit id => obtain ⟨_, _, hA⟩ := hq; exact hA.elim
    | goto l => obtain ⟨_, _, hA⟩ := hq; exact hA.elim
    | outgrown => exact hq.elim
end Go.Proofs.YtakncilicoefdaaGreatDoor
