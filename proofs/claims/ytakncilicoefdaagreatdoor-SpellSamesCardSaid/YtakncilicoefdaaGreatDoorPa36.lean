/- Lemmas and contracts for the laws SpellSames, part 36 of 47: SpTA, SpU. Conditions: those that each lemma names. -/
import Derived.Test.YtakncilicoefdaaGreatDoorPa23
import Derived.Test.YtakncilicoefdaaGreatDoorPa35
import Derived.Test.YtakncilicoefdaaGreatDoorPa33
set_option maxRecDepth 100000
set_option maxHeartbeats 4000000
namespace Go.Proofs.YtakncilicoefdaaGreatDoor
open Go Go.RowKit Go.Proofs Th
theorem eap (x : ByteArray) : (⟨#[]⟩ : ByteArray) ++ x = x := ByteArray.empty_append
theorem ape (x : ByteArray) : x ++ (⟨#[]⟩ : ByteArray) = x := ByteArray.append_empty
def QuoWP (G : World → CS → Prop) : Prop := ∀ s : ByteArray, s.size ≤ 1000000 → Lib.validD s.data.toList = true → ACalls Tryz.prog G 55 none [sI s] (.ret (.tup [sI (quoteB s), .v (.int .i64 0)]) [])
def TxtP (G : World → CS → Prop) (n : NJ) : Prop := ACalls Tryz.prog G 16 none [.agg (nodeIV n)] (.ret (sI (spJ n)) [])
set_option maxRecDepth 8000
attribute [local go_sem] aops aopsD stepA chkD disj aguard isWant aop aval abuil acall acallP acallR argsIV valOf aput startS mkS numb look upd toIV allIV zeroFV aload setSeg afill aelems cellsOf toSl toVal valsOf aidx abin ainR FV.ok IV.one IV.er IV.erA IV.er1 iI sI bI nodeIV nodesIV tokIV parIV faultV resP lift AThen ABlock AEnd resL resV rload rcOf imsOf oneV nodeJ kidsJ strJ knownJ selfJ noNJ noTf foot owns pruneS filtF filtO Value.oneCell'
attribute [local go_sem] ti_node ti_tok ti_par ti_fault ti_nodes ti_toks ti_strs ti_ints ti_str ti_int ti_num ti_errno
attribute [local go_sem] sel
attribute [local go_sem] zeroN nodesIV_append nodesIV_len kidC rowC nodeF
attribute [local go_sem] nodesIV_getE List.map_append List.map_cons List.map_nil List.length_map
attribute [local go_sem] catB ByteArray.size_append bsz eap ape
variable {G : World → CS → Prop}
theorem sp_all (gk : GK G) (ks : List ByteArray) (hl : (catB ks).size ≤ 1000000000) : ACalls Tryz.prog G 30 none [.sl (ks.map fun x => [sI x]) false] (.ret (sI (catB ks)) []) := by
  have cj := ac_Join (G := G) ks ⟨#[]⟩ (by rw [sep_cat]; exact hl); rw [sep_cat] at cj; generalize catB ks = z at cj hl; generalize (ks.map fun x => [sI x]) = es at cj; refine ACalls.enter Tryz.func30 rfl rfl gk Tryz.ntmps30 fun X F => ?_
  apply Ar F; go_simp; apply Ar F; go_simp; refine ⟨_, cj, ?_⟩; go_simp; apply Au; go_simp
theorem sp_quoted (gk : GK G) (hW : QuoWP G) (s : ByteArray) (hs : s.size ≤ 1000000) (hv : Lib.validD s.data.toList = true) : ACalls Tryz.prog G 28 none [sI s] (.ret (sI (quoteB s)) []) := by
  have cw := hW s hs hv; generalize quoteB s = z at cw; refine ACalls.enter Tryz.func28 rfl rfl gk Tryz.ntmps28 fun X F => ?_
  apply Ar F; go_simp; apply Ar F; go_simp; refine ⟨_, cw, ?_⟩; go_simp; apply Ar F; go_simp; apply Au; go_simp
theorem sp_tight (gk : GK G) (n : NJ) (ct : TxtP G n) (hs : (spJ n).size ≤ 10000000) : ACalls Tryz.prog G 31 none [.agg (nodeIV n)] (.ret (sI (tgB (kindJ n) (spJ n))) []) := by
  unfold TxtP at ct; obtain ⟨k1, t1, m1, q1, l1, b1⟩ := n; generalize spJ (.mk k1 t1 m1 q1 l1 b1) = u at *; rw [show kindJ (.mk k1 t1 m1 q1 l1 b1) = k1 from rfl]; have ca := sp_all gk [⟨#[40]⟩, u, ⟨#[41]⟩] (by simp only [catB, ByteArray.size_append, bsz, List.length_cons, List.length_nil]; omega); rw [List.map_cons, List.map_cons, List.map_cons, List.map_nil] at ca; obtain ⟨z, hz⟩ : ∃ z, tgB k1 u = z := ⟨_, rfl⟩
  rw [hz]; refine ACalls.enter Tryz.func31 rfl rfl gk Tryz.ntmps31 fun X F => ?_
  by_cases g1 : k1 = 1
  · subst g1
    have hz2 : z = u := by rw [← hz]; rfl
    subst hz2; apply Ar F; go_simp; repeat (refine And.intro (by omega) ?_; go_simp)
    apply Ar F; go_simp; repeat (refine And.intro (by omega) ?_; go_simp)
    (repeat apply Aq); apply Ab; apply Ar F; go_simp; repeat (refine And.intro (by omega) ?_; go_simp)
    (repeat apply Aq); refine At (by go_simp) ?_; apply As; go_simp; repeat (refine And.intro (by omega) ?_; go_simp)
    (repeat apply Aq); refine At (by go_simp) ?_; apply Ar F; go_simp; repeat (refine And.intro (by omega) ?_; go_simp)
    refine ⟨_, ct, ?_⟩; go_simp; repeat (refine And.intro (by omega) ?_; go_simp)
    apply Au; go_simp; repeat (refine And.intro (by omega) ?_; go_simp)
  by_cases g5 : k1 = 5
  · subst g5
    have hz2 : z = u := by rw [← hz]; rfl
    subst hz2; apply Ar F; go_simp; repeat (refine And.intro (by omega) ?_; go_simp)
    apply Ar F; go_simp; repeat (refine And.intro (by omega) ?_; go_simp)
    (repeat apply Aq); apply Ab; apply Ar F; go_simp; repeat (refine And.intro (by omega) ?_; go_simp)
    (repeat apply Aq); refine Af (by go_simp) ?_; apply Ar F; go_simp; repeat (refine And.intro (by omega) ?_; go_simp)
    (repeat apply Aq); refine At (by go_simp) ?_; apply As; go_simp; repeat (refine And.intro (by omega) ?_; go_simp)
    (repeat apply Aq); refine At (by go_simp) ?_; apply Ar F; go_simp; repeat (refine And.intro (by omega) ?_; go_simp)
    refine ⟨_, ct, ?_⟩; go_simp; repeat (refine And.intro (by omega) ?_; go_simp)
    apply Au; go_simp; repeat (refine And.intro (by omega) ?_; go_simp)
  by_cases g6 : k1 = 6
  · subst g6
    have hz2 : z = u := by rw [← hz]; rfl
    subst hz2; apply Ar F; go_simp; repeat (refine And.intro (by omega) ?_; go_simp)
    apply Ar F; go_simp; repeat (refine And.intro (by omega) ?_; go_simp)
    (repeat apply Aq); apply Ab; apply Ar F; go_simp; repeat (refine And.intro (by omega) ?_; go_simp)
    (repeat apply Aq); refine Af (by go_simp) ?_; apply Ar F; go_simp; repeat (refine And.intro (by omega) ?_; go_simp)
    (repeat apply Aq); refine Af (by go_simp) ?_; apply Ar F; go_simp; repeat (refine And.intro (by omega) ?_; go_simp)
    (repeat apply Aq); refine At (by go_simp) ?_; apply As; go_simp; repeat (refine And.intro (by omega) ?_; go_simp)
    (repeat apply Aq); refine At (by go_simp) ?_; apply Ar F; go_simp; repeat (refine And.intro (by omega) ?_; go_simp)
    refine ⟨_, ct, ?_⟩; go_simp; repeat (refine And.intro (by omega) ?_; go_simp)
    apply Au; go_simp; repeat (refine And.intro (by omega) ?_; go_simp)
  by_cases g7 : k1 = 7
  · subst g7
    have hz2 : z = u := by rw [← hz]; rfl
    subst hz2; apply Ar F; go_simp; repeat (refine And.intro (by omega) ?_; go_simp)
    apply Ar F; go_simp; repeat (refine And.intro (by omega) ?_; go_simp)
    (repeat apply Aq); apply Ab; apply Ar F; go_simp; repeat (refine And.intro (by omega) ?_; go_simp)
    (repeat apply Aq); refine Af (by go_simp) ?_; apply Ar F; go_simp; repeat (refine And.intro (by omega) ?_; go_simp)
    (repeat apply Aq); refine Af (by go_simp) ?_; apply Ar F; go_simp; repeat (refine And.intro (by omega) ?_; go_simp)
    (repeat apply Aq); refine Af (by go_simp) ?_; apply Ar F; go_simp; repeat (refine And.intro (by omega) ?_; go_simp)
    (repeat apply Aq); refine At (by go_simp) ?_; apply As; go_simp; repeat (refine And.intro (by omega) ?_; go_simp)
    (repeat apply Aq); refine At (by go_simp) ?_; apply Ar F; go_simp; repeat (refine And.intro (by omega) ?_; go_simp)
    refine ⟨_, ct, ?_⟩; go_simp; repeat (refine And.intro (by omega) ?_; go_simp)
    apply Au; go_simp; repeat (refine And.intro (by omega) ?_; go_simp)
  by_cases g22 : k1 = 22
  · subst g22
    have hz2 : z = u := by rw [← hz]; rfl
    subst hz2; apply Ar F; go_simp; repeat (refine And.intro (by omega) ?_; go_simp)
    apply Ar F; go_simp; repeat (refine And.intro (by omega) ?_; go_simp)
    (repeat apply Aq); apply Ab; apply Ar F; go_simp; repeat (refine And.intro (by omega) ?_; go_simp)
    (repeat apply Aq); refine Af (by go_simp) ?_; apply Ar F; go_simp; repeat (refine And.intro (by omega) ?_; go_simp)
    (repeat apply Aq); refine Af (by go_simp) ?_; apply Ar F; go_simp; repeat (refine And.intro (by omega) ?_; go_simp)
    (repeat apply Aq); refine Af (by go_simp) ?_; apply Ar F; go_simp; repeat (refine And.intro (by omega) ?_; go_simp)
    (repeat apply Aq); refine Af (by go_simp) ?_; apply Ar F; go_simp; repeat (refine And.intro (by omega) ?_; go_simp)
    (repeat apply Aq); refine At (by go_simp) ?_; apply As; go_simp; repeat (refine And.intro (by omega) ?_; go_simp)
    (repeat apply Aq); refine At (by go_simp) ?_; apply Ar F; go_simp; repeat (refine And.intro (by omega) ?_; go_simp)
    refine ⟨_, ct, ?_⟩; go_simp; repeat (refine And.intro (by omega) ?_; go_simp)
    apply Au; go_simp; repeat (refine And.intro (by omega) ?_; go_simp)
  by_cases g23 : k1 = 23
  · subst g23
    have hz2 : z = u := by rw [← hz]; rfl
    subst hz2; apply Ar F; go_simp; repeat (refine And.intro (by omega) ?_; go_simp)
    apply Ar F; go_simp; repeat (refine And.intro (by omega) ?_; go_simp)
    (repeat apply Aq); apply Ab; apply Ar F; go_simp; repeat (refine And.intro (by omega) ?_; go_simp)
    (repeat apply Aq); refine Af (by go_simp) ?_; apply Ar F; go_simp; repeat (refine And.intro (by omega) ?_; go_simp)
    (repeat apply Aq); refine Af (by go_simp) ?_; apply Ar F; go_simp; repeat (refine And.intro (by omega) ?_; go_simp)
    (repeat apply Aq); refine Af (by go_simp) ?_; apply Ar F; go_simp; repeat (refine And.intro (by omega) ?_; go_simp)
    (repeat apply Aq); refine Af (by go_simp) ?_; apply Ar F; go_simp; repeat (refine And.intro (by omega) ?_; go_simp)
    (repeat apply Aq); refine Af (by go_simp) ?_; apply Ar F; go_simp; repeat (refine And.intro (by omega) ?_; go_simp)
    (repeat apply Aq); refine At (by go_simp) ?_; apply Ar F; go_simp; repeat (refine And.intro (by omega) ?_; go_simp)
    refine ⟨_, ct, ?_⟩; go_simp; repeat (refine And.intro (by omega) ?_; go_simp)
    apply Au; go_simp; repeat (refine And.intro (by omega) ?_; go_simp)
  have hz2 : z = catB [⟨#[40]⟩, u, ⟨#[41]⟩] := by rw [← hz]; unfold tgB; rw [if_neg (by simp [tightK, *])]; simp [catB, paren, ape, ByteArray.append_assoc]
  rw [hz2]; apply Ar F; go_simp; repeat (refine And.intro (by omega) ?_; go_simp)
  apply Ar F; go_simp; repeat (refine And.intro (by omega) ?_; go_simp)
  (repeat apply Aq); apply Ab; apply Ar F; go_simp; repeat (refine And.intro (by omega) ?_; go_simp)
  (repeat apply Aq); refine Af (by go_simp) ?_; apply Ar F; go_simp; repeat (refine And.intro (by omega) ?_; go_simp)
  (repeat apply Aq); refine Af (by go_simp) ?_; apply Ar F; go_simp; repeat (refine And.intro (by omega) ?_; go_simp)
  (repeat apply Aq); refine Af (by go_simp) ?_; apply Ar F; go_simp; repeat (refine And.intro (by omega) ?_; go_simp)
  (repeat apply Aq); refine Af (by go_simp) ?_; apply Ar F; go_simp; repeat (refine And.intro (by omega) ?_; go_simp)
  (repeat apply Aq); refine Af (by go_simp) ?_; apply Ar F; go_simp; repeat (refine And.intro (by omega) ?_; go_simp)
  (repeat apply Aq); refine Af (by go_simp) ?_; apply As; go_simp; repeat (refine And.intro (by omega) ?_; go_simp)
  apply Ar F; go_simp; repeat (refine And.intro (by omega) ?_; go_simp)
  refine ⟨_, ct, ?_⟩; go_simp; repeat (refine And.intro (by omega) ?_; go_simp)
  refine ⟨_, ca, ?_⟩; go_simp; repeat (refine And.intro (by omega) ?_; go_simp)
  apply Au; go_simp; repeat (refine And.intro (by omega) ?_; go_simp)
theorem sp_pair (gk : GK G) (k1 : Int) (t1 : ByteArray) (m1 q1 : Int) (x y : NJ) (b1 : List ByteArray) (g : ByteArray) (cx : TxtP G x) (cy : TxtP G y) (hx : (spJ x).size ≤ 10000000) (hy : (spJ y).size ≤ 10000000) (hg : g.size ≤ 10000000) : ACalls Tryz.prog G 33 none [.agg (nodeIV (.mk k1 t1 m1 q1 [x, y] b1)), sI g] (.ret (sI (catB [⟨#[40]⟩, spJ x, ⟨#[32]⟩, g, ⟨#[32]⟩, spJ y, ⟨#[41]⟩])) []) := by
  unfold TxtP at cx; generalize spJ x = u at *; obtain ⟨k2, t2, m2, q2, l2, b2⟩ := x; unfold TxtP at cy; generalize spJ y = v at *; obtain ⟨k3, t3, m3, q3, l3, b3⟩ := y; have ca := sp_all gk [⟨#[40]⟩, u, ⟨#[32]⟩, g, ⟨#[32]⟩, v, ⟨#[41]⟩] (by simp only [catB, ByteArray.size_append, bsz, List.length_cons, List.length_nil]; omega); simp only [List.map_cons, List.map_nil] at ca; generalize catB [⟨#[40]⟩, u, ⟨#[32]⟩, g, ⟨#[32]⟩, v, ⟨#[41]⟩] = z at ca ⊢; refine ACalls.enter Tryz.func33 rfl rfl gk Tryz.ntmps33 fun X F => ?_
  apply Ar F; go_simp; repeat (refine And.intro (by omega) ?_; go_simp)
  (repeat apply Aq); refine Ad F [0, 1, 2, 3, 5, 6, 7, 8, 9, 4, 10, 11, 12, 13] [(7, 4), (8, 4), (9, 4)] mixed (by kernel_rfl) ?_; go_simp; repeat (refine And.intro (by omega) ?_; go_simp)
  refine ⟨_, cx, ?_⟩; go_simp; repeat (refine And.intro (by omega) ?_; go_simp)
  refine ⟨_, cy, ?_⟩; go_simp; repeat (refine And.intro (by omega) ?_; go_simp)
  refine ⟨_, ca, ?_⟩; go_simp; repeat (refine And.intro (by omega) ?_; go_simp)
  apply Au; go_simp; repeat (refine And.intro (by omega) ?_; go_simp)
open Go Go.RowKit Go.Proofs Th
set_option maxRecDepth 8000
variable {G : World → CS → Prop}
def bulkA (most : Nat) : List ByteArray → Nat → Nat
  | [], acc => acc
  | x :: r, acc => if acc ≤ most then bulkA most r (acc + 1 + x.size) else acc
mutual
/-- how many nodes and bytes, as far as most -/
def bulkJ : NJ → Nat → Nat
  | .mk _ s _ _ l a, most => if most < a.length then most + 1 else bulkL l most (bulkA most a (1 + s.size))
def bulkL : List NJ → Nat → Nat → Nat
  | [], _, acc => acc
  | x :: r, most, acc => if acc ≤ most then bulkL r most (acc + bulkJ x (most - acc)) else acc
end
theorem bulkA_le (most : Nat) : ∀ (a : List ByteArray) (acc : Nat), (∀ x ∈ a, x.size ≤ 140737488351232) → acc ≤ most + 140737488351233 → bulkA most a acc ≤ most + 140737488351233
  | [], acc, _, h => h
  | x :: r, acc, hs, h => by
    unfold bulkA; split
    · have := hs x List.mem_cons_self
      exact bulkA_le most r _ (fun y hy => hs y (List.mem_cons_of_mem _ hy)) (by omega)
    exact h
mutual
theorem bulk_le : ∀ (n : NJ) (most : Nat), nokJ n → bulkJ n most ≤ most + 140737488351233
  | .mk k s m e l a, most, h => by
    obtain ⟨_, _, _, h1, h2, h3⟩ := h; rw [bulkJ]; split
    · omega
    exact bulkL_le l most _ h3 (bulkA_le most a _ h2 (by omega))
theorem bulkL_le : ∀ (l : List NJ) (most acc : Nat), nokL l → acc ≤ most + 140737488351233 → bulkL l most acc ≤ most + 140737488351233
  | [], most, acc, _, h => by rw [bulkL]; exact h
  | x :: r, most, acc, hl, h => by
    rw [bulkL]; split
    · have := bulk_le x (most - acc) hl.1
      exact bulkL_le r most _ hl.2 (by omega)
    exact h
end
theorem r_Bulk (gk : GK G) : ∀ (n : Nat) (x : NJ), depJ x ≤ n → ∀ most : Nat, most ≤ 1000000 → nokJ x → ACalls Tryz.prog G 7 none [.agg (nodeIV x), iI most] (.ret (iI (bulkJ x most)) []) := by
  intro n; induction n with
  | zero => intro x h; obtain ⟨k1, t1, m1, q1, l1, b1⟩ := x; simp only [depJ] at h; omega
  | succ n ih =>
    intro x hx most hm hok; obtain ⟨k1, t1, m1, q1, l1, b1⟩ := x; rw [depJ] at hx; obtain ⟨_, _, _, hs, hb, hkl⟩ := hok; by_cases hlen : l1.length ≤ 140737488351232
    case neg => exact ⟨⟨_, Tryz.func7, rfl, rfl⟩, fun W S p us hG hSb hrc hrep => absurd (by have := agg_room (i := 4) hrep rfl; rwa [nodesIV_len] at this) hlen⟩
    by_cases hlen2 : b1.length ≤ 140737488351232
    case neg => exact ⟨⟨_, Tryz.func7, rfl, rfl⟩, fun W S p us hG hSb hrc hrep => absurd (by have := agg_room (i := 5) hrep rfl; rwa [List.length_map] at this) hlen2⟩
    obtain ⟨z, hz⟩ : ∃ z, bulkJ (.mk k1 t1 m1 q1 l1 b1) most = z := ⟨_, rfl⟩
    rw [hz]; rw [bulkJ] at hz; by_cases h0 : most < b1.length
    · have h0I : (most : Int) < (b1.length : Int) := by omega
      have hrm := rng ((most : Int) + 1) (by omega); rw [if_pos h0] at hz; subst hz; refine ACalls.enter Tryz.func7 rfl rfl gk Tryz.ntmps7 fun X F => ?_
      apply Ar F; go_simp; apply Ar F; go_simp; (repeat apply Aq); refine At (by go_simp) ?_; apply Ar F; go_simp; apply Au; go_simp
    have h0I : ¬ (most : Int) < (b1.length : Int) := by omega
    rw [if_neg h0] at hz; have hr0 := rng (1 + (t1.size : Int)) (by omega); have hac0 := bulkA_le most b1 (1 + t1.size) hb (by omega); obtain ⟨z1, hz1⟩ : ∃ z1, bulkA most b1 (1 + t1.size) = z1 := ⟨_, rfl⟩
    rw [hz1] at hz hac0; refine ACalls.enter Tryz.func7 rfl rfl gk Tryz.ntmps7 fun X F => ?_
    apply Ar F; go_simp; apply Ar F; go_simp; (repeat apply Aq); refine Af (by go_simp) ?_; apply As; go_simp; apply Ar F; go_simp; apply Ar F; go_simp; (repeat apply Aq); apply Ab; (repeat apply Aq); refine AW.loopP [1, 2, 5, 6] [1000, 2] (by decide) (fun g t => ∃ (k acc : Nat), t = mkS [(1, .im (iI most)), (2, .ptr 2 0), (5, .im (iI acc)), (6, .im (iI k))] [(1000, .none), (2, .box ((nodeIV (.mk k1 t1 m1 q1 l1 b1)).map .im))] ∧ g = b1.length - k ∧ k ≤ b1.length ∧ acc ≤ most + 140737488351233 ∧ bulkA most (b1.drop k) acc = z1) (b1.length) ?_ ?_
    · refine ⟨0, 1 + t1.size, ?_, by omega, by omega, by omega, hz1⟩
      go_simp
    rintro g t ⟨k, acc, rfl, rfl, hk, hac, hg⟩; by_cases hkt : k < b1.length
    · have hkI : (k : Int) < (b1.length : Int) := by omega
      have hrk := rng ((k : Int) + 1) (by omega); have hsx := hb b1[k] (List.getElem_mem hkt); rw [List.drop_eq_getElem_cons hkt, bulkA] at hg; by_cases ha : acc ≤ most
      · have haI : (acc : Int) ≤ (most : Int) := by omega
        rw [if_pos ha] at hg; obtain ⟨v, hv⟩ : ∃ v, b1[k] = v := ⟨_, rfl⟩
        rw [hv] at hg hsx; have hr1 := rng ((acc : Int) + 1) (by omega); have hr2 := rng ((acc : Int) + 1 + (v.size : Int)) (by omega); apply Ar F; go_simp; (repeat apply Aq); refine At (by go_simp) ?_; apply As; go_simp; (repeat apply Aq); apply Ab; apply Ar F; go_simp; apply Ar F; go_simp; refine ⟨b1.length - (k + 1), by omega, k + 1, acc + 1 + v.size, ?_, by omega, by omega, by omega, hg⟩; go_simp
      have haI : ¬ (acc : Int) ≤ (most : Int) := by omega
      rw [if_neg ha] at hg; subst hg; apply Ar F; go_simp; (repeat apply Aq); refine Af (by go_simp) ?_; apply Ae; go_simp; apply Ar F; go_simp; (repeat apply Aq); apply Ab; (repeat apply Aq); refine AW.loopP [1, 2, 5, 7] [1000, 2] (by decide) (fun g t => ∃ (k acc : Nat), t = mkS [(1, .im (iI most)), (2, .ptr 2 0), (5, .im (iI acc)), (7, .im (iI k))] [(1000, .none), (2, .box ((nodeIV (.mk k1 t1 m1 q1 l1 b1)).map .im))] ∧ g = l1.length - k ∧ k ≤ l1.length ∧ acc ≤ most + 140737488351233 ∧ bulkL (l1.drop k) most acc = z) (l1.length) ?_ ?_
      · refine ⟨0, acc, ?_, by omega, by omega, hac, hz⟩
        go_simp
      rintro g t ⟨k, acc, rfl, rfl, hk, hac, hg⟩; by_cases hkt : k < l1.length
      · have hkI : (k : Int) < (l1.length : Int) := by omega
        have hrk := rng ((k : Int) + 1) (by omega); rw [List.drop_eq_getElem_cons hkt, bulkL] at hg; by_cases ha : acc ≤ most
        · have haI : (acc : Int) ≤ (most : Int) := by omega
          rw [if_pos ha] at hg; have hbl := bulk_le l1[k] (most - acc) ((nokL_all l1).1 hkl l1[k] (List.getElem_mem hkt)); have cb := ih l1[k] (deps_le2.1 (by omega) l1[k] (List.getElem_mem hkt)) (most - acc) (by omega) ((nokL_all l1).1 hkl l1[k] (List.getElem_mem hkt)); have hca : (most : Int) - (acc : Int) = ((most - acc : Nat) : Int) := by omega
          have hrr := rng (((most - acc : Nat) : Int)) (by omega); generalize bulkJ l1[k] (most - acc) = bv at cb hg hbl; have hrs := rng ((acc : Int) + (bv : Int)) (by omega); obtain ⟨⟨k5, t5, m5, q5, l5, b5⟩, hx5⟩ : ∃ x, l1[k] = x := ⟨_, rfl⟩
          rw [hx5] at cb; apply Ar F; go_simp; (repeat apply Aq); refine At (by go_simp) ?_; apply As; go_simp; (repeat apply Aq); apply Ab; apply Ar F; go_simp; refine ⟨_, cb, ?_⟩; go_simp; apply Ar F; go_simp; refine ⟨l1.length - (k + 1), by omega, k + 1, acc + bv, ?_, by omega, by omega, by omega, hg⟩; go_simp
        have haI : ¬ (acc : Int) ≤ (most : Int) := by omega
        rw [if_neg ha] at hg; subst hg; apply Ar F; go_simp; (repeat apply Aq); refine Af (by go_simp) ?_; apply Ae; go_simp; apply Ar F; go_simp; apply Au; go_simp
      have hkI : ¬ (k : Int) < (l1.length : Int) := by omega
      rw [List.drop_eq_nil_of_le (by omega), bulkL] at hg; subst hg; apply Ar F; go_simp; (repeat apply Aq); refine Af (by go_simp) ?_; apply Ae; go_simp; apply Ar F; go_simp; apply Au; go_simp
    have hkI : ¬ (k : Int) < (b1.length : Int) := by omega
    rw [List.drop_eq_nil_of_le (by omega), bulkA] at hg; subst hg; apply Ar F; go_simp; (repeat apply Aq); refine Af (by go_simp) ?_; apply Ae; go_simp; apply Ar F; go_simp; (repeat apply Aq); apply Ab; (repeat apply Aq); refine AW.loopP [1, 2, 5, 7] [1000, 2] (by decide) (fun g t => ∃ (k acc : Nat), t = mkS [(1, .im (iI most)), (2, .ptr 2 0), (5, .im (iI acc)), (7, .im (iI k))] [(1000, .none), (2, .box ((nodeIV (.mk k1 t1 m1 q1 l1 b1)).map .im))] ∧ g = l1.length - k ∧ k ≤ l1.length ∧ acc ≤ most + 140737488351233 ∧ bulkL (l1.drop k) most acc = z) (l1.length) ?_ ?_
    · refine ⟨0, acc, ?_, by omega, by omega, hac, hz⟩
      go_simp
    rintro g t ⟨k, acc, rfl, rfl, hk, hac, hg⟩; by_cases hkt : k < l1.length
    · have hkI : (k : Int) < (l1.length : Int) := by omega
      have hrk := rng ((k : Int) + 1) (by omega); rw [List.drop_eq_getElem_cons hkt, bulkL] at hg; by_cases ha : acc ≤ most
      · have haI : (acc : Int) ≤ (most : Int) := by omega
        rw [if_pos ha] at hg; have hbl := bulk_le l1[k] (most - acc) ((nokL_all l1).1 hkl l1[k] (List.getElem_mem hkt)); have cb := ih l1[k] (deps_le2.1 (by omega) l1[k] (List.getElem_mem hkt)) (most - acc) (by omega) ((nokL_all l1).1 hkl l1[k] (List.getElem_mem hkt)); have hca : (most : Int) - (acc : Int) = ((most - acc : Nat) : Int) := by omega
        have hrr := rng (((most - acc : Nat) : Int)) (by omega); generalize bulkJ l1[k] (most - acc) = bv at cb hg hbl; have hrs := rng ((acc : Int) + (bv : Int)) (by omega); obtain ⟨⟨k5, t5, m5, q5, l5, b5⟩, hx5⟩ : ∃ x, l1[k] = x := ⟨_, rfl⟩
        rw [hx5] at cb; apply Ar F; go_simp; (repeat apply Aq); refine At (by go_simp) ?_; apply As; go_simp; (repeat apply Aq); apply Ab; apply Ar F; go_simp; refine ⟨_, cb, ?_⟩; go_simp; apply Ar F; go_simp; refine ⟨l1.length - (k + 1), by omega, k + 1, acc + bv, ?_, by omega, by omega, by omega, hg⟩; go_simp
      have haI : ¬ (acc : Int) ≤ (most : Int) := by omega
      rw [if_neg ha] at hg; subst hg; apply Ar F; go_simp; (repeat apply Aq); refine Af (by go_simp) ?_; apply Ae; go_simp; apply Ar F; go_simp; apply Au; go_simp
    have hkI : ¬ (k : Int) < (l1.length : Int) := by omega
    rw [List.drop_eq_nil_of_le (by omega), bulkL] at hg; subst hg; apply Ar F; go_simp; (repeat apply Aq); refine Af (by go_simp) ?_; apply Ae; go_simp; apply Ar F; go_simp; apply Au; go_simp
end Go.Proofs.YtakncilicoefdaaGreatDoor
