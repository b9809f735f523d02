/- Lemmas and contracts. Conditions: those that each lemma names. -/
import Derived.Test.YtakncilicoefdaaGreatDoorPz23
set_option maxRecDepth 100000
set_option maxHeartbeats 8000000
namespace Go.Proofs.YtakncilicoefdaaGreatDoor
open Go Go.RowKit Go.Proofs Th
attribute [local go_sem] J7 LK LI Iu Ij Kk J1 J3 Mc LQ Oz Ln
variable {G : World → CS → Prop}
theorem Mf {E : Env} {i : Nat} (h : i < E.l.length) : Aa E i = E.l[i] := by unfold Aa; rw [List.getD_eq_getElem?_getD, List.getElem?_eq_getElem h]; rfl
theorem Ov {E : Env} {i : Nat} (h : ¬ i < E.l.length) : Aa E i = noTf := by unfold Aa; rw [List.getD_eq_getElem?_getD, List.getElem?_eq_none (by omega)]; rfl
theorem CJ {E : Env} {i : Nat} (h : (Aa E i).kind ≠ 0) : i < E.l.length := by
 rcases Nat.lt_or_ge i E.l.length with h1 | h1
 ·exact h1
 rw [Ov (by omega)] at h; exact absurd rfl h
theorem C3 (gk : GK G) (E : Env) (i : Nat) : ACalls Tryz.prog G 108 (some (A5 E i)) [] (.ret (.agg (DO (Aa E i))) (A5 E i)) := by
 by_cases h : i < E.l.length
 ·rw [Mf h]
  refine ACalls.enter Tryz.func108 rfl rfl gk Tryz.ntmps108 fun X F => ?_
  apply Ar F; go_simp; (repeat apply Aq); refine Ad F [0, 1, 2, 3, 4, 5, 6, 7, 8, 9] [] mixed (by kernel_rfl) ?_; go_simp; (repeat apply Aq); refine At (by go_simp) ?_; (repeat apply Aq); refine Ad F [0, 1, 2, 3, 4, 5, 6, 7, 8, 9, 10] [] mixed (by kernel_rfl) ?_; go_simp; apply Au; go_simp
 rw [Ov h]; refine ACalls.enter Tryz.func108 rfl rfl gk Tryz.ntmps108 fun X F => ?_
 apply Ar F; go_simp; (repeat apply Aq); refine Ad F [0, 1, 2, 3, 4, 5, 6, 7, 8, 9] [] mixed (by kernel_rfl) ?_; go_simp; (repeat apply Aq); refine Af (by go_simp) ?_; apply As; go_simp; apply Ar F; go_simp; apply Au; go_simp
theorem CN (gk : GK G) (E : Env) (i k : Nat) (x : ByteArray) : ACalls Tryz.prog G 106 (some (A5 E i)) [iI k, sI x] (.ret (bI (decide (isT E i k x))) (A5 E i)) := by
 have hp := C3 gk E i; by_cases h : isT E i k x
 ·rw [decide_eq_true h]
  obtain ⟨h1, h2⟩ := h; generalize Aa E i = t at *; subst h1 h2; refine ACalls.enter Tryz.func106 rfl rfl gk Tryz.ntmps106 fun X F => ?_
  apply Ar F; go_simp; apply Ar F; go_simp; refine ⟨_, hp, ?_⟩; go_simp; apply Ar F; go_simp; apply Au; go_simp
 rw [decide_eq_false h]; by_cases h1 : (Aa E i).kind = k
 ·have h2 : ¬ (Aa E i).text = x := fun h2 => h ⟨h1, h2⟩
  clear h; generalize Aa E i = t at *; subst h1; refine ACalls.enter Tryz.func106 rfl rfl gk Tryz.ntmps106 fun X F => ?_
  apply Ar F; go_simp; apply Ar F; go_simp; refine ⟨_, hp, ?_⟩; go_simp; apply Ar F; go_simp; apply Au; go_simp
 have h2 : ¬ ((Aa E i).kind : Int) = k := by omega
 clear h h1; generalize Aa E i = t at *; refine ACalls.enter Tryz.func106 rfl rfl gk Tryz.ntmps106 fun X F => ?_
 apply Ar F; go_simp; apply Ar F; go_simp; refine ⟨_, hp, ?_⟩; go_simp; apply Ar F; go_simp; apply Au; go_simp
theorem AQ (gk : GK G) (E : Env) (hl : E.l.length ≤ 100000) (i k : Nat) (hk : k ≠ 0) (x : ByteArray) (h : isT E i k x) : ACalls Tryz.prog G 78 (some (A5 E i)) [iI k, sI x] (.ret (bI true) (A5 E (i + 1))) := by
 have hi := CJ (E := E) (i := i) (by rw [h.1]; exact hk); have hr := rng ((i : Int) + 1) (by omega); have hp := CN gk E i k x; rw [decide_eq_true h] at hp; clear h hi hk hl; refine ACalls.enter Tryz.func78 rfl rfl gk Tryz.ntmps78 fun X F => ?_
 apply Ar F; go_simp; apply Ar F; go_simp; refine ⟨_, hp, ?_⟩; go_simp; apply Ar F; go_simp; (repeat apply Aq); refine At (by go_simp) ?_; apply Ar F; go_simp; apply Ar F; go_simp; apply Au; go_simp
theorem AN (gk : GK G) (E : Env) (i k : Nat) (x : ByteArray) (h : ¬ isT E i k x) : ACalls Tryz.prog G 78 (some (A5 E i)) [iI k, sI x] (.ret (bI false) (A5 E i)) := by
 have hp := CN gk E i k x; rw [decide_eq_false h] at hp; clear h; refine ACalls.enter Tryz.func78 rfl rfl gk Tryz.ntmps78 fun X F => ?_
 apply Ar F; go_simp; apply Ar F; go_simp; refine ⟨_, hp, ?_⟩; go_simp; apply Ar F; go_simp; (repeat apply Aq); refine Af (by go_simp) ?_; apply As; go_simp; apply Ar F; go_simp; apply Au; go_simp
theorem Ja (gk : GK G) (s : ByteArray) : ACalls Tryz.prog G 129 none [sI s] (.ret (bI (inB Ca s)) []) := by
 refine ACalls.enter Tryz.func129 rfl rfl gk Tryz.ntmps129 fun X F => ?_
 repeat' first
  | refine AW.seq ?_
  | refine AW.block ?_
  | (refine AO F ?_; go_simp)
  | (refine AG ?_; go_simp)
  | (refine AW.skip ?_; go_simp)
  | (refine AW.exit ?_; go_simp)
  | (refine AW.ret ?_; go_simp)
  | refine ⟨fun h => ?_, fun h => ?_⟩
  | intro h
 all_goals first
  | rfl
  | simp_all [inB, Ca, eq_comm]
structure EB (E : Env) : Prop where
 len : E.l.length ≤ 100000
 at_ : ∀ t ∈ E.l, t.at_ ≤ 100000
 be : E.base + E.end_ ≤ 1000000
 tx : ∀ t ∈ E.l, t.text.size ≤ 50000
 qu : ∀ t ∈ E.l, t.kind = 5 → t.at_ + t.text.size ≤ E.end_
 nu : ∀ t ∈ E.l, t.kind = 4 → t.text.data.toList.head? ≠ some 45
theorem XO {E : Env} {i : Nat} (h : i < E.l.length) : Eb E i = E.base + (E.l[i]).at_ := by unfold Eb; rw [List.getElem?_eq_getElem h]
theorem X4 {E : Env} {i : Nat} (h : ¬ i < E.l.length) : Eb E i = E.base + E.end_ := by unfold Eb; rw [List.getElem?_eq_none (by omega)]
theorem Cq (gk : GK G) (E : Env) (hE : EB E) (i e : Nat) : ACalls Tryz.prog G 49 (some (A5 E i)) [iI e] (.pan (C1 (Eb E i) e)) := by
 have h2 := hE.be; by_cases h : i < E.l.length
 ·rw [XO h]
  have hr := rng ((E.base : Int) + E.l[i].at_) (by have := hE.at_ _ (List.getElem_mem h); omega); refine ACalls.enter Tryz.func49 rfl rfl gk Tryz.ntmps49 fun X F => ?_
  apply Ar F; go_simp; (repeat apply Aq); refine Ad F [0, 1, 2, 3, 4, 5, 6, 7, 8, 9] [] mixed (by kernel_rfl) ?_; go_simp; (repeat apply Aq); refine At (by go_simp) ?_; (repeat apply Aq); refine Ad F [0, 1, 2, 3, 4, 5, 6, 7, 8, 9, 10, 11] [] mixed (by kernel_rfl) ?_; go_simp; apply Ar F; go_simp
 rw [X4 h]; have hr := rng ((E.base : Int) + E.end_) (by omega); refine ACalls.enter Tryz.func49 rfl rfl gk Tryz.ntmps49 fun X F => ?_
 apply Ar F; go_simp; (repeat apply Aq); refine Ad F [0, 1, 2, 3, 4, 5, 6, 7, 8, 9] [] mixed (by kernel_rfl) ?_; go_simp; (repeat apply Aq); refine Af (by go_simp) ?_; apply As; go_simp; apply Ar F; go_simp
theorem An (gk : GK G) (E : Env) (hE : EB E) (i k : Nat) (hk : k ≠ 0) (x : ByteArray) (h : isT E i k x) : ACalls Tryz.prog G 109 (some (A5 E i)) [iI k, sI x] (.ret (.tup []) (A5 E (i + 1))) := by
 have hp := AQ gk E hE.len i k hk x h; clear h; refine ACalls.enter Tryz.func109 rfl rfl gk Tryz.ntmps109 fun X F => ?_
 apply Ar F; go_simp; refine ⟨_, hp, ?_⟩; go_simp; (repeat apply Aq); refine Af (by go_simp) ?_; apply As; go_simp
theorem Az (gk : GK G) (E : Env) (hE : EB E) (i k : Nat) (x : ByteArray) (h : ¬ isT E i k x) : ACalls Tryz.prog G 109 (some (A5 E i)) [iI k, sI x] (.pan (C1 (Eb E i) 60)) := by
 have hp := AN gk E i k x h; have hf := Cq gk E hE i 60; clear h; refine ACalls.enter Tryz.func109 rfl rfl gk Tryz.ntmps109 fun X F => ?_
 apply Ar F; go_simp; refine ⟨_, hp, ?_⟩; go_simp; (repeat apply Aq); refine At (by go_simp) ?_; apply Ar F; go_simp; refine ⟨_, hf, ?_⟩; go_simp
def DD (E : Env) (i k : Nat) : Prop := (Aa E i).kind ≠ k ∨ (k = 1 ∧ inB Ca (Aa E i).text = true)
theorem Dd (gk : GK G) (E : Env) (hE : EB E) (i k : Nat) (hk0 : k ≠ 0) (h : ¬ DD E i k) : ACalls Tryz.prog G 107 (some (A5 E i)) [iI k] (.ret (sI (Aa E i).text) (A5 E (i + 1))) := by
 have hk : (Aa E i).kind = k := Decidable.of_not_not fun h2 => h (Or.inl h2)
 have hi := CJ (E := E) (i := i) (by rw [hk]; exact hk0); have hr := rng ((i : Int) + 1) (by have := hE.len; omega); have hp := C3 gk E i; have hv := Ja gk (Aa E i).text; have hw : k = 1 → inB Ca (Aa E i).text = false := fun h1 => by
  cases h2 : inB Ca (Aa E i).text with
  | false => rfl
  | true => exact absurd (Or.inr ⟨h1, h2⟩) h
 clear h hi hE; generalize Aa E i = t at *; by_cases h1 : k = 1
 ·rw [hw h1] at hv
  subst h1; clear hw hk0; refine ACalls.enter Tryz.func107 rfl rfl gk Tryz.ntmps107 fun X F => ?_
  apply Ar F; go_simp; apply Ar F; go_simp; refine ⟨_, hp, ?_⟩; go_simp; apply Ar F; go_simp; refine ⟨_, hv, ?_⟩; go_simp; (repeat apply Aq); refine Af (by go_simp) ?_; apply As; go_simp; apply Ar F; go_simp; apply Ar F; go_simp; apply Au; go_simp
 have h2 : ¬ (k : Int) = 1 := by omega
 clear hw hv; refine ACalls.enter Tryz.func107 rfl rfl gk Tryz.ntmps107 fun X F => ?_
 apply Ar F; go_simp; apply Ar F; go_simp; refine ⟨_, hp, ?_⟩; go_simp; apply Ar F; go_simp; (repeat apply Aq); refine Af (by go_simp) ?_; apply As; go_simp; apply Ar F; go_simp; apply Ar F; go_simp; apply Au; go_simp
theorem Dq (gk : GK G) (E : Env) (hE : EB E) (i k : Nat) (h : DD E i k) : ACalls Tryz.prog G 107 (some (A5 E i)) [iI k] (.pan (C1 (Eb E i) 60)) := by
 have hp := C3 gk E i; have hf := Cq gk E hE i 60; have hv := Ja gk (Aa E i).text; by_cases hk : (Aa E i).kind = k
 ·obtain ⟨h1, h2⟩ := h.resolve_left (fun h => h hk)
  rw [h2] at hv; clear h h2; generalize Aa E i = t at *; subst h1; refine ACalls.enter Tryz.func107 rfl rfl gk Tryz.ntmps107 fun X F => ?_
  apply Ar F; go_simp; apply Ar F; go_simp; refine ⟨_, hp, ?_⟩; go_simp; apply Ar F; go_simp; refine ⟨_, hv, ?_⟩; go_simp; (repeat apply Aq); refine At (by go_simp) ?_; apply Ar F; go_simp; refine ⟨_, hf, ?_⟩; go_simp
 have h2 : ¬ ((Aa E i).kind : Int) = k := by omega
 clear h hk hv; generalize Aa E i = t at *; refine ACalls.enter Tryz.func107 rfl rfl gk Tryz.ntmps107 fun X F => ?_
 apply Ar F; go_simp; apply Ar F; go_simp; refine ⟨_, hp, ?_⟩; go_simp; apply Ar F; go_simp; (repeat apply Aq); refine At (by go_simp) ?_; apply Ar F; go_simp; refine ⟨_, hf, ?_⟩; go_simp
theorem Jk (gk : GK G) (t : Tf) : ACalls Tryz.prog G 111 none [.agg (DO t)] (.ret (iI (Aj t)) []) := by
 obtain ⟨k, s, a⟩ := t; by_cases hk1 : k = 1
 ·subst hk1
  refine ACalls.enter Tryz.func111 rfl rfl gk Tryz.ntmps111 fun X F => ?_
  repeat' first
   | refine AW.seq ?_
   | refine AW.block ?_
   | (refine AO F ?_; go_simp)
   | (refine AG ?_; go_simp)
   | (refine AW.skip ?_; go_simp)
   | (refine AW.exit ?_; go_simp)
   | (refine AW.ret ?_; go_simp)
   | refine ⟨fun h => ?_, fun h => ?_⟩
   | intro h
  all_goals (simp_all [Aj])
 have hk1' : ¬ (k : Int) = 1 := by omega
 by_cases hk6 : k = 6
 ·subst hk6
  refine ACalls.enter Tryz.func111 rfl rfl gk Tryz.ntmps111 fun X F => ?_
  repeat' first
   | refine AW.seq ?_
   | refine AW.block ?_
   | (refine AO F ?_; go_simp)
   | (refine AG ?_; go_simp)
   | (refine AW.skip ?_; go_simp)
   | (refine AW.exit ?_; go_simp)
   | (refine AW.ret ?_; go_simp)
   | refine ⟨fun h => ?_, fun h => ?_⟩
   | intro h
  all_goals first
   | rfl
   | simp [Aj, inB, Ez, Jd, Lt, FR, eq_comm (b := s), *]
 have hk6' : ¬ (k : Int) = 6 := by omega
 refine ACalls.enter Tryz.func111 rfl rfl gk Tryz.ntmps111 fun X F => ?_
 repeat' first
  | refine AW.seq ?_
  | refine AW.block ?_
  | (refine AO F ?_; go_simp)
  | (refine AG ?_; go_simp)
  | (refine AW.skip ?_; go_simp)
  | (refine AW.exit ?_; go_simp)
  | (refine AW.ret ?_; go_simp)
  | refine ⟨fun h => ?_, fun h => ?_⟩
  | intro h
 all_goals (simp_all [Aj])
theorem Gr (gk : GK G) (t : Tf) (a b : NJ) : ACalls Tryz.prog G 112 none [.agg (DO t), .agg (Al a), .agg (Al b)] (.ret (.agg (Al (B8 t a b))) []) := by
 obtain ⟨k1, s1, m1, e1, l1, b1⟩ := a; obtain ⟨k2, s2, m2, e2, l2, b2⟩ := b; have hs := Jk gk t; unfold B8; generalize Aj t = n at *; obtain ⟨k, s, p⟩ := t; refine ACalls.enter Tryz.func112 rfl rfl gk Tryz.ntmps112 fun X F => ?_
 repeat' first
  | refine AW.seq ?_
  | refine AW.block ?_
  | (refine AO F ?_; go_simp)
  | (refine AG ?_; go_simp)
  | (refine AW.skip ?_; go_simp)
  | (refine AW.exit ?_; go_simp)
  | (refine AW.ret ?_; go_simp)
  | refine ⟨fun h => ?_, fun h => ?_⟩
  | (refine ⟨_, hs, ?_⟩; go_simp)
  | intro h
 all_goals first
  | (rw [if_pos (by omega)]; go_simp; done)
  | (rw [if_neg (by omega), if_pos (by omega)]; go_simp; done)
  | (rw [if_neg (by omega), if_neg (by omega), if_pos (by omega)]; go_simp; done)
  | (rw [if_neg (by omega), if_neg (by omega), if_neg (by omega), if_pos (by omega)]; go_simp; done)
  | (rw [if_neg (by omega), if_neg (by omega), if_neg (by omega), if_neg (by omega), if_pos (by omega)]; go_simp; done)
  | (rw [if_neg (by omega), if_neg (by omega), if_neg (by omega), if_neg (by omega), if_neg (by omega)]; go_simp; done)
open Go Go.RowKit Go.Proofs Th
set_option maxRecDepth 8000
theorem LP : Cg Tryz.prog 64 = some (.struct [⟨0, 1, false⟩, ⟨1, 1, false⟩] [.string ⟨#[]⟩, .int .i64 0]) := by kernel_rfl
attribute [local go_sem] LP
def GN (W : World) (S : CS) : Prop := ∀ W', (∀ g o, S g o → W'.cell? ⟨g, o, none⟩ = W.cell? ⟨g, o, none⟩) → GlobX W'
theorem gkN : GK GN := fun _ _ _ _ h hc hS W2 h2 => h W2 fun g o hs => (h2 g o (hS g o hs)).trans (hc g o hs)
theorem GN.now {W : World} {S : CS} (h : GN W S) : GlobX W := h W fun _ _ _ => rfl
theorem Ih {W : World} {S : CS} : ∀ (us ws : List Value), RepL W S (us.map IV.v) ws → ws = us
 | [], ws, h => List.eq_nil_of_length_eq_zero h.1
 | u :: r, [], h => absurd h.1 (by simp)
 | u :: r, w :: ws, h => by rw [Dl (h.2 0 (IV.v u) w rfl rfl), Ih r ws ⟨by simpa using h.1, fun i x u hx hu => h.2 (i + 1) x u hx hu⟩]
theorem JR {W : World} {S : CS} : ∀ (us : List Value), RepL W S (us.map IV.v) us
 | [] => RepL.nil _ _
 | u :: r => RepL.cons (.v u) (JR r)
theorem KE {P : Program} {G : World → CS → Prop} {f : FuncId} {cs cs' us : List Value} {x : IV} {v : Value} (hf : ∃ fn, P.funcs[f]? = some fn ∧ fn.body.isNone = false ∧ (fn.name == "runtime.NumGoroutine") = false) (h1 : ∀ u ∈ cs', u.oneCell' = true) (hx : ∀ W S, Rep W S x v)
  (h : ∀ W S p, G W S → Box W p cs → Calls P f (.pointer (some ⟨p, 0, none⟩) :: us).toArray W fun e W' => e = .returned v ∧ Box W' p cs' ∧ Upd p W W') : ACalls P G f (some (cs.map IV.v)) (us.map IV.v) (.ret x (cs'.map IV.v)) := by
 refine ⟨hf, fun W S p ws hG hSb hrc hws => ?_⟩; obtain rfl := Ih us ws hws; obtain ⟨vs, hB, hvs, -, hS⟩ := hrc _ rfl; obtain rfl := Ih cs vs hvs; have hlt := hB.lt; refine (h W S p hG hB).mono fun e W' ⟨he, hB', hU⟩ => ⟨⟨v, he, hx _ _⟩, fun _ => ⟨cs', hB', JR cs', h1, fun o ho => ?_⟩, ⟨hU.os, hU.tape, hU.output, hU.size, fun k hk hp => hU.block k hk fun h => hp ⟨rfl, h⟩⟩⟩
 rcases ho with ho | ho
 ·exact hS o ho
 omega
theorem PC {P : Program} {f : FuncId} {cs cs' us : List Value} {x : IV} (hA : ACalls P GN f (some (cs.map IV.v)) (us.map IV.v) (.ret x (cs'.map IV.v))) (h1 : ∀ u ∈ cs, u.oneCell' = true) (w : World) (p : Nat) (hB : Box w p cs) (hG : GlobX w) (hp : (4 : Nat) ≠ p) :
  Calls P f (.pointer (some ⟨p, 0, none⟩) :: us).toArray w fun e w' => (∃ u S, e = .returned u ∧ Rep w' S x u) ∧ Box w' p cs' ∧ Upd p w w' := by
 obtain ⟨m, hm⟩ := hG; refine (hA.2 w (fun g o => g ≠ p ∧ g < w.heap.size) p us (fun W' h => ⟨m, (h _ _ ⟨hp, BX hm⟩).trans hm⟩) (fun g o h => h.2) (fun c hc => ?_) (JR us)).mono fun e w' ⟨⟨u, he, hr⟩, hb, hu⟩ => ?_
 ·injection hc with hc; subst hc
  exact ⟨cs, hB, JR cs, h1, fun o h => h.1 rfl⟩
 obtain ⟨vs, hB', hvs, -, -⟩ := hb rfl; obtain rfl := Ih cs' vs hvs; exact ⟨⟨u, _, he, hr⟩, hB', ⟨hu.os, hu.tape, hu.output, hu.size, fun k hk hp => hu.block k hk fun h => hp h.2⟩⟩
theorem G5 (c : UInt8) : ACalls Tryz.prog GN 73 none [.v (.int .u8 c.toNat)] (.ret (bI (Bl c)) []) := Ey (us := [.int .u8 c.toNat]) ⟨_, Tryz.func73, rfl, rfl⟩ fun W _ _ => (Gm c W).mono fun _e _W' ⟨he, hw⟩ => ⟨he, hw ▸ Below.refl _ _⟩
theorem H8 (c : UInt8) : ACalls Tryz.prog GN 75 none [.v (.int .u8 c.toNat)] (.ret (bI (Bs c)) []) := Ey (us := [.int .u8 c.toNat]) ⟨_, Tryz.func75, rfl, rfl⟩ fun W _ _ => (G7 c W).mono fun _e _W' ⟨he, hw⟩ => ⟨he, hw ▸ Below.refl _ _⟩
theorem EH (s : ByteArray) (hs : s.size ≤ 1000000) (l : List UInt8) (hl : s.data.toList = l) : ACalls Tryz.prog GN 74 none [sI s] (.ret (iI (AM l)) []) := Ey (us := [.string s]) ⟨_, Tryz.func74, rfl, rfl⟩ fun W _ _ => (Ld s (by omega) W).mono fun e W' ⟨he, hw⟩ => ⟨hl ▸ he, hw ▸ Below.refl _ _⟩
theorem G3 (s : ByteArray) (hs : s.size ≤ 1000000) (l : List UInt8) (hl : s.data.toList = l) : ACalls Tryz.prog GN 76 none [sI s] (.ret (iI (Dc l)) []) := Ey (us := [.string s]) ⟨_, Tryz.func76, rfl, rfl⟩ fun W _ _ => (LW s (by omega) W).mono fun e W' ⟨he, hw⟩ => ⟨hl ▸ he, hw ▸ Below.refl _ _⟩
theorem ZA (s : ByteArray) (h0 : 0 < s.size) (h32 : s[0] ≠ 32) (l : List UInt8) (hl : s.data.toList = l) : ACalls Tryz.prog GN 77 none [sI s] (.ret (iI (Be l)) []) := Ey (us := [.string s]) ⟨_, Tryz.func77, rfl, rfl⟩ fun W S hG => by
 obtain ⟨m, hm⟩ := hG.now; exact (Qb s h0 h32 W m hm).mono fun e W' ⟨he, hw⟩ => ⟨hl ▸ he, hw ▸ Below.refl _ _⟩
theorem Jc (s : ByteArray) (hs : s.size ≤ 1000000) (a b : Nat) (ha : a ≤ s.size) (hb : AL s.data.toList a = b) : ACalls Tryz.prog GN 71 (some [sI s, iI a]) [] (.ret (.tup []) [sI s, iI b]) :=
 KE (cs := [.string s, .int .i64 a]) (cs' := [.string s, .int .i64 b]) (us := []) ⟨_, Tryz.func71, rfl, rfl⟩ (by simp [Value.oneCell']) (fun W S => .tup (cs := []) (us := []) rfl (fun i x u hx => by simp at hx)) fun W S p hG hB => (IC p s a hs ha W hB).mono fun e W' ⟨he, hsc⟩ => ⟨he, hb ▸ hsc.b, hsc.u⟩
structure AtN (s : ByteArray) (b : Nat) (c : UInt8) (r : List UInt8) (x x1 : ByteArray) : Prop where
 lt : b < s.size
 ex : s.extract b s.size = x
 ll : x.data.toList = c :: r
 sz : x.size = r.length + 1
 ex1 : x.extract 1 x.size = x1
 l1 : x1.data.toList = r
 sz1 : x1.size = r.length
 le : b + (r.length + 1) = s.size
theorem Ls (s : ByteArray) (a c : Nat) : (s.extract a c).data.toList = (s.data.toList.drop a).take (c - a) := by rw [GS]
theorem AtN.of {s : ByteArray} {b : Nat} {c : UInt8} {r : List UInt8} (hd : s.data.toList.drop b = c :: r) : ∃ x x1, AtN s b c r x x1 := by
 have hl := congrArg List.length hd; rw [List.length_drop, Ai, List.length_cons] at hl; obtain ⟨x, hx⟩ : ∃ x, s.extract b s.size = x := ⟨_, rfl⟩
 have h1 : x.data.toList = c :: r := by rw [← hx, Ls, hd, List.take_of_length_le]; rw [List.length_cons]; omega
 have h2 : x.size = r.length + 1 := by rw [← Ai, h1, List.length_cons]
 obtain ⟨x1, hx1⟩ : ∃ x1, x.extract 1 x.size = x1 := ⟨_, rfl⟩
 have h3 : x1.data.toList = r := by rw [← hx1, Ls, h1, List.drop_succ_cons, List.drop_zero, List.take_of_length_le]; omega
 have h4 : x1.size = r.length := by rw [← Ai, h3]
 exact ⟨x, x1, by omega, hx, h1, h2, hx1, h3, h4, by omega⟩
theorem Tk (k : Int) (s : ByteArray) (hs : s.size ≤ 1000000) (a b : Nat) (ha : a ≤ s.size) (hb : AL s.data.toList a = b) (c : UInt8) (r : List UInt8) (x x1 : ByteArray) (hA : AtN s b c r x x1) (hc : c = 36) (hl : Bl c = false) (hn : 0 < AM r) : ACalls Tryz.prog GN 47 (some [sI s, iI a]) [iI k] (.ret (.tup [.agg [iI 2, sI (x.extract 1 (1 + AM r)), iI b], iI 0, iI 0]) [sI s, iI ((b : Int) + (1 + (AM r : Int)))]) := by
 have gk := gkN; obtain ⟨hlt, hex, hll, hsz, hex1, hl1, hsz1, hle⟩ := hA; have csk := Jc s hs a b ha hb; have clt := G5 c; have cdg := H8 c; have cnx := EH x (by omega) _ hll; have cn1 := EH x1 (by omega) _ hl1; have cnu := G3 x (by omega) _ hll; have hn1 := DL r; have hbI : (b : Int) ≤ (s.size : Int) := by omega
 have hbn : ¬ (b : Int) = (s.size : Int) := by omega
 have hbn' : ¬ b = s.size := by omega
 have hble : b ≤ s.size := by omega
 have hx0 : x.data.toList[0]? = some c := by rw [hll]; rfl
 have hx1 : (1 : Int) ≤ (r.length : Int) + 1 := by omega
 rw [hsz] at hex1; subst hc; rw [hl] at clt; have z0 := rng (1 + (AM r : Int)) (by omega); have z2 : (0 : Int) < (AM r : Int) := by omega
 have z3 : (1 : Int) ≤ 1 + (AM r : Int) := by omega
 have z4 : 1 + (AM r : Int) ≤ (r.length : Int) + 1 := by omega
 have z5 : (1 + (AM r : Int)).toNat = 1 + AM r := by omega
 have z1 := rng ((b : Int) + (1 + (AM r : Int))) (by omega); refine ACalls.enter Tryz.func47 rfl rfl gk Tryz.ntmps47 fun X F => ?_
 apply Ar F;go_simp;apply Ar F;go_simp;refine ⟨_, csk, ?_⟩;go_simp;(repeat apply Aq);refine Ad F [0, 1, 2, 3, 4, 5, 6, 7, 8, 9] [] mixed (by kernel_rfl) ?_;go_simp;(repeat apply Aq);refine Af (by go_simp) ?_;apply As;go_simp;(repeat apply Aq);refine Ad F [0, 1, 2, 3, 4, 5, 6, 7, 8, 9] [] mixed (by kernel_rfl) ?_;(iterate 3 go_simp;apply Ar F);go_simp;(repeat apply Aq);apply Ab;apply Ar F;go_simp;(repeat apply Aq);refine Af (by go_simp) ?_;apply Ar F;go_simp;refine ⟨_, clt, ?_⟩;go_simp;(repeat apply Aq);refine Af (by go_simp) ?_;apply Ar F;go_simp;refine ⟨_, cn1, ?_⟩;go_simp;(repeat apply Aq);refine At (by go_simp) ?_;apply Ar F;go_simp;refine ⟨_, cn1, ?_⟩;go_simp;(repeat apply Aq);refine Ad F [0, 1, 2, 3, 4, 5, 6] [] mixed (by kernel_rfl) ?_;go_simp;apply Ar F;go_simp;apply Ar F;go_simp;apply Au;go_simp
theorem Zj (k : Int) (s : ByteArray) (hs : s.size ≤ 1000000) (a b : Nat) (ha : a ≤ s.size) (hb : AL s.data.toList a = b) (c : UInt8) (r : List UInt8) (x x1 : ByteArray) (hA : AtN s b c r x x1) (hc : c = 46) (hl : Bl c = false) (hn : 0 < AM r) : ACalls Tryz.prog GN 47 (some [sI s, iI a]) [iI k] (.ret (.tup [.agg [iI 3, sI (x.extract 1 (1 + AM r)), iI b], iI 0, iI 0]) [sI s, iI ((b : Int) + (1 + (AM r : Int)))]) := by
 have gk := gkN; obtain ⟨hlt, hex, hll, hsz, hex1, hl1, hsz1, hle⟩ := hA; have csk := Jc s hs a b ha hb; have clt := G5 c; have cdg := H8 c; have cnx := EH x (by omega) _ hll; have cn1 := EH x1 (by omega) _ hl1; have cnu := G3 x (by omega) _ hll; have hn1 := DL r; have hbI : (b : Int) ≤ (s.size : Int) := by omega
 have hbn : ¬ (b : Int) = (s.size : Int) := by omega
 have hbn' : ¬ b = s.size := by omega
 have hble : b ≤ s.size := by omega
 have hx0 : x.data.toList[0]? = some c := by rw [hll]; rfl
 have hx1 : (1 : Int) ≤ (r.length : Int) + 1 := by omega
 rw [hsz] at hex1; subst hc; rw [hl] at clt; have z0 := rng (1 + (AM r : Int)) (by omega); have z2 : (0 : Int) < (AM r : Int) := by omega
 have z3 : (1 : Int) ≤ 1 + (AM r : Int) := by omega
 have z4 : 1 + (AM r : Int) ≤ (r.length : Int) + 1 := by omega
 have z5 : (1 + (AM r : Int)).toNat = 1 + AM r := by omega
 have z1 := rng ((b : Int) + (1 + (AM r : Int))) (by omega); refine ACalls.enter Tryz.func47 rfl rfl gk Tryz.ntmps47 fun X F => ?_
 apply Ar F;go_simp;apply Ar F;go_simp;refine ⟨_, csk, ?_⟩;go_simp;(repeat apply Aq);refine Ad F [0, 1, 2, 3, 4, 5, 6, 7, 8, 9] [] mixed (by kernel_rfl) ?_;go_simp;(repeat apply Aq);refine Af (by go_simp) ?_;apply As;go_simp;(repeat apply Aq);refine Ad F [0, 1, 2, 3, 4, 5, 6, 7, 8, 9] [] mixed (by kernel_rfl) ?_;(iterate 3 go_simp;apply Ar F);go_simp;(repeat apply Aq);apply Ab;apply Ar F;go_simp;(repeat apply Aq);refine Af (by go_simp) ?_;apply Ar F;go_simp;refine ⟨_, clt, ?_⟩;(iterate 2 go_simp;(repeat apply Aq);refine Af (by go_simp) ?_;apply Ar F);go_simp;refine ⟨_, cn1, ?_⟩;go_simp;(repeat apply Aq);refine At (by go_simp) ?_;apply Ar F;go_simp;refine ⟨_, cn1, ?_⟩;go_simp;(repeat apply Aq);refine Ad F [0, 1, 2, 3, 4, 5, 6] [] mixed (by kernel_rfl) ?_;go_simp;apply Ar F;go_simp;apply Ar F;go_simp;apply Au;go_simp
theorem WC (k : Int) (s : ByteArray) (hs : s.size ≤ 1000000) (a b : Nat) (ha : a ≤ s.size) (hb : AL s.data.toList a = b) (c : UInt8) (r : List UInt8) (x x1 : ByteArray) (hA : AtN s b c r x x1) (hc34 : ¬ c = 34) (hc36 : ¬ c = 36) (hc46 : ¬ c = 46) (hl : Bl c = false) (hg : Bs c = true) (n : Nat) (hn : Dc (c :: r) = n) (hnl : n ≤ r.length + 1) : ACalls Tryz.prog GN 47 (some [sI s, iI a]) [iI k] (.ret (.tup [.agg [iI 4, sI (x.extract 0 n), iI b], iI 0, iI 0]) [sI s, iI ((b : Int) + (n : Int))]) := by
 have gk := gkN; obtain ⟨hlt, hex, hll, hsz, hex1, hl1, hsz1, hle⟩ := hA; have csk := Jc s hs a b ha hb; have clt := G5 c; have cdg := H8 c; have cnx := EH x (by omega) _ hll; have cn1 := EH x1 (by omega) _ hl1; have cnu := G3 x (by omega) _ hll; have hn1 := DL r; have hbI : (b : Int) ≤ (s.size : Int) := by omega
 have hbn : ¬ (b : Int) = (s.size : Int) := by omega
 have hbn' : ¬ b = s.size := by omega
 have hble : b ≤ s.size := by omega
 have hx0 : x.data.toList[0]? = some c := by rw [hll]; rfl
 have hx1 : (1 : Int) ≤ (r.length : Int) + 1 := by omega
 rw [hsz] at hex1; have n34 : ¬ c.toNat = 34 := fun h => hc34 (UInt8.toNat_inj.1 h)
 have c34 : ¬ (c.toNat : Int) = 34 := by omega
 have n36 : ¬ c.toNat = 36 := fun h => hc36 (UInt8.toNat_inj.1 h)
 have c36 : ¬ (c.toNat : Int) = 36 := by omega
 have n46 : ¬ c.toNat = 46 := fun h => hc46 (UInt8.toNat_inj.1 h)
 have c46 : ¬ (c.toNat : Int) = 46 := by omega
 rw [hl] at clt; rw [hg] at cdg; rw [hn] at cnu; have z1 := rng ((b : Int) + (n : Int)) (by omega); have z2 : (n : Int) ≤ (r.length : Int) + 1 := by omega
 refine ACalls.enter Tryz.func47 rfl rfl gk Tryz.ntmps47 fun X F => ?_
 apply Ar F;go_simp;apply Ar F;go_simp;refine ⟨_, csk, ?_⟩;go_simp;(repeat apply Aq);refine Ad F [0, 1, 2, 3, 4, 5, 6, 7, 8, 9] [] mixed (by kernel_rfl) ?_;go_simp;(repeat apply Aq);refine Af (by go_simp) ?_;apply As;go_simp;(repeat apply Aq);refine Ad F [0, 1, 2, 3, 4, 5, 6, 7, 8, 9] [] mixed (by kernel_rfl) ?_;(iterate 3 go_simp;apply Ar F);go_simp;(repeat apply Aq);apply Ab;apply Ar F;go_simp;(repeat apply Aq);refine Af (by go_simp) ?_;apply Ar F;go_simp;refine ⟨_, clt, ?_⟩;(iterate 3 go_simp;(repeat apply Aq);refine Af (by go_simp) ?_;apply Ar F);go_simp;refine ⟨_, cdg, ?_⟩;go_simp;(repeat apply Aq);refine At (by go_simp) ?_;apply Ar F;go_simp;refine ⟨_, cnu, ?_⟩;go_simp;(repeat apply Aq);refine Ad F [0, 1, 2, 3, 4, 5, 6] [] mixed (by kernel_rfl) ?_;go_simp;apply Ar F;go_simp;apply Ar F;go_simp;apply Au;go_simp
theorem YC (k : Int) (s : ByteArray) (hs : s.size ≤ 1000000) (a b : Nat) (ha : a ≤ s.size) (hb : AL s.data.toList a = b) (c : UInt8) (r : List UInt8) (x x1 : ByteArray) (hA : AtN s b c r x x1) (hc34 : ¬ c = 34) (w36 : ¬ (c = 36 ∧ 0 < AM r)) (w46 : ¬ (c = 46 ∧ 0 < AM r)) (hl : Bl c = false) (hg : Bs c = false) (n : Nat) (csg : ACalls Tryz.prog GN 77 none [sI x] (.ret (iI n) [])) (hn : n = 0) : ACalls Tryz.prog GN 47 (some [sI s, iI a]) [iI k] (.ret (.tup [.agg [iI 0, sI ⟨#[]⟩, iI 0], iI b, iI 60]) [sI s, iI b]) := by
 have gk := gkN; obtain ⟨hlt, hex, hll, hsz, hex1, hl1, hsz1, hle⟩ := hA; have csk := Jc s hs a b ha hb; have clt := G5 c; have cdg := H8 c; have cnx := EH x (by omega) _ hll; have cn1 := EH x1 (by omega) _ hl1; have cnu := G3 x (by omega) _ hll; have hn1 := DL r; have hbI : (b : Int) ≤ (s.size : Int) := by omega
 have hbn : ¬ (b : Int) = (s.size : Int) := by omega
 have hbn' : ¬ b = s.size := by omega
 have hble : b ≤ s.size := by omega
 have hx0 : x.data.toList[0]? = some c := by rw [hll]; rfl
 have hx1 : (1 : Int) ≤ (r.length : Int) + 1 := by omega
 rw [hsz] at hex1; have n34 : ¬ c.toNat = 34 := fun h => hc34 (UInt8.toNat_inj.1 h)
 have c34 : ¬ (c.toNat : Int) = 34 := by omega
 rw [hl] at clt; rw [hg] at cdg; subst hn; refine ACalls.enter Tryz.func47 rfl rfl gk Tryz.ntmps47 fun X F => ?_
 apply Ar F;go_simp;apply Ar F;go_simp;refine ⟨_, csk, ?_⟩;go_simp;(repeat apply Aq);refine Ad F [0, 1, 2, 3, 4, 5, 6, 7, 8, 9] [] mixed (by kernel_rfl) ?_;go_simp;(repeat apply Aq);refine Af (by go_simp) ?_;apply As;go_simp;(repeat apply Aq);refine Ad F [0, 1, 2, 3, 4, 5, 6, 7, 8, 9] [] mixed (by kernel_rfl) ?_;(iterate 3 go_simp;apply Ar F);go_simp;(repeat apply Aq);apply Ab;apply Ar F;go_simp;(repeat apply Aq);refine Af (by go_simp) ?_;apply Ar F;go_simp;refine ⟨_, clt, ?_⟩;go_simp;(repeat apply Aq);refine Af (by go_simp) ?_;by_cases h36 : c = 36
 ·subst h36
  have nn : AM r = 0 := Nat.eq_zero_of_not_pos fun h => w36 ⟨rfl, h⟩
  rw [nn] at cn1;apply Ar F;go_simp;refine ⟨_, cn1, ?_⟩;(iterate 2 go_simp;(repeat apply Aq);refine Af (by go_simp) ?_;apply Ar F);go_simp;refine ⟨_, cdg, ?_⟩;go_simp;(repeat apply Aq);refine Af (by go_simp) ?_;apply Ar F;go_simp;refine ⟨_, csg, ?_⟩;go_simp;apply Ar F;go_simp;(repeat apply Aq);refine At (by go_simp) ?_;(repeat apply Aq);refine Ad F [0, 1, 2, 3, 4, 5, 6, 7] [(4, 5)] mixed (by kernel_rfl) ?_;go_simp;apply Au;go_simp
 have n36 : ¬ c.toNat = 36 := fun h => h36 (UInt8.toNat_inj.1 h)
 have c36 : ¬ (c.toNat : Int) = 36 := by omega
 by_cases h46 : c = 46
 ·subst h46
  have nn : AM r = 0 := Nat.eq_zero_of_not_pos fun h => w46 ⟨rfl, h⟩
  rw [nn] at cn1; apply Ar F; go_simp; (repeat apply Aq); refine Af (by go_simp) ?_; apply Ar F; go_simp; refine ⟨_, cn1, ?_⟩; go_simp; (repeat apply Aq); refine Af (by go_simp) ?_; apply Ar F; go_simp; refine ⟨_, cdg, ?_⟩; go_simp; (repeat apply Aq); refine Af (by go_simp) ?_; apply Ar F; go_simp; refine ⟨_, csg, ?_⟩; go_simp; apply Ar F; go_simp; (repeat apply Aq); refine At (by go_simp) ?_; (repeat apply Aq); refine Ad F [0, 1, 2, 3, 4, 5, 6, 7] [(4, 5)] mixed (by kernel_rfl) ?_; go_simp; apply Au; go_simp
 have n46 : ¬ c.toNat = 46 := fun h => h46 (UInt8.toNat_inj.1 h)
 have c46 : ¬ (c.toNat : Int) = 46 := by omega
 (iterate 2 apply Ar F;go_simp;(repeat apply Aq);refine Af (by go_simp) ?_);apply Ar F;go_simp;refine ⟨_, cdg, ?_⟩;go_simp;(repeat apply Aq);refine Af (by go_simp) ?_;apply Ar F;go_simp;refine ⟨_, csg, ?_⟩;go_simp;apply Ar F;go_simp;(repeat apply Aq);refine At (by go_simp) ?_;(repeat apply Aq);refine Ad F [0, 1, 2, 3, 4, 5, 6, 7] [(4, 5)] mixed (by kernel_rfl) ?_;go_simp;apply Au;go_simp
theorem YQ (k : Int) (s : ByteArray) (hs : s.size ≤ 1000000) (a b : Nat) (ha : a ≤ s.size) (hb : AL s.data.toList a = b) (c : UInt8) (r : List UInt8) (x x1 : ByteArray) (hA : AtN s b c r x x1) (hc34 : ¬ c = 34) (w36 : ¬ (c = 36 ∧ 0 < AM r)) (w46 : ¬ (c = 46 ∧ 0 < AM r)) (hl : Bl c = false) (hg : Bs c = false) (n : Nat) (csg : ACalls Tryz.prog GN 77 none [sI x] (.ret (iI n) [])) (hn : 0 < n) (hnl : n ≤ r.length + 1) : ACalls Tryz.prog GN 47 (some [sI s, iI a]) [iI k] (.ret (.tup [.agg [iI 6, sI (x.extract 0 n), iI b], iI 0, iI 0]) [sI s, iI ((b : Int) + (n : Int))]) := by
 have gk := gkN; obtain ⟨hlt, hex, hll, hsz, hex1, hl1, hsz1, hle⟩ := hA; have csk := Jc s hs a b ha hb; have clt := G5 c; have cdg := H8 c; have cnx := EH x (by omega) _ hll; have cn1 := EH x1 (by omega) _ hl1; have cnu := G3 x (by omega) _ hll; have hn1 := DL r; have hbI : (b : Int) ≤ (s.size : Int) := by omega
 have hbn : ¬ (b : Int) = (s.size : Int) := by omega
 have hbn' : ¬ b = s.size := by omega
 have hble : b ≤ s.size := by omega
 have hx0 : x.data.toList[0]? = some c := by rw [hll]; rfl
 have hx1 : (1 : Int) ≤ (r.length : Int) + 1 := by omega
 rw [hsz] at hex1; have n34 : ¬ c.toNat = 34 := fun h => hc34 (UInt8.toNat_inj.1 h)
 have c34 : ¬ (c.toNat : Int) = 34 := by omega
 rw [hl] at clt; rw [hg] at cdg; have z1 := rng ((b : Int) + (n : Int)) (by omega); have z2 : (n : Int) ≤ (r.length : Int) + 1 := by omega
 have z3 : ¬ (n : Int) = 0 := by omega
 have z4 : ¬ n = 0 := by omega
 refine ACalls.enter Tryz.func47 rfl rfl gk Tryz.ntmps47 fun X F => ?_
 apply Ar F;go_simp;apply Ar F;go_simp;refine ⟨_, csk, ?_⟩;go_simp;(repeat apply Aq);refine Ad F [0, 1, 2, 3, 4, 5, 6, 7, 8, 9] [] mixed (by kernel_rfl) ?_;go_simp;(repeat apply Aq);refine Af (by go_simp) ?_;apply As;go_simp;(repeat apply Aq);refine Ad F [0, 1, 2, 3, 4, 5, 6, 7, 8, 9] [] mixed (by kernel_rfl) ?_;(iterate 3 go_simp;apply Ar F);go_simp;(repeat apply Aq);apply Ab;apply Ar F;go_simp;(repeat apply Aq);refine Af (by go_simp) ?_;apply Ar F;go_simp;refine ⟨_, clt, ?_⟩;go_simp;(repeat apply Aq);refine Af (by go_simp) ?_;by_cases h36 : c = 36
 ·subst h36
  have nn : AM r = 0 := Nat.eq_zero_of_not_pos fun h => w36 ⟨rfl, h⟩
  rw [nn] at cn1;apply Ar F;go_simp;refine ⟨_, cn1, ?_⟩;(iterate 2 go_simp;(repeat apply Aq);refine Af (by go_simp) ?_;apply Ar F);go_simp;refine ⟨_, cdg, ?_⟩;go_simp;(repeat apply Aq);refine Af (by go_simp) ?_;apply Ar F;go_simp;refine ⟨_, csg, ?_⟩;go_simp;apply Ar F;go_simp;(repeat apply Aq);refine Af (by go_simp) ?_;apply As;go_simp;(repeat apply Aq);refine Ad F [0, 1, 2, 3, 4, 5, 6] [] mixed (by kernel_rfl) ?_;go_simp;apply Ar F;go_simp;apply Ar F;go_simp;apply Au;go_simp
 have n36 : ¬ c.toNat = 36 := fun h => h36 (UInt8.toNat_inj.1 h)
 have c36 : ¬ (c.toNat : Int) = 36 := by omega
 by_cases h46 : c = 46
 ·subst h46
  have nn : AM r = 0 := Nat.eq_zero_of_not_pos fun h => w46 ⟨rfl, h⟩
  rw [nn] at cn1; apply Ar F; go_simp; (repeat apply Aq); refine Af (by go_simp) ?_; apply Ar F; go_simp; refine ⟨_, cn1, ?_⟩; go_simp; (repeat apply Aq); refine Af (by go_simp) ?_; apply Ar F; go_simp; refine ⟨_, cdg, ?_⟩; go_simp; (repeat apply Aq); refine Af (by go_simp) ?_; apply Ar F; go_simp; refine ⟨_, csg, ?_⟩; go_simp; apply Ar F; go_simp; (repeat apply Aq); refine Af (by go_simp) ?_; apply As; go_simp; (repeat apply Aq); refine Ad F [0, 1, 2, 3, 4, 5, 6] [] mixed (by kernel_rfl) ?_; go_simp; apply Ar F; go_simp; apply Ar F; go_simp; apply Au; go_simp
 have n46 : ¬ c.toNat = 46 := fun h => h46 (UInt8.toNat_inj.1 h)
 have c46 : ¬ (c.toNat : Int) = 46 := by omega
 (iterate 2 apply Ar F;go_simp;(repeat apply Aq);refine Af (by go_simp) ?_);apply Ar F;go_simp;refine ⟨_, cdg, ?_⟩;go_simp;(repeat apply Aq);refine Af (by go_simp) ?_;apply Ar F;go_simp;refine ⟨_, csg, ?_⟩;go_simp;apply Ar F;go_simp;(repeat apply Aq);refine Af (by go_simp) ?_;apply As;go_simp;(repeat apply Aq);refine Ad F [0, 1, 2, 3, 4, 5, 6] [] mixed (by kernel_rfl) ?_;go_simp;apply Ar F;go_simp;apply Ar F;go_simp;apply Au;go_simp
open Go Go.RowKit Go.Proofs Th
theorem Mg (a b : ByteArray) : (a ++ b).data.toList = a.data.toList ++ b.data.toList := by simp
theorem Zk {l : List UInt8} {b : ByteArray} (h : l = b.data.toList) : (⟨l.toArray⟩ : ByteArray) = b := by subst h; simp
theorem Oa (sep y : List UInt8) (r : List (List UInt8)) : Lib.joinTail sep (y :: r) = sep ++ Lib.join (y :: r) sep := by
 rw [Lib.join_cons]; simp [Lib.joinTail]
theorem KU (gap : ByteArray) : ∀ ks : List ByteArray, Lib.join (ks.map (·.data.toList)) gap.data.toList = (Ba gap ks).data.toList
 | [] => rfl
 | [x] => Lib.join_one _ _
 | x :: y :: r => by
  rw [List.map_cons, List.map_cons, Lib.join_cons, Oa, ← List.map_cons (f := fun x : ByteArray => x.data.toList), KU gap (y :: r)]; show _ = (x ++ gap ++ Ba gap (y :: r)).data.toList
  rw [Mg, Mg, List.append_assoc]
variable {G : World → CS → Prop}
theorem Q8 (ks : List ByteArray) (gap : ByteArray) (hl : (Ba gap ks).size ≤ 30000000000000) : ACalls Tryz.prog G 56 none [.sl (ks.map fun x => [sI x]) false, sI gap] (.ret (sI (Ba gap ks)) []) := by
 refine ⟨⟨_, Tryz.func56, rfl, rfl⟩, fun W S p us hG hSb _ hus => ?_⟩; obtain ⟨hlen, hr⟩ := hus; obtain ⟨u0, u1, rfl⟩ : ∃ u0 u1, us = [u0, u1] := by
  rcases us with _ | ⟨u0, _ | ⟨u1, _ | ⟨u2, r⟩⟩⟩
  ·cases hlen
  ·cases hlen
  ·exact ⟨u0, u1, rfl⟩
  simp at hlen
 have h0 := hr 0 _ u0 rfl rfl; obtain rfl := Dl (hr 1 _ u1 rfl rfl); clear hr hlen; have hlk : (ks.map fun x => [sI x]).length = ks.length := List.length_map _; have hgt : ∀ (j : Nat) x, ks[j]? = some x → (ks.map fun x => [sI x])[j]? = some [sI x] := fun j x hx => by rw [List.getElem?_map, hx]; rfl
 generalize (ks.map fun x => [sI x]) = es at h0 hlk hgt; cases h0 with
 | sl ez f g1 g2 g3 g4 g5 hA hR =>
  rename_i A c
  show Calls Tryz.prog 56 #[.slice A es.length c, .string gap] W _
  rw [hlk] at hA g1 g3 ⊢; have hpost : ∀ e W', (e = .returned (.string (Ba gap ks)) ∧ Below W.heap.size W W') → (ARes.ret (sI (Ba gap ks)) []).post W S p none e W' := fun e W' ⟨he, hb⟩ => ⟨⟨_, he, .v _⟩, fun h => (by cases h), D9 hb⟩
  by_cases hz : ks = []
  ·subst hz
   refine (Tryz.strings_Join_none A c gap W).mono ?_; rintro r w' ⟨rfl, rfl⟩; exact hpost _ _ ⟨rfl, Below.refl _ _⟩
  obtain ⟨g, o, rfl, hc⟩ := hA (List.length_pos_iff.2 hz); have hez : ∀ j, j < ks.length → 0 < ez := fun j hj => by
   have h := hgt j _ (List.getElem?_eq_getElem hj); have := (g5 _ (List.mem_of_getElem? h)).1; rw [← this]; exact Nat.one_pos
  have hez1 : ez = 1 := by
   have hj : 0 < ks.length := List.length_pos_iff.2 hz; have h := hgt 0 _ (List.getElem?_eq_getElem hj); exact (g5 _ (List.mem_of_getElem? h)).1.symm
  refine (Tryz.strings_Join g o c ks gap W (fun j x hx => ?_) ?_ (by omega) g1 (by rw [KU, Ai]; omega)).mono ?_
  ·have hj := (List.getElem?_eq_some_iff.1 hx).1
   have h1 := (hc j 0 hj (by omega)).2; have h2 := hR j 0 [sI x] (sI x) (hgt j x hx) rfl; rw [Dl h2, hez1, Nat.mul_one, Nat.add_zero] at h1; exact h1
  ·exact hSb _ _ (hc 0 0 (List.length_pos_iff.2 hz) (by omega)).1
  rintro r w' ⟨rfl, hb⟩; exact hpost _ _ ⟨by rw [KU], hb⟩
theorem MT : ∀ ks : List ByteArray, Ba ⟨#[]⟩ ks = Ah ks
 | [] => rfl
 | [x] => ByteArray.append_empty.symm
 | x :: y :: r => by
  show x ++ ⟨#[]⟩ ++ Ba ⟨#[]⟩ (y :: r) = x ++ Ah (y :: r)
  rw [MT (y :: r), show x ++ (⟨#[]⟩ : ByteArray) = x from ByteArray.append_empty]
open Go Go.RowKit Go.Proofs Th
set_option maxRecDepth 8000
theorem RelE.pin {X : Ctx} {E : AEnv} {S : CS} {s : ASt} {a : Act} {W : World} (h : RelE X E S s a W) (t b : Nat) (hb : ∃ cs, s.st b = .box cs) : RelE X E S ⟨upd s.fr t (.pin b (E.box b)), s.st⟩ a W := by
 refine ⟨h.sz, h.df, fun t' => ?_, h.ob, h.ap, h.Sb, h.S0, h.Sn, h.u, h.g, h.pk, h.bk⟩; show B4 W S E s.st (upd s.fr t (.pin b (E.box b)) t') _
 by_cases ht : t' = t
 ·subst ht; rw [AX]; exact ⟨hb, rfl⟩
 rw [Ce _ _ ht]; exact h.fr t'
theorem WL (x y z : Value) (w : World) : CallsD Tryz.prog 24 #[x, y, z] .returning w fun e u' w' => e = .returned (.tuple #[]) ∧ u' = .returning ∧ w' = w := by
 refine callsD_of_wpS Tryz.func24 rfl fun c₀ cs hu => ?_
 apply wpS_seq; apply wpS_region; simp [wpOpsS, go_sem, recoverD, hu, Tryz.ntmps24, Exit.thenS]; apply wpS_seq; apply wpS_region; simp [wpOpsS, go_sem, recoverD, hu, Exit.thenS]; refine wpS_cond (t := false) (by simp [Act.eval, Array.replicate]) ?_; simp only [Bool.false_eq_true, if_false]; refine wpS_of_wp (wp_skip ?_); cases c₀; simp_all [bodyPostS, results, Tryz.results24]
def CT (i j k : Nat) (x y z : List IV) : Nat → AObj := CW .none [(i, .box (x.map .im)), (j, .box (y.map .im)), (k, .box (z.map .im))]
def ren (E : AEnv) (i j k i' j' k' : Nat) : AEnv := { box := fun n => if n = i' then E.box i else if n = j' then E.box j else if n = k' then E.box k else E.box n, row := E.row }
theorem RelE.three {X : Ctx} {E : AEnv} {S : CS} {s : ASt} {a : Act} {W : World} (h : RelE X E S s a W) (hr : X.rcv = false) {i j k i' j' k' : Nat} {x y z : List IV} (e1 : s.st i = .box (x.map .im)) (e2 : s.st j = .box (y.map .im)) (e3 : s.st k = .box (z.map .im)) (hd : (i ≠ j ∧ i ≠ k ∧ j ≠ k) ∧ i' ≠ j' ∧ i' ≠ k' ∧ j' ≠ k' ∧ i' ≠ 1000 ∧ j' ≠ 1000 ∧ k' ≠ 1000) (N : Nat) (d : List Deferred) (fr : Nat → FV) (a2 : Act) (hsz : a2.tmps.size = N) (hdf : a2.defers = d)
  (hfr : ∀ t, B4 W S (ren E i j k i' j' k') (CT i' j' k' x y z) (fr t) (a2.tmps.getD t undef)) : RelE { X with N := N, dfr := d } (ren E i j k i' j' k') S ⟨fr, CT i' j' k' x y z⟩ a2 W := by
 obtain ⟨⟨d1, d2, d3⟩, d4, d5, d6, d7, d8, d9⟩ := hd; have b1 : (ren E i j k i' j' k').box i' = E.box i := if_pos rfl; have b2 : (ren E i j k i' j' k').box j' = E.box j := (if_neg (Ne.symm d4)).trans (if_pos rfl); have b3 : (ren E i j k i' j' k').box k' = E.box k := (if_neg (Ne.symm d5)).trans ((if_neg (Ne.symm d6)).trans (if_pos rfl)); have s1 : CT i' j' k' x y z i' = .box (x.map .im) := by simp [CT, CW]
 have s2 : CT i' j' k' x y z j' = .box (y.map .im) := by simp [CT, CW, Ne.symm d4]
 have s3 : CT i' j' k' x y z k' = .box (z.map .im) := by simp [CT, CW, Ne.symm d5, Ne.symm d6]
 have s4 : ∀ n, n ≠ i' → n ≠ j' → n ≠ k' → CT i' j' k' x y z n = .none := fun n h1 h2 h3 => by simp [CT, CW, h1, h2, h3]
 have ob : ∀ {o n : Nat} {cs : List IV}, s.st o = .box (cs.map .im) → (ren E i j k i' j' k').box n = E.box o → JW { X with N := N, dfr := d } W S (ren E i j k i' j' k') (CT i' j' k' x y z) n (.box (cs.map .im)) := by
  intro o n cs ho hn; have := h.ob o; rw [ho] at this; obtain ⟨⟨us, h1, h2, h3, h4, h5⟩, h6⟩ := this; refine ⟨⟨us, h1, by rw [hn]; exact h2, h3, fun m c u hc hu => ?_, by rw [hn]; exact h5⟩, by rw [hn]; exact h6⟩; have := h4 m c u hc hu; rw [List.getElem?_map] at hc; cases hq : cs[m]? with
  | none => rw [hq] at hc; cases hc
  | some q => rw [hq] at hc; injection hc with hc; subst hc; exact this
 have ap : ∀ {o p : Nat} {cs ds : List FV}, s.st o = .box cs → s.st p = .box ds → E.box o = E.box p → o = p := fun {o p cs ds} ho hp he => h.ap o p (E.box o) (by rw [ho]; rfl) (by rw [hp]; exact congrArg some he.symm)
 refine ⟨hsz, hdf, hfr, fun n => ?_, fun n m g hn hm => ?_, h.Sb, h.S0, h.Sn, h.u, h.g, ?_, fun h2 => (by rw [hr] at h2; cases h2)⟩
 ·show JW _ W S _ _ n (CT i' j' k' x y z n)
  by_cases h1 : n = i'
  ·subst h1; rw [s1]; exact ob e1 b1
  by_cases h2 : n = j'
  ·subst h2; rw [s2]; exact ob e2 b2
  by_cases h3 : n = k'
  ·subst h3; rw [s3]; exact ob e3 b3
  rw [s4 n h1 h2 h3]; trivial
 ·have cs : ∀ n g, blk (ren E i j k i' j' k') n (CT i' j' k' x y z n) = some g → (n = i' ∧ g = E.box i) ∨ (n = j' ∧ g = E.box j) ∨ (n = k' ∧ g = E.box k) := by
   intro n g hn; by_cases h1 : n = i'
   ·subst h1; rw [s1] at hn; exact Or.inl ⟨rfl, (Option.some.inj hn).symm.trans b1⟩
   by_cases h2 : n = j'
   ·subst h2; rw [s2] at hn; exact Or.inr (Or.inl ⟨rfl, (Option.some.inj hn).symm.trans b2⟩)
   by_cases h3 : n = k'
   ·subst h3; rw [s3] at hn; exact Or.inr (Or.inr ⟨rfl, (Option.some.inj hn).symm.trans b3⟩)
   rw [s4 n h1 h2 h3] at hn; cases hn
  rcases cs n g hn with ⟨rfl, hg⟩ | ⟨rfl, hg⟩ | ⟨rfl, hg⟩ <;> rcases cs m g hm with ⟨rfl, hg2⟩ | ⟨rfl, hg2⟩ | ⟨rfl, hg2⟩ <;> first
   | rfl
   | exact absurd (ap e1 e2 (hg.symm.trans hg2)) d1
   | exact absurd (ap e1 e3 (hg.symm.trans hg2)) d2
   | exact absurd (ap e2 e3 (hg.symm.trans hg2)) d3
   | exact absurd (ap e1 e2 (hg2.symm.trans hg)) d1
   | exact absurd (ap e1 e3 (hg2.symm.trans hg)) d2
   | exact absurd (ap e2 e3 (hg2.symm.trans hg)) d3
 show (if (1000 : Nat) = i' then _ else if (1000 : Nat) = j' then _ else if (1000 : Nat) = k' then _ else _) = _
 rw [if_neg (Ne.symm d7), if_neg (Ne.symm d8), if_neg (Ne.symm d9)]; exact h.pk
def zeroM : List IV := [iI 0, sI ⟨#[]⟩, iI 0, iI 0, .sl [] true, .sl [] true]
def OH (p2 p3 p4 a e : Nat) : AExit → ASt → Prop
 | .normal, s => s.fr 6 = .pin 102 p2 ∧ s.fr 7 = .pin 103 p3 ∧ s.fr 8 = .pin 104 p4 ∧ s.st 102 = .box (zeroM.map .im) ∧ s.st 103 = .box ([iI a].map .im) ∧ s.st 104 = .box ([iI e].map .im)
 | _, _ => False
instance {p2 p3 p4 a e : Nat} : PanicOK (OH p2 p3 p4 a e) := ⟨fun _ _ _ _ h => h⟩
attribute [local go_sem] zeroM OH CT Od
theorem AW.at {P : Program} {X : Ctx} {c : Code} {Q : AExit → ASt → Prop} {s : ASt} {E : AEnv} {S : CS} {a : Act} {W : World} (h : AW P X c Q s) (hr : RelE X E S s a W) : c.wp P (Em X Q) a W := h a W ⟨E, S, hr⟩
theorem T9 {X : Ctx} {E : AEnv} {S : CS} {s : ASt} {a : Act} {W : World} (h : RelE X E S s a W) (hr : X.rcv = false) (u0 u1 u2 u3 u4 u5 v w : IV) (e2 : s.st 2 = .box ([u0, u1, u2, u3, u4, u5].map .im)) (e3 : s.st 3 = .box ([v].map .im)) (e4 : s.st 4 = .box ([w].map .im)) (f2 : s.fr 2 = .ptr 2 0) (f3 : s.fr 3 = .ptr 3 0) (f4 : s.fr 4 = .ptr 4 0) (at_ e : Nat) (older : List PanicEntry) :
  CallsD Tryz.prog 24 #[.pointer (some ⟨E.box 2, 0, none⟩), .pointer (some ⟨E.box 3, 0, none⟩), .pointer (some ⟨E.box 4, 0, none⟩)] (.panicking ({ v := C1 at_ e, recovered := false } :: older)) W fun r u' w' => r = .returned (.tuple #[]) ∧ u' = .panicking ({ v := C1 at_ e, recovered := true } :: older) ∧
   ∃ E' S', RelE X E' S' ⟨CW .junk [(2, .ptr 2 0), (3, .ptr 3 0), (4, .ptr 4 0)], CT 2 3 4 zeroM [iI at_] [iI e]⟩ a w' := by
 refine callsD_of_wpS Tryz.func24 rfl fun c₀ cs hu => ?_
 apply wpS_seq; apply wpS_region; simp [wpOpsS, go_sem, recoverD, hu, Tryz.ntmps24, Exit.thenS]; apply wpS_seq; apply wpS_region; simp [wpOpsS, go_sem, recoverD, Exit.thenS]; refine wpS_cond (t := true) (by simp [Act.eval, Array.replicate]) ?_; simp only [if_true]; refine wpS_of_wp ?_; simp only [Array.replicate_succ, Array.replicate_zero, List.push_toArray, List.setIfInBounds_toArray, List.set_cons_zero, List.set_cons_succ, List.append_toArray, List.nil_append, List.cons_append]; have hrel := RelE.three (i := 2) (j := 3) (k := 4) (i' := 102) (j' := 103) (k' := 104) h hr e2 e3 e4 (by decide) 20 [] (CW .junk [(0, .ptr 102 0), (1, .ptr 103 0), (2, .ptr 104 0), (3, .im (.v (C1 at_ e))), (6, .pin 102 (E.box 2)), (7, .pin 103 (E.box 3)), (8, .pin 104 (E.box 4))]) { tmps := #[.pointer (some ⟨E.box 2, 0, none⟩), .pointer (some ⟨E.box 3, 0, none⟩), .pointer (some ⟨E.box 4, 0, none⟩), C1 at_ e, undef, undef, C1 at_ e, C1 at_ e, .bool true, undef, undef, undef, undef, undef, undef, undef, undef, undef, undef, undef], defers := [] } rfl rfl fun t => by
  match t with
  | 0 => exact ⟨⟨_, rfl⟩, rfl⟩
  | 1 => exact ⟨⟨_, rfl⟩, rfl⟩
  | 2 => exact ⟨⟨_, rfl⟩, rfl⟩
  | 3 => exact .v _
  | 4 => trivial
  | 5 => trivial
  | 6 => exact ⟨⟨_, rfl⟩, rfl⟩
  | 7 => exact ⟨⟨_, rfl⟩, rfl⟩
  | 8 => exact ⟨⟨_, rfl⟩, rfl⟩
  | n + 9 =>
   rw [show CW FV.junk [(0, .ptr 102 0), (1, .ptr 103 0), (2, .ptr 104 0), (3, .im (.v (C1 at_ e))), (6, .pin 102 (E.box 2)), (7, .pin 103 (E.box 3)), (8, .pin 104 (E.box 4))] (n + 9) = .junk from by simp [CW]]; trivial
 refine wp_mono (AW.at (Q := OH (E.box 2) (E.box 3) (E.box 4) at_ e) ?hA hrel) ?post
 case hA =>
  clear hrel hr h e2 e3 e4 f2 f3 f4;have F : Fit { X with N := 20, dfr := [] } X.G 20 := ⟨rfl, Nat.le_refl _⟩;(iterate 3 apply Ar F;go_simp);refine At (by go_simp) ?_;refine Ad F [0, 1, 2, 3, 4, 5] [(1, 4), (1, 5), (3, 4), (3, 5), (4, 5)] mixed (by kernel_rfl) ?_;go_simp
 case post =>
  intro r a' W' hq; cases r with
  | normal =>
   obtain ⟨s2, ⟨E2, S2, hR⟩, g6, g7, g8, k2, k3, k4⟩ := hq; refine ⟨hR.df, _, rfl, .tuple #[], by simp [results, Tryz.results24], rfl, rfl, ren E2 102 103 104 2 3 4, S2, ?_⟩; have q2 : E2.box 102 = E.box 2 := by have := hR.fr 6; rw [g6] at this; exact this.2
   have q3 : E2.box 103 = E.box 3 := by have := hR.fr 7; rw [g7] at this; exact this.2
   have q4 : E2.box 104 = E.box 4 := by have := hR.fr 8; rw [g8] at this; exact this.2
   have hf := hR.three (i := 102) (j := 103) (k := 104) (i' := 2) (j' := 3) (k' := 4) hr k2 k3 k4 (by decide) X.N X.dfr (CW .junk [(2, .ptr 2 0), (3, .ptr 3 0), (4, .ptr 4 0)]) a h.sz h.df fun t => by
    have p2 := h.fr 2; rw [f2] at p2; have p3 := h.fr 3; rw [f3] at p3; have p4 := h.fr 4; rw [f4] at p4; match t with
    | 0 => trivial
    | 1 => trivial
    | 2 => exact ⟨⟨_, rfl⟩, p2.2.trans (by rw [← q2]; rfl)⟩
    | 3 => exact ⟨⟨_, rfl⟩, p3.2.trans (by rw [← q3]; rfl)⟩
    | 4 => exact ⟨⟨_, rfl⟩, p4.2.trans (by rw [← q4]; rfl)⟩
    | n + 5 =>
     rw [show CW FV.junk [(2, .ptr 2 0), (3, .ptr 3 0), (4, .ptr 4 0)] (n + 5) = .junk from by simp [CW]]; trivial
   exact hf
  | ret => obtain ⟨_, _, hA⟩ := hq; exact hA.elim
  | panic ch => obtain ⟨_, _, _, _, hA⟩ := hq; exact hA.elim
  | exit id => obtain ⟨_, _, hA⟩ := hq; exact hA.elim
  | goto l => obtain ⟨_, _, hA⟩ := hq; exact hA.elim
  | outgrown => exact hq.elim
attribute [go_sem] J7 LK LI Iu Ij Kk J1 J3 Mc LQ Oz Ln
end Go.Proofs.YtakncilicoefdaaGreatDoor
