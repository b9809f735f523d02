/- Lemmas and contracts. Conditions: those that each lemma names. -/
import Derived.Test.YtakncilicoefdaaGreatDoorPt33
set_option maxRecDepth 100000
set_option maxHeartbeats 4000000
namespace Go.Proofs.YtakncilicoefdaaGreatDoor
open Go Go.RowKit Go.Proofs Th
set_option maxRecDepth 8000
attribute [local go_sem] sel
variable {G : World → CS → Prop}
def C0 (s : ByteArray) : ByteArray := s.extract 1 s.size
theorem Jv (s : ByteArray) : Lib.hasPrefix s.data.toList (⟨#[36]⟩ : ByteArray).data.toList = decide (s.data.toList.head? = some 36) := by
 cases h : s.data.toList with
 | nil => rfl
 | cons c r =>
  show (List.isPrefixOf [36] (c :: r)) = _
  by_cases hc : c = 36
  ·subst hc; simp [List.isPrefixOf]
  rw [decide_eq_false (by simpa using hc)]; simp [List.isPrefixOf]; exact fun e => hc e.symm
theorem Ia (s : ByteArray) : (C0 s).data.toList = s.data.toList.tail := by
 unfold C0; rw [ByteArray.data_extract, Array.toList_extract]; simp [List.extract, ← List.drop_one]; exact List.take_of_length_le (by rw [List.length_drop, Al]; exact Nat.le_refl _)
theorem QW (s : ByteArray) : ACalls Tryz.prog G 84 none [sI s, sI ⟨#[36]⟩] (.ret (bI (decide (s.data.toList.head? = some 36))) []) :=
 CP (us := [.string s, .string ⟨#[36]⟩]) ⟨_, Tryz.func84, rfl, rfl⟩ fun W S _ => (Tryz.strings_HasPrefix s ⟨#[36]⟩ W).mono fun e W' ⟨he, hw⟩ => by
  rw [he, hw, Jv]; exact ⟨rfl, Below.refl _ _⟩
theorem QC (gk : GK G) (a : List ByteArray) (hs : ∀ x ∈ a, x.size ≤ 140737488351232) : ACalls Tryz.prog G 98 none [.sl (a.map fun x => [sI x]) false] (.ret (bI (a.all Dw)) []) := by
 by_cases hlen : a.length ≤ 140737488351232
 case neg => exact ⟨⟨_, Tryz.func98, rfl, rfl⟩, fun W S p us hG hSb hrc hrep => absurd (by have := Ez hrep; rwa [List.length_map] at this) hlen⟩
 obtain ⟨z, hz⟩ : ∃ z, a.all Dw = z := ⟨_, rfl⟩
 rw [hz]; refine ACalls.enter Tryz.func98 rfl rfl gk Tryz.ntmps98 fun X F => ?_
 apply Ar F; go_simp; apply Ar F; go_simp; (repeat apply Aq); apply Ab; (repeat apply Aq); refine A9 [5, 6, 7] [1000] (by decide) (fun g t => ∃ k : Nat, t = mkS [(5, .im (.sl (a.map fun x => [sI x]) false)), (6, .im (iI a.length)), (7, .im (iI k))] [(1000, .none)] ∧ g = a.length - k ∧ k ≤ a.length ∧ (a.drop k).all Dw = z) (a.length) ?_ ?_
 ·refine ⟨0, ?_, by omega, by omega, hz⟩
  go_simp
 rintro g t ⟨k, rfl, rfl, hk, hg⟩; by_cases hkt : k < a.length
 ·have hkI : (k : Int) < (a.length : Int) := by omega
  have hrk := rng ((k : Int) + 1) (by omega); have hsz := hs a[k] (List.getElem_mem hkt); have cf := Pe gk a[k] hsz; have cp := QW (G := G) a[k]; have cn := Ld gk (C0 a[k]) (Nat.le_trans (by unfold C0; rw [ByteArray.size_extract]; omega) hsz); rw [List.drop_eq_getElem_cons hkt, List.all_cons] at hg; have hpb : Dw a[k] = (CK a[k] || (decide (a[k].data.toList.head? = some 36) && AU (C0 a[k]).data.toList)) := by unfold Dw; rw [Ia]
  rw [hpb] at hg; clear hpb; obtain ⟨v, hv⟩ : ∃ v, a[k] = v := ⟨_, rfl⟩
  rw [hv] at hg cf cp cn hsz; unfold C0 at cn; have hnt : B4 (v.extract 1 v.size) = AU (C0 v).data.toList := rfl; rw [hnt] at cn; have h1v : decide (v.data.toList.head? = some 36) = true → (1 : Int) ≤ (v.size : Int) := fun h => by
   have h2 := of_decide_eq_true h; rcases Nat.eq_zero_or_pos v.size with h0 | h0
   ·have : v.data.toList = [] := List.eq_nil_of_length_eq_zero h0
    rw [this] at h2; cases h2
   omega
  generalize AU (C0 v).data.toList = nn at cn hg; generalize decide (v.data.toList.head? = some 36) = pp at cp hg h1v; generalize CK v = ff at cf hg; clear hnt; apply Ar F; go_simp; (repeat apply Aq); refine At (by go_simp) ?_; apply As; go_simp; (repeat apply Aq); apply Ab; cases ff
  ·apply Ar F
   go_simp; (repeat apply Aq); refine Ah F [0, 1] [2, 3, 4, 5, 6, 7, 8, 9, 10, 11, 12, 13] (by rfl) ?_; go_simp; refine ⟨_, cf, ?_⟩; go_simp; apply lK 4; go_simp; cases pp
   ·refine ⟨_, cp, ?_⟩
    go_simp; apply lK 5; go_simp; refine Ac ?_; go_simp; simp only [Bool.false_and, Bool.or_false] at hg; subst hg; (repeat apply Aq); refine At (by go_simp) ?_; apply Ar F; go_simp; apply Au; go_simp
   have h1v := h1v rfl; refine ⟨_, cp, ?_⟩; go_simp; apply lK 5; go_simp; cases nn
   ·refine ⟨_, cn, ?_⟩
    go_simp; refine Ac ?_; go_simp; simp only [Bool.false_and, Bool.or_false, Bool.and_false] at hg; subst hg; (repeat apply Aq); refine At (by go_simp) ?_; apply Ar F; go_simp; apply Au; go_simp
   refine ⟨_, cn, ?_⟩; go_simp; refine Ac ?_; go_simp; simp only [Bool.false_or, Bool.true_and] at hg; (repeat apply Aq); refine Af (by go_simp) ?_; apply As; go_simp; apply Ar F; go_simp; refine ⟨a.length - (k + 1), by omega, k + 1, ?_, rfl, by omega, hg⟩; go_simp
  apply Ar F; go_simp; (repeat apply Aq); refine Ah F [0, 1] [2, 3, 4, 5, 6, 7, 8, 9, 10, 11, 12, 13] (by rfl) ?_; go_simp; refine ⟨_, cf, ?_⟩; go_simp; apply lK 4; go_simp; apply lK 5; go_simp; refine Ac ?_; go_simp; simp only [Bool.true_and, Bool.true_or] at hg; (repeat apply Aq); refine Af (by go_simp) ?_; apply As; go_simp; apply Ar F; go_simp; refine ⟨a.length - (k + 1), by omega, k + 1, ?_, rfl, by omega, hg⟩; go_simp
 have hkI : ¬ (k : Int) < (a.length : Int) := by omega
 rw [List.drop_eq_nil_of_le (by omega)] at hg; have hz2 : z = true := by rw [← hg]; rfl
 subst hz2; apply Ar F; go_simp; (repeat apply Aq); refine Af (by go_simp) ?_; apply Ae; go_simp; apply Ar F; go_simp; apply Au; go_simp
structure Hd (p : Prop) : Prop where
 out : p
theorem Tb (gk : GK G) (a b : List ByteArray) : ACalls Tryz.prog G 21 none [.sl (a.map fun x => [sI x]) false, .sl (b.map fun x => [sI x]) false] (.ret (bI (decide (a = b))) []) := by
 by_cases hlen : a.length ≤ 140737488351232
 case neg => exact ⟨⟨_, Tryz.func21, rfl, rfl⟩, fun W S p us hG hSb hrc hrep => absurd (by have := Ez hrep; rwa [List.length_map] at this) hlen⟩
 obtain ⟨z, hz⟩ : ∃ z, decide (a = b) = z := ⟨_, rfl⟩
 rw [hz]; by_cases hl : a.length = b.length
 case neg =>
  have hlI : ¬ (a.length : Int) = (b.length : Int) := by omega
  have hz2 : z = false := by rw [← hz]; exact decide_eq_false fun h => hl (by rw [h])
  subst hz2; refine ACalls.enter Tryz.func21 rfl rfl gk Tryz.ntmps21 fun X F => ?_
  apply Ar F; go_simp; apply Ar F; go_simp; (repeat apply Aq); refine At (by go_simp) ?_; apply Ar F; go_simp; apply Au; go_simp
 have hlI : (b.length : Int) = (a.length : Int) := by omega
 refine ACalls.enter Tryz.func21 rfl rfl gk Tryz.ntmps21 fun X F => ?_
 apply Ar F; go_simp; apply Ar F; go_simp; (repeat apply Aq); refine Af (by go_simp) ?_; apply As; go_simp; apply Ar F; go_simp; (repeat apply Aq); apply Ab; (repeat apply Aq); refine A9 [0, 1, 11, 12, 13] [1000] (by decide) (fun g t => ∃ k : Nat, t = mkS [(0, .im (.sl (a.map fun x => [sI x]) false)), (1, .im (.sl (b.map fun x => [sI x]) false)), (11, .im (.sl (a.map fun x => [sI x]) false)), (12, .im (iI a.length)), (13, .im (iI k))] [(1000, .none)] ∧ g = a.length - k ∧ k ≤ a.length ∧ Hd (a.drop k = b.drop k ↔ z = true)) (a.length) ?_ ?_
 ·refine ⟨0, ?_, by omega, by omega, ⟨by rw [← hz]; simp⟩⟩
  go_simp
 rintro g t ⟨k, rfl, rfl, hk, hg⟩; by_cases hkt : k < a.length
 ·have hkI : (k : Int) < (a.length : Int) := by omega
  have hrk := rng ((k : Int) + 1) (by omega); have hkt2 : k < b.length := by omega
  have hg := hg.out; rw [List.drop_eq_getElem_cons hkt, List.drop_eq_getElem_cons hkt2, List.cons_eq_cons] at hg; apply Ar F; go_simp; (repeat apply Aq); refine At (by go_simp) ?_; apply As; go_simp; (repeat apply Aq); apply Ab; by_cases he : a[k] = b[k]
  ·apply Ar F
   go_simp; (repeat apply Aq); refine Ad F [0, 1, 2, 3, 4, 5, 6, 7, 8] [] mixed (by kernel_rfl) ?_; go_simp; (repeat apply Aq); refine Af (by go_simp) ?_; apply As; go_simp; apply Ar F; go_simp; refine ⟨a.length - (k + 1), by omega, k + 1, ?_, by omega, by omega, ⟨fun h => hg.1 ⟨he, h⟩, fun h => (hg.2 h).2⟩⟩; go_simp
  have hz2 : z = false := by cases z with | false => rfl | true => exact absurd (hg.2 rfl).1 he
  subst hz2; apply Ar F; go_simp; (repeat apply Aq); refine Ad F [0, 1, 2, 3, 4, 5, 6, 7, 8] [] mixed (by kernel_rfl) ?_; go_simp; (repeat apply Aq); refine At (by go_simp) ?_; apply Ar F; go_simp; apply Au; go_simp
 have hkI : ¬ (k : Int) < (a.length : Int) := by omega
 have hz2 : z = true := hg.out.1 (by rw [List.drop_eq_nil_of_le (by omega), List.drop_eq_nil_of_le (by omega)]); subst hz2; apply Ar F; go_simp; (repeat apply Aq); refine Af (by go_simp) ?_; apply Ae; go_simp; apply Ar F; go_simp; apply Au; go_simp
open Go Go.RowKit Go.Proofs Th
set_option maxRecDepth 8000
attribute [local go_sem] zeroM Cb AGo
def KA : PR NJ → List IV
 | .bad a e => [.agg (Ag Lg), iI a, iI e]
 | .ok n _ => if shJ 48 n = true then [.agg (Ag n), iI 0, iI 0] else [.agg (Ag Lg), iI 0, iI 31]
def QM (p2 p3 p4 : Nat) (res : ARes) : AExit → ASt → Prop
 | .normal, s => KL Tryz.prog Tryz.f15 res .normal s
 | .ret, s => KL Tryz.prog Tryz.f15 res .ret s
 | .panic x, s => ∃ (a e : Nat) (u0 u1 u2 u3 u4 u5 v w : IV), x = Cq a e ∧ s.fr 8 = .pin 2 p2 ∧ s.fr 9 = .pin 3 p3 ∧ s.fr 7 = .pin 4 p4 ∧ s.fr 2 = .ptr 2 0 ∧ s.fr 3 = .ptr 3 0 ∧ s.fr 4 = .ptr 4 0 ∧ s.st 2 = .box ([u0, u1, u2, u3, u4, u5].map .im) ∧ s.st 3 = .box ([v].map .im) ∧ s.st 4 = .box ([w].map .im) ∧ res = .ret (.tup [.agg (Ag Lg), iI a, iI e]) []
 | _, _ => False
attribute [local go_sem] QM KA
theorem CallsD.mono {P : Program} {f : FuncId} {args : Array Value} {u : FrameMode} {w : World} {R R' : Ending → FrameMode → World → Prop} (h : CallsD P f args u w R) (hR : ∀ e u' w', R e u' w' → R' e u' w') : CallsD P f args u w R' := fun c cs hc => by
 obtain ⟨e, u', w', fr, h1, h2⟩ := h c cs hc; exact ⟨e, u', w', fr, hR _ _ _ h1, h2⟩
theorem NV (s : ByteArray) (hz : ∀ t ∈ (B5 (toL s)).1, (t.kind, t.text) ∈ Z9) (hs : s.size ≤ 50000) (he : (B5 (toL s)).2.2 = 0) (f : Nat) (r : PR NJ) (h : BO f (G1 (toL s) 0) .whole 0 = some r) : ACalls Tryz.prog GX 15 none [sI s] (.ret (.tup (KA r)) []) := by
 have cs := Wm s hs; have cw := R8 _ (Si (toL s) 0 (by rw [Li]; omega) (by rw [Li]; omega) hz) f r h; unfold A4 at cw; simp only [G1] at cw; rw [Li] at cw; clear h; obtain ⟨⟨l, x, ee⟩, hq⟩ : ∃ q, B5 (toL s) = q := ⟨_, rfl⟩
 rw [hq] at cs he cw; dsimp only at cs he cw; subst he; clear hq; obtain ⟨res, hres⟩ : ∃ res, ARes.ret (.tup (KA r)) [] = res := ⟨_, rfl⟩
 rw [hres]; refine Mk Tryz.func15 rfl rfl gkX Tryz.ntmps15 fun X W0 S0 p F hW0 hS0 hR hrcv hdfr => ?_
 refine AWg.seq ?_; apply Ar F; go_simp; refine AWg.seq ?_; apply Ar F; go_simp; refine ⟨_, cs, ?_⟩; go_simp; refine AWg.seq ?_; apply Ar F; go_simp; refine Af (by go_simp) ?_; apply As; go_simp; intro a W hRel0; obtain ⟨E, S, hRel⟩ := hRel0; have e2 := Cl hRel (x := .tmp 2) (b := 2) (off := 0) rfl; have e3 := Cl hRel (x := .tmp 3) (b := 3) (off := 0) rfl; have e4 := Cl hRel (x := .tmp 4) (b := 4) (off := 0) rfl; refine wp_seq ?_; refine wp_region ?_; rw [show List.range _ = [0, 1] from rfl]; have h18 : 18 < X.N := Nat.lt_of_lt_of_le (by decide) F.n; have e18 : ∀ (v : Value) (d : List Deferred), ({ tmps := a.tmps.setIfInBounds 18 v, defers := d } : Act).eval (.tmp 18) = v := fun v d => by
  simp [Act.eval, Array.getD, hRel.sz, h18]
 simp [wpOps, Region.wanted, Oper.wp, execOp, Oper.upon, e2, e3, e4, Instr.makeFunc, resolve, Act.put, e18, Deferred.ofValue]; refine Or.inl ?_; refine Or.inl ?_; have hX0 : a.defers = [] := hRel.df.trans hdfr; rw [hX0]; obtain ⟨fnv, hfnv⟩ : ∃ v, Value.func (Fn.func 24) #[] #[Value.pointer (some ⟨E.box 2, 0, none⟩), Value.pointer (some ⟨E.box 3, 0, none⟩), Value.pointer (some ⟨E.box 4, 0, none⟩)] = v := ⟨_, rfl⟩
 rw [hfnv]; have r1 := (hRel.put 18 h18 (c := .junk) (u := fnv) trivial).with [⟨.fn (.func 24) #[Value.pointer (some ⟨E.box 2, 0, none⟩), Value.pointer (some ⟨E.box 3, 0, none⟩), Value.pointer (some ⟨E.box 4, 0, none⟩)], #[]⟩]; have r2 := ((r1.pin 8 2 ⟨_, rfl⟩).pin 9 3 ⟨_, rfl⟩).pin 7 4 ⟨_, rfl⟩; clear r1; obtain ⟨p2, hp2⟩ : ∃ p2, E.box 2 = p2 := ⟨_, rfl⟩
 obtain ⟨p3, hp3⟩ : ∃ p3, E.box 3 = p3 := ⟨_, rfl⟩
 obtain ⟨p4, hp4⟩ : ∃ p4, E.box 4 = p4 := ⟨_, rfl⟩
 rw [hp2, hp3, hp4] at r2 ⊢; clear e2 e3 e4 e18 hRel hp2 hp3 hp4; have hXX : (X.with [⟨.fn (.func 24) #[Value.pointer (some ⟨p2, 0, none⟩), Value.pointer (some ⟨p3, 0, none⟩), Value.pointer (some ⟨p4, 0, none⟩)], #[]⟩]).dfr = [⟨.fn (.func 24) #[Value.pointer (some ⟨p2, 0, none⟩), Value.pointer (some ⟨p3, 0, none⟩), Value.pointer (some ⟨p4, 0, none⟩)], #[]⟩] := rfl; have F2 : Fit (X.with [⟨.fn (.func 24) #[Value.pointer (some ⟨p2, 0, none⟩), Value.pointer (some ⟨p3, 0, none⟩), Value.pointer (some ⟨p4, 0, none⟩)], #[]⟩]) GX 31 := ⟨F.g, F.n⟩; obtain ⟨Y, hY⟩ : ∃ Y, X.with [⟨.fn (.func 24) #[Value.pointer (some ⟨p2, 0, none⟩), Value.pointer (some ⟨p3, 0, none⟩), Value.pointer (some ⟨p4, 0, none⟩)], #[]⟩] = Y := ⟨_, rfl⟩
 have hYW : Y.W0 = W0 := by rw [← hY]; exact hW0
 have hYS : Y.S0 = S0 := by rw [← hY]; exact hS0
 have hYR : Y.R = fun k => (none : Option (List IV)).isSome = true ∧ k = Y.p := by
  rw [← hY]; show X.R = _; rw [hR]; funext k; simp
 have hYr : Y.rcv = false := by rw [← hY]; exact hrcv
 rw [hY] at r2 F2 hXX; clear hY hW0 hS0 hR hrcv hdfr F h18 hfnv hX0; refine wp_mono (AW.at (Q := QM p2 p3 p4 res) ?hA r2) ?post
 case hA =>
  clear r2 hXX hYW hYS hYR hYr; have F := F2; apply Ar F; go_simp; apply Ar F; go_simp; refine ⟨_, cw, ?_⟩; cases r with
  | bad a1 e1 =>
   subst hres; go_simp; exact ⟨⟨a1, rfl⟩, e1, rfl⟩
  | ok n1 j1 =>
   have csh := OL gkX 48 (by decide) n1; obtain ⟨bs, hbs⟩ : ∃ bs, shJ 48 n1 = bs := ⟨_, rfl⟩
   rw [hbs] at csh; simp only [KA, hbs] at hres; clear hbs; obtain ⟨k1, t1, m1, q1, l1, b1⟩ := n1; go_simp; apply Ar F; go_simp; refine ⟨_, csh, ?_⟩; go_simp; cases bs with
   | false =>
    simp only [Bool.false_eq_true, if_false] at hres; subst hres; (repeat apply Aq); refine At (by go_simp) ?_; apply Ar F; go_simp; apply Au; go_simp
   | true =>
    simp only [if_true] at hres; subst hres; (repeat apply Aq); refine Af (by go_simp) ?_; apply As; go_simp; apply Ar F; go_simp; apply Au; go_simp
 case post =>
  intro e a' W' hq; have fin : ∀ {w' : World} {s' : ASt} {E' : AEnv} {S' : CS}, RelE Y E' S' s' a' w' → (∃ l rc, FA Tryz.prog s' Tryz.f15.results.toList = some l ∧ Gv s' = some rc ∧ res = .ret (GZ l).er rc) → ∃ v, (results Tryz.f15 a'.tmps).run Tryz.prog w' = .ok v w' ∧ res.post W0 S0 p none (.returned v) w' := by
   rintro w' s' E' S' hR' ⟨l', rc', h1, h2, h3⟩; obtain ⟨u, hu1, hu2⟩ := IQ hR' h1; obtain ⟨q1, q2, q3⟩ := N2 (rc := none) hYW hYS hYR rfl hR' h2 hYr (fun h => by cases h); refine ⟨u, hu1, ?_⟩; rw [h3]; exact ⟨⟨u, rfl, q1 _ _ hu2⟩, fun h => (by cases h), q3.os, q3.tape, q3.output, q3.size, fun k hk _ => q3.block k hk (fun h => by cases h.1)⟩
  have inv : ∀ w' : World, (invoke (.fn (.func 24) #[Value.pointer (some ⟨p2, 0, none⟩), Value.pointer (some ⟨p3, 0, none⟩), Value.pointer (some ⟨p4, 0, none⟩)]) #[]).run Tryz.prog w' = .ok (.enter 24 #[Value.pointer (some ⟨p2, 0, none⟩), Value.pointer (some ⟨p3, 0, none⟩), Value.pointer (some ⟨p4, 0, none⟩)]) w' := fun w' => by
   have h1 : Tryz.prog.funcs[(24 : Nat)]? = some Tryz.f24 := Tryz.func24; have h2 : ¬ Tryz.f24.body = none := by intro h; cases h
   have h3 : ¬ Tryz.f24.name = "runtime.NumGoroutine" := by decide
   simp [invoke, callFunc, h1, h2, h3]
  have idle : ∀ {s' : ASt} {E' : AEnv} {S' : CS}, RelE Y E' S' s' a' W' → (∃ l rc, FA Tryz.prog s' Tryz.f15.results.toList = some l ∧ Gv s' = some rc ∧ res = .ret (GZ l).er rc) → Leaves Tryz.prog Tryz.f15 a'.tmps (fun e w' => res.post W0 S0 p none e w') a'.defers .returning W' := by
   intro s' E' S' hR' hA; rw [hR'.df, hXX]; refine ⟨fun h => (by cases h), _, _, _, _, rfl, inv W', (TB _ _ _ W').mono fun e u' w' hh => ?_⟩; obtain ⟨rfl, rfl, rfl⟩ := hh; exact fin hR' hA
  cases e with
  | normal => obtain ⟨s', ⟨E', S', hR'⟩, hA⟩ := hq; exact idle hR' hA
  | ret => obtain ⟨s', ⟨E', S', hR'⟩, hA⟩ := hq; exact idle hR' hA
  | panic ch =>
   obtain ⟨s', x, rfl, ⟨E', S', hR'⟩, a0, e0, u0, u1, u2, u3, u4, u5, v, w, rfl, g8, g9, g7, f2, f3, f4, k2, k3, k4, hres2⟩ := hq; have q2 : E'.box 2 = p2 := by have := hR'.fr 8; rw [g8] at this; exact this.2
   have q3 : E'.box 3 = p3 := by have := hR'.fr 9; rw [g9] at this; exact this.2
   have q4 : E'.box 4 = p4 := by have := hR'.fr 7; rw [g7] at this; exact this.2
   have hc := RW hR' hYr u0 u1 u2 u3 u4 u5 v w k2 k3 k4 f2 f3 f4 a0 e0 []; rw [q2, q3, q4] at hc; show Leaves Tryz.prog Tryz.f15 a'.tmps (fun e w' => res.post W0 S0 p none e w') a'.defers (.panicking [{ v := Cq a0 e0, recovered := false }]) W'
   rw [hR'.df, hXX]; refine ⟨fun h => (by cases h), _, _, _, _, rfl, inv W', hc.mono fun e u' w' hh => ?_⟩; obtain ⟨rfl, rfl, E2, S2, hR2⟩ := hh; exact fin hR2 ⟨[.agg zeroM, iI a0, iI e0], [], by clear hc hR2 hR' r2 fin idle; go_simp, rfl, hres2.trans (by clear hc hR2 hR' r2 fin idle hres2; go_simp)⟩
  | exit id => obtain ⟨_, _, hA⟩ := hq; exact hA.elim
  | goto l => obtain ⟨_, _, hA⟩ := hq; exact hA.elim
  | outgrown => exact hq.elim
end Go.Proofs.YtakncilicoefdaaGreatDoor
