/- Lemmas and contracts. Conditions: those that each lemma names. -/
import Derived.Test.YtakncilicoefdaaGreatDoorPt21
set_option maxRecDepth 100000
set_option maxHeartbeats 4000000
namespace Go.Proofs.YtakncilicoefdaaGreatDoor
open Go Go.RowKit Go.Proofs Th
def iI (n : Int) : IV := .v (.int .i64 n)
def sI (s : ByteArray) : IV := .v (.string s)
def bI (b : Bool) : IV := .v (.bool b)
mutual
def Ag : NJ → List IV
 | .mk k s m e l ks => [iI k, sI s, iI m, iI e, .sl (AJ l) false, .sl (ks.map fun x => [sI x]) false]
def AJ : List NJ → List (List IV)
 | [] => []
 | n :: r => Ag n :: AJ r
end
def Db (t : Tf) : List IV := [iI t.kind, sI t.text, iI t.at_]
def Cq (a e : Nat) : Value := .iface 49 (.agg #[.int .i64 a, .int .i64 e])
def A4 (E : Env) (i : Nat) : List IV := [.sl (E.l.map Db) false, iI i, iI E.base, iI E.end_]
def CU (E : Env) : PR NJ → ARes
 | .ok n j => .ret (.agg (Ag n)) (A4 E j)
 | .bad a e => .pan (Cq a e)
theorem mixed : Tryz.prog.follows .mixedOrders = true := by kernel_rfl
theorem Ik : Bx Tryz.prog 27 = some (.struct [⟨0, 1, false⟩, ⟨1, 1, false⟩, ⟨2, 2, true⟩, ⟨4, 1, false⟩, ⟨5, 1, false⟩] [.int .i64 0, .string ⟨#[]⟩, .int .i64 0, .int .i64 0, .slice none 0 0, .slice none 0 0]) := by kernel_rfl
theorem J4 : Bx Tryz.prog 66 = some (.struct [⟨0, 1, false⟩, ⟨1, 1, false⟩, ⟨2, 1, false⟩] [.int .i64 0, .string ⟨#[]⟩, .int .i64 0]) := by kernel_rfl
theorem Kj : Bx Tryz.prog 53 = some (.struct [⟨0, 1, false⟩, ⟨1, 1, false⟩, ⟨2, 1, false⟩, ⟨3, 1, false⟩] [.slice none 0 0, .int .i64 0, .int .i64 0, .int .i64 0]) := by kernel_rfl
theorem GT : Bx Tryz.prog 49 = some (.struct [⟨0, 1, false⟩, ⟨1, 1, false⟩] [.int .i64 0, .int .i64 0]) := by kernel_rfl
theorem Gt : Bx Tryz.prog 24 = some (.slice 27 6) := by kernel_rfl
theorem IE : Bx Tryz.prog 45 = some (.slice 66 3) := by kernel_rfl
theorem Iu : Bx Tryz.prog 25 = some (.slice 9 1) := by kernel_rfl
theorem Ix : Bx Tryz.prog 79 = some (.slice 3 1) := by kernel_rfl
theorem NL : Bx Tryz.prog 23 = some (.struct [⟨0, 1, false⟩, ⟨1, 1, false⟩] [.int .i64 0, .int .i64 0]) := by kernel_rfl
theorem Jp : Bx Tryz.prog 30 = some (.flat (.int .i64 0)) := by kernel_rfl
theorem Ks : Bx Tryz.prog 9 = some (.flat (.string ⟨#[]⟩)) := by kernel_rfl
theorem JH : Bx Tryz.prog 3 = some (.flat (.int .i64 0)) := by kernel_rfl
theorem Ic : Tryz.prog.underlying 45 = some (.slice 66) := by kernel_rfl
theorem GS : Tryz.prog.underlying 24 = some (.slice 27) := by kernel_rfl
theorem ID : Tryz.prog.underlying 25 = some (.slice 9) := by kernel_rfl
theorem JO : Tryz.prog.underlying 9 = some .string := by kernel_rfl
-- ATT
attribute [local go_sem] B9 B3 D0 Kz Nq C2 Mw aop Az Cw EO CG Gg Cp Aw El ET mkS Fj Cg upd CX DG En Dr BT DX DS cellsOf EX Ky Gj Ek Hl EY FV.ok IV.one IV.er IV.erA IV.er1 iI sI bI Ag AJ Db A4 Cq CU lift FH Hy KL FA NW IB Gv Ih GZ BX BG Dp J5 Dh Lg Ft Bk C1 Eo DF Mq Value.oneCell'
attribute [local go_sem] Ik J4 Kj GT Gt IE Iu Ix Ks JH NL Jp Ic GS ID JO -- END
variable {G : World → CS → Prop}
theorem Ju (gk : GK G) (s : ByteArray) : ACalls Tryz.prog G 142 none [sI s] (.ret (.agg (Ag (Dp s))) []) := by
 refine ACalls.enter Tryz.func142 rfl rfl gk Tryz.ntmps142 fun X F => ?_
 refine AW.seq (Ao F ?_); go_simp; refine AW.seq (Ao F ?_); go_simp; apply Au; go_simp
theorem K7 (gk : GK G) (a b : NJ) : ACalls Tryz.prog G 141 none [.agg (Ag a), .agg (Ag b)] (.ret (.agg (Ag (BX 5 ⟨#[]⟩ a b))) []) := by
 obtain ⟨k1, s1, m1, e1, l1, ks1⟩ := a; obtain ⟨k2, s2, m2, e2, l2, ks2⟩ := b; refine ACalls.enter Tryz.func141 rfl rfl gk Tryz.ntmps141 fun X F => ?_
 refine AW.seq (Ao F ?_); go_simp; refine AW.seq (Ao F ?_); go_simp; apply Au; go_simp
open Go Go.RowKit Go.Proofs Th
def sel (ops : Array Oper) : List Nat → List Oper
 | [] => []
 | i :: r => match ops[i]? with
  | some o => o :: sel ops r
  | none => sel ops r
def DU (P : Program) (G : World → CS → Prop) (n : Nat) (ops : Array Oper) (l : List Nat) (K : ASt → Prop) (Qp : Value → ASt → Prop) (s : ASt) : Prop := B9 P G n ops (sel ops l) s K Qp
section
variable {P : Program} {G : World → CS → Prop} {n : Nat} {ops : Array Oper} {K : ASt → Prop} {Qp : Value → ASt → Prop}
theorem Nc (l2 : List Oper) : ∀ (l1 : List Oper) (s : ASt), B9 P G n ops (l1 ++ l2) s K Qp = B9 P G n ops l1 s (fun s' => B9 P G n ops l2 s' K Qp) Qp
 | [], s => rfl
 | o :: r, s => by
  have ih : (fun s' => B9 P G n ops (r ++ l2) s' K Qp) = fun s' => B9 P G n ops r s' (fun s' => B9 P G n ops l2 s' K Qp) Qp := funext fun s' => Nc l2 r s'
  simp only [List.cons_append, B9, ih]
theorem O1 : ∀ (l1 l2 : List Nat), sel ops (l1 ++ l2) = sel ops l1 ++ sel ops l2
 | [], l2 => rfl
 | i :: r, l2 => by
  simp only [List.cons_append, sel, O1 r l2]; cases ops[i]? <;> rfl
theorem AM {l : List Nat} {s : ASt} (l1 l2 : List Nat) (h : B9 P G n ops (sel ops l1) s (DU P G n ops l2 K Qp) Qp) (hl : l = l1 ++ l2 := by rfl) : DU P G n ops l K Qp s := by
 subst hl; unfold DU at h ⊢; rw [O1, Nc]; exact h
theorem lK {l : List Nat} {s : ASt} (k : Nat) (h : B9 P G n ops (sel ops (l.take k)) s (DU P G n ops (l.drop k) K Qp) Qp) : DU P G n ops l K Qp s := AM (l.take k) (l.drop k) h (List.take_append_drop k l).symm
theorem Ac {l : List Nat} {s : ASt} (h : B9 P G n ops (sel ops l) s K Qp) : DU P G n ops l K Qp s := h
theorem Lq : ∀ (m : Nat) (l : List Oper), (∀ j, l[j]? = ops[m + j]?) → sel ops (List.range' m l.length) = l
 | _, [], _ => rfl
 | m, o :: r, hl => by
  have h0 : ops[m]? = some o := (hl 0).symm; simp only [List.length_cons, List.range'_succ, sel, h0]; rw [Lq (m + 1) r fun j => by rw [show m + 1 + j = m + (j + 1) from by omega, ← hl (j + 1)]; rfl]
theorem Ah {X : Ctx} {id : Nat} {Q : AExit → ASt → Prop} {s : ASt} (F : Fit X G n) (l1 l2 : List Nat) (hl : List.range' 0 ops.size = l1 ++ l2) (h : B9 P G n ops (sel ops l1) s (DU P G n ops l2 (fun s' => Q .normal s') (fun x s' => Q (.panic x) s')) (fun x s' => Q (.panic x) s')) : AW P X (.region id ops false) Q s := by
 apply Ar F; have h2 := AM l1 l2 h hl; have e2 := Lq (ops := ops) 0 ops.toList fun j => by rw [Nat.zero_add, Array.getElem?_toList]
 unfold DU at h2; rw [show ops.size = ops.toList.length from rfl, e2] at h2; exact h2
end
open Go Go.RowKit Go.Proofs Th
def GL (G : World → CS → Prop) (g o : Nat) (d : Int) : World → CS → Prop := fun W S => G W S ∧ S g o ∧ W.cell? ⟨g, o, none⟩ = some (.int .i64 d)
theorem gkL {G : World → CS → Prop} {g o : Nat} {d : Int} (gk : GK G) : GK (GL G g o d) := fun _W _W' _S _S' ⟨h1, h2, h3⟩ hc hs => ⟨gk _ _ _ _ h1 hc hs, hs _ _ h2, (hc _ _ h2).trans h3⟩
def FX (fc : FuncId) (g o : Nat) : Value := .func (.func fc) #[] #[.pointer (some ⟨g, o, none⟩)]
section
variable {P : Program} {X : Ctx} {ops : Array Oper} {Q : AExit → ASt → Prop} {n : Nat}
theorem FM (hn : n ≤ X.N) {K : ASt → Prop} (l2 : List Oper) (h2 : ∀ s a W, Rel X s a W → K s → wpList P ops (Dq X Q) l2 a W) : ∀ (l : List Oper) {s : ASt} {a : Act} {W : World}, Rel X s a W → B9 P X.G n ops l s K (fun x s' => Q (.panic x) s') → wpList P ops (Dq X Q) (l ++ l2) a W
 | [], s, a, W, h, hop => h2 s a W h hop
 | o :: r, s, a, W, ⟨E, S, h⟩, hop => by
  rw [List.cons_append]; simp only [B9] at hop; split at hop
  ·rename_i hg
   unfold wpList; rw [if_pos (Do h hg rfl)]; exact Or.inl (Oper.wp_mono (fun a' W' ⟨s', hR, hK⟩ => FM hn l2 h2 r hR hK) (Hv hn h hop))
  ·rename_i hg
   unfold wpList; rw [if_neg (by rw [Do h hg rfl]; simp)]; obtain ⟨s', hR, hK⟩ := Ey (c := .im (.v undef)) (u := undef) hn h (Rep.v undef) hop; exact FM hn l2 h2 r hR hK
  exact hop.elim
structure CloS (P : Program) (G : World → CS → Prop) (f fc : FuncId) (t u b : Nat) (s : ASt) (bv : Bool) : Prop where
 t : s.fr t = .ptr b 0
 ex : ∃ (d : Int) (es : List (List IV)), s.st b = .box [.im (.v (.int .i64 d))] ∧ s.fr u = .im (.sl es false) ∧ ∀ g o, ACalls P (GL G g o d) f none [.sl es false, .v (FX fc g o)] (.ret (.v (.bool bv)) [])
theorem Vx {id : Nat} {s : ASt} {G : World → CS → Prop} (bv : Bool) (F : Fit X G n) (gk : GK G) (l1 l2 : List Oper) (o1 o2 : Oper) (hops : ops.toList = l1 ++ (o1 :: o2 :: l2)) {f fc : FuncId} {c : Call} {t u b d1 d2 : Nat} (hne : u ≠ d1)
  (h1 : o1.op = .makeFunc (.func fc) #[] #[.tmp t] ∧ o1.dst = some d1 ∧ o1.guard = none ∧ d1 < n) (h2 : o2.op = .call c ∧ c.callee = .value (.func f) ∧ c.args.toList = [.tmp u, .tmp d1] ∧ o2.dst = some d2 ∧ o2.guard = none ∧ d2 < n)
  (h : B9 P G n ops l1 s (fun s' => CloS P G f fc t u b s' bv ∧ B9 P G n ops l2 ⟨upd (upd s'.fr d1 .junk) d2 (.im (.v (.bool bv))), s'.st⟩ (fun s'' => Q .normal s'') (fun x s'' => Q (.panic x) s'')) (fun x s' => Q (.panic x) s')) : AW P X (.region id ops false) Q s := by
 intro a W hR; refine wp_region_list ?_; rw [hops]; refine FM F.n (o1 :: o2 :: l2) ?_ l1 hR (by rw [F.g]; exact h); rintro s1 a1 W1 ⟨E, S, h0⟩ ⟨⟨ht, d, es, hst, hu, hC⟩, hl2⟩; obtain ⟨p1, p2, p3, p4⟩ := h1; obtain ⟨q1, q2, q3, q4, q5, q6⟩ := h2; have hp := Cl h0 (x := .tmp t) ht; have hob := h0.ob b; rw [hst] at hob; obtain ⟨⟨us, hul, hB, hu1, hur, hS⟩, hloc⟩ := hob; have hone : us.length = 1 := hul; obtain ⟨u0, hu0⟩ : ∃ u0, us = [u0] := by
  rcases us with _ | ⟨u0, _ | ⟨u1, r⟩⟩
  ·cases hone
  ·exact ⟨u0, rfl⟩
  simp at hone
 subst hu0; obtain rfl : u0 = .int .i64 d := Cz (hur 0 _ u0 rfl rfl); have hcell : W1.cell? ⟨E.box b, 0, none⟩ = some (.int .i64 d) := hB.cell 0 _ rfl; -- the closure
 unfold wpList; rw [if_pos (by unfold Region.wanted; rw [p3])]; refine Or.inl ?_; unfold Oper.wp; rw [show (execOp a1.eval o1).run P W1 = .ok (.value (.func (.func fc) #[] #[.pointer (some ⟨E.box b, 0, none⟩)])) W1 by simp [execOp, p1, Instr.makeFunc, hp]]; show wpList P ops (Dq X Q) (o2 :: l2) (a1.put o1.dst (FX fc (E.box b) 0)) W1
 rw [p2]; have hR1 : RelE X E S ⟨upd s1.fr d1 .junk, s1.st⟩ (a1.put (some d1) (FX fc (E.box b) 0)) W1 := h0.put d1 (Nat.lt_of_lt_of_le p4 F.n) trivial; have ev1 : (a1.put (some d1) (FX fc (E.box b) 0)).eval (.tmp d1) = FX fc (E.box b) 0 := by
  have hlt : d1 < a1.tmps.size := by rw [h0.sz]; exact Nat.lt_of_lt_of_le p4 F.n
  show (a1.tmps.setIfInBounds d1 _).getD d1 undef = _
  simp [Array.getD, hlt]
 have hsl := A5 hR1 (.tmp u); rw [show Aw ⟨upd s1.fr d1 .junk, s1.st⟩ (.tmp u) = .im (.sl es false) from (BD _ _ hne).trans hu] at hsl; generalize a1.put (some d1) (FX fc (E.box b) 0) = a2 at hR1 ev1 hsl; obtain ⟨hf, hcalls⟩ := hC (E.box b) 0; -- the call
 unfold wpList; rw [if_pos (by unfold Region.wanted; rw [q5])]; refine Or.inl ?_; unfold Oper.wp; rw [Hs q1 q2 q3 hf]; have hcall := hcalls W1 (fun g o => S g o ∨ (g = E.box b ∧ o = 0)) 0 [a2.eval (.tmp u), a2.eval (.tmp d1)] ⟨gk _ _ _ _ (F.g ▸ h0.g) (fun _ _ _ => rfl) (fun _ _ h => .inl h), .inr ⟨rfl, rfl⟩, hcell⟩
  (fun g o ho => ho.elim (h0.Sb g o) (fun e => by rw [e.1]; exact hB.lt)) (fun cs hh => by cases hh)
  (RepL.cons (Rep.keep hsl (fun _ _ _ => rfl) (fun _ _ h => .inl h)) (RepL.cons (by rw [ev1]; exact .v _) (RepL.nil _ _)))
 refine Calls.mono hcall (fun e W' hp => ?_); obtain ⟨⟨v, rfl, hv⟩, _, hud⟩ := hp; obtain rfl := Cz hv; show wpList P ops (Dq X Q) l2 (a2.put o2.dst (.bool bv)) W'
 rw [q4]; exact E8 F.n ops l2 ⟨E, _, RelE.put (hR1.called0 hud) d2 (Nat.lt_of_lt_of_le q6 F.n) (c := .im (.v (.bool bv))) (Rep.v _)⟩ (by rw [F.g]; exact hl2)
end
open Go Go.RowKit Go.Proofs Th
def AWg (P : Program) (X : Ctx) (c : Code) (Post : Exit → Act → World → Prop) (s : ASt) : Prop := ∀ a W, Rel X s a W → c.wp P Post a W
def AGo (K : ASt → Prop) : AExit → ASt → Prop
 | .normal, s => K s
 | _, _ => False
instance {K : ASt → Prop} : PanicOK (AGo K) := ⟨fun _ _ _ _ h => h⟩
theorem AWg.seq {P : Program} {X : Ctx} {x y : Code} {Post : Exit → Act → World → Prop} {s : ASt} (h : AW P X x (AGo (AWg P X y Post)) s) : AWg P X (.seq x y) Post s := fun a W hR =>
 wp_seq (wp_mono (h a W hR) fun e a' W' hq => by
  cases e with
  | normal => obtain ⟨s', hR', hK⟩ := hq; exact hK _ _ hR'
  | ret => obtain ⟨s', _, hK⟩ := hq; exact hK.elim
  | panic ch => obtain ⟨s', x, _, _, hK⟩ := hq; exact hK.elim
  | exit id => obtain ⟨s', _, hK⟩ := hq; exact hK.elim
  | goto l => obtain ⟨s', _, hK⟩ := hq; exact hK.elim
  | outgrown => exact hq.elim)
def Ctx.with (X : Ctx) (d : List Deferred) : Ctx := { X with dfr := d }
theorem RelE.with {X : Ctx} {E : AEnv} {S : CS} {s : ASt} {a : Act} {W : World} (h : RelE X E S s a W) (d : List Deferred) : RelE (X.with d) E S s { a with defers := d } W :=
 ⟨h.sz, rfl, h.fr, fun id => by have := h.ob id; cases hs : s.st id <;> (rw [hs] at this; exact this), h.ap, h.Sb, h.S0, h.Sn, h.u, h.g, h.pk, h.bk⟩
theorem AWg.of {P : Program} {X : Ctx} {c : Code} {Post : Exit → Act → World → Prop} {s : ASt} (Q : AExit → ASt → Prop) (h : AW P X c Q s) (hq : ∀ e a W, Dq X Q e a W → Post e a W) : AWg P X c Post s := fun a W hR => wp_mono (h a W hR) hq
theorem Mk {P : Program} {G : World → CS → Prop} {f : FuncId} {fn : Func} {c : Code} {xa : List IV} {res : ARes} {n : Nat} (hf : P.funcs[f]? = some fn) (hb : fn.body = some c) (hnm : (fn.name == "runtime.NumGoroutine") = false) (gk : GK G) (hn : fn.ntmps = n)
  (h : ∀ (X : Ctx) (W : World) (S : CS) (p : Nat), Fit X G n → X.W0 = W → X.S0 = S → X.R = (fun k => (none : Option (List IV)).isSome = true ∧ k = p) → X.rcv = false → X.dfr = [] → AWg P X c (bodyPostD P fn fun e w' => res.post W S p none e w') (ET none xa)) : ACalls P G f none xa res := by
 refine ⟨⟨fn, hf, by rw [hb]; rfl, hnm⟩, fun W S p us hG hSb _ hus => ?_⟩; have harr : ∀ (l : List Value) k, l.toArray ++ Array.replicate k undef = (l ++ List.replicate k undef).toArray := fun l k => by simp
 obtain ⟨X, hX⟩ : ∃ X : Ctx, X = ⟨W, S, fun k => (none : Option (List IV)).isSome = true ∧ k = p, ((Df none p us).toArray ++ Array.replicate (fn.ntmps - (Df none p us).toArray.size) undef).size, p, false, G, gk, []⟩ := ⟨_, rfl⟩
 have hFit : Fit X G n := ⟨by rw [hX], by rw [hX, ← hn]; simp; omega⟩; have hrel : RelE X ⟨fun _ => p, fun _ => undef⟩ S (ET none xa) { tmps := (Df none p us).toArray ++ Array.replicate (fn.ntmps - (Df none p us).toArray.size) undef, defers := [] } W := by
  refine ⟨by rw [hX], by rw [hX], fun t => ?_, fun id => trivial, fun i j g hi _ => (by cases hi), hSb, fun g o ho => by rw [hX] at ho; exact ho, fun g o ho => Or.inl (by rw [hX]; exact ho), by rw [hX]; exact UpdR.refl _ _, by rw [hX]; exact hG, by rw [hX], fun h => by rw [hX] at h; cases h⟩; show Bv W S _ _ (Cg .junk (Fj 0 xa) t) (((Df none p us).toArray ++ Array.replicate (fn.ntmps - (Df none p us).toArray.size) undef).getD t undef)
  rw [IF, if_pos (Nat.zero_le _), harr]; exact MF us 0 us xa W S _ _ hus [] rfl t (Nat.zero_le _) _
 exact calls_of_wp_defers hf hb (h X W S p hFit (by rw [hX]) (by rw [hX]) (by rw [hX]) (by rw [hX]) (by rw [hX]) _ W ⟨_, S, hrel⟩)
attribute [go_sem] B9 B3 D0 Kz Nq C2 Mw aop Az Cw EO CG Gg Cp Aw El ET mkS Fj Cg upd CX DG En Dr BT DX DS cellsOf EX Ky Gj Ek Hl EY FV.ok IV.one IV.er IV.erA IV.er1 iI sI bI Ag AJ Db A4 Cq CU lift FH Hy KL FA NW IB Gv Ih GZ BX BG Dp J5 Dh Lg Ft Bk C1 Eo DF Mq Value.oneCell'
end Go.Proofs.YtakncilicoefdaaGreatDoor
