/- Lemmas and contracts. Conditions: those that each lemma names. -/
import Derived.Test.YtakncilicoefdaaGreatDoorPz22
set_option maxRecDepth 100000
set_option maxHeartbeats 4000000
namespace Go.Proofs.YtakncilicoefdaaGreatDoor
open Go Go.RowKit Go.Proofs Th
def iI (n : Int) : IV := .v (.int .i64 n)
def sI (s : ByteArray) : IV := .v (.string s)
def bI (b : Bool) : IV := .v (.bool b)
mutual
def Al : NJ → List IV
 | .mk k s m e l ks => [iI k, sI s, iI m, iI e, .sl (A6 l) false, .sl (ks.map fun x => [sI x]) false]
def A6 : List NJ → List (List IV)
 | [] => []
 | n :: r => Al n :: A6 r
end
def DO (t : Tf) : List IV := [iI t.kind, sI t.text, iI t.at_]
def C1 (a e : Nat) : Value := .iface 49 (.agg #[.int .i64 a, .int .i64 e])
def A5 (E : Env) (i : Nat) : List IV := [.sl (E.l.map DO) false, iI i, iI E.base, iI E.end_]
def CG (E : Env) : PR NJ → ARes
 | .ok n j => .ret (.agg (Al n)) (A5 E j)
 | .bad a e => .pan (C1 a e)
theorem mixed : Tryz.prog.follows .mixedOrders = true := by kernel_rfl
theorem J7 : Cg Tryz.prog 27 = some (.struct [⟨0, 1, false⟩, ⟨1, 1, false⟩, ⟨2, 2, true⟩, ⟨4, 1, false⟩, ⟨5, 1, false⟩] [.int .i64 0, .string ⟨#[]⟩, .int .i64 0, .int .i64 0, .slice none 0 0, .slice none 0 0]) := by kernel_rfl
theorem LK : Cg Tryz.prog 66 = some (.struct [⟨0, 1, false⟩, ⟨1, 1, false⟩, ⟨2, 1, false⟩] [.int .i64 0, .string ⟨#[]⟩, .int .i64 0]) := by kernel_rfl
theorem LI : Cg Tryz.prog 53 = some (.struct [⟨0, 1, false⟩, ⟨1, 1, false⟩, ⟨2, 1, false⟩, ⟨3, 1, false⟩] [.slice none 0 0, .int .i64 0, .int .i64 0, .int .i64 0]) := by kernel_rfl
theorem Iu : Cg Tryz.prog 49 = some (.struct [⟨0, 1, false⟩, ⟨1, 1, false⟩] [.int .i64 0, .int .i64 0]) := by kernel_rfl
theorem Ij : Cg Tryz.prog 24 = some (.slice 27 6) := by kernel_rfl
theorem Kk : Cg Tryz.prog 45 = some (.slice 66 3) := by kernel_rfl
theorem J1 : Cg Tryz.prog 25 = some (.slice 9 1) := by kernel_rfl
theorem J3 : Cg Tryz.prog 79 = some (.slice 3 1) := by kernel_rfl
theorem Oz : Cg Tryz.prog 23 = some (.struct [⟨0, 1, false⟩, ⟨1, 1, false⟩] [.int .i64 0, .int .i64 0]) := by kernel_rfl
theorem Ln : Cg Tryz.prog 30 = some (.flat (.int .i64 0)) := by kernel_rfl
theorem Mc : Cg Tryz.prog 9 = some (.flat (.string ⟨#[]⟩)) := by kernel_rfl
theorem LQ : Cg Tryz.prog 3 = some (.flat (.int .i64 0)) := by kernel_rfl
attribute [local go_sem] B0 Dz Fc OJ Qc DU O6 aop AH Dm FL Dx H4 Df Aw Fm FP mkS GM CW upd DK Ev Fh Ej CE EM EG cellsOf F9 LN Ie Fu JK F7 FV.ok IV.one IV.er IV.erA IV.er1 iI sI bI Al A6 DO A5 C1 CG lift G9 Jb ML G2 Pq JU IQ JQ Io Ax Ag Bg Cy BR EA noTf BC DV E9 Eu Oe Value.oneCell'
attribute [local go_sem] J7 LK LI Iu Ij Kk J1 J3 Mc LQ Oz Ln -- END
variable {G : World → CS → Prop}
theorem EU (gk : GK G) (s : ByteArray) : ACalls Tryz.prog G 142 none [sI s] (.ret (.agg (Al (Bg s))) []) := by
 refine ACalls.enter Tryz.func142 rfl rfl gk Tryz.ntmps142 fun X F => ?_
 refine AW.seq (AO F ?_); go_simp; refine AW.seq (AO F ?_); go_simp; apply Au; go_simp
theorem Fx (gk : GK G) (a b : NJ) : ACalls Tryz.prog G 141 none [.agg (Al a), .agg (Al b)] (.ret (.agg (Al (Ax 5 ⟨#[]⟩ a b))) []) := by
 obtain ⟨k1, s1, m1, e1, l1, ks1⟩ := a; obtain ⟨k2, s2, m2, e2, l2, ks2⟩ := b; refine ACalls.enter Tryz.func141 rfl rfl gk Tryz.ntmps141 fun X F => ?_
 refine AW.seq (AO F ?_); go_simp; refine AW.seq (AO F ?_); go_simp; apply Au; go_simp
open Go Go.RowKit Go.Proofs Th
def sel (ops : Array Oper) : List Nat → List Oper
 | [] => []
 | i :: r => match ops[i]? with
  | some o => o :: sel ops r
  | none => sel ops r
def FZ (P : Program) (G : World → CS → Prop) (n : Nat) (ops : Array Oper) (l : List Nat) (K : ASt → Prop) (Qp : Value → ASt → Prop) (s : ASt) : Prop := B0 P G n ops (sel ops l) s K Qp
section
variable {P : Program} {G : World → CS → Prop} {n : Nat} {ops : Array Oper} {K : ASt → Prop} {Qp : Value → ASt → Prop}
theorem P4 (l2 : List Oper) : ∀ (l1 : List Oper) (s : ASt), B0 P G n ops (l1 ++ l2) s K Qp = B0 P G n ops l1 s (fun s' => B0 P G n ops l2 s' K Qp) Qp
 | [], s => rfl
 | o :: r, s => by
  have ih : (fun s' => B0 P G n ops (r ++ l2) s' K Qp) = fun s' => B0 P G n ops r s' (fun s' => B0 P G n ops l2 s' K Qp) Qp := funext fun s' => P4 l2 r s'
  simp only [List.cons_append, B0, ih]
theorem Rf : ∀ (l1 l2 : List Nat), sel ops (l1 ++ l2) = sel ops l1 ++ sel ops l2
 | [], l2 => rfl
 | i :: r, l2 => by
  simp only [List.cons_append, sel, Rf r l2]; cases ops[i]? <;> rfl
theorem A0 {l : List Nat} {s : ASt} (l1 l2 : List Nat) (h : B0 P G n ops (sel ops l1) s (FZ P G n ops l2 K Qp) Qp) (hl : l = l1 ++ l2 := by rfl) : FZ P G n ops l K Qp s := by
 subst hl; unfold FZ at h ⊢; rw [Rf, P4]; exact h
theorem lK {l : List Nat} {s : ASt} (k : Nat) (h : B0 P G n ops (sel ops (l.take k)) s (FZ P G n ops (l.drop k) K Qp) Qp) : FZ P G n ops l K Qp s := A0 (l.take k) (l.drop k) h (List.take_append_drop k l).symm
theorem Ap {l : List Nat} {s : ASt} (h : B0 P G n ops (sel ops l) s K Qp) : FZ P G n ops l K Qp s := h
theorem NC : ∀ (m : Nat) (l : List Oper), (∀ j, l[j]? = ops[m + j]?) → sel ops (List.range' m l.length) = l
 | _, [], _ => rfl
 | m, o :: r, hl => by
  have h0 : ops[m]? = some o := (hl 0).symm; simp only [List.length_cons, List.range'_succ, sel, h0]; rw [NC (m + 1) r fun j => by rw [show m + 1 + j = m + (j + 1) from by omega, ← hl (j + 1)]; rfl]
theorem AA {X : Ctx} {id : Nat} {Q : AExit → ASt → Prop} {s : ASt} (F : Fit X G n) (l1 l2 : List Nat) (hl : List.range' 0 ops.size = l1 ++ l2) (h : B0 P G n ops (sel ops l1) s (FZ P G n ops l2 (fun s' => Q .normal s') (fun x s' => Q (.panic x) s')) (fun x s' => Q (.panic x) s')) : AW P X (.region id ops false) Q s := by
 apply Ar F; have h2 := A0 l1 l2 h hl; have e2 := NC (ops := ops) 0 ops.toList fun j => by rw [Nat.zero_add, Array.getElem?_toList]
 unfold FZ at h2; rw [show ops.size = ops.toList.length from rfl, e2] at h2; exact h2
end
open Go Go.RowKit Go.Proofs Th
def GL (G : World → CS → Prop) (g o : Nat) (d : Int) : World → CS → Prop := fun W S => G W S ∧ S g o ∧ W.cell? ⟨g, o, none⟩ = some (.int .i64 d)
theorem gkL {G : World → CS → Prop} {g o : Nat} {d : Int} (gk : GK G) : GK (GL G g o d) := fun _W _W' _S _S' ⟨h1, h2, h3⟩ hc hs => ⟨gk _ _ _ _ h1 hc hs, hs _ _ h2, (hc _ _ h2).trans h3⟩
def Hr (fc : FuncId) (g o : Nat) : Value := .func (.func fc) #[] #[.pointer (some ⟨g, o, none⟩)]
section
variable {P : Program} {X : Ctx} {ops : Array Oper} {Q : AExit → ASt → Prop} {n : Nat}
theorem He (hn : n ≤ X.N) {K : ASt → Prop} (l2 : List Oper) (h2 : ∀ s a W, Rel X s a W → K s → wpList P ops (Em X Q) l2 a W) : ∀ (l : List Oper) {s : ASt} {a : Act} {W : World}, Rel X s a W → B0 P X.G n ops l s K (fun x s' => Q (.panic x) s') → wpList P ops (Em X Q) (l ++ l2) a W
 | [], s, a, W, h, hop => h2 s a W h hop
 | o :: r, s, a, W, ⟨E, S, h⟩, hop => by
  rw [List.cons_append]; simp only [B0] at hop; split at hop
  ·rename_i hg
   unfold wpList; rw [if_pos (Ef h hg rfl)]; exact Or.inl (Oper.wp_mono (fun a' W' ⟨s', hR, hK⟩ => He hn l2 h2 r hR hK) (JD hn h hop))
  ·rename_i hg
   unfold wpList; rw [if_neg (by rw [Ef h hg rfl]; simp)]; obtain ⟨s', hR, hK⟩ := FB (c := .im (.v undef)) (u := undef) hn h (Rep.v undef) hop; exact He hn l2 h2 r hR hK
  exact hop.elim
structure CloS (P : Program) (G : World → CS → Prop) (f fc : FuncId) (t u b : Nat) (s : ASt) (bv : Bool) : Prop where
 t : s.fr t = .ptr b 0
 ex : ∃ (d : Int) (es : List (List IV)), s.st b = .box [.im (.v (.int .i64 d))] ∧ s.fr u = .im (.sl es false) ∧ ∀ g o, ACalls P (GL G g o d) f none [.sl es false, .v (Hr fc g o)] (.ret (.v (.bool bv)) [])
theorem ZP {id : Nat} {s : ASt} {G : World → CS → Prop} (bv : Bool) (F : Fit X G n) (gk : GK G) (l1 l2 : List Oper) (o1 o2 : Oper) (hops : ops.toList = l1 ++ (o1 :: o2 :: l2)) {f fc : FuncId} {c : Call} {t u b d1 d2 : Nat} (hne : u ≠ d1)
  (h1 : o1.op = .makeFunc (.func fc) #[] #[.tmp t] ∧ o1.dst = some d1 ∧ o1.guard = none ∧ d1 < n) (h2 : o2.op = .call c ∧ c.callee = .value (.func f) ∧ c.args.toList = [.tmp u, .tmp d1] ∧ o2.dst = some d2 ∧ o2.guard = none ∧ d2 < n)
  (h : B0 P G n ops l1 s (fun s' => CloS P G f fc t u b s' bv ∧ B0 P G n ops l2 ⟨upd (upd s'.fr d1 .junk) d2 (.im (.v (.bool bv))), s'.st⟩ (fun s'' => Q .normal s'') (fun x s'' => Q (.panic x) s'')) (fun x s' => Q (.panic x) s')) : AW P X (.region id ops false) Q s := by
 intro a W hR; refine wp_region_list ?_; rw [hops]; refine He F.n (o1 :: o2 :: l2) ?_ l1 hR (by rw [F.g]; exact h); rintro s1 a1 W1 ⟨E, S, h0⟩ ⟨⟨ht, d, es, hst, hu, hC⟩, hl2⟩; obtain ⟨p1, p2, p3, p4⟩ := h1; obtain ⟨q1, q2, q3, q4, q5, q6⟩ := h2; have hp := C5 h0 (x := .tmp t) ht; have hob := h0.ob b; rw [hst] at hob; obtain ⟨⟨us, hul, hB, hu1, hur, hS⟩, hloc⟩ := hob; have hone : us.length = 1 := hul; obtain ⟨u0, hu0⟩ : ∃ u0, us = [u0] := by
  rcases us with _ | ⟨u0, _ | ⟨u1, r⟩⟩
  ·cases hone
  ·exact ⟨u0, rfl⟩
  simp at hone
 subst hu0; obtain rfl : u0 = .int .i64 d := Dl (hur 0 _ u0 rfl rfl); have hcell : W1.cell? ⟨E.box b, 0, none⟩ = some (.int .i64 d) := hB.cell 0 _ rfl; -- the closure
 unfold wpList; rw [if_pos (by unfold Region.wanted; rw [p3])]; refine Or.inl ?_; unfold Oper.wp; rw [show (execOp a1.eval o1).run P W1 = .ok (.value (.func (.func fc) #[] #[.pointer (some ⟨E.box b, 0, none⟩)])) W1 by simp [execOp, p1, Instr.makeFunc, hp]]; show wpList P ops (Em X Q) (o2 :: l2) (a1.put o1.dst (Hr fc (E.box b) 0)) W1
 rw [p2]; have hR1 : RelE X E S ⟨upd s1.fr d1 .junk, s1.st⟩ (a1.put (some d1) (Hr fc (E.box b) 0)) W1 := h0.put d1 (Nat.lt_of_lt_of_le p4 F.n) trivial; have ev1 : (a1.put (some d1) (Hr fc (E.box b) 0)).eval (.tmp d1) = Hr fc (E.box b) 0 := by
  have hlt : d1 < a1.tmps.size := by rw [h0.sz]; exact Nat.lt_of_lt_of_le p4 F.n
  show (a1.tmps.setIfInBounds d1 _).getD d1 undef = _
  simp [Array.getD, hlt]
 have hsl := Br hR1 (.tmp u); rw [show Aw ⟨upd s1.fr d1 .junk, s1.st⟩ (.tmp u) = .im (.sl es false) from (Ce _ _ hne).trans hu] at hsl; generalize a1.put (some d1) (Hr fc (E.box b) 0) = a2 at hR1 ev1 hsl; obtain ⟨hf, hcalls⟩ := hC (E.box b) 0; -- the call
 unfold wpList; rw [if_pos (by unfold Region.wanted; rw [q5])]; refine Or.inl ?_; unfold Oper.wp; rw [Jx q1 q2 q3 hf]; have hcall := hcalls W1 (fun g o => S g o ∨ (g = E.box b ∧ o = 0)) 0 [a2.eval (.tmp u), a2.eval (.tmp d1)] ⟨gk _ _ _ _ (F.g ▸ h0.g) (fun _ _ _ => rfl) (fun _ _ h => .inl h), .inr ⟨rfl, rfl⟩, hcell⟩
  (fun g o ho => ho.elim (h0.Sb g o) (fun e => by rw [e.1]; exact hB.lt)) (fun cs hh => by cases hh)
  (RepL.cons (Rep.keep hsl (fun _ _ _ => rfl) (fun _ _ h => .inl h)) (RepL.cons (by rw [ev1]; exact .v _) (RepL.nil _ _)))
 refine Calls.mono hcall (fun e W' hp => ?_); obtain ⟨⟨v, rfl, hv⟩, _, hud⟩ := hp; obtain rfl := Dl hv; show wpList P ops (Em X Q) l2 (a2.put o2.dst (.bool bv)) W'
 rw [q4]; exact Gk F.n ops l2 ⟨E, _, RelE.put (hR1.called0 hud) d2 (Nat.lt_of_lt_of_le q6 F.n) (c := .im (.v (.bool bv))) (Rep.v _)⟩ (by rw [F.g]; exact hl2)
end
open Go Go.RowKit Go.Proofs Th
def AWg (P : Program) (X : Ctx) (c : Code) (Post : Exit → Act → World → Prop) (s : ASt) : Prop := ∀ a W, Rel X s a W → c.wp P Post a W
def AGo (K : ASt → Prop) : AExit → ASt → Prop
 | .normal, s => K s
 | _, _ => False
instance {K : ASt → Prop} : PanicOK (AGo K) := ⟨fun _ _ _ _ h => h⟩
theorem AWg.seq {P : Program} {X : Ctx} {x y : Code} {Post : Exit → Act → World → Prop} {s : ASt} (h : AW P X x (AGo (AWg P X y Post)) s) : AWg P X (.seq x y) Post s := fun a W hR =>
 wp_seq (wp_mono (h a W hR) fun e a' W' hq => by
  cases e with
  | normal => obtain ⟨s', hR', hK⟩ := hq; exact hK _ _ hR'
  | ret => obtain ⟨s', _, hK⟩ := hq; exact hK.elim
  | panic ch => obtain ⟨s', x, _, _, hK⟩ := hq; exact hK.elim
  | exit id => obtain ⟨s', _, hK⟩ := hq; exact hK.elim
  | goto l => obtain ⟨s', _, hK⟩ := hq; exact hK.elim
  | outgrown => exact hq.elim)
def Ctx.with (X : Ctx) (d : List Deferred) : Ctx := { X with dfr := d }
theorem RelE.with {X : Ctx} {E : AEnv} {S : CS} {s : ASt} {a : Act} {W : World} (h : RelE X E S s a W) (d : List Deferred) : RelE (X.with d) E S s { a with defers := d } W :=
 ⟨h.sz, rfl, h.fr, fun id => by have := h.ob id; cases hs : s.st id <;> (rw [hs] at this; exact this), h.ap, h.Sb, h.S0, h.Sn, h.u, h.g, h.pk, h.bk⟩
theorem N7 {P : Program} {G : World → CS → Prop} {f : FuncId} {fn : Func} {c : Code} {xa : List IV} {res : ARes} {n : Nat} (hf : P.funcs[f]? = some fn) (hb : fn.body = some c) (hnm : (fn.name == "runtime.NumGoroutine") = false) (gk : GK G) (hn : fn.ntmps = n)
  (h : ∀ (X : Ctx) (W : World) (S : CS) (p : Nat), Fit X G n → X.W0 = W → X.S0 = S → X.R = (fun k => (none : Option (List IV)).isSome = true ∧ k = p) → X.rcv = false → X.dfr = [] → AWg P X c (bodyPostD P fn fun e w' => res.post W S p none e w') (FP none xa)) : ACalls P G f none xa res := by
 refine ⟨⟨fn, hf, by rw [hb]; rfl, hnm⟩, fun W S p us hG hSb _ hus => ?_⟩; have harr : ∀ (l : List Value) k, l.toArray ++ Array.replicate k undef = (l ++ List.replicate k undef).toArray := fun l k => by simp
 obtain ⟨X, hX⟩ : ∃ X : Ctx, X = ⟨W, S, fun k => (none : Option (List IV)).isSome = true ∧ k = p, ((D7 none p us).toArray ++ Array.replicate (fn.ntmps - (D7 none p us).toArray.size) undef).size, p, false, G, gk, []⟩ := ⟨_, rfl⟩
 have hFit : Fit X G n := ⟨by rw [hX], by rw [hX, ← hn]; simp; omega⟩; have hrel : RelE X ⟨fun _ => p, fun _ => undef⟩ S (FP none xa) { tmps := (D7 none p us).toArray ++ Array.replicate (fn.ntmps - (D7 none p us).toArray.size) undef, defers := [] } W := by
  refine ⟨by rw [hX], by rw [hX], fun t => ?_, fun id => trivial, fun i j g hi _ => (by cases hi), hSb, fun g o ho => by rw [hX] at ho; exact ho, fun g o ho => Or.inl (by rw [hX]; exact ho), by rw [hX]; exact UpdR.refl _ _, by rw [hX]; exact hG, by rw [hX], fun h => by rw [hX] at h; cases h⟩; show B4 W S _ _ (CW .junk (GM 0 xa) t) (((D7 none p us).toArray ++ Array.replicate (fn.ntmps - (D7 none p us).toArray.size) undef).getD t undef)
  rw [JX, if_pos (Nat.zero_le _), harr]; exact OI us 0 us xa W S _ _ hus [] rfl t (Nat.zero_le _) _
 exact calls_of_wp_defers hf hb (h X W S p hFit (by rw [hX]) (by rw [hX]) (by rw [hX]) (by rw [hX]) (by rw [hX]) _ W ⟨_, S, hrel⟩)
open Go Go.RowKit Go.Proofs Th
def J5 (E : Env) : Prop := ∀ t ∈ E.l, (t.kind = 1 ∨ t.kind = 2 ∨ t.kind = 3 → Bf t.text = true) ∧ (t.kind = 4 → Cw (tl t.text) = true)
theorem UW (L : List UInt8) (q : Nat → Nat × Nat) (b : Nat) : ((BG L q b).1.kind = 1 ∨ (BG L q b).1.kind = 2 ∨ (BG L q b).1.kind = 3 → Bf (BG L q b).1.text = true) ∧ ((BG L q b).1.kind = 4 → Cw (tl (BG L q b).1.text) = true) := by
 have no : ∀ k, k ≠ 0 → noTf.kind = k → False := fun k hk h => hk h.symm
 unfold BG; cases hd : L.drop b with
 | nil => exact ⟨fun h => by rcases h with h | h | h <;> exact (no _ (by decide) h).elim, fun h => (no _ (by decide) h).elim⟩
 | cons c r =>
  dsimp only; by_cases h34 : c = 34
  ·rw [if_pos h34]
   by_cases h3 : (q b).2 ≠ 0
   ·rw [if_pos h3]; exact ⟨fun h => by rcases h with h | h | h <;> exact (no _ (by decide) h).elim, fun h => (no _ (by decide) h).elim⟩
   rw [if_neg h3]; exact ⟨fun h => (by rcases h with h | h | h <;> cases h), fun h => (by cases h)⟩
  rw [if_neg h34]; by_cases h4 : (Bj (c :: r)).1 = 0
  ·rw [if_pos h4]; exact ⟨fun h => by rcases h with h | h | h <;> exact (no _ (by decide) h).elim, fun h => (no _ (by decide) h).elim⟩
  rw [if_neg h4]; rcases Eg c r with ⟨h, _⟩ | ⟨k, n, h, h1, h2, h3, h5, h6, h7⟩
  ·rw [h] at h4; exact absurd rfl h4
  rw [h]; dsimp only; unfold Dv at h6; have hx : ∀ l : List UInt8, Bf ⟨l.toArray⟩ = Bc l := fun _ => rfl
  refine ⟨fun hk => ?_, fun hk => ?_⟩
  ·rw [hx]
   split at h6
   ·rename_i g; rw [← h6, if_neg (by decide)]; exact g
   split at h6
   ·rename_i g; rw [← h6, if_pos (.inl rfl), List.drop_one]; exact g.2
   split at h6
   ·rename_i g; rw [← h6, if_pos (.inr rfl), List.drop_one]; exact g.2
   split at h6
   ·omega
   split at h6 <;> omega
  split at h6
  ·omega
  split at h6
  ·omega
  split at h6
  ·omega
  split at h6
  ·rename_i g; rw [if_neg (by omega)]; exact g
  split at h6 <;> omega
theorem QN (L : List UInt8) : ∀ (n a : Nat) (acc : List Tf), (∀ t ∈ acc, (t.kind = 1 ∨ t.kind = 2 ∨ t.kind = 3 → Bf t.text = true) ∧ (t.kind = 4 → Cw (tl t.text) = true)) → ∀ t ∈ (BJ L n a acc).1, (t.kind = 1 ∨ t.kind = 2 ∨ t.kind = 3 → Bf t.text = true) ∧ (t.kind = 4 → Cw (tl t.text) = true) := by
 intro n; induction n with
 | zero => intro a acc h; exact h
 | succ n ih =>
  intro a acc h; simp only [BJ]; split
  ·intro t ht; cases ht
  split
  ·exact h
  refine ih _ _ fun t ht => ?_
  rcases List.mem_append.1 ht with ht | ht
  ·exact h t ht
  rw [List.mem_singleton.1 ht, B9]; exact UW L _ _
theorem SI (g : List UInt8) (b : Nat) : J5 (B5 g b) := by
 show ∀ t ∈ (Bp g).1, _
 unfold Bp; split
 ·intro t ht; cases ht
 exact QN g _ _ _ fun t ht => by cases ht
theorem Eo {E : Env} (h : J5 E) {i : Nat} (hk : (Aa E i).kind = 1 ∨ (Aa E i).kind = 2 ∨ (Aa E i).kind = 3) : Bf (Aa E i).text = true := by
 have hi : i < E.l.length := FT (by omega); have ht : Aa E i = E.l[i] := by unfold Aa; rw [List.getD_eq_getElem?_getD, List.getElem?_eq_getElem hi]; rfl
 rw [ht] at hk ⊢; exact (h _ (List.getElem_mem hi)).1 hk
theorem X6 {E : Env} (h : J5 E) {i : Nat} (hk : (Aa E i).kind = 4) : Cw (tl (Aa E i).text) = true := by
 have hi : i < E.l.length := FT (by omega); have ht : Aa E i = E.l[i] := by unfold Aa; rw [List.getD_eq_getElem?_getD, List.getElem?_eq_getElem hi]; rfl
 rw [ht] at hk ⊢; exact (h _ (List.getElem_mem hi)).2 hk
theorem XN {l : List UInt8} (h : Cw l = true) : 0 ≤ (BT l).1.1 := by
 have hf : ∀ m e, 0 ≤ (Th.fin false m e).1.1 := fun m e => by
  unfold Th.fin; split
  ·exact Int.le_refl 0
  show 0 ≤ (if false = true then -(m : Int) else m); rw [if_neg (by decide)]; omega
 have hn : ∀ m e, 0 ≤ (Ct false m e).1.1 := fun m e => by
  unfold Ct; split
  ·exact Int.le_refl 0
  exact hf _ _
 have hh : l.head? ≠ some 45 := by
  cases l with
  | nil => simp
  | cons c x =>
   have := D2 c x h; intro hc; injection hc with hc; subst hc; cases this
 unfold BT; rw [if_neg hh]; unfold Dh; split
 ·exact Int.le_refl 0
 exact hn _ _
def RO {α : Type} (R : α → Nat → Prop) (o : Option (PR α)) : Prop := ∀ a j, o = some (.ok a j) → R a j
theorem RO.fail {α : Type} {R : α → Nat → Prop} {E : Env} {i e : Nat} : RO R (Da E i e) := fun _ _ h => by cases h
theorem RO.ok {α : Type} {R : α → Nat → Prop} {n : α} {k : Nat} (h : R n k) : RO R (okP n k) := fun _ _ e => by cases e; exact h
theorem RO.up {α : Type} {R Q : α → Nat → Prop} {o : Option (PR α)} (h : RO Q o) (hq : ∀ a j, Q a j → R a j) : RO R o := fun a j e => hq a j (h a j e)
theorem RO.bind {α β : Type} {Q : α → Nat → Prop} {R : β → Nat → Prop} {x : Option (PR α)} {k : α → Nat → Option (PR β)} (h : RO Q x) (hk : ∀ n j, Q n j → RO R (k n j)) : RO R (A3 x k) := by
 cases x with
 | none => intro _ _ e; cases e
 | some r =>
  cases r with
  | bad a e => intro _ _ e; cases e
  | ok n j => exact hk n j (h n j rfl)
theorem RO.isT {β : Type} {R : β → Nat → Prop} {E : Env} (hE : DQ E) {p k : Nat} {s : ByteArray} {x y : Option (PR β)} (hk : k ≠ 0) (h : tk (Aa E p) = (k, s) → wtE E (p + 1) + 1 ≤ wtE E p → RO R x) (h2 : RO R y) : RO R (if Th.isT E p k s then x else y) := by
 split
 ·rename_i hT; exact h (AV.1 hT) (F4 hE (by rw [hT.1]; exact hk))
 exact h2
theorem RO.want {β : Type} {R : β → Nat → Prop} {E : Env} (hE : DQ E) {p k : Nat} {s : ByteArray} {f : Nat → Option (PR β)} (hk : k ≠ 0) (h : wtE E (p + 1) + 1 ≤ wtE E p → RO R (f (p + 1))) : RO R (A8 E p k s f) := by
 unfold A8; exact RO.isT hE hk (fun _ => h) RO.fail
theorem RO.kind {β : Type} {R : β → Nat → Prop} {E : Env} (hE : DQ E) (hN : J5 E) {p k : Nat} {f : ByteArray → Nat → Option (PR β)} (hk : k = 1 ∨ k = 2) (h : ∀ s : ByteArray, Bf s = true → (k = 1 → B7 s = true) → wtE E (p + 1) + s.size = wtE E p → 1 ≤ s.size → RO R (f s (p + 1))) : RO R (CX E p k f) := by
 unfold CX; split
 ·exact RO.fail
 rename_i hT
 have hk2 : (Aa E p).kind = k := Decidable.of_not_not fun h0 => hT (.inl h0)
 obtain ⟨w1, w2⟩ := Dt hE (i := p) (by omega); have hn := Eo hN (i := p) (by omega); refine h _ hn (fun h1 => ?_) w1 w2; unfold B7; rw [hn, Bool.true_and, Bool.not_eq_true']; cases hw : inB Ca (Aa E p).text with
 | false => rfl
 | true => exact absurd (Or.inr ⟨h1, hw⟩) hT
theorem YF {β : Type} {R : β → Nat → Prop} {E : Env} (hE : DQ E) (hN : J5 E) {b : Nat} {k : List ByteArray → Nat → Option (PR β)} (hk : ∀ a j, (∀ s ∈ a, BO s = true) → Cu 2 a + 256 * wtE E j ≤ b → RO R (k a j)) : ∀ (n : Nat) (acc : List ByteArray) (i : Nat), (∀ s ∈ acc, BO s = true) → Cu 2 acc + 256 * wtE E i ≤ b → RO R (Db E k n acc i) := by
 intro n; induction n with
 | zero => intro acc i _ _ a j h; cases h
 | succ n ih =>
  intro acc i ha hb; have sz : ∀ x : ByteArray, Cu 2 (acc ++ [x]) = Cu 2 acc + 2 + x.size := fun x => by simp [Cu, List.sum_append]; omega
  have mem : ∀ x : ByteArray, BO x = true → ∀ s ∈ acc ++ [x], BO s = true := fun x hx s hs => by
   rcases List.mem_append.1 hs with hs | hs
   ·exact ha s hs
   rw [List.mem_singleton.1 hs]; exact hx
  have key : ∀ (x : ByteArray) (p : Nat), BO x = true → Cu 2 acc + 2 + x.size + 256 * wtE E p ≤ b → RO R (if isT E p 6 ⟨#[59]⟩ then Db E k n (acc ++ [x]) (p + 1) else k (acc ++ [x]) p) := fun x p hx hp =>
   RO.isT hE (by decide) (fun _ hd => ih _ _ (mem x hx) (by rw [sz]; omega)) (hk _ _ (mem x hx) (by rw [sz]; omega))
  simp only [Db]; split
  ·rename_i h2
   obtain ⟨w1, w2⟩ := Dt hE (i := i) (by omega); have hn := Eo hN (i := i) (by omega); refine key _ _ ?_ ?_
   ·unfold BO
    have : tl (⟨#[36]⟩ ++ (Aa E i).text) = 36 :: tl (Aa E i).text := by rw [Bw]; rfl
    show (B7 _ || (decide ((tl (⟨#[36]⟩ ++ (Aa E i).text)).head? = some 36) && Bc (tl (⟨#[36]⟩ ++ (Aa E i).text)).tail)) = true
    rw [this]; have hn2 : Bc (tl (Aa E i).text) = true := hn; simp [hn2]
   rw [ByteArray.size_append, show ByteArray.size ⟨#[36]⟩ = 1 from rfl]; omega
  exact RO.kind hE hN (.inl rfl) fun s h1 h2 h3 h4 => key s _ (by unfold BO; rw [h2 rfl]; rfl) (by omega)
open Go Go.RowKit Go.Proofs Th
def Lj (k : Int) (s : ByteArray) : Nat := if k = 3 then (Bk (tl s)).length else s.size
def G8 (k v : NJ) : Bool := decide (Av k = 3 ∨ Av k = 4) && C9 v (Ax 5 ⟨#[]⟩ BR k)
mutual
def cz : NJ → Nat
 | .mk k s _ _ l a => 30 + 2 * Lj k s + Cu 2 a + (if k = 16 then czP l else czL l)
def czL : List NJ → Nat
 | [] => 0
 | n :: r => cz n + czL r
def czP : List NJ → Nat
 | [] => 0
 | [n] => cz n
 | k :: v :: r => (if G8 k v = true then cz k + 24 else cz k + cz v) + 12 + czP r
end
theorem Rh : ∀ a b : List NJ, czL (a ++ b) = czL a + czL b
 | [], b => by rw [List.nil_append, czL]; omega
 | x :: r, b => by rw [List.cons_append, czL, czL, Rh r b]; omega
theorem QW : ∀ (a : List NJ) (k v : NJ), a.length % 2 = 0 → czP (a ++ [k, v]) = czP a + ((if G8 k v = true then cz k + 24 else cz k + cz v) + 12)
 | [], k, v, _ => by
  simp only [List.nil_append, czP]; omega
 | [_], _, _, h => by simp at h
 | x :: y :: r, k, v, h => by
  have := QW r k v (by simp only [List.length_cons] at h; omega); simp only [List.cons_append, czP]; rw [this]; omega
theorem BV {k : Int} {s : ByteArray} {m e : Int} {l : List NJ} {a : List ByteArray} (h3 : k ≠ 3) (h16 : k ≠ 16) : cz (.mk k s m e l a) = 30 + 2 * s.size + Cu 2 a + czL l := by
 rw [cz, if_neg h16]; unfold Lj; rw [if_neg h3]
theorem H5 (s : ByteArray) : cz (Bg s) = 30 + 2 * (Bk (tl s)).length := by
 unfold Bg; rw [cz, if_neg (by decide), czL]; unfold Lj; rw [if_pos rfl]; rfl
theorem z1   : okJ (BR) = true ∧ cz (BR) ≤ 30 := by
 refine ⟨(k1).1, ?_⟩; unfold BR; rw [BV (by decide) (by decide)]; simp only [czL, AC, show ByteArray.size ⟨#[]⟩ = 0 from rfl]; omega
theorem z26   : okJ (Ag 26 []) = true ∧ cz (Ag 26 []) ≤ 30 := by
 refine ⟨(k26).1, ?_⟩; unfold Ag; rw [BV (by decide) (by decide)]; simp only [czL, AC, show ByteArray.size ⟨#[]⟩ = 0 from rfl]; omega
theorem z2 {m e : Int} (h0 : 0 ≤ m) (hr : right m e = true)  : okJ (.mk 2 ⟨#[]⟩ m e [] []) = true ∧ cz (.mk 2 ⟨#[]⟩ m e [] []) ≤ 30 := by
 refine ⟨(k2 h0 hr).1, ?_⟩; rw [BV (by decide) (by decide)]; simp only [czL, AC, show ByteArray.size ⟨#[]⟩ = 0 from rfl]; omega
theorem z22 {s : ByteArray} (hs : Bf s = true)  : okJ (Cy s) = true ∧ cz (Cy s) ≤ 2 * s.size + 30 := by
 refine ⟨(k22 hs).1, ?_⟩; unfold Cy; rw [BV (by decide) (by decide)]; simp only [czL, AC]; omega
theorem z5 {x y : NJ}  (hx : okJ x = true) (hy : okJ y = true) : okJ (Ax 5 ⟨#[]⟩ x y) = true ∧ cz (Ax 5 ⟨#[]⟩ x y) ≤ cz x + cz y + 30 := by
 refine ⟨(k5 hx hy).1, ?_⟩; unfold Ax; rw [BV (by decide) (by decide)]; simp only [czL, AC, show ByteArray.size ⟨#[]⟩ = 0 from rfl]; omega
theorem z7 {x : NJ}  (hx : okJ x = true) : okJ (Ag 7 [x]) = true ∧ cz (Ag 7 [x]) ≤ cz x + 30 := by
 refine ⟨(k7 hx).1, ?_⟩; unfold Ag; rw [BV (by decide) (by decide)]; simp only [czL, AC, show ByteArray.size ⟨#[]⟩ = 0 from rfl]; omega
theorem z6a {x y : NJ}  (hx : okJ x = true) (hy : okJ y = true) : okJ (.mk 6 ⟨#[]⟩ 0 0 [x, y] [fromB]) = true ∧ cz (.mk 6 ⟨#[]⟩ 0 0 [x, y] [fromB]) ≤ cz x + cz y + 36 := by
 refine ⟨(k6a hx hy).1, ?_⟩; rw [BV (by decide) (by decide)]; simp only [czL, AC, Ao, show ByteArray.size ⟨#[]⟩ = 0 from rfl, show fromB.size = 4 from rfl]; omega
theorem z6b {x y : NJ}  (hx : okJ x = true) (hy : okJ y = true) : okJ (.mk 6 ⟨#[]⟩ 0 0 [x, y] [toB]) = true ∧ cz (.mk 6 ⟨#[]⟩ 0 0 [x, y] [toB]) ≤ cz x + cz y + 34 := by
 refine ⟨(k6b hx hy).1, ?_⟩; rw [BV (by decide) (by decide)]; simp only [czL, AC, Ao, show ByteArray.size ⟨#[]⟩ = 0 from rfl, show toB.size = 2 from rfl]; omega
theorem z6c {x y z : NJ}  (hx : okJ x = true) (hy : okJ y = true) (hz : okJ z = true) : okJ (.mk 6 ⟨#[]⟩ 0 0 [x, y, z] [fromB, toB]) = true ∧ cz (.mk 6 ⟨#[]⟩ 0 0 [x, y, z] [fromB, toB]) ≤ cz x + cz y + cz z + 40 := by
 refine ⟨(k6c hx hy hz).1, ?_⟩; rw [BV (by decide) (by decide)]; simp only [czL, AC, Ao, show ByteArray.size ⟨#[]⟩ = 0 from rfl, show fromB.size = 4 from rfl, show toB.size = 2 from rfl]; omega
theorem z14 {x : NJ}  (hx : okJ x = true) : okJ (Ag 14 [x]) = true ∧ cz (Ag 14 [x]) ≤ cz x + 30 := by
 refine ⟨(k14 hx).1, ?_⟩; unfold Ag; rw [BV (by decide) (by decide)]; simp only [czL, AC, show ByteArray.size ⟨#[]⟩ = 0 from rfl]; omega
theorem aF   : okJ (Ag 15 []) = true ∧ cz (Ag 15 []) ≤ 30 := by
 refine ⟨(YT).1, ?_⟩; unfold Ag; rw [BV (by decide) (by decide)]; simp only [czL, AC, show ByteArray.size ⟨#[]⟩ = 0 from rfl]; omega
theorem aK {x : NJ}  (hx : okJ x = true) : okJ (Ag 15 [x]) = true ∧ cz (Ag 15 [x]) ≤ cz x + 30 := by
 refine ⟨(Y3 hx).1, ?_⟩; unfold Ag; rw [BV (by decide) (by decide)]; simp only [czL, AC, show ByteArray.size ⟨#[]⟩ = 0 from rfl]; omega
theorem z17 {x y z : NJ}  (hx : okJ x = true) (hy : okJ y = true) (hz : okJ z = true) : okJ (Ag 17 [x, y, z]) = true ∧ cz (Ag 17 [x, y, z]) ≤ cz x + cz y + cz z + 30 := by
 refine ⟨(k17 hx hy hz).1, ?_⟩; unfold Ag; rw [BV (by decide) (by decide)]; simp only [czL, AC, show ByteArray.size ⟨#[]⟩ = 0 from rfl]; omega
theorem Y9 {x : NJ}  (hx : okJ x = true) : okJ (Ag 18 [x]) = true ∧ cz (Ag 18 [x]) ≤ cz x + 30 := by
 refine ⟨(Ze hx).1, ?_⟩; unfold Ag; rw [BV (by decide) (by decide)]; simp only [czL, AC, show ByteArray.size ⟨#[]⟩ = 0 from rfl]; omega
theorem bf {x y : NJ}  (hx : okJ x = true) (hy : okJ y = true) : okJ (Ag 18 [x, y]) = true ∧ cz (Ag 18 [x, y]) ≤ cz x + cz y + 30 := by
 refine ⟨(ZD hx hy).1, ?_⟩; unfold Ag; rw [BV (by decide) (by decide)]; simp only [czL, AC, show ByteArray.size ⟨#[]⟩ = 0 from rfl]; omega
theorem z19 {x y z : NJ} {s : ByteArray} (hs : Bf s = true) (hx : okJ x = true) (hy : okJ y = true) (hz : okJ z = true) : okJ (.mk 19 s 0 0 [x, y, z] []) = true ∧ cz (.mk 19 s 0 0 [x, y, z] []) ≤ cz x + cz y + cz z + 2 * s.size + 30 := by
 refine ⟨(k19 hs hx hy hz).1, ?_⟩; rw [BV (by decide) (by decide)]; simp only [czL, AC]; omega
theorem z20 {x y z u : NJ} {s : ByteArray} (hs : Bf s = true) (hx : okJ x = true) (hy : okJ y = true) (hz : okJ z = true) (hu : okJ u = true) : okJ (.mk 20 s 0 0 [x, y, z, u] []) = true ∧ cz (.mk 20 s 0 0 [x, y, z, u] []) ≤ cz x + cz y + cz z + cz u + 2 * s.size + 30 := by
 refine ⟨(k20 hs hx hy hz hu).1, ?_⟩; rw [BV (by decide) (by decide)]; simp only [czL, AC]; omega
theorem z21 {x y : NJ} {s : ByteArray} (hs : Bf s = true) (hx : okJ x = true) (hy : okJ y = true) : okJ (Ax 21 s x y) = true ∧ cz (Ax 21 s x y) ≤ cz x + cz y + 2 * s.size + 30 := by
 refine ⟨(k21 hs hx hy).1, ?_⟩; unfold Ax; rw [BV (by decide) (by decide)]; simp only [czL, AC]; omega
theorem z24 {x y : NJ} {s : ByteArray} {a : List ByteArray} (hs : B7 s = true) (ha : ∀ s ∈ a, BO s = true) (hx : okJ x = true) (hy : okJ y = true) : okJ (.mk 24 s 0 0 [x, y] a) = true ∧ cz (.mk 24 s 0 0 [x, y] a) ≤ cz x + cz y + 2 * s.size + Cu 2 a + 30 := by
 refine ⟨(k24 hs ha hx hy).1, ?_⟩; rw [BV (by decide) (by decide)]; simp only [czL]; omega
theorem z8 {x y : NJ}  (hx : okJ x = true) (hy : okJ y = true) : okJ (Ax 8 ⟨#[]⟩ x y) = true ∧ cz (Ax 8 ⟨#[]⟩ x y) ≤ cz x + cz y + 30 := by
 refine ⟨(k8 hx hy).1, ?_⟩; unfold Ax; rw [BV (by decide) (by decide)]; simp only [czL, AC, show ByteArray.size ⟨#[]⟩ = 0 from rfl]; omega
theorem z9 {x y : NJ}  (hx : okJ x = true) (hy : okJ y = true) : okJ (Ax 9 ⟨#[]⟩ x y) = true ∧ cz (Ax 9 ⟨#[]⟩ x y) ≤ cz x + cz y + 30 := by
 refine ⟨(k9 hx hy).1, ?_⟩; unfold Ax; rw [BV (by decide) (by decide)]; simp only [czL, AC, show ByteArray.size ⟨#[]⟩ = 0 from rfl]; omega
theorem z11 {x y : NJ}  (hx : okJ x = true) (hy : okJ y = true) : okJ (Ax 11 ⟨#[]⟩ x y) = true ∧ cz (Ax 11 ⟨#[]⟩ x y) ≤ cz x + cz y + 30 := by
 refine ⟨(k11 hx hy).1, ?_⟩; unfold Ax; rw [BV (by decide) (by decide)]; simp only [czL, AC, show ByteArray.size ⟨#[]⟩ = 0 from rfl]; omega
theorem z12 {x y : NJ}  (hx : okJ x = true) (hy : okJ y = true) : okJ (Ax 12 ⟨#[]⟩ x y) = true ∧ cz (Ax 12 ⟨#[]⟩ x y) ≤ cz x + cz y + 30 := by
 refine ⟨(k12 hx hy).1, ?_⟩; unfold Ax; rw [BV (by decide) (by decide)]; simp only [czL, AC, show ByteArray.size ⟨#[]⟩ = 0 from rfl]; omega
theorem z13 {x y : NJ}  (hx : okJ x = true) (hy : okJ y = true) : okJ (Ax 13 ⟨#[]⟩ x y) = true ∧ cz (Ax 13 ⟨#[]⟩ x y) ≤ cz x + cz y + 30 := by
 refine ⟨(k13 hx hy).1, ?_⟩; unfold Ax; rw [BV (by decide) (by decide)]; simp only [czL, AC, show ByteArray.size ⟨#[]⟩ = 0 from rfl]; omega
theorem z10 {x y : NJ} {s : ByteArray} (hs : inB C6 s = true) (hx : okJ x = true) (hy : okJ y = true) : okJ (Ax 10 s x y) = true ∧ cz (Ax 10 s x y) ≤ cz x + cz y + 2 * s.size + 30 := by
 refine ⟨(k10 hs hx hy).1, ?_⟩; unfold Ax; rw [BV (by decide) (by decide)]; simp only [czL, AC]; omega
theorem z25 {x y : NJ} {s : ByteArray} (hs : inB Ez s = true) (hx : okJ x = true) (hy : okJ y = true) : okJ (Ax 25 s x y) = true ∧ cz (Ax 25 s x y) ≤ cz x + cz y + 2 * s.size + 30 := by
 refine ⟨(k25 hs hx hy).1, ?_⟩; unfold Ax; rw [BV (by decide) (by decide)]; simp only [czL, AC]; omega
theorem z3n {s : ByteArray} (_h : Bf s = true) (hv : Lib.validD s.data.toList = true) : okJ (Bg s) = true ∧ cz (Bg s) ≤ 12 * s.size + 30 := by
 refine ⟨(k3 hv).1, ?_⟩; have := K1 (tl s); rw [GF] at this; rw [H5]; omega
theorem z16 {l : List NJ} (h2 : l.length % 2 = 0) (h : okL l = true) : okJ (Ag 16 l) = true ∧ cz (Ag 16 l) ≤ czP l + 30 := by
 refine ⟨(k16 h2 h).1, ?_⟩; unfold Ag; rw [cz, if_pos rfl]; unfold Lj; rw [if_neg (by decide), AC]; show 30 + 2 * 0 + 0 + czP l ≤ _
 omega
theorem z23 {s : ByteArray} {l : List NJ} (hs : B7 s = true) (h : okL l = true) : okJ (.mk 23 s 0 0 l []) = true ∧ cz (.mk 23 s 0 0 l []) ≤ czL l + 2 * s.size + 30 := by
 refine ⟨(k23 hs h).1, ?_⟩; rw [BV (by decide) (by decide), AC]; omega
mutual
theorem KS : ∀ n : NJ, C9 n n = true
 | .mk k s m e l a => by rw [C9, M8 l]; simp
theorem M8 : ∀ l : List NJ, CF l l = true
 | [] => by rw [CF]
 | n :: r => by rw [CF, KS n, M8 r]; rfl
end
def pz (k v : NJ) : Nat := (if G8 k v = true then cz k + 24 else cz k + cz v) + 12
theorem ZT : ∀ n : NJ, 30 ≤ cz n
 | .mk k s m e l a => by rw [cz]; omega
theorem SK (k v : NJ) : pz k v ≤ cz k + cz v + 12 := by
 have := ZT v; unfold pz; split <;> omega
theorem XV {k : NJ} (h : Av k = 3 ∨ Av k = 4) : pz k (Ax 5 ⟨#[]⟩ BR k) = cz k + 36 := by
 unfold pz; rw [if_pos (by unfold G8; rw [KS, decide_eq_true h]; rfl)]
def Fd (d : Nat) : Nat := 2 ^ (d / 3)
theorem TT (d : Nat) : 1 ≤ Fd d := Nat.one_le_two_pow
theorem FD {a b : Nat} (h : a ≤ b) : Fd a ≤ Fd b := Nat.pow_le_pow_right (by decide) (Nat.div_le_div_right h)
theorem Vg (d : Nat) : Fd (d + 3) = 2 * Fd d := by unfold Fd; rw [Nat.add_div_right d (by decide), Nat.pow_succ]; omega
theorem Z2 {d : Nat} (h : d ≤ 48) : Fd d ≤ 65536 := Nat.le_trans (FD h) (by decide)
attribute [go_sem] B0 Dz Fc OJ Qc DU O6 aop AH Dm FL Dx H4 Df Aw Fm FP mkS GM CW upd DK Ev Fh Ej CE EM EG cellsOf F9 LN Ie Fu JK F7 FV.ok IV.one IV.er IV.erA IV.er1 iI sI bI Al A6 DO A5 C1 CG lift G9 Jb ML G2 Pq JU IQ JQ Io Ax Ag Bg Cy BR EA noTf BC DV E9 Eu Oe Value.oneCell'
end Go.Proofs.YtakncilicoefdaaGreatDoor
