/- Lemmas and contracts for the laws SyntaxBrackets, SyntaxJoins, SyntaxSides, part 26 of 44: SynA, AbK, AbL. Conditions: those that each lemma names. -/
import Derived.Test.YtnhnpahoppbniaaDoorPb25
import Derived.Test.YtnhnpahoppbniaaDoorPb9
import Derived.Defers
namespace Go.Proofs.YtnhnpahoppbniaaDoor
open Go Go.RowKit Go.Proofs Th
def iI (n : Int) : IV := .v (.int .i64 n)
def sI (s : ByteArray) : IV := .v (.string s)
def bI (b : Bool) : IV := .v (.bool b)
mutual
def nodeIV : NJ → List IV
  | .mk k s m e l ks => [iI k, sI s, iI m, iI e, .sl (nodesIV l) false, .sl (ks.map fun x => [sI x]) false]
def nodesIV : List NJ → List (List IV)
  | [] => []
  | n :: r => nodeIV n :: nodesIV r
end
def tokIV (t : Tf) : List IV := [iI t.kind, sI t.text, iI t.at_]
def faultV (a e : Nat) : Value := .iface 45 (.agg #[.int .i64 a, .int .i64 e])
def parIV (E : Env) (i : Nat) : List IV := [.sl (E.l.map tokIV) false, iI i, iI E.base, iI E.end_]
def resP (E : Env) : PR NJ → ARes
  | .ok n j => .ret (.agg (nodeIV n)) (parIV E j)
  | .bad a e => .pan (faultV a e)
theorem mixed : Tryd.prog.follows .mixedOrders = true := by kernel_rfl
theorem ti_node : tiOf Tryd.prog 28 = some (.struct [⟨0, 1, false⟩, ⟨1, 1, false⟩, ⟨2, 2, true⟩, ⟨4, 1, false⟩, ⟨5, 1, false⟩] [.int .i64 0, .string ⟨#[]⟩, .int .i64 0, .int .i64 0, .slice none 0 0, .slice none 0 0]) := by kernel_rfl
theorem ti_tok : tiOf Tryd.prog 56 = some (.struct [⟨0, 1, false⟩, ⟨1, 1, false⟩, ⟨2, 1, false⟩] [.int .i64 0, .string ⟨#[]⟩, .int .i64 0]) := by kernel_rfl
theorem ti_par : tiOf Tryd.prog 49 = some (.struct [⟨0, 1, false⟩, ⟨1, 1, false⟩, ⟨2, 1, false⟩, ⟨3, 1, false⟩] [.slice none 0 0, .int .i64 0, .int .i64 0, .int .i64 0]) := by kernel_rfl
theorem ti_fault : tiOf Tryd.prog 45 = some (.struct [⟨0, 1, false⟩, ⟨1, 1, false⟩] [.int .i64 0, .int .i64 0]) := by kernel_rfl
theorem ti_nodes : tiOf Tryd.prog 25 = some (.slice 28 6) := by kernel_rfl
theorem ti_toks : tiOf Tryd.prog 41 = some (.slice 56 3) := by kernel_rfl
theorem ti_strs : tiOf Tryd.prog 26 = some (.slice 9 1) := by kernel_rfl
theorem ti_ints : tiOf Tryd.prog 81 = some (.slice 3 1) := by kernel_rfl
theorem ti_num : tiOf Tryd.prog 24 = some (.struct [⟨0, 1, false⟩, ⟨1, 1, false⟩] [.int .i64 0, .int .i64 0]) := by kernel_rfl
theorem ti_errno : tiOf Tryd.prog 29 = some (.flat (.int .i64 0)) := by kernel_rfl
theorem ti_str : tiOf Tryd.prog 9 = some (.flat (.string ⟨#[]⟩)) := by kernel_rfl
theorem ti_int : tiOf Tryd.prog 3 = some (.flat (.int .i64 0)) := by kernel_rfl
attribute [local go_sem] aops aopsD stepA chkD disj aguard isWant aop aval abuil acall acallP acallR argsIV valOf aput startS mkS numb look upd toIV allIV zeroFV aload setSeg afill aelems cellsOf toSl toVal valsOf aidx abin ainR FV.ok IV.one IV.er IV.erA IV.er1 iI sI bI nodeIV nodesIV tokIV parIV faultV resP lift AThen ABlock AEnd resL resV rload rcOf imsOf oneV nodeJ kidsJ strJ knownJ selfJ noNJ noTf foot owns pruneS filtF filtO Value.oneCell'
attribute [local go_sem] ti_node ti_tok ti_par ti_fault ti_nodes ti_toks ti_strs ti_ints ti_str ti_int ti_num ti_errno -- END
variable {G : World → CS → Prop}
theorem syn_text (gk : GK G) (s : ByteArray) : ACalls Tryd.prog G 49 none [sI s] (.ret (.agg (nodeIV (strJ s))) []) := by
  refine ACalls.enter Tryd.func49 rfl rfl gk Tryd.ntmps49 fun X F => ?_
  refine AW.seq (AW.reg F ?_)
  go_simp
  refine AW.seq (AW.reg F ?_)
  go_simp
  refine AW.ret ?_
  go_simp
theorem syn_get (gk : GK G) (a b : NJ) : ACalls Tryd.prog G 48 none [.agg (nodeIV a), .agg (nodeIV b)] (.ret (.agg (nodeIV (nodeJ 5 ⟨#[]⟩ a b))) []) := by
  obtain ⟨k1, s1, m1, e1, l1, ks1⟩ := a
  obtain ⟨k2, s2, m2, e2, l2, ks2⟩ := b
  refine ACalls.enter Tryd.func48 rfl rfl gk Tryd.ntmps48 fun X F => ?_
  refine AW.seq (AW.reg F ?_)
  go_simp
  refine AW.seq (AW.reg F ?_)
  go_simp
  refine AW.ret ?_
  go_simp
end Go.Proofs.YtnhnpahoppbniaaDoor
namespace Go.Proofs.YtnhnpahoppbniaaDoor
open Go Go.RowKit Go.Proofs Th
def AWg (P : Program) (X : Ctx) (c : Code) (Post : Exit → Act → World → Prop) (s : ASt) : Prop := ∀ a W, Rel X s a W → c.wp P Post a W
def AGo (K : ASt → Prop) : AExit → ASt → Prop
  | .normal, s => K s
  | _, _ => False
instance {K : ASt → Prop} : PanicOK (AGo K) := ⟨fun _ _ _ _ h => h⟩
theorem AWg.seq {P : Program} {X : Ctx} {x y : Code} {Post : Exit → Act → World → Prop} {s : ASt} (h : AW P X x (AGo (AWg P X y Post)) s) : AWg P X (.seq x y) Post s := fun a W hR =>
  wp_seq (wp_mono (h a W hR) fun e a' W' hq => by
    cases e with
    | normal => obtain ⟨s', hR', hK⟩ := hq; exact hK _ _ hR'
    | ret => obtain ⟨s', _, hK⟩ := hq; exact hK.elim
    | panic ch => obtain ⟨s', x, _, _, hK⟩ := hq; exact hK.elim
    | exit id => obtain ⟨s', _, hK⟩ := hq; exact hK.elim
    | goto l => obtain ⟨s', _, hK⟩ := hq; exact hK.elim
    | outgrown => exact hq.elim)
def Ctx.with (X : Ctx) (d : List Deferred) : Ctx := { X with dfr := d }
theorem RelE.with {X : Ctx} {E : AEnv} {S : CS} {s : ASt} {a : Act} {W : World} (h : RelE X E S s a W) (d : List Deferred) : RelE (X.with d) E S s { a with defers := d } W :=
  ⟨h.sz, rfl, h.fr, fun id => by have := h.ob id; cases hs : s.st id <;> (rw [hs] at this; exact this), h.ap, h.Sb, h.S0, h.Sn, h.u, h.g, h.pk, h.bk⟩
theorem ACalls.enterD {P : Program} {G : World → CS → Prop} {f : FuncId} {fn : Func} {c : Code} {xa : List IV} {res : ARes} {n : Nat} (hf : P.funcs[f]? = some fn) (hb : fn.body = some c) (hnm : (fn.name == "runtime.NumGoroutine") = false) (gk : GK G) (hn : fn.ntmps = n)
    (h : ∀ (X : Ctx) (W : World) (S : CS) (p : Nat), Fit X G n → X.W0 = W → X.S0 = S → X.R = (fun k => (none : Option (List IV)).isSome = true ∧ k = p) → X.rcv = false → X.dfr = [] → AWg P X c (bodyPostD P fn fun e w' => res.post W S p none e w') (startS none xa)) : ACalls P G f none xa res := by
  refine ⟨⟨fn, hf, by rw [hb]; rfl, hnm⟩, fun W S p us hG hSb _ hus => ?_⟩
  have harr : ∀ (l : List Value) k, l.toArray ++ Array.replicate k undef = (l ++ List.replicate k undef).toArray := fun l k => by simp
  obtain ⟨X, hX⟩ : ∃ X : Ctx, X = ⟨W, S, fun k => (none : Option (List IV)).isSome = true ∧ k = p, ((argsU none p us).toArray ++ Array.replicate (fn.ntmps - (argsU none p us).toArray.size) undef).size, p, false, G, gk, []⟩ := ⟨_, rfl⟩
  have hFit : Fit X G n := ⟨by rw [hX], by rw [hX, ← hn]; simp; omega⟩
  have hrel : RelE X ⟨fun _ => p, fun _ => undef⟩ S (startS none xa) { tmps := (argsU none p us).toArray ++ Array.replicate (fn.ntmps - (argsU none p us).toArray.size) undef, defers := [] } W := by
    refine ⟨by rw [hX], by rw [hX], fun t => ?_, fun id => trivial, fun i j g hi _ => (by cases hi), hSb, fun g o ho => by rw [hX] at ho; exact ho, fun g o ho => Or.inl (by rw [hX]; exact ho), by rw [hX]; exact UpdR.refl _ _, by rw [hX]; exact hG, by rw [hX], fun h => by rw [hX] at h; cases h⟩
    show RepF W S _ _ (look .junk (numb 0 xa) t) (((argsU none p us).toArray ++ Array.replicate (fn.ntmps - (argsU none p us).toArray.size) undef).getD t undef)
    rw [numb_at, if_pos (Nat.zero_le _), harr]
    exact fitsAb us 0 us xa W S _ _ hus [] rfl t (Nat.zero_le _) _
  exact calls_of_wp_defers hf hb (h X W S p hFit (by rw [hX]) (by rw [hX]) (by rw [hX]) (by rw [hX]) (by rw [hX]) _ W ⟨_, S, hrel⟩)
end Go.Proofs.YtnhnpahoppbniaaDoor
namespace Go.Proofs.YtnhnpahoppbniaaDoor
open Go Go.RowKit Go.Proofs Th
def sel (ops : Array Oper) : List Nat → List Oper
  | [] => []
  | i :: r => match ops[i]? with
    | some o => o :: sel ops r
    | none => sel ops r
def laterL (P : Program) (G : World → CS → Prop) (n : Nat) (ops : Array Oper) (l : List Nat) (K : ASt → Prop) (Qp : Value → ASt → Prop) (s : ASt) : Prop := aops P G n ops (sel ops l) s K Qp
section
variable {P : Program} {G : World → CS → Prop} {n : Nat} {ops : Array Oper} {K : ASt → Prop} {Qp : Value → ASt → Prop}
theorem chkD_free {i : Nat} {f : List Nat} : ∀ acc, chkD [] i f acc
  | [] => trivial
  | (_, _) :: r => ⟨fun h => by simp at h, chkD_free r⟩
theorem aops_D : ∀ (l : List Nat) (acc : List (Nat × List Nat)) (s : ASt), (∀ i ∈ l, i < ops.size) → aops P G n ops (sel ops l) s K Qp → aopsD P G n ops [] l acc s K Qp
  | [], _, _, _, h => h
  | i :: r, acc, s, hl, h => by
    have ho : ops[i]? = some (ops[i]'(hl i List.mem_cons_self)) := Array.getElem?_eq_getElem _
    simp only [sel, ho] at h
    simp only [aopsD, ho]
    refine ⟨chkD_free _, ?_⟩
    have h2 : stepA P G n ops (ops[i]'(hl i List.mem_cons_self)) s (fun s' => aops P G n ops (sel ops r) s' K Qp) Qp := h
    exact step_mono (fun s' h' => aops_D r _ s' (fun j hj => hl j (List.mem_cons_of_mem _ hj)) h') h2
theorem aops_cat (l2 : List Oper) : ∀ (l1 : List Oper) (s : ASt), aops P G n ops (l1 ++ l2) s K Qp = aops P G n ops l1 s (fun s' => aops P G n ops l2 s' K Qp) Qp
  | [], s => rfl
  | o :: r, s => by
    have ih : (fun s' => aops P G n ops (r ++ l2) s' K Qp) = fun s' => aops P G n ops r s' (fun s' => aops P G n ops l2 s' K Qp) Qp := funext fun s' => aops_cat l2 r s'
    simp only [List.cons_append, aops, ih]
theorem sel_cat : ∀ (l1 l2 : List Nat), sel ops (l1 ++ l2) = sel ops l1 ++ sel ops l2
  | [], l2 => rfl
  | i :: r, l2 => by
    simp only [List.cons_append, sel, sel_cat r l2]
    cases ops[i]? <;> rfl
theorem laterL_I {l : List Nat} {s : ASt} (l1 l2 : List Nat) (h : aops P G n ops (sel ops l1) s (laterL P G n ops l2 K Qp) Qp) (hl : l = l1 ++ l2 := by rfl) : laterL P G n ops l K Qp s := by
  subst hl
  unfold laterL at h ⊢
  rw [sel_cat, aops_cat]
  exact h
theorem laterL_E {l : List Nat} {s : ASt} (h : aops P G n ops (sel ops l) s K Qp) : laterL P G n ops l K Qp s := h
theorem AW.drwN {X : Ctx} {id : Nat} {Q : AExit → ASt → Prop} {s : ASt} (F : Fit X G n) (l1 l2 : List Nat) [PanicOK Q] (hm : P.follows .mixedOrders = true) (hd : drawOK ops (l1 ++ l2) [] = true) (h : aops P G n ops (sel ops l1) s (laterL P G n ops l2 (fun s' => Q .normal s') (fun x s' => Q (.panic x) s')) (fun x s' => Q (.panic x) s')) : AW P X (.region id ops true) Q s := by
  refine AW.drw F (l1 ++ l2) [] hm hd (aops_D _ [] s (fun i hi => ?_) (laterL_I l1 l2 h rfl))
  simp only [drawOK, Bool.and_eq_true, List.all_eq_true, decide_eq_true_eq] at hd
  exact hd.1.1.1.1.2 i hi
theorem sel_range : ∀ (m : Nat) (l : List Oper), (∀ j, l[j]? = ops[m + j]?) → sel ops (List.range' m l.length) = l
  | _, [], _ => rfl
  | m, o :: r, hl => by
    have h0 : ops[m]? = some o := (hl 0).symm
    simp only [List.length_cons, List.range'_succ, sel, h0]
    rw [sel_range (m + 1) r fun j => by rw [show m + 1 + j = m + (j + 1) from by omega, ← hl (j + 1)]; rfl]
theorem AW.regL {X : Ctx} {id : Nat} {Q : AExit → ASt → Prop} {s : ASt} (F : Fit X G n) (l1 l2 : List Nat) (hl : List.range' 0 ops.size = l1 ++ l2) (h : aops P G n ops (sel ops l1) s (laterL P G n ops l2 (fun s' => Q .normal s') (fun x s' => Q (.panic x) s')) (fun x s' => Q (.panic x) s')) : AW P X (.region id ops false) Q s := by
  refine AW.reg F ?_
  have h2 := laterL_I l1 l2 h hl
  have e2 := sel_range (ops := ops) 0 ops.toList fun j => by rw [Nat.zero_add, Array.getElem?_toList]
  unfold laterL at h2
  rw [show ops.size = ops.toList.length from rfl, e2] at h2
  exact h2
end
end Go.Proofs.YtnhnpahoppbniaaDoor
