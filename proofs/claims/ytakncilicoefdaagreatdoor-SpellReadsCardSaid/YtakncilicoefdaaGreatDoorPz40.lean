/- Lemmas and contracts. Conditions: those that each lemma names. -/
import Derived.Test.YtakncilicoefdaaGreatDoorPz37
import Derived.Test.YtakncilicoefdaaGreatDoorPz39
set_option maxRecDepth 100000
set_option maxHeartbeats 8000000
namespace Go.Proofs.YtakncilicoefdaaGreatDoor
open Go Go.RowKit Go.Proofs Th
def Fv (gap out s : ByteArray) : ByteArray := (if out = ⟨#[]⟩ then out else out ++ gap) ++ s
theorem X3 (s gap : ByteArray) (g1 g2 : Nat) (W : World) (h1 : Box W g1 [.string ⟨#[]⟩]) (h2 : Box W g2 [.string gap]) (_hne : g2 ≠ g1) (hs : s.size ≤ 20000000000000) (_hg : gap.size ≤ 20000000000000) :
  Calls Tryz.prog 57 #[.string s, .pointer (some ⟨g1, 0, none⟩), .pointer (some ⟨g2, 0, none⟩)] W fun e W' => e = .returned (.tuple #[]) ∧ W' = W.setCells g1 0 [.string (Fv gap ⟨#[]⟩ s)] := by
 have p0 := h1.cell 0 _ rfl; have pf := h1.froz 0; have pl := h1.lt; have p1 := h2.cell 0 _ rfl; go_enter Tryz.func57, Tryz.ntmps57
 go_wp2_with fail
 simp [bodyPost, results, Tryz.results57, Fv, World.setCells]
theorem Yt (s gap out : ByteArray) (g1 g2 : Nat) (W : World) (h1 : Box W g1 [.string out]) (h2 : Box W g2 [.string gap]) (_hne : g2 ≠ g1) (hs : s.size ≤ 20000000000000) (hg : gap.size ≤ 20000000000000) (ho : out.size ≤ 20000000000000) (h0 : out ≠ ⟨#[]⟩) :
  Calls Tryz.prog 57 #[.string s, .pointer (some ⟨g1, 0, none⟩), .pointer (some ⟨g2, 0, none⟩)] W fun e W' => e = .returned (.tuple #[]) ∧ W' = (W.setCells g1 0 [.string (out ++ gap)]).setCells g1 0 [.string (Fv gap out s)] := by
 have p0 := h1.cell 0 _ rfl; have pf := h1.froz 0; have pl := h1.lt; have p1 := h2.cell 0 _ rfl; have hz : (out.size : Int) + gap.size ≤ 9223372036854775807 := by omega
 have he : out.toList.isEmpty = false := by
  rw [Lib.toList_data]; cases hd : out.data.toList with
  | nil => exact absurd (show out = ⟨#[]⟩ by cases out with | mk x => cases x with | mk l => simp at hd; subst hd; rfl) h0
  | cons c r => rfl
 go_enter Tryz.func57, Tryz.ntmps57
 go_wp2_with fail
 simp [bodyPost, results, Tryz.results57, Fv, World.setCells, h0]
def ET (fc : FuncId) (p1 p2 : Nat) : Value := .func (.func fc) #[] #[.pointer (some ⟨p1, 0, none⟩), .pointer (some ⟨p2, 0, none⟩)]
section
variable {X : Ctx} {ops : Array Oper} {Q : AExit → ASt → Prop} {n : Nat} {G : World → CS → Prop} {id : Nat} {s : ASt}
theorem Wk (F : Fit X G n) {o1 o2 : Oper} {fc : FuncId} {t1 t2 b1 b2 d1 d2 k1 k2 : Nat} (hops : ops.toList = [o1, o2]) (h1 : o1.op = .makeFunc (.func fc) #[] #[.tmp t1, .tmp t2] ∧ o1.dst = some d1 ∧ o1.guard = none ∧ d1 < n) (h2 : o2.op = .assign (.tmp d1) ∧ o2.dst = some d2 ∧ o2.guard = none ∧ d2 < n)
  (hb : (s.fr t1 = .ptr b1 0 ∧ ∃ cs, s.st b1 = .box cs) ∧ s.fr t2 = .ptr b2 0 ∧ ∃ cs, s.st b2 = .box cs) (h : ∀ p1 p2, Q .normal ⟨upd (upd (upd (upd s.fr d1 (.im (.v (ET fc p1 p2)))) d2 (.im (.v (ET fc p1 p2)))) k1 (.pin b1 p1)) k2 (.pin b2 p2), s.st⟩) : AW Tryz.prog X (.region id ops false) Q s := by
 rintro a W ⟨E, S, hR⟩; refine wp_region_list ?_; rw [hops]; obtain ⟨q1, q2, q3, q4⟩ := h1; obtain ⟨r1, r2, r3, r4⟩ := h2; obtain ⟨⟨e1, c1⟩, e2, c2⟩ := hb; have hp1 := C5 hR (x := .tmp t1) e1; have hp2 := C5 hR (x := .tmp t2) e2; unfold wpList; rw [if_pos (by unfold Region.wanted; rw [q3])]; refine Or.inl ?_; unfold Oper.wp; rw [show (execOp a.eval o1).run Tryz.prog W = .ok (.value (ET fc (E.box b1) (E.box b2))) W by simp [execOp, q1, Instr.makeFunc, hp1, hp2, ET]]; show wpList Tryz.prog ops (Em X Q) [o2] (a.put o1.dst _) W
 rw [q2]; have hR1 : RelE X E S ⟨upd s.fr d1 (.im (.v (ET fc (E.box b1) (E.box b2)))), s.st⟩ (a.put (some d1) (ET fc (E.box b1) (E.box b2))) W := hR.put d1 (Nat.lt_of_lt_of_le q4 F.n) (c := .im (.v (ET fc (E.box b1) (E.box b2)))) (Rep.v _); have ev1 := Cn hR1 (x := .tmp d1) (AX _ _ _); generalize a.put (some d1) (ET fc (E.box b1) (E.box b2)) = a2 at hR1 ev1; unfold wpList; rw [if_pos (by unfold Region.wanted; rw [r3])]; refine Or.inl ?_; unfold Oper.wp; rw [show (execOp a2.eval o2).run Tryz.prog W = .ok (.value (ET fc (E.box b1) (E.box b2))) W by simp [execOp, r1, ev1]]; show wpList Tryz.prog ops (Em X Q) [] (a2.put o2.dst _) W
 rw [r2]; have hR2 : RelE X E S ⟨upd (upd s.fr d1 (.im (.v (ET fc (E.box b1) (E.box b2))))) d2 (.im (.v (ET fc (E.box b1) (E.box b2)))), s.st⟩ (a2.put (some d2) (ET fc (E.box b1) (E.box b2))) W := hR1.put d2 (Nat.lt_of_lt_of_le r4 F.n) (c := .im (.v (ET fc (E.box b1) (E.box b2)))) (Rep.v _); have hR3 := (hR2.pin k1 b1 c1).pin k2 b2 c2; unfold wpList; exact ⟨_, ⟨E, S, hR3⟩, h _ _⟩
structure CloT (fc : FuncId) (tc ts k1 k2 b1 b2 p1 p2 : Nat) (gap out t : ByteArray) (s : ASt) : Prop where
 cl : s.fr tc = .im (.v (ET fc p1 p2))
 tx : s.fr ts = .im (sI t)
 k1 : s.fr k1 = .pin b1 p1
 k2 : s.fr k2 = .pin b2 p2
 o1 : s.st b1 = .box [.im (sI out)]
 o2 : s.st b2 = .box [.im (sI gap)]
 ne : b1 ≠ b2
 sz : (t.size ≤ 20000000000000 ∧ gap.size ≤ 20000000000000) ∧ out.size ≤ 20000000000000
theorem UT {E : AEnv} {S : CS} {a : Act} {W : World} (h : RelE X E S s a W) {b : Nat} {v : Value} (hs : s.st b = .box [.im (.v v)]) : Box W (E.box b) [v] := by
 have hob := h.ob b; rw [hs] at hob; obtain ⟨⟨us, hul, hB, hu1, hur, hS⟩, hloc⟩ := hob; obtain ⟨u0, rfl⟩ : ∃ u0, us = [u0] := by
  rcases us with _ | ⟨u0, _ | ⟨u1, r⟩⟩
  ·cases hul
  ·exact ⟨u0, rfl⟩
  simp at hul
 obtain rfl : u0 = v := Dl (hur 0 _ u0 rfl rfl); exact hB
theorem ZG (F : Fit X G n) (l1 : List Oper) {o1 : Oper} {c : Call} {tc ts k1 k2 b1 b2 p1 p2 d : Nat} (gap out t : ByteArray) (hops : ops.toList = l1 ++ [o1]) (h1 : o1.op = .call c ∧ c.callee = .value (.tmp tc) ∧ c.args.toList = [.tmp ts] ∧ o1.dst = some d ∧ o1.guard = none ∧ d < n)
  (h : B0 Tryz.prog G n ops l1 s (fun s' => CloT 57 tc ts k1 k2 b1 b2 p1 p2 gap out t s' ∧ Q .normal ⟨upd s'.fr d .junk, upd s'.st b1 (.box [.im (sI (Fv gap out t))])⟩) (fun x s' => Q (.panic x) s')) : AW Tryz.prog X (.region id ops false) Q s := by
 intro a W hR; refine wp_region_list ?_; rw [hops]; refine He F.n [o1] ?_ l1 hR (by rw [F.g]; exact h); rintro s1 a1 W1 ⟨E, S, h0⟩ ⟨⟨e1, e2, e3, e4, e5, e6, e7, ⟨e8, e9⟩, e10⟩, hQ⟩; obtain ⟨q1, q2, q3, q4, q5, q6⟩ := h1; have g1 : E.box b1 = p1 := by have := h0.fr k1; rw [e3] at this; exact this.2
 have g2 : E.box b2 = p2 := by have := h0.fr k2; rw [e4] at this; exact this.2
 have hc := Cn h0 (x := .tmp tc) e1; have ht := Cn h0 (x := .tmp ts) e2; have B1 := UT h0 e5; have B2 := UT h0 e6; rw [g1] at B1; rw [g2] at B2; have hne : p2 ≠ p1 := fun e => e7 (h0.ap b1 b2 p1 (by rw [e5]; exact congrArg some g1) (by rw [e6]; exact congrArg some (g2.trans e)))
 unfold wpList; rw [if_pos (by unfold Region.wanted; rw [q5])]; refine Or.inl ?_; unfold Oper.wp; rw [LM q1 q2 hc ⟨_, Tryz.func57, rfl, rfl⟩, q3]; show Calls Tryz.prog 57 #[a1.eval (.tmp ts), .pointer (some ⟨p1, 0, none⟩), .pointer (some ⟨p2, 0, none⟩)] W1 _
 rw [ht]; have hfin : ∀ W2, RelE X E S ⟨s1.fr, upd s1.st b1 (.box [.im (sI (Fv gap out t))])⟩ a1 W2 → wpList Tryz.prog ops (Em X Q) [] (a1.put o1.dst (.tuple #[])) W2 := fun W2 hR2 => by
  rw [q4]; unfold wpList; exact ⟨_, ⟨E, S, hR2.put d (Nat.lt_of_lt_of_le q6 F.n) (c := .junk) trivial⟩, hQ⟩
 have one : ∀ (v : ByteArray) (u : Value), u ∈ [Value.string v] → u.oneCell' = true := fun v u hu => by simp only [List.mem_singleton] at hu; subst hu; rfl
 have rp : ∀ (v : ByteArray) (W : World) (st : Nat → AObj) (i : Nat) (c : FV) (u : Value), [FV.im (sI v)][i]? = some c → [Value.string v][i]? = some u → B4 W S E st c u := fun v W st i c u hc hu => by
  match i, hc, hu with
  | 0, hc, hu => injection hc with hc; injection hu with hu; subst hc hu; exact Rep.v _
  | i + 1, hc, hu => exact absurd hc (by simp)
 by_cases hz : out = ⟨#[]⟩
 ·subst hz
  refine (X3 t gap p1 p2 W1 B1 B2 hne e8 e9).mono fun e W' ⟨he, hw⟩ => ?_
  subst he hw; have hs := h0.setbox (off := 0) (xs := [.im (sI (Fv gap ⟨#[]⟩ t))]) (vs := [.string (Fv gap ⟨#[]⟩ t)]) e5 (Nat.le_refl _) rfl (one _) (rp _ _ _); rw [g1] at hs; exact hfin _ hs
 refine (Yt t gap out p1 p2 W1 B1 B2 hne e8 e9 e10 hz).mono fun e W' ⟨he, hw⟩ => ?_
 subst he hw; have hs := h0.setbox (off := 0) (xs := [.im (sI (out ++ gap))]) (vs := [.string (out ++ gap)]) e5 (Nat.le_refl _) rfl (one _) (rp _ _ _); have hs2 := hs.setbox (off := 0) (b := b1) (xs := [.im (sI (Fv gap out t))]) (vs := [.string (Fv gap out t)]) (AX _ _ _) (Nat.le_refl _) rfl (one _) (rp _ _ _); rw [g1] at hs2; have hu : upd (upd s1.st b1 (.box (CE [.im (sI out)] 0 [.im (sI (out ++ gap))]))) b1 (.box (CE (CE [.im (sI out)] 0 [.im (sI (out ++ gap))]) 0 [.im (sI (Fv gap out t))])) = upd s1.st b1 (.box [.im (sI (Fv gap out t))]) := by
  funext i; unfold upd
  by_cases hi : i = b1
  ·rw [if_pos hi, if_pos hi]; rfl
  rw [if_neg hi, if_neg hi, if_neg hi]
 rw [hu] at hs2; exact hfin _ hs2
end
open Go Go.RowKit Go.Proofs Th
set_option maxRecDepth 8000
attribute [local go_sem] sel
attribute [local go_sem] Ah ByteArray.size_append bsz eap ape
variable {G : World → CS → Prop}
attribute [local go_sem] fromB toB
theorem V3 (gk : GK G) (t1 : ByteArray) (m1 q1 : Int) (x y : NJ) (cx : AP G x) (hx : (spJ x).size ≤ 2000000000000) (cy : AP G y) (hy : (spJ y).size ≤ 2000000000000) : ACalls Tryz.prog G 32 none [.agg (Al (.mk 6 t1 m1 q1 [x, y] [fromB]))] (.ret (sI (Ah [tgB (Av x) (spJ x), ⟨#[91]⟩, spJ y, ⟨#[58]⟩, ⟨#[]⟩, ⟨#[93]⟩])) []) := by
 have ct := Dy gk x cx (by omega); rw [show tgB (Av x) (spJ x) = tgB (Av x) (spJ x) from rfl] at ct; have hT : (tgB (Av x) (spJ x)).size ≤ 4000000000000 := by unfold tgB; split <;> first | omega | (unfold DG; simp only [ByteArray.size_append, bsz, List.length_cons, List.length_nil]; omega)
 generalize tgB (Av x) (spJ x) = T at *; unfold AP at cx; generalize spJ x = u at *; obtain ⟨k2, t2, m2, q2, l2, b2⟩ := x; unfold AP at cy; generalize spJ y = v at *; obtain ⟨k3, t3, m3, q3, l3, b3⟩ := y; have ca := Cf gk [T, ⟨#[91]⟩, v, ⟨#[58]⟩, ⟨#[]⟩, ⟨#[93]⟩] (by simp only [Ah, ByteArray.size_append, bsz, List.length_cons, List.length_nil]; omega); simp only [List.map_cons, List.map_nil] at ca; generalize Ah [T, ⟨#[91]⟩, v, ⟨#[58]⟩, ⟨#[]⟩, ⟨#[93]⟩] = z at ca ⊢; refine ACalls.enter Tryz.func32 rfl rfl gk Tryz.ntmps32 fun X F => ?_
 (iterate 3 apply Ar F;go_simp);(repeat apply Aq);refine At (by go_simp) ?_;apply Ar F;go_simp;refine ⟨_, cy, ?_⟩;go_simp;apply Ar F;go_simp;(repeat apply Aq);refine Af (by go_simp) ?_;apply As;go_simp;apply Ar F;go_simp;refine ⟨_, ct, ?_⟩;go_simp;refine ⟨_, ca, ?_⟩;go_simp;apply Au;go_simp
theorem Wn (gk : GK G) (t1 : ByteArray) (m1 q1 : Int) (x y : NJ) (cx : AP G x) (hx : (spJ x).size ≤ 2000000000000) (cy : AP G y) (hy : (spJ y).size ≤ 2000000000000) : ACalls Tryz.prog G 32 none [.agg (Al (.mk 6 t1 m1 q1 [x, y] [toB]))] (.ret (sI (Ah [tgB (Av x) (spJ x), ⟨#[91]⟩, ⟨#[]⟩, ⟨#[58]⟩, spJ y, ⟨#[93]⟩])) []) := by
 have ct := Dy gk x cx (by omega); rw [show tgB (Av x) (spJ x) = tgB (Av x) (spJ x) from rfl] at ct; have hT : (tgB (Av x) (spJ x)).size ≤ 4000000000000 := by unfold tgB; split <;> first | omega | (unfold DG; simp only [ByteArray.size_append, bsz, List.length_cons, List.length_nil]; omega)
 generalize tgB (Av x) (spJ x) = T at *; unfold AP at cx; generalize spJ x = u at *; obtain ⟨k2, t2, m2, q2, l2, b2⟩ := x; unfold AP at cy; generalize spJ y = v at *; obtain ⟨k3, t3, m3, q3, l3, b3⟩ := y; have ca := Cf gk [T, ⟨#[91]⟩, ⟨#[]⟩, ⟨#[58]⟩, v, ⟨#[93]⟩] (by simp only [Ah, ByteArray.size_append, bsz, List.length_cons, List.length_nil]; omega); simp only [List.map_cons, List.map_nil] at ca; generalize Ah [T, ⟨#[91]⟩, ⟨#[]⟩, ⟨#[58]⟩, v, ⟨#[93]⟩] = z at ca ⊢; refine ACalls.enter Tryz.func32 rfl rfl gk Tryz.ntmps32 fun X F => ?_
 (iterate 3 apply Ar F;go_simp);(repeat apply Aq);refine Af (by go_simp) ?_;apply As;go_simp;apply Ar F;go_simp;(repeat apply Aq);refine At (by go_simp) ?_;apply Ar F;go_simp;refine ⟨_, cy, ?_⟩;go_simp;apply Ar F;go_simp;refine ⟨_, ct, ?_⟩;go_simp;refine ⟨_, ca, ?_⟩;go_simp;apply Au;go_simp
theorem VF (gk : GK G) (t1 : ByteArray) (m1 q1 : Int) (x y r : NJ) (cx : AP G x) (hx : (spJ x).size ≤ 2000000000000) (cy : AP G y) (hy : (spJ y).size ≤ 2000000000000) (cr : AP G r) (hr : (spJ r).size ≤ 2000000000000) : ACalls Tryz.prog G 32 none [.agg (Al (.mk 6 t1 m1 q1 [x, y, r] [fromB, toB]))] (.ret (sI (Ah [tgB (Av x) (spJ x), ⟨#[91]⟩, spJ y, ⟨#[58]⟩, spJ r, ⟨#[93]⟩])) []) := by
 have ct := Dy gk x cx (by omega); rw [show tgB (Av x) (spJ x) = tgB (Av x) (spJ x) from rfl] at ct; have hT : (tgB (Av x) (spJ x)).size ≤ 4000000000000 := by unfold tgB; split <;> first | omega | (unfold DG; simp only [ByteArray.size_append, bsz, List.length_cons, List.length_nil]; omega)
 generalize tgB (Av x) (spJ x) = T at *; unfold AP at cx; generalize spJ x = u at *; obtain ⟨k2, t2, m2, q2, l2, b2⟩ := x; unfold AP at cy; generalize spJ y = v at *; obtain ⟨k3, t3, m3, q3, l3, b3⟩ := y; unfold AP at cr; generalize spJ r = g at *; obtain ⟨k4, t4, m4, q4, l4, b4⟩ := r; have ca := Cf gk [T, ⟨#[91]⟩, v, ⟨#[58]⟩, g, ⟨#[93]⟩] (by simp only [Ah, ByteArray.size_append, bsz, List.length_cons, List.length_nil]; omega); simp only [List.map_cons, List.map_nil] at ca; generalize Ah [T, ⟨#[91]⟩, v, ⟨#[58]⟩, g, ⟨#[93]⟩] = z at ca ⊢; refine ACalls.enter Tryz.func32 rfl rfl gk Tryz.ntmps32 fun X F => ?_
 (iterate 3 apply Ar F;go_simp);(repeat apply Aq);refine At (by go_simp) ?_;apply Ar F;go_simp;refine ⟨_, cy, ?_⟩;go_simp;apply Ar F;go_simp;(repeat apply Aq);refine At (by go_simp) ?_;apply Ar F;go_simp;refine ⟨_, cr, ?_⟩;go_simp;apply Ar F;go_simp;refine ⟨_, ct, ?_⟩;go_simp;refine ⟨_, ca, ?_⟩;go_simp;apply Au;go_simp
theorem JT {l : List NJ} {k : Nat} (h : k < l.length) : spL (l.drop k) = spJ l[k] :: spL (l.drop (k + 1)) := by rw [List.drop_eq_getElem_cons h, spL]
theorem TM {l : List NJ} {k : Nat} (h : l.length ≤ k) (b : Bool) : CQ b ((l.map nmJ).drop k) (spL (l.drop k)) = ⟨#[]⟩ := by
 rw [← List.map_drop, List.drop_eq_nil_of_le h]; cases b <;> rfl
theorem Sy {l : List NJ} {k : Nat} (h : k < l.length) : CQ true ((l.map nmJ).drop k) (spL (l.drop k)) = EJ (nmJ l[k]) ++ CQ false ((l.map nmJ).drop (k + 1)) (spL (l.drop (k + 1))) := by
 rw [JT h, ← List.map_drop, ← List.map_drop, List.drop_eq_getElem_cons h, List.map_cons]; rfl
theorem UB {l : List NJ} {k : Nat} (h : k < l.length) : CQ false ((l.map nmJ).drop k) (spL (l.drop k)) = ⟨#[92, 40]⟩ ++ spJ l[k] ++ ⟨#[41]⟩ ++ CQ true ((l.map nmJ).drop (k + 1)) (spL (l.drop (k + 1))) := by
 rw [JT h, ← List.map_drop, ← List.map_drop, List.drop_eq_getElem_cons h, List.map_cons]; rfl
theorem U0 (s : ByteArray) : (Dw s).size = (EJ s).size + 2 ∧ (Dw s).extract 1 ((EJ s).size + 1) = EJ s := by
 have h1 : (Dw s).data.toList = 34 :: (EJ s).data.toList ++ [34] := rfl; have h2 : (Dw s).size = (EJ s).size + 2 := by rw [← Ai, h1, ← Ai (EJ s)]; simp
 refine ⟨h2, ?_⟩; have h3 : ∀ a b : ByteArray, a.data.toList = b.data.toList → a = b := fun a b h => by
  cases a with | mk x => cases b with | mk y => cases x with | mk u => cases y with | mk v => simp at h; subst h; rfl
 apply h3; rw [ByteArray.data_extract, Array.toList_extract, h1, ← Ai (EJ s)]; simp [List.extract]
theorem U6 (gk : GK G) (hW : Kc G) (t1 : ByteArray) (m1 q1 : Int) (l : List NJ) (b1 : List ByteArray) (ht : ∀ x ∈ l, AP G x) (hs : ∀ x ∈ l, (spJ x).size ≤ 2000000000000) (hv : ∀ (j : Nat) (h : j < l.length), j % 2 = 0 → Lib.validD (nmJ l[j]).data.toList = true ∧ (nmJ l[j]).size ≤ 1000000) (hz : (CQ true (l.map nmJ) (spL l)).size ≤ 2000000000000) : ACalls Tryz.prog G 29 none [.agg (Al (.mk 4 t1 m1 q1 l b1))] (.ret (sI (Ah [⟨#[34]⟩, CQ true (l.map nmJ) (spL l), ⟨#[34]⟩])) []) := by
 by_cases hlen : l.length ≤ 140737488351232
 case neg => exact ⟨⟨_, Tryz.func29, rfl, rfl⟩, fun W S p us hG hSb hrc hrep => absurd (by have := It (i := 4) hrep rfl; rwa [BI] at this) hlen⟩
 have hJ0 : (⟨#[]⟩ : ByteArray) ++ CQ (decide (0 % 2 = 0)) ((l.map nmJ).drop 0) (spL (l.drop 0)) = CQ true (l.map nmJ) (spL l) := eap _; generalize CQ true (l.map nmJ) (spL l) = J at *; have cz := Cf gk [⟨#[34]⟩, J, ⟨#[34]⟩] (by simp only [Ah, ByteArray.size_append, bsz, List.length_cons, List.length_nil]; omega); simp only [List.map_cons, List.map_nil] at cz; generalize Ah [⟨#[34]⟩, J, ⟨#[34]⟩] = z at cz ⊢; refine ACalls.enter Tryz.func29 rfl rfl gk Tryz.ntmps29 fun X F => ?_
 (iterate 3 apply Ar F;go_simp);(repeat apply Aq);apply Ab;(repeat apply Aq);refine Cb [1, 3, 8, 9, 10] [1000, 1] (by decide) (fun g t => ∃ (k : Nat) (out : ByteArray), t = mkS [(1, .ptr 1 0), (3, .im (sI out)), (8, .im (.sl (A6 l) false)), (9, .im (iI l.length)), (10, .im (iI k))] [(1000, .none), (1, .box ((Al (.mk 4 t1 m1 q1 l b1)).map .im))] ∧ g = l.length - k ∧ k ≤ l.length ∧ out ++ CQ (decide (k % 2 = 0)) ((l.map nmJ).drop k) (spL (l.drop k)) = J) (l.length) ?_ ?_
 ·refine ⟨0, ⟨#[]⟩, ?_, by omega, by omega, hJ0⟩
  go_simp
 rintro g t ⟨k, out, rfl, rfl, hk, hg⟩; have ho : out.size ≤ 2000000000000 := by have := congrArg ByteArray.size hg; rw [ByteArray.size_append] at this; omega
 by_cases hkt : k < l.length
 ·have hkI : (k : Int) < (l.length : Int) := by omega
  have hrk := rng ((k : Int) + 1) (by omega); have hu := hs l[k] (List.getElem_mem hkt); by_cases hp : k % 2 = 0
  ·have hm : (k : Int).tmod 2 = 0 := by rw [Int.tmod_eq_emod_of_nonneg (by omega)]; omega
   obtain ⟨hv1, hv2⟩ := hv k hkt hp; have cq := Na gk hW (nmJ l[k]) hv2 hv1; obtain ⟨hq1, hq2⟩ := U0 (nmJ l[k]); rw [decide_eq_true hp, Sy hkt] at hg; have hbs := Ub (nmJ l[k]); generalize EJ (nmJ l[k]) = B at *; generalize Dw (nmJ l[k]) = Q at *; obtain ⟨⟨k5, t5, m5, q5, l5, b5⟩, hx5⟩ : ∃ x, l[k] = x := ⟨_, rfl⟩
   rw [hx5] at cq; rw [show nmJ (.mk k5 t5 m5 q5 l5 b5) = t5 from rfl] at cq; have hQI : (Q.size : Int) - 1 = ((B.size + 1 : Nat) : Int) := by omega
   have hQ2 : ((B.size + 1 : Nat) : Int) ≤ (Q.size : Int) := by omega
   have hQe : Q.extract 1 (((B.size : Int) + 2).toNat - 1) = B := by rw [show ((B.size : Int) + 2).toNat - 1 = B.size + 1 by omega]; exact hq2
   apply Ar F; go_simp; (repeat apply Aq); refine At (by go_simp) ?_; apply As; go_simp; (repeat apply Aq); apply Ab; apply Ar F; go_simp; apply Ar F; go_simp; (repeat apply Aq); refine At (by go_simp) ?_; apply Ar F; go_simp; refine ⟨_, cq, ?_⟩; go_simp; apply Ar F; go_simp; repeat (refine And.intro (by omega) ?_; go_simp)
   apply Ar F; go_simp; refine ⟨l.length - (k + 1), by omega, k + 1, out ++ B, ?_, by omega, by omega, by rw [decide_eq_false (by omega), ByteArray.append_assoc]; exact hg⟩; go_simp
  have hm : (k : Int).tmod 2 = 1 := by rw [Int.tmod_eq_emod_of_nonneg (by omega)]; omega
  have ct := ht l[k] (List.getElem_mem hkt); unfold AP at ct; rw [decide_eq_false hp, UB hkt] at hg; generalize spJ l[k] = u at *; obtain ⟨⟨k5, t5, m5, q5, l5, b5⟩, hx5⟩ : ∃ x, l[k] = x := ⟨_, rfl⟩
  rw [hx5] at ct; have ca := Cf gk [⟨#[92, 40]⟩, u, ⟨#[41]⟩] (by simp only [Ah, ByteArray.size_append, bsz, List.length_cons, List.length_nil]; omega); have hA : Ah [⟨#[92, 40]⟩, u, ⟨#[41]⟩] = ⟨#[92, 40]⟩ ++ u ++ ⟨#[41]⟩ := by simp only [Ah, ape, ByteArray.append_assoc]
  have hAs : (Ah [⟨#[92, 40]⟩, u, ⟨#[41]⟩]).size ≤ 4000000000000 := by rw [hA]; simp only [ByteArray.size_append, bsz, List.length_cons, List.length_nil]; omega
  rw [← hA] at hg; simp only [List.map_cons, List.map_nil] at ca; generalize Ah [⟨#[92, 40]⟩, u, ⟨#[41]⟩] = A at *; apply Ar F; go_simp; (repeat apply Aq); refine At (by go_simp) ?_; apply As; go_simp; (repeat apply Aq); apply Ab; apply Ar F; go_simp; apply Ar F; go_simp; (repeat apply Aq); refine Af (by go_simp) ?_; apply Ar F; go_simp; refine ⟨_, ct, ?_⟩; go_simp; refine ⟨_, ca, ?_⟩; go_simp; repeat (refine And.intro (by omega) ?_; go_simp)
  apply Ar F; go_simp; refine ⟨l.length - (k + 1), by omega, k + 1, out ++ A, ?_, by omega, by omega, by rw [decide_eq_true (by omega), ByteArray.append_assoc]; exact hg⟩; go_simp
 have hkI : ¬ (k : Int) < (l.length : Int) := by omega
 rw [TM (by omega), ape] at hg; subst hg; apply Ar F; go_simp; (repeat apply Aq); refine Af (by go_simp) ?_; apply Ae; go_simp; apply Ar F; go_simp; refine ⟨_, cz, ?_⟩; go_simp; apply Au; go_simp
theorem WZ {l : List NJ} {k : Nat} (h : l.length ≤ k) (b : Bool) : Cs b (spL (l.drop k)) = ⟨#[]⟩ := by rw [List.drop_eq_nil_of_le h]; cases b <;> rfl
theorem Ti {l : List NJ} {k : Nat} (h : k < l.length) (h1 : k + 1 < l.length) (b : Bool) : Cs b (spL (l.drop k)) = (if b = true then ⟨#[]⟩ else ⟨#[44, 32]⟩) ++ DG (spJ l[k]) ++ ⟨#[58, 32]⟩ ++ spJ l[k + 1] ++ Cs false (spL (l.drop (k + 2))) := by
 rw [JT h, JT h1]; rfl
theorem Ui (gk : GK G) (t1 : ByteArray) (m1 q1 : Int) (l : List NJ) (b1 : List ByteArray) (ht : ∀ x ∈ l, AP G x) (hs : ∀ x ∈ l, (spJ x).size ≤ 2000000000000) (hev : l.length % 2 = 0) (hz : (Cs true (spL l)).size ≤ 2000000000000) : ACalls Tryz.prog G 35 none [.agg (Al (.mk 16 t1 m1 q1 l b1))] (.ret (sI (Ah [⟨#[123]⟩, Cs true (spL l), ⟨#[125]⟩])) []) := by
 by_cases hlen : l.length ≤ 140737488351232
 case neg => exact ⟨⟨_, Tryz.func35, rfl, rfl⟩, fun W S p us hG hSb hrc hrep => absurd (by have := It (i := 4) hrep rfl; rwa [BI] at this) hlen⟩
 have hJ0 : (⟨#[]⟩ : ByteArray) ++ Cs (decide (0 = 0)) (spL (l.drop 0)) = Cs true (spL l) := eap _; generalize Cs true (spL l) = J at *; have cz := Cf gk [⟨#[123]⟩, J, ⟨#[125]⟩] (by simp only [Ah, ByteArray.size_append, bsz, List.length_cons, List.length_nil]; omega); simp only [List.map_cons, List.map_nil] at cz; generalize Ah [⟨#[123]⟩, J, ⟨#[125]⟩] = z at cz ⊢; refine ACalls.enter Tryz.func35 rfl rfl gk Tryz.ntmps35 fun X F => ?_
 (iterate 3 apply Ar F;go_simp);(repeat apply Aq);apply Ab;(repeat apply Aq);refine Cb [1, 3, 4] [1000, 1] (by decide) (fun g t => ∃ (k : Nat) (out : ByteArray), t = mkS [(1, .ptr 1 0), (3, .im (sI out)), (4, .im (iI k))] [(1000, .none), (1, .box ((Al (.mk 16 t1 m1 q1 l b1)).map .im))] ∧ g = l.length - k ∧ k ≤ l.length ∧ k % 2 = 0 ∧ out ++ Cs (decide (k = 0)) (spL (l.drop k)) = J) (l.length) ?_ ?_
 ·refine ⟨0, ⟨#[]⟩, ?_, by omega, by omega, by omega, hJ0⟩
  go_simp
 rintro g t ⟨k, out, rfl, rfl, hk, hke, hg⟩; have ho : out.size ≤ 2000000000000 := by have := congrArg ByteArray.size hg; rw [ByteArray.size_append] at this; omega
 by_cases hkt : k < l.length
 ·have hk1 : k + 1 < l.length := by omega
  have hkI : (k : Int) < (l.length : Int) := by omega
  have hrk := rng ((k : Int) + 1) (by omega); have hrk2 := rng ((k : Int) + 2) (by omega); have hu := hs l[k] (List.getElem_mem hkt); have hv := hs l[k + 1] (List.getElem_mem hk1); have cx := ht l[k] (List.getElem_mem hkt); have cy := ht l[k + 1] (List.getElem_mem hk1); unfold AP at cx cy; rw [Ti hkt hk1] at hg; generalize spJ l[k] = u at *; generalize spJ l[k + 1] = v at *; obtain ⟨⟨k5, t5, m5, q5, l5, b5⟩, hx5⟩ : ∃ x, l[k] = x := ⟨_, rfl⟩
  obtain ⟨⟨k6, t6, m6, q6, l6, b6⟩, hx6⟩ : ∃ x, l[k + 1] = x := ⟨_, rfl⟩
  rw [hx5] at cx; rw [hx6] at cy; have hnat : ((k : Int) + 1).toNat = k + 1 := by omega
  have ca := Cf gk [⟨#[40]⟩, u, ⟨#[41, 58, 32]⟩, v] (by simp only [Ah, ByteArray.size_append, bsz, List.length_cons, List.length_nil]; omega); obtain ⟨A, hA⟩ : ∃ A, Ah [⟨#[40]⟩, u, ⟨#[41, 58, 32]⟩, v] = A := ⟨_, rfl⟩
  have hAs : A.size ≤ 8000000000000 := by rw [← hA]; simp only [Ah, ByteArray.size_append, bsz, List.length_cons, List.length_nil]; omega
  have hA2 : DG u ++ ⟨#[58, 32]⟩ ++ v = A := by rw [← hA]; simp only [Ah, ape, DG, ByteArray.append_assoc]; rw [show (⟨#[41, 58, 32]⟩ : ByteArray) = ⟨#[41]⟩ ++ ⟨#[58, 32]⟩ from rfl, ByteArray.append_assoc]
  rw [hA] at ca; clear hA; simp only [List.map_cons, List.map_nil] at ca; by_cases hk0 : k = 0
  ·have hkp : ¬ 0 < k := by omega
   rw [decide_eq_true hk0, if_pos rfl, eap] at hg; clear hk0; apply Ar F; go_simp; (repeat apply Aq); refine At (by go_simp) ?_; apply As; go_simp; (repeat apply Aq); apply Ab; apply Ar F; go_simp; (repeat apply Aq); refine Af (by go_simp) ?_; apply As; go_simp; (repeat apply Aq); refine Ad F [0, 1, 2, 3, 4, 5, 7, 8, 9, 10, 11, 12, 6, 13, 14, 15, 16, 17] [(8, 6), (11, 6), (12, 6)] mixed (by kernel_rfl) ?_; go_simp; repeat (refine And.intro (by omega) ?_; go_simp)
   refine ⟨_, cx, ?_⟩; go_simp; refine ⟨_, cy, ?_⟩; go_simp; refine ⟨_, ca, ?_⟩; go_simp; repeat (refine And.intro (by omega) ?_; go_simp)
   apply Ar F; go_simp; refine ⟨l.length - (k + 2), by omega, k + 2, out ++ A, ?_, by omega, by omega, by omega, by rw [decide_eq_false (by omega), ← hA2]; simpa [ByteArray.append_assoc] using hg⟩; go_simp
  have hkp : 0 < k := by omega
  rw [decide_eq_false hk0, if_neg (by decide)] at hg; clear hk0; apply Ar F; go_simp; (repeat apply Aq); refine At (by go_simp) ?_; apply As; go_simp; (repeat apply Aq); apply Ab; apply Ar F; go_simp; (repeat apply Aq); refine At (by go_simp) ?_; apply Ar F; go_simp; repeat (refine And.intro (by omega) ?_; go_simp)
  (repeat apply Aq); refine Ad F [0, 1, 2, 3, 4, 5, 7, 8, 9, 10, 11, 12, 6, 13, 14, 15, 16, 17] [(8, 6), (11, 6), (12, 6)] mixed (by kernel_rfl) ?_; go_simp; repeat (refine And.intro (by omega) ?_; go_simp)
  refine ⟨_, cx, ?_⟩; go_simp; refine ⟨_, cy, ?_⟩; go_simp; refine ⟨_, ca, ?_⟩; go_simp; repeat (refine And.intro (by omega) ?_; go_simp)
  apply Ar F; go_simp; refine ⟨l.length - (k + 2), by omega, k + 2, out ++ ⟨#[44, 32]⟩ ++ A, ?_, by omega, by omega, by omega, by rw [decide_eq_false (by omega), ← hA2]; simpa [ByteArray.append_assoc] using hg⟩; go_simp
 have hkI : ¬ (k : Int) < (l.length : Int) := by omega
 rw [WZ (by omega), ape] at hg; subst hg; apply Ar F; go_simp; (repeat apply Aq); refine Af (by go_simp) ?_; apply Ae; go_simp; apply Ar F; go_simp; refine ⟨_, cz, ?_⟩; go_simp; apply Au; go_simp
open Go Go.RowKit Go.Proofs Th
set_option maxRecDepth 8000
variable {G : World → CS → Prop}
def IM (p : NJ → Bool) : List NJ → Nat → Int
 | [], _ => -1
 | x :: r, k => if p x = true then (k : Int) else IM p r (k + 1)
theorem Rr (p : NJ → Bool) : ∀ (l : List NJ) (k : Nat), decide (0 ≤ IM p l k) = l.any p
 | [], _ => rfl
 | x :: r, k => by
  unfold IM; by_cases h : p x = true
  ·rw [if_pos h, List.any_cons, h]; exact decide_eq_true (by omega)
  rw [if_neg h, Rr p r (k + 1), List.any_cons]; cases hp : p x with
  | true => exact absurd hp h
  | false => rfl
attribute [local go_sem] Hr
theorem TP (gk : GK G) (l : List NJ) (g o : Nat) (p : NJ → Bool) (IH : ∀ x ∈ l, ACalls Tryz.prog G 45 none [.agg (Al x), .v (.pointer (some ⟨g, o, none⟩))] (.ret (bI (p x)) [])) : ACalls Tryz.prog G 66 none [.sl (A6 l) false, .v (Hr 45 g o)] (.ret (iI (IM p l 0)) []) := by
 by_cases hlen : l.length ≤ 140737488351232
 case neg => exact ⟨⟨_, Tryz.func66, rfl, rfl⟩, fun W S p us hG hSb hrc hrep => absurd (by have := Gu hrep; rwa [BI] at this) hlen⟩
 obtain ⟨z, hz⟩ : ∃ z, IM p l 0 = z := ⟨_, rfl⟩
 rw [hz]; refine ACalls.enter Tryz.func66 rfl rfl gk Tryz.ntmps66 fun X F => ?_
 apply Ar F; go_simp; apply Ar F; go_simp; (repeat apply Aq); apply Ab; (repeat apply Aq); refine Cb [0, 1, 6, 7, 8] [1000] (by decide) (fun g2 t => ∃ k : Nat, t = mkS [(0, .im (.sl (A6 l) false)), (1, .im (.v (Hr 45 g o))), (6, .im (.sl (A6 l) false)), (7, .im (iI l.length)), (8, .im (iI k))] [(1000, .none)] ∧ g2 = l.length - k ∧ k ≤ l.length ∧ IM p (l.drop k) k = z) (l.length) ?_ ?_
 ·refine ⟨0, ?_, by omega, by omega, hz⟩
  go_simp
 rintro g2 t ⟨k, rfl, rfl, hk, hg⟩; by_cases hkt : k < l.length
 ·have hkI : (k : Int) < (l.length : Int) := by omega
  have hrk := rng ((k : Int) + 1) (by omega); have cp := IH l[k] (List.getElem_mem hkt); rw [List.drop_eq_getElem_cons hkt] at hg; unfold IM at hg; generalize p l[k] = pv at cp hg; obtain ⟨⟨k5, t5, m5, q5, l5, b5⟩, hx5⟩ : ∃ x, l[k] = x := ⟨_, rfl⟩
  rw [hx5] at cp; apply Ar F; go_simp; (repeat apply Aq); refine At (by go_simp) ?_; apply As; go_simp; (repeat apply Aq); apply Ab; cases pv
  ·apply Ar F
   go_simp; apply Ar F; go_simp; refine ⟨_, cp, ?_⟩; go_simp; rw [if_neg (by decide)] at hg; (repeat apply Aq); refine Af (by go_simp) ?_; apply As; go_simp; apply Ar F; go_simp; refine ⟨l.length - (k + 1), by omega, k + 1, ?_, by omega, by omega, hg⟩; go_simp
  apply Ar F; go_simp; apply Ar F; go_simp; refine ⟨_, cp, ?_⟩; go_simp; rw [if_pos rfl] at hg; subst hg; (repeat apply Aq); refine At (by go_simp) ?_; apply Ar F; go_simp; apply Au; go_simp
 have hkI : ¬ (k : Int) < (l.length : Int) := by omega
 rw [List.drop_eq_nil_of_le (by omega)] at hg; unfold IM at hg; subst hg; apply Ar F; go_simp; (repeat apply Aq); refine Af (by go_simp) ?_; apply Ae; go_simp; apply Ar F; go_simp; apply Au; go_simp
theorem PU (gk : GK G) (l : List NJ) (g o : Nat) (p : NJ → Bool) (IH : ∀ x ∈ l, ACalls Tryz.prog G 45 none [.agg (Al x), .v (.pointer (some ⟨g, o, none⟩))] (.ret (bI (p x)) [])) : ACalls Tryz.prog G 44 none [.sl (A6 l) false, .v (Hr 45 g o)] (.ret (bI (l.any p)) []) := by
 have ci := TP gk l g o p IH; rw [← Rr p l 0]; generalize IM p l 0 = z at *; refine ACalls.enter Tryz.func44 rfl rfl gk Tryz.ntmps44 fun X F => ?_
 apply Ar F; go_simp; apply Ar F; go_simp; refine ⟨_, ci, ?_⟩; go_simp; apply Au; go_simp
theorem X9 (gk : GK G) (d : Nat) (hd : d ≤ 1000) (n : NJ) (cm : ACalls Tryz.prog G 18 none [.agg (Al n), iI d] (.ret (bI (De d n)) [])) : ACalls Tryz.prog G 45 none [.agg (Al n), .elt [iI ((d + 1 : Nat) : Int)] 0] (.ret (bI (!De d n)) []) := by
 generalize De d n = mv at cm; have hd1 : ((d + 1 : Nat) : Int) - 1 = (d : Int) := by omega
 have hrd := rng ((d : Int)) (by omega); generalize hD : ((d + 1 : Nat) : Int) = D at *; obtain ⟨k1, t1, m1, q1, l1, b1⟩ := n; refine ACalls.enter Tryz.func45 rfl rfl gk Tryz.ntmps45 fun X F => ?_
 apply Ar F; go_simp; apply Ar F; go_simp; refine ⟨_, cm, ?_⟩; go_simp; apply Au; go_simp
theorem WJ (gk : GK G) (d : Nat) (hd : d ≤ 1000) (n : NJ) (g o : Nat) (cm : ACalls Tryz.prog G 18 none [.agg (Al n), iI d] (.ret (bI (De d n)) [])) : ACalls Tryz.prog (GL G g o ((d + 1 : Nat) : Int)) 45 none [.agg (Al n), .v (.pointer (some ⟨g, o, none⟩))] (.ret (bI (!De d n)) []) := by
 obtain ⟨h1, h2⟩ := X9 gk d hd n cm; refine ⟨h1, fun W S p us hG hSb hrc hrep => ?_⟩; obtain ⟨hG1, hS, hc⟩ := hG; refine h2 W S p us hG1 hSb hrc ⟨hrep.1, fun i x u hx hu => ?_⟩; match i, hx with
 | 0, hx => exact hrep.2 0 x u hx hu
 | 1, hx =>
  injection hx with hx; have := Dl (hrep.2 1 _ u rfl hu); subst hx this; exact Rep.elt (off := 0) g o (fun _ => .int .i64 ((d + 1 : Nat) : Int)) (fun x hx => by simp only [List.mem_singleton] at hx; subst hx; rfl) (fun i hi => by
   have : i = 0 := by simpa using hi
   subst this; exact ⟨hS, hc⟩) (fun i x hx => by
   match i, hx with
   | 0, hx => injection hx with hx; rw [← hx]; exact .v _
   | i + 1, hx => exact absurd hx (by simp))
 | i + 2, hx => exact absurd hx (by simp)
open Go Go.RowKit Go.Proofs Th
set_option maxRecDepth 8000
variable {G : World → CS → Prop}
theorem QY {k : Nat} : ∀ {l : List NJ}, Bt l ≤ k ↔ ∀ y ∈ l, AB y ≤ k
 | [] => by simp [Bt]
 | a :: r => by
  rw [Bt, Nat.max_le, QY (l := r)]; simp
theorem LG : ∀ (k : Nat) (x : NJ), shJ k x = true ↔ AB x ≤ k
 | 0, .mk _ _ _ _ l _ => by rw [shJ, AB]; constructor <;> intro h <;> first | cases h | omega
 | k + 1, .mk _ _ _ _ l _ => by
  rw [shJ, AB, List.all_eq_true]; have := QY (k := k) (l := l); constructor
  ·intro h
   have h2 := this.2 fun y hy => (LG k y).1 (h y hy)
   omega
  intro h y hy; exact (LG k y).2 (this.1 (by omega) y hy)
end Go.Proofs.YtakncilicoefdaaGreatDoor
