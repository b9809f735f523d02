/- Lemmas and contracts. Conditions: those that each lemma names. -/
import Derived.Test.YtakncilicoefdaaGreatDoorPt35
set_option maxRecDepth 100000
set_option maxHeartbeats 40000000
namespace Go.Proofs.YtakncilicoefdaaGreatDoor
open Go Go.RowKit Go.Proofs Th
def Es (gap out s : ByteArray) : ByteArray := (if out = ⟨#[]⟩ then out else out ++ gap) ++ s
theorem UG (s gap : ByteArray) (g1 g2 : Nat) (W : World) (h1 : Box W g1 [.string ⟨#[]⟩]) (h2 : Box W g2 [.string gap]) (_hne : g2 ≠ g1) (hs : s.size ≤ 100000000) (_hg : gap.size ≤ 100000000) :
  Calls Tryz.prog 57 #[.string s, .pointer (some ⟨g1, 0, none⟩), .pointer (some ⟨g2, 0, none⟩)] W fun e W' => e = .returned (.tuple #[]) ∧ W' = W.setCells g1 0 [.string (Es gap ⟨#[]⟩ s)] := by
 have p0 := h1.cell 0 _ rfl; have pf := h1.froz 0; have pl := h1.lt; have p1 := h2.cell 0 _ rfl; go_enter Tryz.func57, Tryz.ntmps57
 go_wp2_with fail
 simp [bodyPost, results, Tryz.results57, Es, World.setCells]
theorem Uz (s gap out : ByteArray) (g1 g2 : Nat) (W : World) (h1 : Box W g1 [.string out]) (h2 : Box W g2 [.string gap]) (_hne : g2 ≠ g1) (hs : s.size ≤ 100000000) (hg : gap.size ≤ 100000000) (ho : out.size ≤ 100000000) (h0 : out ≠ ⟨#[]⟩) :
  Calls Tryz.prog 57 #[.string s, .pointer (some ⟨g1, 0, none⟩), .pointer (some ⟨g2, 0, none⟩)] W fun e W' => e = .returned (.tuple #[]) ∧ W' = (W.setCells g1 0 [.string (out ++ gap)]).setCells g1 0 [.string (Es gap out s)] := by
 have p0 := h1.cell 0 _ rfl; have pf := h1.froz 0; have pl := h1.lt; have p1 := h2.cell 0 _ rfl; have hz : (out.size : Int) + gap.size ≤ 9223372036854775807 := by omega
 have he : out.toList.isEmpty = false := by
  rw [Lib.toList_data]; cases hd : out.data.toList with
  | nil => exact absurd (show out = ⟨#[]⟩ by cases out with | mk x => cases x with | mk l => simp at hd; subst hd; rfl) h0
  | cons c r => rfl
 go_enter Tryz.func57, Tryz.ntmps57
 go_wp2_with fail
 simp [bodyPost, results, Tryz.results57, Es, World.setCells, h0]
def D9 (fc : FuncId) (p1 p2 : Nat) : Value := .func (.func fc) #[] #[.pointer (some ⟨p1, 0, none⟩), .pointer (some ⟨p2, 0, none⟩)]
section
variable {X : Ctx} {ops : Array Oper} {Q : AExit → ASt → Prop} {n : Nat} {G : World → CS → Prop} {id : Nat} {s : ASt}
theorem SI (F : Fit X G n) {o1 o2 : Oper} {fc : FuncId} {t1 t2 b1 b2 d1 d2 k1 k2 : Nat} (hops : ops.toList = [o1, o2]) (h1 : o1.op = .makeFunc (.func fc) #[] #[.tmp t1, .tmp t2] ∧ o1.dst = some d1 ∧ o1.guard = none ∧ d1 < n) (h2 : o2.op = .assign (.tmp d1) ∧ o2.dst = some d2 ∧ o2.guard = none ∧ d2 < n)
  (hb : (s.fr t1 = .ptr b1 0 ∧ ∃ cs, s.st b1 = .box cs) ∧ s.fr t2 = .ptr b2 0 ∧ ∃ cs, s.st b2 = .box cs) (h : ∀ p1 p2, Q .normal ⟨upd (upd (upd (upd s.fr d1 (.im (.v (D9 fc p1 p2)))) d2 (.im (.v (D9 fc p1 p2)))) k1 (.pin b1 p1)) k2 (.pin b2 p2), s.st⟩) : AW Tryz.prog X (.region id ops false) Q s := by
 rintro a W ⟨E, S, hR⟩; refine wp_region_list ?_; rw [hops]; obtain ⟨q1, q2, q3, q4⟩ := h1; obtain ⟨r1, r2, r3, r4⟩ := h2; obtain ⟨⟨e1, c1⟩, e2, c2⟩ := hb; have hp1 := Cl hR (x := .tmp t1) e1; have hp2 := Cl hR (x := .tmp t2) e2; unfold wpList; rw [if_pos (by unfold Region.wanted; rw [q3])]; refine Or.inl ?_; unfold Oper.wp; rw [show (execOp a.eval o1).run Tryz.prog W = .ok (.value (D9 fc (E.box b1) (E.box b2))) W by simp [execOp, q1, Instr.makeFunc, hp1, hp2, D9]]; show wpList Tryz.prog ops (Dq X Q) [o2] (a.put o1.dst _) W
 rw [q2]; have hR1 : RelE X E S ⟨upd s.fr d1 (.im (.v (D9 fc (E.box b1) (E.box b2)))), s.st⟩ (a.put (some d1) (D9 fc (E.box b1) (E.box b2))) W := hR.put d1 (Nat.lt_of_lt_of_le q4 F.n) (c := .im (.v (D9 fc (E.box b1) (E.box b2)))) (Rep.v _); have ev1 := BJ hR1 (x := .tmp d1) (AK _ _ _); generalize a.put (some d1) (D9 fc (E.box b1) (E.box b2)) = a2 at hR1 ev1; unfold wpList; rw [if_pos (by unfold Region.wanted; rw [r3])]; refine Or.inl ?_; unfold Oper.wp; rw [show (execOp a2.eval o2).run Tryz.prog W = .ok (.value (D9 fc (E.box b1) (E.box b2))) W by simp [execOp, r1, ev1]]; show wpList Tryz.prog ops (Dq X Q) [] (a2.put o2.dst _) W
 rw [r2]; have hR2 : RelE X E S ⟨upd (upd s.fr d1 (.im (.v (D9 fc (E.box b1) (E.box b2))))) d2 (.im (.v (D9 fc (E.box b1) (E.box b2)))), s.st⟩ (a2.put (some d2) (D9 fc (E.box b1) (E.box b2))) W := hR1.put d2 (Nat.lt_of_lt_of_le r4 F.n) (c := .im (.v (D9 fc (E.box b1) (E.box b2)))) (Rep.v _); have hR3 := (hR2.pin k1 b1 c1).pin k2 b2 c2; unfold wpList; exact ⟨_, ⟨E, S, hR3⟩, h _ _⟩
structure CloT (fc : FuncId) (tc ts k1 k2 b1 b2 p1 p2 : Nat) (gap out t : ByteArray) (s : ASt) : Prop where
 cl : s.fr tc = .im (.v (D9 fc p1 p2))
 tx : s.fr ts = .im (sI t)
 k1 : s.fr k1 = .pin b1 p1
 k2 : s.fr k2 = .pin b2 p2
 o1 : s.st b1 = .box [.im (sI out)]
 o2 : s.st b2 = .box [.im (sI gap)]
 ne : b1 ≠ b2
 sz : (t.size ≤ 100000000 ∧ gap.size ≤ 100000000) ∧ out.size ≤ 100000000
theorem Rd {E : AEnv} {S : CS} {a : Act} {W : World} (h : RelE X E S s a W) {b : Nat} {v : Value} (hs : s.st b = .box [.im (.v v)]) : Box W (E.box b) [v] := by
 have hob := h.ob b; rw [hs] at hob; obtain ⟨⟨us, hul, hB, hu1, hur, hS⟩, hloc⟩ := hob; obtain ⟨u0, rfl⟩ : ∃ u0, us = [u0] := by
  rcases us with _ | ⟨u0, _ | ⟨u1, r⟩⟩
  ·cases hul
  ·exact ⟨u0, rfl⟩
  simp at hul
 obtain rfl : u0 = v := Cz (hur 0 _ u0 rfl rfl); exact hB
theorem VM (F : Fit X G n) (l1 : List Oper) {o1 : Oper} {c : Call} {tc ts k1 k2 b1 b2 p1 p2 d : Nat} (gap out t : ByteArray) (hops : ops.toList = l1 ++ [o1]) (h1 : o1.op = .call c ∧ c.callee = .value (.tmp tc) ∧ c.args.toList = [.tmp ts] ∧ o1.dst = some d ∧ o1.guard = none ∧ d < n)
  (h : B9 Tryz.prog G n ops l1 s (fun s' => CloT 57 tc ts k1 k2 b1 b2 p1 p2 gap out t s' ∧ Q .normal ⟨upd s'.fr d .junk, upd s'.st b1 (.box [.im (sI (Es gap out t))])⟩) (fun x s' => Q (.panic x) s')) : AW Tryz.prog X (.region id ops false) Q s := by
 intro a W hR; refine wp_region_list ?_; rw [hops]; refine FM F.n [o1] ?_ l1 hR (by rw [F.g]; exact h); rintro s1 a1 W1 ⟨E, S, h0⟩ ⟨⟨e1, e2, e3, e4, e5, e6, e7, ⟨e8, e9⟩, e10⟩, hQ⟩; obtain ⟨q1, q2, q3, q4, q5, q6⟩ := h1; have g1 : E.box b1 = p1 := by have := h0.fr k1; rw [e3] at this; exact this.2
 have g2 : E.box b2 = p2 := by have := h0.fr k2; rw [e4] at this; exact this.2
 have hc := BJ h0 (x := .tmp tc) e1; have ht := BJ h0 (x := .tmp ts) e2; have B1 := Rd h0 e5; have B2 := Rd h0 e6; rw [g1] at B1; rw [g2] at B2; have hne : p2 ≠ p1 := fun e => e7 (h0.ap b1 b2 p1 (by rw [e5]; exact congrArg some g1) (by rw [e6]; exact congrArg some (g2.trans e)))
 unfold wpList; rw [if_pos (by unfold Region.wanted; rw [q5])]; refine Or.inl ?_; unfold Oper.wp; rw [Kq q1 q2 hc ⟨_, Tryz.func57, rfl, rfl⟩, q3]; show Calls Tryz.prog 57 #[a1.eval (.tmp ts), .pointer (some ⟨p1, 0, none⟩), .pointer (some ⟨p2, 0, none⟩)] W1 _
 rw [ht]; have hfin : ∀ W2, RelE X E S ⟨s1.fr, upd s1.st b1 (.box [.im (sI (Es gap out t))])⟩ a1 W2 → wpList Tryz.prog ops (Dq X Q) [] (a1.put o1.dst (.tuple #[])) W2 := fun W2 hR2 => by
  rw [q4]; unfold wpList; exact ⟨_, ⟨E, S, hR2.put d (Nat.lt_of_lt_of_le q6 F.n) (c := .junk) trivial⟩, hQ⟩
 have one : ∀ (v : ByteArray) (u : Value), u ∈ [Value.string v] → u.oneCell' = true := fun v u hu => by simp only [List.mem_singleton] at hu; subst hu; rfl
 have rp : ∀ (v : ByteArray) (W : World) (st : Nat → AObj) (i : Nat) (c : FV) (u : Value), [FV.im (sI v)][i]? = some c → [Value.string v][i]? = some u → Bv W S E st c u := fun v W st i c u hc hu => by
  match i, hc, hu with
  | 0, hc, hu => injection hc with hc; injection hu with hu; subst hc hu; exact Rep.v _
  | i + 1, hc, hu => exact absurd hc (by simp)
 by_cases hz : out = ⟨#[]⟩
 ·subst hz
  refine (UG t gap p1 p2 W1 B1 B2 hne e8 e9).mono fun e W' ⟨he, hw⟩ => ?_
  subst he hw; have hs := h0.setbox (off := 0) (xs := [.im (sI (Es gap ⟨#[]⟩ t))]) (vs := [.string (Es gap ⟨#[]⟩ t)]) e5 (Nat.le_refl _) rfl (one _) (rp _ _ _); rw [g1] at hs; exact hfin _ hs
 refine (Uz t gap out p1 p2 W1 B1 B2 hne e8 e9 e10 hz).mono fun e W' ⟨he, hw⟩ => ?_
 subst he hw; have hs := h0.setbox (off := 0) (xs := [.im (sI (out ++ gap))]) (vs := [.string (out ++ gap)]) e5 (Nat.le_refl _) rfl (one _) (rp _ _ _); have hs2 := hs.setbox (off := 0) (b := b1) (xs := [.im (sI (Es gap out t))]) (vs := [.string (Es gap out t)]) (AK _ _ _) (Nat.le_refl _) rfl (one _) (rp _ _ _); rw [g1] at hs2; have hu : upd (upd s1.st b1 (.box (BT [.im (sI out)] 0 [.im (sI (out ++ gap))]))) b1 (.box (BT (BT [.im (sI out)] 0 [.im (sI (out ++ gap))]) 0 [.im (sI (Es gap out t))])) = upd s1.st b1 (.box [.im (sI (Es gap out t))]) := by
  funext i; unfold upd
  by_cases hi : i = b1
  ·rw [if_pos hi, if_pos hi]; rfl
  rw [if_neg hi, if_neg hi, if_neg hi]
 rw [hu] at hs2; exact hfin _ hs2
end
open Go Go.RowKit Go.Proofs Th
set_option maxRecDepth 8000
attribute [local go_sem] sel
attribute [local go_sem] Aa ByteArray.size_append bsz eap ape
variable {G : World → CS → Prop}
attribute [local go_sem] A6 toB
theorem TC (gk : GK G) (t1 : ByteArray) (m1 q1 : Int) (x y : NJ) (cx : AE G x) (hx : (spJ x).size ≤ 10000000) (cy : AE G y) (hy : (spJ y).size ≤ 10000000) : ACalls Tryz.prog G 32 none [.agg (Ag (.mk 6 t1 m1 q1 [x, y] [A6]))] (.ret (sI (Aa [tgB (Av x) (spJ x), ⟨#[91]⟩, spJ y, ⟨#[58]⟩, ⟨#[]⟩, ⟨#[93]⟩])) []) := by
 have ct := CF gk x cx (by omega); rw [show tgB (Av x) (spJ x) = tgB (Av x) (spJ x) from rfl] at ct; have hT : (tgB (Av x) (spJ x)).size ≤ 20000000 := by unfold tgB; split <;> first | omega | (unfold CM; simp only [ByteArray.size_append, bsz, List.length_cons, List.length_nil]; omega)
 generalize tgB (Av x) (spJ x) = T at *; unfold AE at cx; generalize spJ x = u at *; obtain ⟨k2, t2, m2, q2, l2, b2⟩ := x; unfold AE at cy; generalize spJ y = v at *; obtain ⟨k3, t3, m3, q3, l3, b3⟩ := y; have ca := BE gk [T, ⟨#[91]⟩, v, ⟨#[58]⟩, ⟨#[]⟩, ⟨#[93]⟩] (by simp only [Aa, ByteArray.size_append, bsz, List.length_cons, List.length_nil]; omega); simp only [List.map_cons, List.map_nil] at ca; generalize Aa [T, ⟨#[91]⟩, v, ⟨#[58]⟩, ⟨#[]⟩, ⟨#[93]⟩] = z at ca ⊢; refine ACalls.enter Tryz.func32 rfl rfl gk Tryz.ntmps32 fun X F => ?_
 (iterate 3 apply Ar F;go_simp);(repeat apply Aq);refine At (by go_simp) ?_;apply Ar F;go_simp;refine ⟨_, cy, ?_⟩;go_simp;apply Ar F;go_simp;(repeat apply Aq);refine Af (by go_simp) ?_;apply As;go_simp;apply Ar F;go_simp;refine ⟨_, ct, ?_⟩;go_simp;refine ⟨_, ca, ?_⟩;go_simp;apply Au;go_simp
theorem Sk (gk : GK G) (t1 : ByteArray) (m1 q1 : Int) (x y : NJ) (cx : AE G x) (hx : (spJ x).size ≤ 10000000) (cy : AE G y) (hy : (spJ y).size ≤ 10000000) : ACalls Tryz.prog G 32 none [.agg (Ag (.mk 6 t1 m1 q1 [x, y] [toB]))] (.ret (sI (Aa [tgB (Av x) (spJ x), ⟨#[91]⟩, ⟨#[]⟩, ⟨#[58]⟩, spJ y, ⟨#[93]⟩])) []) := by
 have ct := CF gk x cx (by omega); rw [show tgB (Av x) (spJ x) = tgB (Av x) (spJ x) from rfl] at ct; have hT : (tgB (Av x) (spJ x)).size ≤ 20000000 := by unfold tgB; split <;> first | omega | (unfold CM; simp only [ByteArray.size_append, bsz, List.length_cons, List.length_nil]; omega)
 generalize tgB (Av x) (spJ x) = T at *; unfold AE at cx; generalize spJ x = u at *; obtain ⟨k2, t2, m2, q2, l2, b2⟩ := x; unfold AE at cy; generalize spJ y = v at *; obtain ⟨k3, t3, m3, q3, l3, b3⟩ := y; have ca := BE gk [T, ⟨#[91]⟩, ⟨#[]⟩, ⟨#[58]⟩, v, ⟨#[93]⟩] (by simp only [Aa, ByteArray.size_append, bsz, List.length_cons, List.length_nil]; omega); simp only [List.map_cons, List.map_nil] at ca; generalize Aa [T, ⟨#[91]⟩, ⟨#[]⟩, ⟨#[58]⟩, v, ⟨#[93]⟩] = z at ca ⊢; refine ACalls.enter Tryz.func32 rfl rfl gk Tryz.ntmps32 fun X F => ?_
 (iterate 3 apply Ar F;go_simp);(repeat apply Aq);refine Af (by go_simp) ?_;apply As;go_simp;apply Ar F;go_simp;(repeat apply Aq);refine At (by go_simp) ?_;apply Ar F;go_simp;refine ⟨_, cy, ?_⟩;go_simp;apply Ar F;go_simp;refine ⟨_, ct, ?_⟩;go_simp;refine ⟨_, ca, ?_⟩;go_simp;apply Au;go_simp
theorem Se (gk : GK G) (t1 : ByteArray) (m1 q1 : Int) (x y r : NJ) (cx : AE G x) (hx : (spJ x).size ≤ 10000000) (cy : AE G y) (hy : (spJ y).size ≤ 10000000) (cr : AE G r) (hr : (spJ r).size ≤ 10000000) : ACalls Tryz.prog G 32 none [.agg (Ag (.mk 6 t1 m1 q1 [x, y, r] [A6, toB]))] (.ret (sI (Aa [tgB (Av x) (spJ x), ⟨#[91]⟩, spJ y, ⟨#[58]⟩, spJ r, ⟨#[93]⟩])) []) := by
 have ct := CF gk x cx (by omega); rw [show tgB (Av x) (spJ x) = tgB (Av x) (spJ x) from rfl] at ct; have hT : (tgB (Av x) (spJ x)).size ≤ 20000000 := by unfold tgB; split <;> first | omega | (unfold CM; simp only [ByteArray.size_append, bsz, List.length_cons, List.length_nil]; omega)
 generalize tgB (Av x) (spJ x) = T at *; unfold AE at cx; generalize spJ x = u at *; obtain ⟨k2, t2, m2, q2, l2, b2⟩ := x; unfold AE at cy; generalize spJ y = v at *; obtain ⟨k3, t3, m3, q3, l3, b3⟩ := y; unfold AE at cr; generalize spJ r = g at *; obtain ⟨k4, t4, m4, q4, l4, b4⟩ := r; have ca := BE gk [T, ⟨#[91]⟩, v, ⟨#[58]⟩, g, ⟨#[93]⟩] (by simp only [Aa, ByteArray.size_append, bsz, List.length_cons, List.length_nil]; omega); simp only [List.map_cons, List.map_nil] at ca; generalize Aa [T, ⟨#[91]⟩, v, ⟨#[58]⟩, g, ⟨#[93]⟩] = z at ca ⊢; refine ACalls.enter Tryz.func32 rfl rfl gk Tryz.ntmps32 fun X F => ?_
 (iterate 3 apply Ar F;go_simp);(repeat apply Aq);refine At (by go_simp) ?_;apply Ar F;go_simp;refine ⟨_, cy, ?_⟩;go_simp;apply Ar F;go_simp;(repeat apply Aq);refine At (by go_simp) ?_;apply Ar F;go_simp;refine ⟨_, cr, ?_⟩;go_simp;apply Ar F;go_simp;refine ⟨_, ct, ?_⟩;go_simp;refine ⟨_, ca, ?_⟩;go_simp;apply Au;go_simp
theorem IA {l : List NJ} {k : Nat} (h : k < l.length) : spL (l.drop k) = spJ l[k] :: spL (l.drop (k + 1)) := by rw [List.drop_eq_getElem_cons h, spL]
theorem Ll {l : List NJ} {k : Nat} (h : l.length ≤ k) (b : Bool) : BH b ((l.map nmJ).drop k) (spL (l.drop k)) = ⟨#[]⟩ := by
 rw [← List.map_drop, List.drop_eq_nil_of_le h]; cases b <;> rfl
theorem Kg {l : List NJ} {k : Nat} (h : k < l.length) : BH true ((l.map nmJ).drop k) (spL (l.drop k)) = DC (nmJ l[k]) ++ BH false ((l.map nmJ).drop (k + 1)) (spL (l.drop (k + 1))) := by
 rw [IA h, ← List.map_drop, ← List.map_drop, List.drop_eq_getElem_cons h, List.map_cons]; rfl
theorem LP {l : List NJ} {k : Nat} (h : k < l.length) : BH false ((l.map nmJ).drop k) (spL (l.drop k)) = ⟨#[92, 40]⟩ ++ spJ l[k] ++ ⟨#[41]⟩ ++ BH true ((l.map nmJ).drop (k + 1)) (spL (l.drop (k + 1))) := by
 rw [IA h, ← List.map_drop, ← List.map_drop, List.drop_eq_getElem_cons h, List.map_cons]; rfl
theorem L4 (s : ByteArray) : (BQ s).size = (DC s).size + 2 ∧ (BQ s).extract 1 ((DC s).size + 1) = DC s := by
 have h1 : (BQ s).data.toList = 34 :: (DC s).data.toList ++ [34] := rfl; have h2 : (BQ s).size = (DC s).size + 2 := by rw [← Al, h1, ← Al (DC s)]; simp
 refine ⟨h2, ?_⟩; have h3 : ∀ a b : ByteArray, a.data.toList = b.data.toList → a = b := fun a b h => by
  cases a with | mk x => cases b with | mk y => cases x with | mk u => cases y with | mk v => simp at h; subst h; rfl
 apply h3; rw [ByteArray.data_extract, Array.toList_extract, h1, ← Al (DC s)]; simp [List.extract]
theorem Rj (gk : GK G) (hW : IG G) (t1 : ByteArray) (m1 q1 : Int) (l : List NJ) (b1 : List ByteArray) (ht : ∀ x ∈ l, AE G x) (hs : ∀ x ∈ l, (spJ x).size ≤ 10000000) (hv : ∀ (j : Nat) (h : j < l.length), j % 2 = 0 → Lib.validD (nmJ l[j]).data.toList = true ∧ (nmJ l[j]).size ≤ 1000000) (hz : (BH true (l.map nmJ) (spL l)).size ≤ 10000000) : ACalls Tryz.prog G 29 none [.agg (Ag (.mk 4 t1 m1 q1 l b1))] (.ret (sI (Aa [⟨#[34]⟩, BH true (l.map nmJ) (spL l), ⟨#[34]⟩])) []) := by
 by_cases hlen : l.length ≤ 140737488351232
 case neg => exact ⟨⟨_, Tryz.func29, rfl, rfl⟩, fun W S p us hG hSb hrc hrep => absurd (by have := Bh (i := 4) hrep rfl; rwa [AF] at this) hlen⟩
 have hJ0 : (⟨#[]⟩ : ByteArray) ++ BH (decide (0 % 2 = 0)) ((l.map nmJ).drop 0) (spL (l.drop 0)) = BH true (l.map nmJ) (spL l) := eap _; generalize BH true (l.map nmJ) (spL l) = J at *; have cz := BE gk [⟨#[34]⟩, J, ⟨#[34]⟩] (by simp only [Aa, ByteArray.size_append, bsz, List.length_cons, List.length_nil]; omega); simp only [List.map_cons, List.map_nil] at cz; generalize Aa [⟨#[34]⟩, J, ⟨#[34]⟩] = z at cz ⊢; refine ACalls.enter Tryz.func29 rfl rfl gk Tryz.ntmps29 fun X F => ?_
 (iterate 3 apply Ar F;go_simp);(repeat apply Aq);apply Ab;(repeat apply Aq);refine A9 [1, 3, 8, 9, 10] [1000, 1] (by decide) (fun g t => ∃ (k : Nat) (out : ByteArray), t = mkS [(1, .ptr 1 0), (3, .im (sI out)), (8, .im (.sl (AJ l) false)), (9, .im (iI l.length)), (10, .im (iI k))] [(1000, .none), (1, .box ((Ag (.mk 4 t1 m1 q1 l b1)).map .im))] ∧ g = l.length - k ∧ k ≤ l.length ∧ out ++ BH (decide (k % 2 = 0)) ((l.map nmJ).drop k) (spL (l.drop k)) = J) (l.length) ?_ ?_
 ·refine ⟨0, ⟨#[]⟩, ?_, by omega, by omega, hJ0⟩
  go_simp
 rintro g t ⟨k, out, rfl, rfl, hk, hg⟩; have ho : out.size ≤ 10000000 := by have := congrArg ByteArray.size hg; rw [ByteArray.size_append] at this; omega
 by_cases hkt : k < l.length
 ·have hkI : (k : Int) < (l.length : Int) := by omega
  have hrk := rng ((k : Int) + 1) (by omega); have hu := hs l[k] (List.getElem_mem hkt); by_cases hp : k % 2 = 0
  ·have hm : (k : Int).tmod 2 = 0 := by rw [Int.tmod_eq_emod_of_nonneg (by omega)]; omega
   obtain ⟨hv1, hv2⟩ := hv k hkt hp; have cq := Lv gk hW (nmJ l[k]) hv2 hv1; obtain ⟨hq1, hq2⟩ := L4 (nmJ l[k]); rw [decide_eq_true hp, Kg hkt] at hg; have hbs := Hr (nmJ l[k]); generalize DC (nmJ l[k]) = B at *; generalize BQ (nmJ l[k]) = Q at *; obtain ⟨⟨k5, t5, m5, q5, l5, b5⟩, hx5⟩ : ∃ x, l[k] = x := ⟨_, rfl⟩
   rw [hx5] at cq; rw [show nmJ (.mk k5 t5 m5 q5 l5 b5) = t5 from rfl] at cq; have hQI : (Q.size : Int) - 1 = ((B.size + 1 : Nat) : Int) := by omega
   have hQ2 : ((B.size + 1 : Nat) : Int) ≤ (Q.size : Int) := by omega
   have hQe : Q.extract 1 (((B.size : Int) + 2).toNat - 1) = B := by rw [show ((B.size : Int) + 2).toNat - 1 = B.size + 1 by omega]; exact hq2
   apply Ar F; go_simp; (repeat apply Aq); refine At (by go_simp) ?_; apply As; go_simp; (repeat apply Aq); apply Ab; apply Ar F; go_simp; apply Ar F; go_simp; (repeat apply Aq); refine At (by go_simp) ?_; apply Ar F; go_simp; refine ⟨_, cq, ?_⟩; go_simp; apply Ar F; go_simp; repeat (refine And.intro (by omega) ?_; go_simp)
   apply Ar F; go_simp; refine ⟨l.length - (k + 1), by omega, k + 1, out ++ B, ?_, by omega, by omega, by rw [decide_eq_false (by omega), ByteArray.append_assoc]; exact hg⟩; go_simp
  have hm : (k : Int).tmod 2 = 1 := by rw [Int.tmod_eq_emod_of_nonneg (by omega)]; omega
  have ct := ht l[k] (List.getElem_mem hkt); unfold AE at ct; rw [decide_eq_false hp, LP hkt] at hg; generalize spJ l[k] = u at *; obtain ⟨⟨k5, t5, m5, q5, l5, b5⟩, hx5⟩ : ∃ x, l[k] = x := ⟨_, rfl⟩
  rw [hx5] at ct; have ca := BE gk [⟨#[92, 40]⟩, u, ⟨#[41]⟩] (by simp only [Aa, ByteArray.size_append, bsz, List.length_cons, List.length_nil]; omega); have hA : Aa [⟨#[92, 40]⟩, u, ⟨#[41]⟩] = ⟨#[92, 40]⟩ ++ u ++ ⟨#[41]⟩ := by simp only [Aa, ape, ByteArray.append_assoc]
  have hAs : (Aa [⟨#[92, 40]⟩, u, ⟨#[41]⟩]).size ≤ 20000000 := by rw [hA]; simp only [ByteArray.size_append, bsz, List.length_cons, List.length_nil]; omega
  rw [← hA] at hg; simp only [List.map_cons, List.map_nil] at ca; generalize Aa [⟨#[92, 40]⟩, u, ⟨#[41]⟩] = A at *; apply Ar F; go_simp; (repeat apply Aq); refine At (by go_simp) ?_; apply As; go_simp; (repeat apply Aq); apply Ab; apply Ar F; go_simp; apply Ar F; go_simp; (repeat apply Aq); refine Af (by go_simp) ?_; apply Ar F; go_simp; refine ⟨_, ct, ?_⟩; go_simp; refine ⟨_, ca, ?_⟩; go_simp; repeat (refine And.intro (by omega) ?_; go_simp)
  apply Ar F; go_simp; refine ⟨l.length - (k + 1), by omega, k + 1, out ++ A, ?_, by omega, by omega, by rw [decide_eq_true (by omega), ByteArray.append_assoc]; exact hg⟩; go_simp
 have hkI : ¬ (k : Int) < (l.length : Int) := by omega
 rw [Ll (by omega), ape] at hg; subst hg; apply Ar F; go_simp; (repeat apply Aq); refine Af (by go_simp) ?_; apply Ae; go_simp; apply Ar F; go_simp; refine ⟨_, cz, ?_⟩; go_simp; apply Au; go_simp
theorem Nz {l : List NJ} {k : Nat} (h : l.length ≤ k) (b : Bool) : Cx b (spL (l.drop k)) = ⟨#[]⟩ := by rw [List.drop_eq_nil_of_le h]; cases b <;> rfl
theorem LV {l : List NJ} {k : Nat} (h : k < l.length) (h1 : k + 1 < l.length) (b : Bool) : Cx b (spL (l.drop k)) = (if b = true then ⟨#[]⟩ else ⟨#[44, 32]⟩) ++ CM (spJ l[k]) ++ ⟨#[58, 32]⟩ ++ spJ l[k + 1] ++ Cx false (spL (l.drop (k + 2))) := by
 rw [IA h, IA h1]; rfl
theorem RY (gk : GK G) (t1 : ByteArray) (m1 q1 : Int) (l : List NJ) (b1 : List ByteArray) (ht : ∀ x ∈ l, AE G x) (hs : ∀ x ∈ l, (spJ x).size ≤ 10000000) (hev : l.length % 2 = 0) (hz : (Cx true (spL l)).size ≤ 10000000) : ACalls Tryz.prog G 35 none [.agg (Ag (.mk 16 t1 m1 q1 l b1))] (.ret (sI (Aa [⟨#[123]⟩, Cx true (spL l), ⟨#[125]⟩])) []) := by
 by_cases hlen : l.length ≤ 140737488351232
 case neg => exact ⟨⟨_, Tryz.func35, rfl, rfl⟩, fun W S p us hG hSb hrc hrep => absurd (by have := Bh (i := 4) hrep rfl; rwa [AF] at this) hlen⟩
 have hJ0 : (⟨#[]⟩ : ByteArray) ++ Cx (decide (0 = 0)) (spL (l.drop 0)) = Cx true (spL l) := eap _; generalize Cx true (spL l) = J at *; have cz := BE gk [⟨#[123]⟩, J, ⟨#[125]⟩] (by simp only [Aa, ByteArray.size_append, bsz, List.length_cons, List.length_nil]; omega); simp only [List.map_cons, List.map_nil] at cz; generalize Aa [⟨#[123]⟩, J, ⟨#[125]⟩] = z at cz ⊢; refine ACalls.enter Tryz.func35 rfl rfl gk Tryz.ntmps35 fun X F => ?_
 (iterate 3 apply Ar F;go_simp);(repeat apply Aq);apply Ab;(repeat apply Aq);refine A9 [1, 3, 4] [1000, 1] (by decide) (fun g t => ∃ (k : Nat) (out : ByteArray), t = mkS [(1, .ptr 1 0), (3, .im (sI out)), (4, .im (iI k))] [(1000, .none), (1, .box ((Ag (.mk 16 t1 m1 q1 l b1)).map .im))] ∧ g = l.length - k ∧ k ≤ l.length ∧ k % 2 = 0 ∧ out ++ Cx (decide (k = 0)) (spL (l.drop k)) = J) (l.length) ?_ ?_
 ·refine ⟨0, ⟨#[]⟩, ?_, by omega, by omega, by omega, hJ0⟩
  go_simp
 rintro g t ⟨k, out, rfl, rfl, hk, hke, hg⟩; have ho : out.size ≤ 10000000 := by have := congrArg ByteArray.size hg; rw [ByteArray.size_append] at this; omega
 by_cases hkt : k < l.length
 ·have hk1 : k + 1 < l.length := by omega
  have hkI : (k : Int) < (l.length : Int) := by omega
  have hrk := rng ((k : Int) + 1) (by omega); have hrk2 := rng ((k : Int) + 2) (by omega); have hu := hs l[k] (List.getElem_mem hkt); have hv := hs l[k + 1] (List.getElem_mem hk1); have cx := ht l[k] (List.getElem_mem hkt); have cy := ht l[k + 1] (List.getElem_mem hk1); unfold AE at cx cy; rw [LV hkt hk1] at hg; generalize spJ l[k] = u at *; generalize spJ l[k + 1] = v at *; obtain ⟨⟨k5, t5, m5, q5, l5, b5⟩, hx5⟩ : ∃ x, l[k] = x := ⟨_, rfl⟩
  obtain ⟨⟨k6, t6, m6, q6, l6, b6⟩, hx6⟩ : ∃ x, l[k + 1] = x := ⟨_, rfl⟩
  rw [hx5] at cx; rw [hx6] at cy; have hnat : ((k : Int) + 1).toNat = k + 1 := by omega
  have ca := BE gk [⟨#[40]⟩, u, ⟨#[41, 58, 32]⟩, v] (by simp only [Aa, ByteArray.size_append, bsz, List.length_cons, List.length_nil]; omega); obtain ⟨A, hA⟩ : ∃ A, Aa [⟨#[40]⟩, u, ⟨#[41, 58, 32]⟩, v] = A := ⟨_, rfl⟩
  have hAs : A.size ≤ 40000000 := by rw [← hA]; simp only [Aa, ByteArray.size_append, bsz, List.length_cons, List.length_nil]; omega
  have hA2 : CM u ++ ⟨#[58, 32]⟩ ++ v = A := by rw [← hA]; simp only [Aa, ape, CM, ByteArray.append_assoc]; rw [show (⟨#[41, 58, 32]⟩ : ByteArray) = ⟨#[41]⟩ ++ ⟨#[58, 32]⟩ from rfl, ByteArray.append_assoc]
  rw [hA] at ca; clear hA; simp only [List.map_cons, List.map_nil] at ca; by_cases hk0 : k = 0
  ·have hkp : ¬ 0 < k := by omega
   rw [decide_eq_true hk0, if_pos rfl, eap] at hg; clear hk0; apply Ar F; go_simp; (repeat apply Aq); refine At (by go_simp) ?_; apply As; go_simp; (repeat apply Aq); apply Ab; apply Ar F; go_simp; (repeat apply Aq); refine Af (by go_simp) ?_; apply As; go_simp; (repeat apply Aq); refine Ad F [0, 1, 2, 3, 4, 5, 7, 8, 9, 10, 11, 12, 6, 13, 14, 15, 16, 17] [(8, 6), (11, 6), (12, 6)] mixed (by kernel_rfl) ?_; go_simp; repeat (refine And.intro (by omega) ?_; go_simp)
   refine ⟨_, cx, ?_⟩; go_simp; refine ⟨_, cy, ?_⟩; go_simp; refine ⟨_, ca, ?_⟩; go_simp; repeat (refine And.intro (by omega) ?_; go_simp)
   apply Ar F; go_simp; refine ⟨l.length - (k + 2), by omega, k + 2, out ++ A, ?_, by omega, by omega, by omega, by rw [decide_eq_false (by omega), ← hA2]; simpa [ByteArray.append_assoc] using hg⟩; go_simp
  have hkp : 0 < k := by omega
  rw [decide_eq_false hk0, if_neg (by decide)] at hg; clear hk0; apply Ar F; go_simp; (repeat apply Aq); refine At (by go_simp) ?_; apply As; go_simp; (repeat apply Aq); apply Ab; apply Ar F; go_simp; (repeat apply Aq); refine At (by go_simp) ?_; apply Ar F; go_simp; repeat (refine And.intro (by omega) ?_; go_simp)
  (repeat apply Aq); refine Ad F [0, 1, 2, 3, 4, 5, 7, 8, 9, 10, 11, 12, 6, 13, 14, 15, 16, 17] [(8, 6), (11, 6), (12, 6)] mixed (by kernel_rfl) ?_; go_simp; repeat (refine And.intro (by omega) ?_; go_simp)
  refine ⟨_, cx, ?_⟩; go_simp; refine ⟨_, cy, ?_⟩; go_simp; refine ⟨_, ca, ?_⟩; go_simp; repeat (refine And.intro (by omega) ?_; go_simp)
  apply Ar F; go_simp; refine ⟨l.length - (k + 2), by omega, k + 2, out ++ ⟨#[44, 32]⟩ ++ A, ?_, by omega, by omega, by omega, by rw [decide_eq_false (by omega), ← hA2]; simpa [ByteArray.append_assoc] using hg⟩; go_simp
 have hkI : ¬ (k : Int) < (l.length : Int) := by omega
 rw [Nz (by omega), ape] at hg; subst hg; apply Ar F; go_simp; (repeat apply Aq); refine Af (by go_simp) ?_; apply Ae; go_simp; apply Ar F; go_simp; refine ⟨_, cz, ?_⟩; go_simp; apply Au; go_simp
open Go Go.RowKit Go.Proofs Th
set_option maxRecDepth 8000
theorem UN : Bx Tryz.prog 88 = none := by kernel_rfl
theorem Ve : FN Tryz.prog 88 = some (27, 1, List.replicate 27 (.int .i64 0)) := by kernel_rfl
theorem WF : GD 27 1 = [⟨0, 1, false⟩, ⟨1, 1, false⟩, ⟨2, 1, false⟩, ⟨3, 1, false⟩, ⟨4, 1, false⟩, ⟨5, 1, false⟩, ⟨6, 1, false⟩, ⟨7, 1, false⟩, ⟨8, 1, false⟩, ⟨9, 1, false⟩, ⟨10, 1, false⟩, ⟨11, 1, false⟩, ⟨12, 1, false⟩, ⟨13, 1, false⟩, ⟨14, 1, false⟩, ⟨15, 1, false⟩, ⟨16, 1, false⟩, ⟨17, 1, false⟩, ⟨18, 1, false⟩, ⟨19, 1, false⟩, ⟨20, 1, false⟩, ⟨21, 1, false⟩, ⟨22, 1, false⟩, ⟨23, 1, false⟩, ⟨24, 1, false⟩, ⟨25, 1, false⟩, ⟨26, 1, false⟩] := rfl
attribute [local go_sem] UN Ve WF List.replicate
variable {G : World → CS → Prop}
def Ir (G : World → CS → Prop) : Prop := ∀ m e : Int, I64 m → ACalls Tryz.prog G 58 none [.agg [iI m, iI e]] (.ret (bI (right m e)) [])
def Iq (G : World → CS → Prop) : Prop := ∀ s : ByteArray, s.size ≤ 140737488351232 → ACalls Tryz.prog G 67 none [sI s] (.ret (bI (Lib.validD s.data.toList)) [])
def IC (G : World → CS → Prop) : Prop := ∀ s : ByteArray, ACalls Tryz.prog G 101 none [sI s] (.ret (bI (inB words13 s)) [])
theorem Ly {K : Nat} (h1 : 1 ≤ K) (h2 : K ≤ 26) (t1 : ByteArray) (m1 q1 : Int) (l1 : List NJ) (b1 : List ByteArray) : ∃ ls : Int, ([FV.im (IV.v (Value.int IntKind.i64 0)), FV.im (IV.v (Value.int IntKind.i64 0)), FV.im (IV.v (Value.int IntKind.i64 0)), FV.im (IV.v (Value.int IntKind.i64 0)), FV.im (IV.v (Value.int IntKind.i64 3)), FV.im (IV.v (Value.int IntKind.i64 2)), FV.im (IV.v (Value.int IntKind.i64 2)), FV.im (IV.v (Value.int IntKind.i64 1)), FV.im (IV.v (Value.int IntKind.i64 2)), FV.im (IV.v (Value.int IntKind.i64 2)), FV.im (IV.v (Value.int IntKind.i64 2)), FV.im (IV.v (Value.int IntKind.i64 2)), FV.im (IV.v (Value.int IntKind.i64 2)), FV.im (IV.v (Value.int IntKind.i64 2)), FV.im (IV.v (Value.int IntKind.i64 1)), FV.im (IV.v (Value.int IntKind.i64 0)), FV.im (IV.v (Value.int IntKind.i64 0)), FV.im (IV.v (Value.int IntKind.i64 3)), FV.im (IV.v (Value.int IntKind.i64 1)), FV.im (IV.v (Value.int IntKind.i64 3)), FV.im (IV.v (Value.int IntKind.i64 4)), FV.im (IV.v (Value.int IntKind.i64 2)), FV.im (IV.v (Value.int IntKind.i64 0)), FV.im (IV.v (Value.int IntKind.i64 0)), FV.im (IV.v (Value.int IntKind.i64 2)), FV.im (IV.v (Value.int IntKind.i64 2)), FV.im (IV.v (Value.int IntKind.i64 0))] : List FV)[K]? = some (FV.im (IV.v (Value.int IntKind.i64 ls))) ∧ ((l1.length : Int) < ls → Ai (.mk K t1 m1 q1 l1 b1) = false) := by
 obtain rfl | rfl | rfl | rfl | rfl | rfl | rfl | rfl | rfl | rfl | rfl | rfl | rfl | rfl | rfl | rfl | rfl | rfl | rfl | rfl | rfl | rfl | rfl | rfl | rfl | rfl : K = 1 ∨ K = 2 ∨ K = 3 ∨ K = 4 ∨ K = 5 ∨ K = 6 ∨ K = 7 ∨ K = 8 ∨ K = 9 ∨ K = 10 ∨ K = 11 ∨ K = 12 ∨ K = 13 ∨ K = 14 ∨ K = 15 ∨ K = 16 ∨ K = 17 ∨ K = 18 ∨ K = 19 ∨ K = 20 ∨ K = 21 ∨ K = 22 ∨ K = 23 ∨ K = 24 ∨ K = 25 ∨ K = 26 := by omega
 all_goals refine ⟨_, rfl, fun h => ?_⟩
 all_goals first
  | omega
  | (simp [Ai]; done)
  | (simp [Ai]; (try intros); omega)
  | (simp [Ai]; intro h3; (try intro _); subst h3; simp at h; done)
  | (simp [Ai]; intro e; refine ⟨⟨fun h3 => ?_, fun h3 => ?_⟩, fun h3 => ?_⟩ <;> (rw [h3] at e; simp at e; omega))
theorem NF {K : Nat} (h1 : 1 ≤ K) (h2 : K ≤ 26) (t1 : ByteArray) (m1 q1 : Int) (l1 : List NJ) (b1 : List ByteArray) : ∃ ls : Int, ([FV.im (IV.v (Value.int IntKind.i64 (-1))), FV.im (IV.v (Value.int IntKind.i64 0)), FV.im (IV.v (Value.int IntKind.i64 0)), FV.im (IV.v (Value.int IntKind.i64 0)), FV.im (IV.v (Value.int IntKind.i64 (l1.length : Int))), FV.im (IV.v (Value.int IntKind.i64 2)), FV.im (IV.v (Value.int IntKind.i64 3)), FV.im (IV.v (Value.int IntKind.i64 1)), FV.im (IV.v (Value.int IntKind.i64 2)), FV.im (IV.v (Value.int IntKind.i64 2)), FV.im (IV.v (Value.int IntKind.i64 2)), FV.im (IV.v (Value.int IntKind.i64 2)), FV.im (IV.v (Value.int IntKind.i64 2)), FV.im (IV.v (Value.int IntKind.i64 2)), FV.im (IV.v (Value.int IntKind.i64 1)), FV.im (IV.v (Value.int IntKind.i64 1)), FV.im (IV.v (Value.int IntKind.i64 (l1.length : Int))), FV.im (IV.v (Value.int IntKind.i64 3)), FV.im (IV.v (Value.int IntKind.i64 2)), FV.im (IV.v (Value.int IntKind.i64 3)), FV.im (IV.v (Value.int IntKind.i64 4)), FV.im (IV.v (Value.int IntKind.i64 2)), FV.im (IV.v (Value.int IntKind.i64 0)), FV.im (IV.v (Value.int IntKind.i64 (l1.length : Int))), FV.im (IV.v (Value.int IntKind.i64 2)), FV.im (IV.v (Value.int IntKind.i64 2)), FV.im (IV.v (Value.int IntKind.i64 0))] : List FV)[K]? = some (FV.im (IV.v (Value.int IntKind.i64 ls))) ∧ (ls < (l1.length : Int) → Ai (.mk K t1 m1 q1 l1 b1) = false) := by
 obtain rfl | rfl | rfl | rfl | rfl | rfl | rfl | rfl | rfl | rfl | rfl | rfl | rfl | rfl | rfl | rfl | rfl | rfl | rfl | rfl | rfl | rfl | rfl | rfl | rfl | rfl : K = 1 ∨ K = 2 ∨ K = 3 ∨ K = 4 ∨ K = 5 ∨ K = 6 ∨ K = 7 ∨ K = 8 ∨ K = 9 ∨ K = 10 ∨ K = 11 ∨ K = 12 ∨ K = 13 ∨ K = 14 ∨ K = 15 ∨ K = 16 ∨ K = 17 ∨ K = 18 ∨ K = 19 ∨ K = 20 ∨ K = 21 ∨ K = 22 ∨ K = 23 ∨ K = 24 ∨ K = 25 ∨ K = 26 := by omega
 all_goals refine ⟨_, rfl, fun h => ?_⟩
 all_goals first
  | omega
  | (simp [Ai]; done)
  | (simp [Ai]; (try intros); omega)
  | (simp [Ai]; intro h3; (try intro _); subst h3; simp at h; done)
  | (simp [Ai]; intro e; refine ⟨⟨fun h3 => ?_, fun h3 => ?_⟩, fun h3 => ?_⟩ <;> (rw [h3] at e; simp at e; omega))
theorem WX (gk : GK G) (hN : Ir G) (hQ : Iq G) (hR : IC G) (n : NJ) (hn : Cy n) (hsz : (nmJ n).size ≤ 100000000) (hx : Av n ≠ 4 ∧ Av n ≠ 6 ∧ Av n ≠ 24) : ACalls Tryz.prog G 46 none [.agg (Ag n)] (.ret (bI (AB n)) []) := by
 obtain ⟨k1, t1, m1, q1, l1, b1⟩ := n; simp only [Av] at hx; obtain ⟨h4, h6, h24⟩ := hx; obtain ⟨_, hm, _, hs, hb, _⟩ := hn; simp only [nmJ] at hsz; have cN := hN m1 q1 hm; have cQ := hQ t1 hs; have ci1 := SC gk t1 ⟨#[61, 61, 32, 33, 61, 32, 60, 32, 60, 61, 32, 62, 32, 62, 61, 32, 43, 32, 45, 32, 42, 32, 47, 32, 37]⟩ (by decide); have ci2 := SC gk t1 ⟨#[61, 32, 124, 61, 32, 43, 61, 32, 45, 61, 32, 42, 61, 32, 47, 61, 32, 47, 47, 61]⟩ (by decide); rw [show (⟨#[61, 61, 32, 33, 61, 32, 60, 32, 60, 61, 32, 62, 32, 62, 61, 32, 43, 32, 45, 32, 42, 32, 47, 32, 37]⟩ : ByteArray).size + 1 = 26 from rfl, Uw] at ci1; rw [show (⟨#[61, 32, 124, 61, 32, 43, 61, 32, 45, 61, 32, 42, 61, 32, 47, 61, 32, 47, 47, 61]⟩ : ByteArray).size + 1 = 21 from rfl, VY] at ci2; have cm := KX (G := G) t1 hsz; have cf := NN gk hR t1 hsz; by_cases hlen : l1.length ≤ 140737488351232
 case neg => exact ⟨⟨_, Tryz.func46, rfl, rfl⟩, fun W S p us hG hSb hrc hrep => absurd (by have := Bh (i := 4) hrep rfl; rwa [AF] at this) hlen⟩
 obtain ⟨z, hz⟩ : ∃ z, AB (.mk k1 t1 m1 q1 l1 b1) = z := ⟨_, rfl⟩
 rw [hz]; by_cases hk1 : k1 < 1
 ·have hz2 : z = false := by rw [← hz]; unfold AB; rw [show Ai (.mk k1 t1 m1 q1 l1 b1) = false by simp only [Ai]; repeat rw [if_neg (by omega)]]; exact Bool.and_false _
  subst hz2; refine ACalls.enter Tryz.func46 rfl rfl gk Tryz.ntmps46 fun X F => ?_
  (iterate 4 apply Ar F;go_simp);(repeat apply Aq);refine Ah F [0, 1, 2, 3, 4, 5, 6, 7, 8] [9, 10, 11, 12, 13, 14, 15, 16, 17, 18, 19, 20, 21, 22, 23] (by rfl) ?_;go_simp;apply lK 8;go_simp;refine Ac ?_;go_simp;(repeat apply Aq);refine At (by go_simp) ?_;apply Ar F;go_simp;apply Au;go_simp
 by_cases hk26 : 26 < k1
 ·have hz2 : z = false := by rw [← hz]; unfold AB; rw [show Ai (.mk k1 t1 m1 q1 l1 b1) = false by simp only [Ai]; repeat rw [if_neg (by omega)]]; exact Bool.and_false _
  subst hz2; refine ACalls.enter Tryz.func46 rfl rfl gk Tryz.ntmps46 fun X F => ?_
  (iterate 4 apply Ar F;go_simp);(repeat apply Aq);refine Ah F [0, 1, 2, 3, 4, 5, 6, 7, 8] [9, 10, 11, 12, 13, 14, 15, 16, 17, 18, 19, 20, 21, 22, 23] (by rfl) ?_;go_simp;apply lK 8;go_simp;refine Ac ?_;go_simp;(repeat apply Aq);refine At (by go_simp) ?_;apply Ar F;go_simp;apply Au;go_simp
 obtain ⟨K, rfl, hK1, hK2⟩ : ∃ K : Nat, k1 = K ∧ 1 ≤ K ∧ K ≤ 26 := ⟨k1.toNat, by omega, by omega, by omega⟩
 have hkC : (0 : Int) ≤ (K : Int) ∧ (K : Int) < 27 := by omega
 obtain ⟨ls, hls, hfl⟩ := Ly hK1 hK2 t1 m1 q1 l1 b1; obtain ⟨ms, hms, hfm⟩ := NF hK1 hK2 t1 m1 q1 l1 b1; obtain ⟨_, hls⟩ := List.getElem?_eq_some_iff.1 hls; obtain ⟨_, hms⟩ := List.getElem?_eq_some_iff.1 hms; have hr : ∀ r : List ByteArray, ¬ ((r.length : Int) + 1 = 0) := fun r => by omega
 have hr2 : ∀ r : List ByteArray, (0 : Int) < (r.length : Int) + 1 := fun r => by omega
 refine ACalls.enter Tryz.func46 rfl rfl gk Tryz.ntmps46 fun X F => ?_
 by_cases hA : (l1.length : Int) < ls
 ·have hz2 : z = false := by rw [← hz]; unfold AB; rw [hfl hA]; exact Bool.and_false _
  subst hz2;(iterate 4 apply Ar F;go_simp);(repeat apply Aq);refine Ah F [0, 1, 2, 3, 4, 5, 6, 7, 8] [9, 10, 11, 12, 13, 14, 15, 16, 17, 18, 19, 20, 21, 22, 23] (by rfl) ?_;go_simp;apply lK 8;go_simp;refine Ac ?_;go_simp;(repeat apply Aq);refine At (by go_simp) ?_;apply Ar F;go_simp;apply Au;go_simp
 by_cases hB : ms < (l1.length : Int)
 ·have hz2 : z = false := by rw [← hz]; unfold AB; rw [hfm hB]; exact Bool.and_false _
  subst hz2;(iterate 4 apply Ar F;go_simp);(repeat apply Aq);refine Ah F [0, 1, 2, 3, 4, 5, 6, 7, 8] [9, 10, 11, 12, 13, 14, 15, 16, 17, 18, 19, 20, 21, 22, 23] (by rfl) ?_;go_simp;apply lK 8;go_simp;refine Ac ?_;go_simp;(repeat apply Aq);refine At (by go_simp) ?_;apply Ar F;go_simp;apply Au;go_simp
 (iterate 4 apply Ar F;go_simp);(repeat apply Aq);refine Ah F [0, 1, 2, 3, 4, 5, 6, 7, 8] [9, 10, 11, 12, 13, 14, 15, 16, 17, 18, 19, 20, 21, 22, 23] (by rfl) ?_;go_simp;apply lK 8;go_simp;refine Ac ?_;go_simp;(repeat apply Aq);refine Af (by go_simp) ?_;apply As;go_simp;by_cases h2 : K = 2
 ·subst h2
  (repeat apply Aq); refine Ah F [0, 1, 2, 3, 4, 5, 6, 7, 8] [9, 10, 11, 12, 13, 14, 15, 16, 17, 18, 19] (by rfl) ?_; go_simp; refine Ac ?_; go_simp; (repeat apply Aq); refine Af (by go_simp) ?_; apply As; go_simp; rcases b1 with _ | ⟨x, r⟩
  ·(repeat apply Aq)
   refine Ah F [0, 1, 2, 3, 4, 5, 6, 7] [8, 9, 10, 11, 12, 13] (by rfl) ?_; go_simp; refine Ac ?_; go_simp; (repeat apply Aq); refine Af (by go_simp) ?_; apply As; go_simp; simp at hls hms; subst hls hms; by_cases hs : t1 = ⟨#[]⟩
   ·subst hs
    have hn0 : l1.length = 0 := by omega
    cases hr : right m1 q1
    ·rw [hr] at cN
     have hz2 : z = false := by rw [← hz]; simp [AB, Ax, Am, Ai, hr]
     subst hz2; repeat' first
      | refine AW.seq ?_
      | refine AW.block ?_
      | (refine Ao F ?_; go_simp)
      | (refine Ak ?_; go_simp)
      | (refine AW.skip ?_; go_simp)
      | (refine AW.exit ?_; go_simp)
      | (refine AW.ret ?_; go_simp)
      | (refine ⟨_, cN, ?_⟩; go_simp)
      | (refine ⟨_, cQ, ?_⟩; go_simp)
      | (refine ⟨_, ci1, ?_⟩; go_simp)
      | (refine ⟨_, ci2, ?_⟩; go_simp)
      | (refine ⟨_, cm, ?_⟩; go_simp)
      | (refine ⟨_, cf, ?_⟩; go_simp)
      | refine ⟨fun h => ?_, fun h => ?_⟩
      | intro h
    rw [hr] at cN; by_cases h0 : 0 ≤ m1
    ·have hz2 : z = true := by rw [← hz]; simp [AB, Ax, Am, Ai, hr, h0, hn0]
     subst hz2; repeat' first
      | refine AW.seq ?_
      | refine AW.block ?_
      | (refine Ao F ?_; go_simp)
      | (refine Ak ?_; go_simp)
      | (refine AW.skip ?_; go_simp)
      | (refine AW.exit ?_; go_simp)
      | (refine AW.ret ?_; go_simp)
      | (refine ⟨_, cN, ?_⟩; go_simp)
      | (refine ⟨_, cQ, ?_⟩; go_simp)
      | (refine ⟨_, ci1, ?_⟩; go_simp)
      | (refine ⟨_, ci2, ?_⟩; go_simp)
      | (refine ⟨_, cm, ?_⟩; go_simp)
      | (refine ⟨_, cf, ?_⟩; go_simp)
      | refine ⟨fun h => ?_, fun h => ?_⟩
      | intro h
    have hz2 : z = false := by rw [← hz]; simp [AB, Ax, Am, Ai, hr, h0, hn0]
    subst hz2; repeat' first
     | refine AW.seq ?_
     | refine AW.block ?_
     | (refine Ao F ?_; go_simp)
     | (refine Ak ?_; go_simp)
     | (refine AW.skip ?_; go_simp)
     | (refine AW.exit ?_; go_simp)
     | (refine AW.ret ?_; go_simp)
     | (refine ⟨_, cN, ?_⟩; go_simp)
     | (refine ⟨_, cQ, ?_⟩; go_simp)
     | (refine ⟨_, ci1, ?_⟩; go_simp)
     | (refine ⟨_, ci2, ?_⟩; go_simp)
     | (refine ⟨_, cm, ?_⟩; go_simp)
     | (refine ⟨_, cf, ?_⟩; go_simp)
     | refine ⟨fun h => ?_, fun h => ?_⟩
     | intro h
   have hz2 : z = false := by rw [← hz]; simp [AB, Ax, Am, *]
   subst hz2; repeat' first
    | refine AW.seq ?_
    | refine AW.block ?_
    | (refine Ao F ?_; go_simp)
    | (refine Ak ?_; go_simp)
    | (refine AW.skip ?_; go_simp)
    | (refine AW.exit ?_; go_simp)
    | (refine AW.ret ?_; go_simp)
    | (refine ⟨_, cN, ?_⟩; go_simp)
    | (refine ⟨_, cQ, ?_⟩; go_simp)
    | (refine ⟨_, ci1, ?_⟩; go_simp)
    | (refine ⟨_, ci2, ?_⟩; go_simp)
    | (refine ⟨_, cm, ?_⟩; go_simp)
    | (refine ⟨_, cf, ?_⟩; go_simp)
    | refine ⟨fun h => ?_, fun h => ?_⟩
    | intro h
  have hz2 : z = false := by rw [← hz]; simp [AB, Ax, Am, *]
  subst hz2; (repeat apply Aq); refine Ah F [0, 1, 2, 3, 4, 5, 6, 7] [8, 9, 10, 11, 12, 13] (by rfl) ?_; go_simp; refine Ac ?_; go_simp; (repeat apply Aq); refine At (by go_simp) ?_; apply Ar F; go_simp; apply Au; go_simp
 have h2I : ¬ (K : Int) = 2 := by omega
 have h6I : ¬ (K : Int) = 6 := by omega
 have h24I : ¬ (K : Int) = 24 := by omega
 by_cases hm0 : m1 = 0
 ·subst hm0
  by_cases hq0 : q1 = 0
  ·subst hq0
   (repeat apply Aq); refine Ah F [0, 1, 2, 3, 4, 5, 6, 7, 8] [9, 10, 11, 12, 13, 14, 15, 16, 17, 18, 19] (by rfl) ?_; go_simp; refine Ac ?_; go_simp; (repeat apply Aq); refine Af (by go_simp) ?_; apply As; go_simp; rcases b1 with _ | ⟨x, r⟩
   ·(repeat apply Aq)
    refine Ah F [0, 1, 2, 3, 4, 5, 6, 7] [8, 9, 10, 11, 12, 13] (by rfl) ?_; go_simp; refine Ac ?_; go_simp; (repeat apply Aq); refine Af (by go_simp) ?_; apply As; go_simp; obtain rfl | rfl | rfl | rfl | rfl | rfl | rfl | rfl | rfl | rfl | rfl | rfl | rfl | rfl | rfl | rfl | rfl | rfl | rfl | rfl | rfl | rfl : K = 1 ∨ K = 3 ∨ K = 5 ∨ K = 7 ∨ K = 8 ∨ K = 9 ∨ K = 10 ∨ K = 11 ∨ K = 12 ∨ K = 13 ∨ K = 14 ∨ K = 15 ∨ K = 16 ∨ K = 17 ∨ K = 18 ∨ K = 19 ∨ K = 20 ∨ K = 21 ∨ K = 22 ∨ K = 23 ∨ K = 25 ∨ K = 26 := by omega
    ·simp at hls hms
     subst hls hms; have hn0 : l1 = [] := List.eq_nil_of_length_eq_zero (by omega); by_cases hs : t1 = ⟨#[]⟩
     ·subst hs
      have hz2 : z = true := by rw [← hz]; simp [AB, Ax, Am, Ai, *]; try omega
      subst hz2; repeat' first
       | refine AW.seq ?_
       | refine AW.block ?_
       | (refine Ao F ?_; go_simp)
       | (refine Ak ?_; go_simp)
       | (refine AW.skip ?_; go_simp)
       | (refine AW.exit ?_; go_simp)
       | (refine AW.ret ?_; go_simp)
       | (refine ⟨_, cN, ?_⟩; go_simp)
       | (refine ⟨_, cQ, ?_⟩; go_simp)
       | (refine ⟨_, ci1, ?_⟩; go_simp)
       | (refine ⟨_, ci2, ?_⟩; go_simp)
       | (refine ⟨_, cm, ?_⟩; go_simp)
       | (refine ⟨_, cf, ?_⟩; go_simp)
       | refine ⟨fun h => ?_, fun h => ?_⟩
       | intro h
     have hz2 : z = false := by rw [← hz]; simp [AB, Ax, Am, *]
     subst hz2; repeat' first
      | refine AW.seq ?_
      | refine AW.block ?_
      | (refine Ao F ?_; go_simp)
      | (refine Ak ?_; go_simp)
      | (refine AW.skip ?_; go_simp)
      | (refine AW.exit ?_; go_simp)
      | (refine AW.ret ?_; go_simp)
      | (refine ⟨_, cN, ?_⟩; go_simp)
      | (refine ⟨_, cQ, ?_⟩; go_simp)
      | (refine ⟨_, ci1, ?_⟩; go_simp)
      | (refine ⟨_, ci2, ?_⟩; go_simp)
      | (refine ⟨_, cm, ?_⟩; go_simp)
      | (refine ⟨_, cf, ?_⟩; go_simp)
      | refine ⟨fun h => ?_, fun h => ?_⟩
      | intro h
    ·simp at hls hms
     subst hls hms; have hn0 : l1 = [] := List.eq_nil_of_length_eq_zero (by omega); have hz2 : z = Lib.validD t1.data.toList := by rw [← hz]; simp [AB, Ax, Am, Ai, *]; try omega
     subst hz2; repeat' first
      | refine AW.seq ?_
      | refine AW.block ?_
      | (refine Ao F ?_; go_simp)
      | (refine Ak ?_; go_simp)
      | (refine AW.skip ?_; go_simp)
      | (refine AW.exit ?_; go_simp)
      | (refine AW.ret ?_; go_simp)
      | (refine ⟨_, cN, ?_⟩; go_simp)
      | (refine ⟨_, cQ, ?_⟩; go_simp)
      | (refine ⟨_, ci1, ?_⟩; go_simp)
      | (refine ⟨_, ci2, ?_⟩; go_simp)
      | (refine ⟨_, cm, ?_⟩; go_simp)
      | (refine ⟨_, cf, ?_⟩; go_simp)
      | refine ⟨fun h => ?_, fun h => ?_⟩
      | intro h
    ·simp at hls hms
     subst hls hms; by_cases hs : t1 = ⟨#[]⟩
     ·subst hs
      have hz2 : z = true := by rw [← hz]; simp [AB, Ax, Am, Ai, *]; try omega
      subst hz2; repeat' first
       | refine AW.seq ?_
       | refine AW.block ?_
       | (refine Ao F ?_; go_simp)
       | (refine Ak ?_; go_simp)
       | (refine AW.skip ?_; go_simp)
       | (refine AW.exit ?_; go_simp)
       | (refine AW.ret ?_; go_simp)
       | (refine ⟨_, cN, ?_⟩; go_simp)
       | (refine ⟨_, cQ, ?_⟩; go_simp)
       | (refine ⟨_, ci1, ?_⟩; go_simp)
       | (refine ⟨_, ci2, ?_⟩; go_simp)
       | (refine ⟨_, cm, ?_⟩; go_simp)
       | (refine ⟨_, cf, ?_⟩; go_simp)
       | refine ⟨fun h => ?_, fun h => ?_⟩
       | intro h
     have hz2 : z = false := by rw [← hz]; simp [AB, Ax, Am, *]
     subst hz2; repeat' first
      | refine AW.seq ?_
      | refine AW.block ?_
      | (refine Ao F ?_; go_simp)
      | (refine Ak ?_; go_simp)
      | (refine AW.skip ?_; go_simp)
      | (refine AW.exit ?_; go_simp)
      | (refine AW.ret ?_; go_simp)
      | (refine ⟨_, cN, ?_⟩; go_simp)
      | (refine ⟨_, cQ, ?_⟩; go_simp)
      | (refine ⟨_, ci1, ?_⟩; go_simp)
      | (refine ⟨_, ci2, ?_⟩; go_simp)
      | (refine ⟨_, cm, ?_⟩; go_simp)
      | (refine ⟨_, cf, ?_⟩; go_simp)
      | refine ⟨fun h => ?_, fun h => ?_⟩
      | intro h
    ·simp at hls hms
     subst hls hms; by_cases hs : t1 = ⟨#[]⟩
     ·subst hs
      have hz2 : z = true := by rw [← hz]; simp [AB, Ax, Am, Ai, *]; try omega
      subst hz2; repeat' first
       | refine AW.seq ?_
       | refine AW.block ?_
       | (refine Ao F ?_; go_simp)
       | (refine Ak ?_; go_simp)
       | (refine AW.skip ?_; go_simp)
       | (refine AW.exit ?_; go_simp)
       | (refine AW.ret ?_; go_simp)
       | (refine ⟨_, cN, ?_⟩; go_simp)
       | (refine ⟨_, cQ, ?_⟩; go_simp)
       | (refine ⟨_, ci1, ?_⟩; go_simp)
       | (refine ⟨_, ci2, ?_⟩; go_simp)
       | (refine ⟨_, cm, ?_⟩; go_simp)
       | (refine ⟨_, cf, ?_⟩; go_simp)
       | refine ⟨fun h => ?_, fun h => ?_⟩
       | intro h
     have hz2 : z = false := by rw [← hz]; simp [AB, Ax, Am, *]
     subst hz2; repeat' first
      | refine AW.seq ?_
      | refine AW.block ?_
      | (refine Ao F ?_; go_simp)
      | (refine Ak ?_; go_simp)
      | (refine AW.skip ?_; go_simp)
      | (refine AW.exit ?_; go_simp)
      | (refine AW.ret ?_; go_simp)
      | (refine ⟨_, cN, ?_⟩; go_simp)
      | (refine ⟨_, cQ, ?_⟩; go_simp)
      | (refine ⟨_, ci1, ?_⟩; go_simp)
      | (refine ⟨_, ci2, ?_⟩; go_simp)
      | (refine ⟨_, cm, ?_⟩; go_simp)
      | (refine ⟨_, cf, ?_⟩; go_simp)
      | refine ⟨fun h => ?_, fun h => ?_⟩
      | intro h
    ·simp at hls hms
     subst hls hms; by_cases hs : t1 = ⟨#[]⟩
     ·subst hs
      have hz2 : z = true := by rw [← hz]; simp [AB, Ax, Am, Ai, *]; try omega
      subst hz2; repeat' first
       | refine AW.seq ?_
       | refine AW.block ?_
       | (refine Ao F ?_; go_simp)
       | (refine Ak ?_; go_simp)
       | (refine AW.skip ?_; go_simp)
       | (refine AW.exit ?_; go_simp)
       | (refine AW.ret ?_; go_simp)
       | (refine ⟨_, cN, ?_⟩; go_simp)
       | (refine ⟨_, cQ, ?_⟩; go_simp)
       | (refine ⟨_, ci1, ?_⟩; go_simp)
       | (refine ⟨_, ci2, ?_⟩; go_simp)
       | (refine ⟨_, cm, ?_⟩; go_simp)
       | (refine ⟨_, cf, ?_⟩; go_simp)
       | refine ⟨fun h => ?_, fun h => ?_⟩
       | intro h
     have hz2 : z = false := by rw [← hz]; simp [AB, Ax, Am, *]
     subst hz2; repeat' first
      | refine AW.seq ?_
      | refine AW.block ?_
      | (refine Ao F ?_; go_simp)
      | (refine Ak ?_; go_simp)
      | (refine AW.skip ?_; go_simp)
      | (refine AW.exit ?_; go_simp)
      | (refine AW.ret ?_; go_simp)
      | (refine ⟨_, cN, ?_⟩; go_simp)
      | (refine ⟨_, cQ, ?_⟩; go_simp)
      | (refine ⟨_, ci1, ?_⟩; go_simp)
      | (refine ⟨_, ci2, ?_⟩; go_simp)
      | (refine ⟨_, cm, ?_⟩; go_simp)
      | (refine ⟨_, cf, ?_⟩; go_simp)
      | refine ⟨fun h => ?_, fun h => ?_⟩
      | intro h
    ·simp at hls hms
     subst hls hms; by_cases hs : t1 = ⟨#[]⟩
     ·subst hs
      have hz2 : z = true := by rw [← hz]; simp [AB, Ax, Am, Ai, *]; try omega
      subst hz2; repeat' first
       | refine AW.seq ?_
       | refine AW.block ?_
       | (refine Ao F ?_; go_simp)
       | (refine Ak ?_; go_simp)
       | (refine AW.skip ?_; go_simp)
       | (refine AW.exit ?_; go_simp)
       | (refine AW.ret ?_; go_simp)
       | (refine ⟨_, cN, ?_⟩; go_simp)
       | (refine ⟨_, cQ, ?_⟩; go_simp)
       | (refine ⟨_, ci1, ?_⟩; go_simp)
       | (refine ⟨_, ci2, ?_⟩; go_simp)
       | (refine ⟨_, cm, ?_⟩; go_simp)
       | (refine ⟨_, cf, ?_⟩; go_simp)
       | refine ⟨fun h => ?_, fun h => ?_⟩
       | intro h
     have hz2 : z = false := by rw [← hz]; simp [AB, Ax, Am, *]
     subst hz2; repeat' first
      | refine AW.seq ?_
      | refine AW.block ?_
      | (refine Ao F ?_; go_simp)
      | (refine Ak ?_; go_simp)
      | (refine AW.skip ?_; go_simp)
      | (refine AW.exit ?_; go_simp)
      | (refine AW.ret ?_; go_simp)
      | (refine ⟨_, cN, ?_⟩; go_simp)
      | (refine ⟨_, cQ, ?_⟩; go_simp)
      | (refine ⟨_, ci1, ?_⟩; go_simp)
      | (refine ⟨_, ci2, ?_⟩; go_simp)
      | (refine ⟨_, cm, ?_⟩; go_simp)
      | (refine ⟨_, cf, ?_⟩; go_simp)
      | refine ⟨fun h => ?_, fun h => ?_⟩
      | intro h
    ·simp at hls hms
     subst hls hms; have hz2 : z = inB Eh t1 := by rw [← hz]; simp [AB, Ax, Am, Ai, *]; try omega
     subst hz2; repeat' first
      | refine AW.seq ?_
      | refine AW.block ?_
      | (refine Ao F ?_; go_simp)
      | (refine Ak ?_; go_simp)
      | (refine AW.skip ?_; go_simp)
      | (refine AW.exit ?_; go_simp)
      | (refine AW.ret ?_; go_simp)
      | (refine ⟨_, cN, ?_⟩; go_simp)
      | (refine ⟨_, cQ, ?_⟩; go_simp)
      | (refine ⟨_, ci1, ?_⟩; go_simp)
      | (refine ⟨_, ci2, ?_⟩; go_simp)
      | (refine ⟨_, cm, ?_⟩; go_simp)
      | (refine ⟨_, cf, ?_⟩; go_simp)
      | refine ⟨fun h => ?_, fun h => ?_⟩
      | intro h
    ·simp at hls hms
     subst hls hms; by_cases hs : t1 = ⟨#[]⟩
     ·subst hs
      have hz2 : z = true := by rw [← hz]; simp [AB, Ax, Am, Ai, *]; try omega
      subst hz2; repeat' first
       | refine AW.seq ?_
       | refine AW.block ?_
       | (refine Ao F ?_; go_simp)
       | (refine Ak ?_; go_simp)
       | (refine AW.skip ?_; go_simp)
       | (refine AW.exit ?_; go_simp)
       | (refine AW.ret ?_; go_simp)
       | (refine ⟨_, cN, ?_⟩; go_simp)
       | (refine ⟨_, cQ, ?_⟩; go_simp)
       | (refine ⟨_, ci1, ?_⟩; go_simp)
       | (refine ⟨_, ci2, ?_⟩; go_simp)
       | (refine ⟨_, cm, ?_⟩; go_simp)
       | (refine ⟨_, cf, ?_⟩; go_simp)
       | refine ⟨fun h => ?_, fun h => ?_⟩
       | intro h
     have hz2 : z = false := by rw [← hz]; simp [AB, Ax, Am, *]
     subst hz2; repeat' first
      | refine AW.seq ?_
      | refine AW.block ?_
      | (refine Ao F ?_; go_simp)
      | (refine Ak ?_; go_simp)
      | (refine AW.skip ?_; go_simp)
      | (refine AW.exit ?_; go_simp)
      | (refine AW.ret ?_; go_simp)
      | (refine ⟨_, cN, ?_⟩; go_simp)
      | (refine ⟨_, cQ, ?_⟩; go_simp)
      | (refine ⟨_, ci1, ?_⟩; go_simp)
      | (refine ⟨_, ci2, ?_⟩; go_simp)
      | (refine ⟨_, cm, ?_⟩; go_simp)
      | (refine ⟨_, cf, ?_⟩; go_simp)
      | refine ⟨fun h => ?_, fun h => ?_⟩
      | intro h
    ·simp at hls hms
     subst hls hms; by_cases hs : t1 = ⟨#[]⟩
     ·subst hs
      have hz2 : z = true := by rw [← hz]; simp [AB, Ax, Am, Ai, *]; try omega
      subst hz2; repeat' first
       | refine AW.seq ?_
       | refine AW.block ?_
       | (refine Ao F ?_; go_simp)
       | (refine Ak ?_; go_simp)
       | (refine AW.skip ?_; go_simp)
       | (refine AW.exit ?_; go_simp)
       | (refine AW.ret ?_; go_simp)
       | (refine ⟨_, cN, ?_⟩; go_simp)
       | (refine ⟨_, cQ, ?_⟩; go_simp)
       | (refine ⟨_, ci1, ?_⟩; go_simp)
       | (refine ⟨_, ci2, ?_⟩; go_simp)
       | (refine ⟨_, cm, ?_⟩; go_simp)
       | (refine ⟨_, cf, ?_⟩; go_simp)
       | refine ⟨fun h => ?_, fun h => ?_⟩
       | intro h
     have hz2 : z = false := by rw [← hz]; simp [AB, Ax, Am, *]
     subst hz2; repeat' first
      | refine AW.seq ?_
      | refine AW.block ?_
      | (refine Ao F ?_; go_simp)
      | (refine Ak ?_; go_simp)
      | (refine AW.skip ?_; go_simp)
      | (refine AW.exit ?_; go_simp)
      | (refine AW.ret ?_; go_simp)
      | (refine ⟨_, cN, ?_⟩; go_simp)
      | (refine ⟨_, cQ, ?_⟩; go_simp)
      | (refine ⟨_, ci1, ?_⟩; go_simp)
      | (refine ⟨_, ci2, ?_⟩; go_simp)
      | (refine ⟨_, cm, ?_⟩; go_simp)
      | (refine ⟨_, cf, ?_⟩; go_simp)
      | refine ⟨fun h => ?_, fun h => ?_⟩
      | intro h
    ·simp at hls hms
     subst hls hms; by_cases hs : t1 = ⟨#[]⟩
     ·subst hs
      have hz2 : z = true := by rw [← hz]; simp [AB, Ax, Am, Ai, *]; try omega
      subst hz2; repeat' first
       | refine AW.seq ?_
       | refine AW.block ?_
       | (refine Ao F ?_; go_simp)
       | (refine Ak ?_; go_simp)
       | (refine AW.skip ?_; go_simp)
       | (refine AW.exit ?_; go_simp)
       | (refine AW.ret ?_; go_simp)
       | (refine ⟨_, cN, ?_⟩; go_simp)
       | (refine ⟨_, cQ, ?_⟩; go_simp)
       | (refine ⟨_, ci1, ?_⟩; go_simp)
       | (refine ⟨_, ci2, ?_⟩; go_simp)
       | (refine ⟨_, cm, ?_⟩; go_simp)
       | (refine ⟨_, cf, ?_⟩; go_simp)
       | refine ⟨fun h => ?_, fun h => ?_⟩
       | intro h
     have hz2 : z = false := by rw [← hz]; simp [AB, Ax, Am, *]
     subst hz2; repeat' first
      | refine AW.seq ?_
      | refine AW.block ?_
      | (refine Ao F ?_; go_simp)
      | (refine Ak ?_; go_simp)
      | (refine AW.skip ?_; go_simp)
      | (refine AW.exit ?_; go_simp)
      | (refine AW.ret ?_; go_simp)
      | (refine ⟨_, cN, ?_⟩; go_simp)
      | (refine ⟨_, cQ, ?_⟩; go_simp)
      | (refine ⟨_, ci1, ?_⟩; go_simp)
      | (refine ⟨_, ci2, ?_⟩; go_simp)
      | (refine ⟨_, cm, ?_⟩; go_simp)
      | (refine ⟨_, cf, ?_⟩; go_simp)
      | refine ⟨fun h => ?_, fun h => ?_⟩
      | intro h
    ·simp at hls hms
     subst hls hms; by_cases hs : t1 = ⟨#[]⟩
     ·subst hs
      have hz2 : z = true := by rw [← hz]; simp [AB, Ax, Am, Ai, *]; try omega
      subst hz2; repeat' first
       | refine AW.seq ?_
       | refine AW.block ?_
       | (refine Ao F ?_; go_simp)
       | (refine Ak ?_; go_simp)
       | (refine AW.skip ?_; go_simp)
       | (refine AW.exit ?_; go_simp)
       | (refine AW.ret ?_; go_simp)
       | (refine ⟨_, cN, ?_⟩; go_simp)
       | (refine ⟨_, cQ, ?_⟩; go_simp)
       | (refine ⟨_, ci1, ?_⟩; go_simp)
       | (refine ⟨_, ci2, ?_⟩; go_simp)
       | (refine ⟨_, cm, ?_⟩; go_simp)
       | (refine ⟨_, cf, ?_⟩; go_simp)
       | refine ⟨fun h => ?_, fun h => ?_⟩
       | intro h
     have hz2 : z = false := by rw [← hz]; simp [AB, Ax, Am, *]
     subst hz2; repeat' first
      | refine AW.seq ?_
      | refine AW.block ?_
      | (refine Ao F ?_; go_simp)
      | (refine Ak ?_; go_simp)
      | (refine AW.skip ?_; go_simp)
      | (refine AW.exit ?_; go_simp)
      | (refine AW.ret ?_; go_simp)
      | (refine ⟨_, cN, ?_⟩; go_simp)
      | (refine ⟨_, cQ, ?_⟩; go_simp)
      | (refine ⟨_, ci1, ?_⟩; go_simp)
      | (refine ⟨_, ci2, ?_⟩; go_simp)
      | (refine ⟨_, cm, ?_⟩; go_simp)
      | (refine ⟨_, cf, ?_⟩; go_simp)
      | refine ⟨fun h => ?_, fun h => ?_⟩
      | intro h
    ·simp at hls hms
     subst hls hms; by_cases hs : t1 = ⟨#[]⟩
     ·subst hs
      have hz2 : z = true := by rw [← hz]; simp [AB, Ax, Am, Ai, *]; try omega
      subst hz2; repeat' first
       | refine AW.seq ?_
       | refine AW.block ?_
       | (refine Ao F ?_; go_simp)
       | (refine Ak ?_; go_simp)
       | (refine AW.skip ?_; go_simp)
       | (refine AW.exit ?_; go_simp)
       | (refine AW.ret ?_; go_simp)
       | (refine ⟨_, cN, ?_⟩; go_simp)
       | (refine ⟨_, cQ, ?_⟩; go_simp)
       | (refine ⟨_, ci1, ?_⟩; go_simp)
       | (refine ⟨_, ci2, ?_⟩; go_simp)
       | (refine ⟨_, cm, ?_⟩; go_simp)
       | (refine ⟨_, cf, ?_⟩; go_simp)
       | refine ⟨fun h => ?_, fun h => ?_⟩
       | intro h
     have hz2 : z = false := by rw [← hz]; simp [AB, Ax, Am, *]
     subst hz2; repeat' first
      | refine AW.seq ?_
      | refine AW.block ?_
      | (refine Ao F ?_; go_simp)
      | (refine Ak ?_; go_simp)
      | (refine AW.skip ?_; go_simp)
      | (refine AW.exit ?_; go_simp)
      | (refine AW.ret ?_; go_simp)
      | (refine ⟨_, cN, ?_⟩; go_simp)
      | (refine ⟨_, cQ, ?_⟩; go_simp)
      | (refine ⟨_, ci1, ?_⟩; go_simp)
      | (refine ⟨_, ci2, ?_⟩; go_simp)
      | (refine ⟨_, cm, ?_⟩; go_simp)
      | (refine ⟨_, cf, ?_⟩; go_simp)
      | refine ⟨fun h => ?_, fun h => ?_⟩
      | intro h
    ·simp at hls hms
     subst hls hms; by_cases hev : l1.length % 2 = 0
     ·have hevI : (l1.length : Int).tmod 2 = 0 := by rw [Int.tmod_eq_emod_of_nonneg (by omega)]; omega
      by_cases hs : t1 = ⟨#[]⟩
      ·subst hs
       have hz2 : z = true := by rw [← hz]; simp [AB, Ax, Am, Ai, *]; try omega
       subst hz2; repeat' first
        | refine AW.seq ?_
        | refine AW.block ?_
        | (refine Ao F ?_; go_simp)
        | (refine Ak ?_; go_simp)
        | (refine AW.skip ?_; go_simp)
        | (refine AW.exit ?_; go_simp)
        | (refine AW.ret ?_; go_simp)
        | (refine ⟨_, cN, ?_⟩; go_simp)
        | (refine ⟨_, cQ, ?_⟩; go_simp)
        | (refine ⟨_, ci1, ?_⟩; go_simp)
        | (refine ⟨_, ci2, ?_⟩; go_simp)
        | (refine ⟨_, cm, ?_⟩; go_simp)
        | (refine ⟨_, cf, ?_⟩; go_simp)
        | refine ⟨fun h => ?_, fun h => ?_⟩
        | intro h
      have hz2 : z = false := by rw [← hz]; simp [AB, Ax, Am, *]
      subst hz2; repeat' first
       | refine AW.seq ?_
       | refine AW.block ?_
       | (refine Ao F ?_; go_simp)
       | (refine Ak ?_; go_simp)
       | (refine AW.skip ?_; go_simp)
       | (refine AW.exit ?_; go_simp)
       | (refine AW.ret ?_; go_simp)
       | (refine ⟨_, cN, ?_⟩; go_simp)
       | (refine ⟨_, cQ, ?_⟩; go_simp)
       | (refine ⟨_, ci1, ?_⟩; go_simp)
       | (refine ⟨_, ci2, ?_⟩; go_simp)
       | (refine ⟨_, cm, ?_⟩; go_simp)
       | (refine ⟨_, cf, ?_⟩; go_simp)
       | refine ⟨fun h => ?_, fun h => ?_⟩
       | intro h
     have hevI : ¬ (l1.length : Int).tmod 2 = 0 := by rw [Int.tmod_eq_emod_of_nonneg (by omega)]; omega
     by_cases hs : t1 = ⟨#[]⟩
     ·subst hs
      have hz2 : z = false := by rw [← hz]; simp [AB, Ax, Am, Ai, *]
      subst hz2; repeat' first
       | refine AW.seq ?_
       | refine AW.block ?_
       | (refine Ao F ?_; go_simp)
       | (refine Ak ?_; go_simp)
       | (refine AW.skip ?_; go_simp)
       | (refine AW.exit ?_; go_simp)
       | (refine AW.ret ?_; go_simp)
       | (refine ⟨_, cN, ?_⟩; go_simp)
       | (refine ⟨_, cQ, ?_⟩; go_simp)
       | (refine ⟨_, ci1, ?_⟩; go_simp)
       | (refine ⟨_, ci2, ?_⟩; go_simp)
       | (refine ⟨_, cm, ?_⟩; go_simp)
       | (refine ⟨_, cf, ?_⟩; go_simp)
       | refine ⟨fun h => ?_, fun h => ?_⟩
       | intro h
     have hz2 : z = false := by rw [← hz]; simp [AB, Ax, Am, *]
     subst hz2; repeat' first
      | refine AW.seq ?_
      | refine AW.block ?_
      | (refine Ao F ?_; go_simp)
      | (refine Ak ?_; go_simp)
      | (refine AW.skip ?_; go_simp)
      | (refine AW.exit ?_; go_simp)
      | (refine AW.ret ?_; go_simp)
      | (refine ⟨_, cN, ?_⟩; go_simp)
      | (refine ⟨_, cQ, ?_⟩; go_simp)
      | (refine ⟨_, ci1, ?_⟩; go_simp)
      | (refine ⟨_, ci2, ?_⟩; go_simp)
      | (refine ⟨_, cm, ?_⟩; go_simp)
      | (refine ⟨_, cf, ?_⟩; go_simp)
      | refine ⟨fun h => ?_, fun h => ?_⟩
      | intro h
    ·simp at hls hms
     subst hls hms; by_cases hs : t1 = ⟨#[]⟩
     ·subst hs
      have hz2 : z = true := by rw [← hz]; simp [AB, Ax, Am, Ai, *]; try omega
      subst hz2; repeat' first
       | refine AW.seq ?_
       | refine AW.block ?_
       | (refine Ao F ?_; go_simp)
       | (refine Ak ?_; go_simp)
       | (refine AW.skip ?_; go_simp)
       | (refine AW.exit ?_; go_simp)
       | (refine AW.ret ?_; go_simp)
       | (refine ⟨_, cN, ?_⟩; go_simp)
       | (refine ⟨_, cQ, ?_⟩; go_simp)
       | (refine ⟨_, ci1, ?_⟩; go_simp)
       | (refine ⟨_, ci2, ?_⟩; go_simp)
       | (refine ⟨_, cm, ?_⟩; go_simp)
       | (refine ⟨_, cf, ?_⟩; go_simp)
       | refine ⟨fun h => ?_, fun h => ?_⟩
       | intro h
     have hz2 : z = false := by rw [← hz]; simp [AB, Ax, Am, *]
     subst hz2; repeat' first
      | refine AW.seq ?_
      | refine AW.block ?_
      | (refine Ao F ?_; go_simp)
      | (refine Ak ?_; go_simp)
      | (refine AW.skip ?_; go_simp)
      | (refine AW.exit ?_; go_simp)
      | (refine AW.ret ?_; go_simp)
      | (refine ⟨_, cN, ?_⟩; go_simp)
      | (refine ⟨_, cQ, ?_⟩; go_simp)
      | (refine ⟨_, ci1, ?_⟩; go_simp)
      | (refine ⟨_, ci2, ?_⟩; go_simp)
      | (refine ⟨_, cm, ?_⟩; go_simp)
      | (refine ⟨_, cf, ?_⟩; go_simp)
      | refine ⟨fun h => ?_, fun h => ?_⟩
      | intro h
    ·simp at hls hms
     subst hls hms; by_cases hs : t1 = ⟨#[]⟩
     ·subst hs
      have hz2 : z = true := by rw [← hz]; simp [AB, Ax, Am, Ai, *]; try omega
      subst hz2; repeat' first
       | refine AW.seq ?_
       | refine AW.block ?_
       | (refine Ao F ?_; go_simp)
       | (refine Ak ?_; go_simp)
       | (refine AW.skip ?_; go_simp)
       | (refine AW.exit ?_; go_simp)
       | (refine AW.ret ?_; go_simp)
       | (refine ⟨_, cN, ?_⟩; go_simp)
       | (refine ⟨_, cQ, ?_⟩; go_simp)
       | (refine ⟨_, ci1, ?_⟩; go_simp)
       | (refine ⟨_, ci2, ?_⟩; go_simp)
       | (refine ⟨_, cm, ?_⟩; go_simp)
       | (refine ⟨_, cf, ?_⟩; go_simp)
       | refine ⟨fun h => ?_, fun h => ?_⟩
       | intro h
     have hz2 : z = false := by rw [← hz]; simp [AB, Ax, Am, *]
     subst hz2; repeat' first
      | refine AW.seq ?_
      | refine AW.block ?_
      | (refine Ao F ?_; go_simp)
      | (refine Ak ?_; go_simp)
      | (refine AW.skip ?_; go_simp)
      | (refine AW.exit ?_; go_simp)
      | (refine AW.ret ?_; go_simp)
      | (refine ⟨_, cN, ?_⟩; go_simp)
      | (refine ⟨_, cQ, ?_⟩; go_simp)
      | (refine ⟨_, ci1, ?_⟩; go_simp)
      | (refine ⟨_, ci2, ?_⟩; go_simp)
      | (refine ⟨_, cm, ?_⟩; go_simp)
      | (refine ⟨_, cf, ?_⟩; go_simp)
      | refine ⟨fun h => ?_, fun h => ?_⟩
      | intro h
    ·simp at hls hms
     subst hls hms; have hz2 : z = B4 t1 := by rw [← hz]; simp [AB, Ax, Am, Ai, *]; try omega
     subst hz2; repeat' first
      | refine AW.seq ?_
      | refine AW.block ?_
      | (refine Ao F ?_; go_simp)
      | (refine Ak ?_; go_simp)
      | (refine AW.skip ?_; go_simp)
      | (refine AW.exit ?_; go_simp)
      | (refine AW.ret ?_; go_simp)
      | (refine ⟨_, cN, ?_⟩; go_simp)
      | (refine ⟨_, cQ, ?_⟩; go_simp)
      | (refine ⟨_, ci1, ?_⟩; go_simp)
      | (refine ⟨_, ci2, ?_⟩; go_simp)
      | (refine ⟨_, cm, ?_⟩; go_simp)
      | (refine ⟨_, cf, ?_⟩; go_simp)
      | refine ⟨fun h => ?_, fun h => ?_⟩
      | intro h
    ·simp at hls hms
     subst hls hms; have hz2 : z = B4 t1 := by rw [← hz]; simp [AB, Ax, Am, Ai, *]; try omega
     subst hz2; repeat' first
      | refine AW.seq ?_
      | refine AW.block ?_
      | (refine Ao F ?_; go_simp)
      | (refine Ak ?_; go_simp)
      | (refine AW.skip ?_; go_simp)
      | (refine AW.exit ?_; go_simp)
      | (refine AW.ret ?_; go_simp)
      | (refine ⟨_, cN, ?_⟩; go_simp)
      | (refine ⟨_, cQ, ?_⟩; go_simp)
      | (refine ⟨_, ci1, ?_⟩; go_simp)
      | (refine ⟨_, ci2, ?_⟩; go_simp)
      | (refine ⟨_, cm, ?_⟩; go_simp)
      | (refine ⟨_, cf, ?_⟩; go_simp)
      | refine ⟨fun h => ?_, fun h => ?_⟩
      | intro h
    ·simp at hls hms
     subst hls hms; have hz2 : z = B4 t1 := by rw [← hz]; simp [AB, Ax, Am, Ai, *]; try omega
     subst hz2; repeat' first
      | refine AW.seq ?_
      | refine AW.block ?_
      | (refine Ao F ?_; go_simp)
      | (refine Ak ?_; go_simp)
      | (refine AW.skip ?_; go_simp)
      | (refine AW.exit ?_; go_simp)
      | (refine AW.ret ?_; go_simp)
      | (refine ⟨_, cN, ?_⟩; go_simp)
      | (refine ⟨_, cQ, ?_⟩; go_simp)
      | (refine ⟨_, ci1, ?_⟩; go_simp)
      | (refine ⟨_, ci2, ?_⟩; go_simp)
      | (refine ⟨_, cm, ?_⟩; go_simp)
      | (refine ⟨_, cf, ?_⟩; go_simp)
      | refine ⟨fun h => ?_, fun h => ?_⟩
      | intro h
    ·simp at hls hms
     subst hls hms; have hn0 : l1 = [] := List.eq_nil_of_length_eq_zero (by omega); have hz2 : z = B4 t1 := by rw [← hz]; simp [AB, Ax, Am, Ai, *]; try omega
     subst hz2; repeat' first
      | refine AW.seq ?_
      | refine AW.block ?_
      | (refine Ao F ?_; go_simp)
      | (refine Ak ?_; go_simp)
      | (refine AW.skip ?_; go_simp)
      | (refine AW.exit ?_; go_simp)
      | (refine AW.ret ?_; go_simp)
      | (refine ⟨_, cN, ?_⟩; go_simp)
      | (refine ⟨_, cQ, ?_⟩; go_simp)
      | (refine ⟨_, ci1, ?_⟩; go_simp)
      | (refine ⟨_, ci2, ?_⟩; go_simp)
      | (refine ⟨_, cm, ?_⟩; go_simp)
      | (refine ⟨_, cf, ?_⟩; go_simp)
      | refine ⟨fun h => ?_, fun h => ?_⟩
      | intro h
    ·simp at hls hms
     subst hls hms; have hz2 : z = CK t1 := by rw [← hz]; simp [AB, Ax, Am, Ai, *]; try omega
     subst hz2; repeat' first
      | refine AW.seq ?_
      | refine AW.block ?_
      | (refine Ao F ?_; go_simp)
      | (refine Ak ?_; go_simp)
      | (refine AW.skip ?_; go_simp)
      | (refine AW.exit ?_; go_simp)
      | (refine AW.ret ?_; go_simp)
      | (refine ⟨_, cN, ?_⟩; go_simp)
      | (refine ⟨_, cQ, ?_⟩; go_simp)
      | (refine ⟨_, ci1, ?_⟩; go_simp)
      | (refine ⟨_, ci2, ?_⟩; go_simp)
      | (refine ⟨_, cm, ?_⟩; go_simp)
      | (refine ⟨_, cf, ?_⟩; go_simp)
      | refine ⟨fun h => ?_, fun h => ?_⟩
      | intro h
    ·simp at hls hms
     subst hls hms; have hz2 : z = inB EH t1 := by rw [← hz]; simp [AB, Ax, Am, Ai, *]; try omega
     subst hz2; repeat' first
      | refine AW.seq ?_
      | refine AW.block ?_
      | (refine Ao F ?_; go_simp)
      | (refine Ak ?_; go_simp)
      | (refine AW.skip ?_; go_simp)
      | (refine AW.exit ?_; go_simp)
      | (refine AW.ret ?_; go_simp)
      | (refine ⟨_, cN, ?_⟩; go_simp)
      | (refine ⟨_, cQ, ?_⟩; go_simp)
      | (refine ⟨_, ci1, ?_⟩; go_simp)
      | (refine ⟨_, ci2, ?_⟩; go_simp)
      | (refine ⟨_, cm, ?_⟩; go_simp)
      | (refine ⟨_, cf, ?_⟩; go_simp)
      | refine ⟨fun h => ?_, fun h => ?_⟩
      | intro h
    simp at hls hms; subst hls hms; have hn0 : l1 = [] := List.eq_nil_of_length_eq_zero (by omega); by_cases hs : t1 = ⟨#[]⟩
    ·subst hs
     have hz2 : z = true := by rw [← hz]; simp [AB, Ax, Am, Ai, *]; try omega
     subst hz2; repeat' first
      | refine AW.seq ?_
      | refine AW.block ?_
      | (refine Ao F ?_; go_simp)
      | (refine Ak ?_; go_simp)
      | (refine AW.skip ?_; go_simp)
      | (refine AW.exit ?_; go_simp)
      | (refine AW.ret ?_; go_simp)
      | (refine ⟨_, cN, ?_⟩; go_simp)
      | (refine ⟨_, cQ, ?_⟩; go_simp)
      | (refine ⟨_, ci1, ?_⟩; go_simp)
      | (refine ⟨_, ci2, ?_⟩; go_simp)
      | (refine ⟨_, cm, ?_⟩; go_simp)
      | (refine ⟨_, cf, ?_⟩; go_simp)
      | refine ⟨fun h => ?_, fun h => ?_⟩
      | intro h
    have hz2 : z = false := by rw [← hz]; simp [AB, Ax, Am, *]
    subst hz2; repeat' first
     | refine AW.seq ?_
     | refine AW.block ?_
     | (refine Ao F ?_; go_simp)
     | (refine Ak ?_; go_simp)
     | (refine AW.skip ?_; go_simp)
     | (refine AW.exit ?_; go_simp)
     | (refine AW.ret ?_; go_simp)
     | (refine ⟨_, cN, ?_⟩; go_simp)
     | (refine ⟨_, cQ, ?_⟩; go_simp)
     | (refine ⟨_, ci1, ?_⟩; go_simp)
     | (refine ⟨_, ci2, ?_⟩; go_simp)
     | (refine ⟨_, cm, ?_⟩; go_simp)
     | (refine ⟨_, cf, ?_⟩; go_simp)
     | refine ⟨fun h => ?_, fun h => ?_⟩
     | intro h
   have hz2 : z = false := by rw [← hz]; simp [AB, Ax, Am, *]
   subst hz2; (repeat apply Aq); refine Ah F [0, 1, 2, 3, 4, 5, 6, 7] [8, 9, 10, 11, 12, 13] (by rfl) ?_; go_simp; refine Ac ?_; go_simp; (repeat apply Aq); refine At (by go_simp) ?_; apply Ar F; go_simp; apply Au; go_simp
  have hz2 : z = false := by rw [← hz]; simp [AB, Ax, Am, *]
  subst hz2; (repeat apply Aq); refine Ah F [0, 1, 2, 3, 4, 5, 6, 7, 8] [9, 10, 11, 12, 13, 14, 15, 16, 17, 18, 19] (by rfl) ?_; go_simp; refine Ac ?_; go_simp; (repeat apply Aq); refine At (by go_simp) ?_; apply Ar F; go_simp; apply Au; go_simp
 have hz2 : z = false := by rw [← hz]; simp [AB, Ax, Am, *]
 subst hz2; (repeat apply Aq); refine Ah F [0, 1, 2, 3, 4, 5, 6, 7, 8] [9, 10, 11, 12, 13, 14, 15, 16, 17, 18, 19] (by rfl) ?_; go_simp; refine Ac ?_; go_simp; (repeat apply Aq); refine At (by go_simp) ?_; apply Ar F; go_simp; apply Au; go_simp
end Go.Proofs.YtakncilicoefdaaGreatDoor
