/- Lemmas and contracts for the laws SyntaxPieces, part 17 of 48: SynSim. Conditions: those that each lemma names. -/
import Derived.Test.YtinknjhclpaieaaGreatDoorPq15
set_option maxRecDepth 100000
set_option maxHeartbeats 4000000
namespace Th
open Go Go.Lib
theorem z1 : type_of% @SameS.next := @SameS.next
theorem z2 : type_of% @SameS.want := @SameS.want
theorem z3 : type_of% @SameS.fail := @SameS.fail
theorem z4 : type_of% @SameS.named := @SameS.named
theorem z5 : type_of% @Kp.ret := @Kp.ret
theorem z6 : type_of% @keepR := @keepR
theorem z7 : type_of% @Kp.bind := @Kp.bind
theorem z8 : type_of% @Kp.args := @Kp.args
theorem z9 : type_of% @Kp.ite := @Kp.ite
def Sim (o : Option (NJ × St)) (p : Option (PR NJ)) : Prop := ∀ n s', o = some (n, s') → p = some (toPR n s')
theorem toPR_ok {n : NJ} {s : St} (h : s.err = 0) : toPR n s = .ok n s.i := if_pos h
theorem toPR_bad {n : NJ} {s : St} (h : s.err ≠ 0) : toPR n s = .bad s.at_ s.err := if_neg h
theorem Sim.ok {n : NJ} {s : St} (h : s.err = 0) : Sim (some (n, s)) (okP n s.i) := fun _ _ h2 => by cases h2; rw [toPR_ok h]; rfl
theorem fail_eq {E : Env} {s : St} (hs : s.err = 0) (e : Nat) : failR E s e = ⟨E.l.length, e, failAt E s.i⟩ := if_pos hs
theorem fail_ne {E : Env} {s : St} (hs : s.err = 0) {e : Nat} (he : e ≠ 0) : (failR E s e).err ≠ 0 := by rw [fail_eq hs]; exact he
theorem Sim.dead {E : Env} {s : St} {o : Option (NJ × St)} (hs : s.err = 0) {e : Nat} (he : e ≠ 0) (h : Kp (failR E s e) o) : Sim o (failP E s.i e) := by
  intro n s' h2; have h3 := h n s' h2; rw [fail_eq hs] at h3; have h4 : s'.err = e := h3.e; rw [toPR_bad (by rw [h4]; exact he), h4, h3.a]; rfl
theorem Sim.bind {a : Option (NJ × St)} {p : Option (PR NJ)} {k : NJ → St → Option (NJ × St)} {k' : NJ → Nat → Option (PR NJ)} (h : Sim a p) (h1 : ∀ n s1, s1.err = 0 → Sim (k n s1) (k' n s1.i)) (h2 : ∀ n s1, s1.err ≠ 0 → Kp s1 (k n s1)) : Sim (bindR a k) (bindP p k') := by
  intro n s' hx; cases a with
  | none => cases hx
  | some q =>
    obtain ⟨n1, s1⟩ := q; rw [h n1 s1 rfl]; by_cases hs : s1.err = 0
    · rw [toPR_ok hs]; exact h1 n1 s1 hs n s' hx
    have h3 := h2 n1 s1 hs n s' hx; rw [toPR_bad hs, toPR_bad (by rw [h3.e]; exact hs), h3.e, h3.a]; rfl
theorem want_yes {E : Env} {s : St} {x : ByteArray} {t : Nat} (hx : hasR E s x ↔ isT E s.i t x) (h : isT E s.i t x) : wantR E s x = s.next := if_pos (hx.2 h)
theorem want_no {E : Env} {s : St} {x : ByteArray} {t : Nat} (hx : hasR E s x ↔ isT E s.i t x) (h : ¬ isT E s.i t x) : wantR E s x = failR E s 60 := if_neg (fun hh => h (hx.1 hh))
theorem wantP_yes {β : Type} {E : Env} {i t : Nat} {x : ByteArray} {k : Nat → Option (PR β)} (h : isT E i t x) : wantP E i t x k = k (i + 1) := if_pos h
theorem wantP_no {β : Type} {E : Env} {i t : Nat} {x : ByteArray} {k : Nat → Option (PR β)} (h : ¬ isT E i t x) : wantP E i t x k = failP E i 60 := if_neg h
def noKind (E : Env) (i k : Nat) : Prop := (tokAt E i).kind ≠ k ∨ (k = 1 ∧ inB words13 (tokAt E i).text = true)
theorem named_yes {E : Env} {s : St} (hs : s.err = 0) {k : Nat} (h : ¬ noKind E s.i k) : namedR E s k = ((tokAt E s.i).text, s.next) := if_neg (fun hh => h (hh.elim (fun h2 => absurd hs h2) id))
theorem named_no {E : Env} {s : St} {k : Nat} (h : noKind E s.i k) : namedR E s k = (⟨#[]⟩, failR E s 60) := if_pos (Or.inr h)
theorem kindP_yes {β : Type} {E : Env} {i k : Nat} {f : ByteArray → Nat → Option (PR β)} (h : ¬ noKind E i k) : kindP E i k f = f (tokAt E i).text (i + 1) := if_neg h
theorem kindP_no {β : Type} {E : Env} {i k : Nat} {f : ByteArray → Nat → Option (PR β)} (h : noKind E i k) : kindP E i k f = failP E i 60 := if_pos h
theorem bindR_some {α : Type} {a : Option (NJ × St)} {k : NJ → St → Option α} {x : α} (h : bindR a k = some x) : ∃ n s, a = some (n, s) ∧ k n s = some x := by
  cases a with
  | none => cases h
  | some p => exact ⟨p.1, p.2, rfl, h⟩
theorem args_sim {E : Env} (hE : WfE E) {k : List ByteArray → St → Option (NJ × St)} {k' : List ByteArray → Nat → Option (PR NJ)} (h1 : ∀ a s, s.err = 0 → Sim (k a s) (k' a s.i)) (h2 : ∀ a s, s.err ≠ 0 → Kp s (k a s)) :
    ∀ (n : Nat) (acc : List ByteArray) (s : St), s.err = 0 → Sim (bindA (argsR E n acc s) k) (argsP E k' n acc s.i) := by
  intro n; induction n with
  | zero => intro acc s _ n s' h; cases h
  | succ n ih =>
    intro acc s hs; simp only [argsR, argsP]; by_cases hk : (tokAt E s.i).kind = 2
    · simp only [if_pos hk]
      have hy : ¬ noKind E s.i 2 := by unfold noKind; rw [hk]; simp
      rw [named_yes hs hy]; have hx : hasR E s.next ⟨#[59]⟩ ↔ isT E (s.i + 1) 6 ⟨#[59]⟩ := hasR_sign hE (s := s.next) hs rfl; by_cases hc : isT E (s.i + 1) 6 ⟨#[59]⟩
      · rw [if_pos (hx.2 hc), if_pos hc]; exact ih _ s.next.next hs
      rw [if_neg (fun h => hc (hx.1 h)), if_neg hc]; exact h1 _ s.next hs
    simp only [if_neg hk]; by_cases hy : noKind E s.i 1
    · rw [named_no hy, kindP_no hy, if_neg (fun h => fail_ne (E := E) hs (e := 60) (by decide) h.1)]
      exact Sim.dead hs (by decide) (h2 _ _ (fail_ne hs (by decide)))
    rw [named_yes hs hy, kindP_yes hy]; have hx : hasR E s.next ⟨#[59]⟩ ↔ isT E (s.i + 1) 6 ⟨#[59]⟩ := hasR_sign hE (s := s.next) hs rfl; by_cases hc : isT E (s.i + 1) 6 ⟨#[59]⟩
    · rw [if_pos (hx.2 hc), if_pos hc]; exact ih _ s.next.next hs
    rw [if_neg (fun h => hc (hx.1 h)), if_neg hc]; exact h1 _ s.next hs
def Sp (E : Env) (job : RJob) (i : Nat) (n : NJ) (s' : St) : Prop := match job with
  | .list => LR E 1 i n s'
  | .other => LR E 2 i n s'
  | .set => LR E 3 i n s'
  | .either => LR E 4 i n s'
  | .both => LR E 5 i n s'
  | .test => LR E 6 i n s'
  | .sum => LR E 7 i n s'
  | .product => LR E 8 i n s'
  | .listLoop n0 => ∀ top, 1 ≤ top → ¬ live E 2 top i → LoopR E 1 n0 top i n s'
  | .eitherLoop n0 => ∀ top, 4 ≤ top → ¬ live E 5 top i → LoopR E 4 n0 top i n s'
  | .bothLoop n0 => ∀ top, 5 ≤ top → ¬ live E 6 top i → LoopR E 5 n0 top i n s'
  | .sumLoop n0 => ∀ top, 7 ≤ top → ¬ live E 8 top i → LoopR E 7 n0 top i n s'
  | .productLoop n0 => ∀ top, 8 ≤ top → ¬ live E 9 top i → LoopR E 8 n0 top i n s'
  | .filter => evP E .filter i = some (toPR n s')
  | .minus => evP E .minus i = some (toPR n s')
  | .term => evP E .term i = some (toPR n s')
  | .termLoop n0 => evP E (.termLoop n0) i = some (toPR n s')
  | .index x => ∀ i0, i = i0 + 1 → isT E i0 6 ⟨#[91]⟩ → evP E (.index x) i0 = some (toPR n s')
  | .text => (tokAt E i).kind = 5 → evP E .quoted i = some (toPR n s')
  | .parts t f p k => (t = [] ∨ t.length = f.length + 1) → evP E (.parts t f p k) i = some (toPR n s')
  | .whole => evP E .whole i = some (toPR n s')
  | .first => evP E .first i = some (toPR n s')
  | .object => evP E .object i = some (toPR n s')
  | .objLoop kids => evP E (.objLoop kids) i = some (toPR n s')
  | .word => (tokAt E i).kind = 1 → evP E (.word (tokAt E i).text) i = some (toPR n s')
  | .callLoop name kids => evP E (.callLoop name kids) i = some (toPR n s')
  | .branch => evP E .branch i = some (toPR n s')
theorem parts_len (q : List UInt8) : ((partsF q).1.texts = [] ∧ (partsF q).1.filters = []) ∨ (partsF q).1.texts.length = (partsF q).1.filters.length + 1 := by
  have key : ∀ (one : Nat → Tf × Nat × Nat) (n f a : Nat) (r : PartsR), r.texts.length = r.filters.length → (partsGo q one n f a r).texts.length = (partsGo q one n f a r).filters.length + 1 := by
    intro one n; induction n with
    | zero => intro f a r h; simp only [partsGo, List.length_append, List.length_singleton]; omega
    | succ n ih =>
      intro f a r h; simp only [partsGo]; split
      · simp only [List.length_append, List.length_singleton]; omega
      split
      · exact ih _ _ _ h
      split
      · exact ih _ _ _ h
      exact ih _ _ _ (by simp only [List.length_append, List.length_singleton]; omega)
  unfold partsF; split
  · exact Or.inr (key _ _ _ _ _ rfl)
  exact Or.inl ⟨rfl, rfl⟩
theorem parse_code (l : List UInt8) : 0 ≤ (parseN l).2 := by
  have hf : ∀ neg m e, 0 ≤ (fin neg m e).2 := fun neg m e => by unfold fin; split <;> first | exact Int.le_refl 0 | exact (show (0 : Int) ≤ 11 by decide)
  have hn : ∀ neg m e, 0 ≤ (norm neg m e).2 := fun neg m e => by
    unfold norm; split
    · decide
    exact hf _ _ _
  have hc : ∀ neg u, 0 ≤ (coreN neg u).2 := fun neg u => by
    unfold coreN; split
    · decide
    exact hn _ _ _
  unfold parseN; split
  · exact hc _ _
  exact hc _ _
theorem parse_err (l : List UInt8) (h : (parseN l).2 ≠ 0) : (parseN l).2.toNat ≠ 0 := by
  have := parse_code l; omega
theorem bindP_ok {α β : Type} {a : α} {i : Nat} {f : α → Nat → Option (PR β)} : bindP (okP a i) f = f a i := rfl
theorem bindP_fail {α β : Type} {E : Env} {i e : Nat} {f : α → Nat → Option (PR β)} : bindP (failP E i e) f = failP E i e := rfl
theorem bindP_assoc {α β γ : Type} {a : Option (PR α)} {k : α → Nat → Option (PR β)} {f : β → Nat → Option (PR γ)} : bindP (bindP a k) f = bindP a fun n j => bindP (k n j) f := by
  cases a with
  | none => rfl
  | some p => cases p <;> rfl
theorem bindP_want {α β : Type} {E : Env} {i t : Nat} {x : ByteArray} {k : Nat → Option (PR α)} {f : α → Nat → Option (PR β)} : bindP (wantP E i t x k) f = wantP E i t x fun j => bindP (k j) f := by
  unfold wantP; split <;> rfl
theorem sim_list {g : Nat} (ih : ∀ (E : Env), WfE E → ∀ (job : RJob) (s : St), s.err = 0 → ∀ n s', runR g E job s = some (n, s') → Sp E job s.i n s') (E : Env) (hE : WfE E) (s : St) (hs : s.err = 0) (n : NJ) (s' : St) (h : stepR (runR g) E .list s = some (n, s')) : Sp E .list s.i n s' := by
  simp only [stepR] at h; obtain ⟨n1, s1, h1, h2⟩ := bindR_some h; have hL : LR E 2 s.i n1 s1 := ih E hE .other s hs n1 s1 h1; by_cases hs1 : s1.err = 0
  · exact hL.up hs1 (fun top hk hl => ih E hE (.listLoop n1) s1 hs1 n s' h2 top hk hl)
  exact hL.bad hs1 (keepR g E (.listLoop _) s1 s1 hs1 (SameS.refl _) trivial n s' h2)
theorem sim_listLoop {g : Nat} (ih : ∀ (E : Env), WfE E → ∀ (job : RJob) (s : St), s.err = 0 → ∀ n s', runR g E job s = some (n, s') → Sp E job s.i n s') (E : Env) (hE : WfE E) (n0 : NJ) (s : St) (hs : s.err = 0) (n : NJ) (s' : St) (h : stepR (runR g) E (.listLoop n0) s = some (n, s')) : Sp E (.listLoop n0) s.i n s' := by
  intro top hk hl0; simp only [stepR] at h; by_cases hc : strength (tokAt E s.i) = 1
  · rw [if_pos ((hasR_strength hE hs 1 _ rfl (by decide) (by decide)).2 hc)] at h
    obtain ⟨m, s1, h1, h2⟩ := bindR_some h; have hl : live E 1 top s.i := ⟨by omega, by omega, by omega⟩; have he : evP E (.binary (argS (tokAt E s.i))) (s.i + 1) = some (toPR m s1) := by
      unfold argS; rw [hc, if_neg (by decide)]; exact lr_ev (ih E hE .other s.next hs m s1 h1)
    by_cases hs1 : s1.err = 0
    · refine LoopR.step hl he hs1 ?_
      have hj : joinedJ (tokAt E s.i) n0 m = nodeJ 9 ⟨#[]⟩ n0 m := by unfold joinedJ; simp [hc]
      have ht : topS (tokAt E s.i) = 1 := by unfold topS; simp [hc]
      rw [hj, ht]; exact ih E hE (.listLoop _) s1 hs1 n s' h2 1 (Nat.le_refl _) (fun hl => by have := hl.2; omega)
    exact LoopR.stop hl he hs1 (keepR g E (.listLoop _) s1 s1 hs1 (SameS.refl _) trivial n s' h2)
  rw [if_neg (fun hh => hc ((hasR_strength hE hs 1 _ rfl (by decide) (by decide)).1 hh))] at h; cases h; exact LoopR.none_ hs (by omega) (live_not hl0 hc)
theorem sim_other {g : Nat} (ih : ∀ (E : Env), WfE E → ∀ (job : RJob) (s : St), s.err = 0 → ∀ n s', runR g E job s = some (n, s') → Sp E job s.i n s') (E : Env) (hE : WfE E) (s : St) (hs : s.err = 0) (n : NJ) (s' : St) (h : stepR (runR g) E .other s = some (n, s')) : Sp E .other s.i n s' := by
  simp only [stepR] at h; obtain ⟨n1, s1, h1, h2⟩ := bindR_some h; have hL : LR E 3 s.i n1 s1 := ih E hE .set s hs n1 s1 h1; by_cases hs1 : s1.err = 0
  · refine hL.up hs1 (fun top hk hl0 => ?_)
    by_cases hc : strength (tokAt E s1.i) = 2
    · rw [if_pos ((hasR_strength hE hs1 2 _ rfl (by decide) (by decide)).2 hc)] at h2
      obtain ⟨m, s2, h3, h4⟩ := bindR_some h2; have hl : live E 2 top s1.i := ⟨by omega, by omega, by omega⟩; have he : evP E (.binary (argS (tokAt E s1.i))) (s1.i + 1) = some (toPR m s2) := by
        unfold argS; rw [hc]; exact lr_ev (ih E hE .other s1.next hs1 m s2 h3)
      obtain ⟨e1, e2⟩ := Prod.mk.inj (Option.some.inj h4); subst e1 e2; by_cases hs2 : s2.err = 0
      · refine LoopR.step hl he hs2 ?_
        have hj : joinedJ (tokAt E s1.i) n1 m = nodeJ 13 ⟨#[]⟩ n1 m := by unfold joinedJ; simp [hc]
        have ht : topS (tokAt E s1.i) = 1 := by unfold topS; simp [hc]
        rw [hj, ht]; exact LoopR.none_ hs2 (by omega) (fun hl => by have := hl.2; omega)
      exact LoopR.stop hl he hs2 (SameS.refl _)
    rw [if_neg (fun hh => hc ((hasR_strength hE hs1 2 _ rfl (by decide) (by decide)).1 hh))] at h2; cases h2; exact LoopR.none_ hs1 (by omega) (live_not hl0 hc)
  refine hL.bad hs1 ((?_ : Kp s1 _) n s' h2); have hn := hs1; have hS := SameS.refl s1; repeat' (first | assumption | apply z1 | apply z2 hn | apply z3 hn | apply z4 hn | apply z5 | refine z6 _ _ _ _ _ hn ?_ trivial | refine z7 ?_ (fun _ _ _ => ?_) | refine z8 hn ?_ (fun _ _ _ => ?_) | refine z9 ?_ ?_)
theorem sim_set {g : Nat} (ih : ∀ (E : Env), WfE E → ∀ (job : RJob) (s : St), s.err = 0 → ∀ n s', runR g E job s = some (n, s') → Sp E job s.i n s') (E : Env) (hE : WfE E) (s : St) (hs : s.err = 0) (n : NJ) (s' : St) (h : stepR (runR g) E .set s = some (n, s')) : Sp E .set s.i n s' := by
  simp only [stepR] at h; obtain ⟨n1, s1, h1, h2⟩ := bindR_some h; have hL : LR E 4 s.i n1 s1 := ih E hE .either s hs n1 s1 h1; by_cases hs1 : s1.err = 0
  · refine hL.up hs1 (fun top hk hl0 => ?_)
    by_cases hc : strength (tokAt E s1.i) = 3
    · rw [if_pos ((show anyR E s1 sets7 ↔ _ from anyR_strength hE hs1 3 (by decide) (by decide)).2 hc)] at h2
      obtain ⟨m, s2, h3, h4⟩ := bindR_some h2; have hl : live E 3 top s1.i := ⟨by omega, by omega, by omega⟩; have he : evP E (.binary (argS (tokAt E s1.i))) (s1.i + 1) = some (toPR m s2) := by
        unfold argS; rw [hc]; exact lr_ev (ih E hE .either s1.next hs1 m s2 h3)
      obtain ⟨e1, e2⟩ := Prod.mk.inj (Option.some.inj h4); subst e1 e2; by_cases hs2 : s2.err = 0
      · refine LoopR.step hl he hs2 ?_
        have hj : joinedJ (tokAt E s1.i) n1 m = nodeJ 25 (tokAt E s1.i).text n1 m := by unfold joinedJ; simp [hc]
        have ht : topS (tokAt E s1.i) = 2 := by unfold topS; simp [hc]
        rw [hj, ht]; exact LoopR.none_ hs2 (by omega) (fun hl => by have := hl.2; omega)
      exact LoopR.stop hl he hs2 (SameS.refl _)
    rw [if_neg (fun hh => hc ((show anyR E s1 sets7 ↔ _ from anyR_strength hE hs1 3 (by decide) (by decide)).1 hh))] at h2; cases h2; exact LoopR.none_ hs1 (by omega) (live_not hl0 hc)
  refine hL.bad hs1 ((?_ : Kp s1 _) n s' h2); have hn := hs1; have hS := SameS.refl s1; repeat' (first | assumption | apply z1 | apply z2 hn | apply z3 hn | apply z4 hn | apply z5 | refine z6 _ _ _ _ _ hn ?_ trivial | refine z7 ?_ (fun _ _ _ => ?_) | refine z8 hn ?_ (fun _ _ _ => ?_) | refine z9 ?_ ?_)
theorem sim_either {g : Nat} (ih : ∀ (E : Env), WfE E → ∀ (job : RJob) (s : St), s.err = 0 → ∀ n s', runR g E job s = some (n, s') → Sp E job s.i n s') (E : Env) (hE : WfE E) (s : St) (hs : s.err = 0) (n : NJ) (s' : St) (h : stepR (runR g) E .either s = some (n, s')) : Sp E .either s.i n s' := by
  simp only [stepR] at h; obtain ⟨n1, s1, h1, h2⟩ := bindR_some h; have hL : LR E 5 s.i n1 s1 := ih E hE .both s hs n1 s1 h1; by_cases hs1 : s1.err = 0
  · exact hL.up hs1 (fun top hk hl => ih E hE (.eitherLoop n1) s1 hs1 n s' h2 top hk hl)
  exact hL.bad hs1 (keepR g E (.eitherLoop _) s1 s1 hs1 (SameS.refl _) trivial n s' h2)
theorem sim_eitherLoop {g : Nat} (ih : ∀ (E : Env), WfE E → ∀ (job : RJob) (s : St), s.err = 0 → ∀ n s', runR g E job s = some (n, s') → Sp E job s.i n s') (E : Env) (hE : WfE E) (n0 : NJ) (s : St) (hs : s.err = 0) (n : NJ) (s' : St) (h : stepR (runR g) E (.eitherLoop n0) s = some (n, s')) : Sp E (.eitherLoop n0) s.i n s' := by
  intro top hk hl0; simp only [stepR] at h; by_cases hc : strength (tokAt E s.i) = 4
  · rw [if_pos ((hasR_strength hE hs 4 _ rfl (by decide) (by decide)).2 hc)] at h
    obtain ⟨m, s1, h1, h2⟩ := bindR_some h; have hl : live E 4 top s.i := ⟨by omega, by omega, by omega⟩; have he : evP E (.binary (argS (tokAt E s.i))) (s.i + 1) = some (toPR m s1) := by
      unfold argS; rw [hc, if_neg (by decide)]; exact lr_ev (ih E hE .both s.next hs m s1 h1)
    by_cases hs1 : s1.err = 0
    · refine LoopR.step hl he hs1 ?_
      have hj : joinedJ (tokAt E s.i) n0 m = nodeJ 12 ⟨#[]⟩ n0 m := by unfold joinedJ; simp [hc]
      have ht : topS (tokAt E s.i) = 4 := by unfold topS; simp [hc]
      rw [hj, ht]; exact ih E hE (.eitherLoop _) s1 hs1 n s' h2 4 (Nat.le_refl _) (fun hl => by have := hl.2; omega)
    exact LoopR.stop hl he hs1 (keepR g E (.eitherLoop _) s1 s1 hs1 (SameS.refl _) trivial n s' h2)
  rw [if_neg (fun hh => hc ((hasR_strength hE hs 4 _ rfl (by decide) (by decide)).1 hh))] at h; cases h; exact LoopR.none_ hs (by omega) (live_not hl0 hc)
theorem sim_both {g : Nat} (ih : ∀ (E : Env), WfE E → ∀ (job : RJob) (s : St), s.err = 0 → ∀ n s', runR g E job s = some (n, s') → Sp E job s.i n s') (E : Env) (hE : WfE E) (s : St) (hs : s.err = 0) (n : NJ) (s' : St) (h : stepR (runR g) E .both s = some (n, s')) : Sp E .both s.i n s' := by
  simp only [stepR] at h; obtain ⟨n1, s1, h1, h2⟩ := bindR_some h; have hL : LR E 6 s.i n1 s1 := ih E hE .test s hs n1 s1 h1; by_cases hs1 : s1.err = 0
  · exact hL.up hs1 (fun top hk hl => ih E hE (.bothLoop n1) s1 hs1 n s' h2 top hk hl)
  exact hL.bad hs1 (keepR g E (.bothLoop _) s1 s1 hs1 (SameS.refl _) trivial n s' h2)
theorem sim_bothLoop {g : Nat} (ih : ∀ (E : Env), WfE E → ∀ (job : RJob) (s : St), s.err = 0 → ∀ n s', runR g E job s = some (n, s') → Sp E job s.i n s') (E : Env) (hE : WfE E) (n0 : NJ) (s : St) (hs : s.err = 0) (n : NJ) (s' : St) (h : stepR (runR g) E (.bothLoop n0) s = some (n, s')) : Sp E (.bothLoop n0) s.i n s' := by
  intro top hk hl0; simp only [stepR] at h; by_cases hc : strength (tokAt E s.i) = 5
  · rw [if_pos ((hasR_strength hE hs 5 _ rfl (by decide) (by decide)).2 hc)] at h
    obtain ⟨m, s1, h1, h2⟩ := bindR_some h; have hl : live E 5 top s.i := ⟨by omega, by omega, by omega⟩; have he : evP E (.binary (argS (tokAt E s.i))) (s.i + 1) = some (toPR m s1) := by
      unfold argS; rw [hc, if_neg (by decide)]; exact lr_ev (ih E hE .test s.next hs m s1 h1)
    by_cases hs1 : s1.err = 0
    · refine LoopR.step hl he hs1 ?_
      have hj : joinedJ (tokAt E s.i) n0 m = nodeJ 11 ⟨#[]⟩ n0 m := by unfold joinedJ; simp [hc]
      have ht : topS (tokAt E s.i) = 5 := by unfold topS; simp [hc]
      rw [hj, ht]; exact ih E hE (.bothLoop _) s1 hs1 n s' h2 5 (Nat.le_refl _) (fun hl => by have := hl.2; omega)
    exact LoopR.stop hl he hs1 (keepR g E (.bothLoop _) s1 s1 hs1 (SameS.refl _) trivial n s' h2)
  rw [if_neg (fun hh => hc ((hasR_strength hE hs 5 _ rfl (by decide) (by decide)).1 hh))] at h; cases h; exact LoopR.none_ hs (by omega) (live_not hl0 hc)
theorem sim_test {g : Nat} (ih : ∀ (E : Env), WfE E → ∀ (job : RJob) (s : St), s.err = 0 → ∀ n s', runR g E job s = some (n, s') → Sp E job s.i n s') (E : Env) (hE : WfE E) (s : St) (hs : s.err = 0) (n : NJ) (s' : St) (h : stepR (runR g) E .test s = some (n, s')) : Sp E .test s.i n s' := by
  simp only [stepR] at h; obtain ⟨n1, s1, h1, h2⟩ := bindR_some h; have hL : LR E 7 s.i n1 s1 := ih E hE .sum s hs n1 s1 h1; by_cases hs1 : s1.err = 0
  · refine hL.up hs1 (fun top hk hl0 => ?_)
    by_cases hc : strength (tokAt E s1.i) = 6
    · rw [if_pos ((show anyR E s1 tests6 ↔ _ from anyR_strength hE hs1 6 (by decide) (by decide)).2 hc)] at h2
      obtain ⟨m, s2, h3, h4⟩ := bindR_some h2; have hl : live E 6 top s1.i := ⟨by omega, by omega, by omega⟩; have he : evP E (.binary (argS (tokAt E s1.i))) (s1.i + 1) = some (toPR m s2) := by
        unfold argS; rw [hc]; exact lr_ev (ih E hE .sum s1.next hs1 m s2 h3)
      obtain ⟨e1, e2⟩ := Prod.mk.inj (Option.some.inj h4); subst e1 e2; by_cases hs2 : s2.err = 0
      · refine LoopR.step hl he hs2 ?_
        have hj : joinedJ (tokAt E s1.i) n1 m = nodeJ 10 (tokAt E s1.i).text n1 m := by unfold joinedJ; simp [hc]
        have ht : topS (tokAt E s1.i) = 5 := by unfold topS; simp [hc]
        rw [hj, ht]; exact LoopR.none_ hs2 (by omega) (fun hl => by have := hl.2; omega)
      exact LoopR.stop hl he hs2 (SameS.refl _)
    rw [if_neg (fun hh => hc ((show anyR E s1 tests6 ↔ _ from anyR_strength hE hs1 6 (by decide) (by decide)).1 hh))] at h2; cases h2; exact LoopR.none_ hs1 (by omega) (live_not hl0 hc)
  refine hL.bad hs1 ((?_ : Kp s1 _) n s' h2); have hn := hs1; have hS := SameS.refl s1; repeat' (first | assumption | apply z1 | apply z2 hn | apply z3 hn | apply z4 hn | apply z5 | refine z6 _ _ _ _ _ hn ?_ trivial | refine z7 ?_ (fun _ _ _ => ?_) | refine z8 hn ?_ (fun _ _ _ => ?_) | refine z9 ?_ ?_)
theorem sim_sum {g : Nat} (ih : ∀ (E : Env), WfE E → ∀ (job : RJob) (s : St), s.err = 0 → ∀ n s', runR g E job s = some (n, s') → Sp E job s.i n s') (E : Env) (hE : WfE E) (s : St) (hs : s.err = 0) (n : NJ) (s' : St) (h : stepR (runR g) E .sum s = some (n, s')) : Sp E .sum s.i n s' := by
  simp only [stepR] at h; obtain ⟨n1, s1, h1, h2⟩ := bindR_some h; have hL : LR E 8 s.i n1 s1 := ih E hE .product s hs n1 s1 h1; by_cases hs1 : s1.err = 0
  · exact hL.up hs1 (fun top hk hl => ih E hE (.sumLoop n1) s1 hs1 n s' h2 top hk hl)
  exact hL.bad hs1 (keepR g E (.sumLoop _) s1 s1 hs1 (SameS.refl _) trivial n s' h2)
theorem sim_sumLoop {g : Nat} (ih : ∀ (E : Env), WfE E → ∀ (job : RJob) (s : St), s.err = 0 → ∀ n s', runR g E job s = some (n, s') → Sp E job s.i n s') (E : Env) (hE : WfE E) (n0 : NJ) (s : St) (hs : s.err = 0) (n : NJ) (s' : St) (h : stepR (runR g) E (.sumLoop n0) s = some (n, s')) : Sp E (.sumLoop n0) s.i n s' := by
  intro top hk hl0; simp only [stepR] at h; by_cases hc : strength (tokAt E s.i) = 7
  · rw [if_pos ((show anyR E s sums2 ↔ _ from anyR_strength hE hs 7 (by decide) (by decide)).2 hc)] at h
    obtain ⟨m, s1, h1, h2⟩ := bindR_some h; have hl : live E 7 top s.i := ⟨by omega, by omega, by omega⟩; have he : evP E (.binary (argS (tokAt E s.i))) (s.i + 1) = some (toPR m s1) := by
      unfold argS; rw [hc, if_neg (by decide)]; exact lr_ev (ih E hE .product s.next hs m s1 h1)
    by_cases hs1 : s1.err = 0
    · refine LoopR.step hl he hs1 ?_
      have hj : joinedJ (tokAt E s.i) n0 m = nodeJ 10 (tokAt E s.i).text n0 m := by unfold joinedJ; simp [hc]
      have ht : topS (tokAt E s.i) = 7 := by unfold topS; simp [hc]
      rw [hj, ht]; exact ih E hE (.sumLoop _) s1 hs1 n s' h2 7 (Nat.le_refl _) (fun hl => by have := hl.2; omega)
    exact LoopR.stop hl he hs1 (keepR g E (.sumLoop _) s1 s1 hs1 (SameS.refl _) trivial n s' h2)
  rw [if_neg (fun hh => hc ((show anyR E s sums2 ↔ _ from anyR_strength hE hs 7 (by decide) (by decide)).1 hh))] at h; cases h; exact LoopR.none_ hs (by omega) (live_not hl0 hc)
theorem sim_product {g : Nat} (ih : ∀ (E : Env), WfE E → ∀ (job : RJob) (s : St), s.err = 0 → ∀ n s', runR g E job s = some (n, s') → Sp E job s.i n s') (E : Env) (hE : WfE E) (s : St) (hs : s.err = 0) (n : NJ) (s' : St) (h : stepR (runR g) E .product s = some (n, s')) : Sp E .product s.i n s' := by
  simp only [stepR] at h; obtain ⟨n1, s1, h1, h2⟩ := bindR_some h; have hL : LR E 9 s.i n1 s1 := LR.of_minus (ih E hE .minus s hs n1 s1 h1); by_cases hs1 : s1.err = 0
  · exact hL.up hs1 (fun top hk hl => ih E hE (.productLoop n1) s1 hs1 n s' h2 top hk hl)
  exact hL.bad hs1 (keepR g E (.productLoop _) s1 s1 hs1 (SameS.refl _) trivial n s' h2)
theorem sim_productLoop {g : Nat} (ih : ∀ (E : Env), WfE E → ∀ (job : RJob) (s : St), s.err = 0 → ∀ n s', runR g E job s = some (n, s') → Sp E job s.i n s') (E : Env) (hE : WfE E) (n0 : NJ) (s : St) (hs : s.err = 0) (n : NJ) (s' : St) (h : stepR (runR g) E (.productLoop n0) s = some (n, s')) : Sp E (.productLoop n0) s.i n s' := by
  intro top hk hl0; simp only [stepR] at h; by_cases hc : strength (tokAt E s.i) = 8
  · rw [if_pos ((show anyR E s products3 ↔ _ from anyR_strength hE hs 8 (by decide) (by decide)).2 hc)] at h
    obtain ⟨m, s1, h1, h2⟩ := bindR_some h; have hl : live E 8 top s.i := ⟨by omega, by omega, by omega⟩; have he : evP E (.binary (argS (tokAt E s.i))) (s.i + 1) = some (toPR m s1) := by
      unfold argS; rw [hc, if_neg (by decide)]; exact lr_ev (LR.of_minus (ih E hE .minus s.next hs m s1 h1))
    by_cases hs1 : s1.err = 0
    · refine LoopR.step hl he hs1 ?_
      have hj : joinedJ (tokAt E s.i) n0 m = nodeJ 10 (tokAt E s.i).text n0 m := by unfold joinedJ; simp [hc]
      have ht : topS (tokAt E s.i) = 8 := by unfold topS; simp [hc]
      rw [hj, ht]; exact ih E hE (.productLoop _) s1 hs1 n s' h2 8 (Nat.le_refl _) (fun hl => by have := hl.2; omega)
    exact LoopR.stop hl he hs1 (keepR g E (.productLoop _) s1 s1 hs1 (SameS.refl _) trivial n s' h2)
  rw [if_neg (fun hh => hc ((show anyR E s products3 ↔ _ from anyR_strength hE hs 8 (by decide) (by decide)).1 hh))] at h; cases h; exact LoopR.none_ hs (by omega) (live_not hl0 hc)
theorem sim_filter {g : Nat} (ih : ∀ (E : Env), WfE E → ∀ (job : RJob) (s : St), s.err = 0 → ∀ n s', runR g E job s = some (n, s') → Sp E job s.i n s') (E : Env) (hE : WfE E) (s : St) (hs : s.err = 0) (n : NJ) (s' : St) (h : stepR (runR g) E .filter s = some (n, s')) : Sp E .filter s.i n s' := by
  have hs0 : ¬ s.err ≠ 0 := fun hh => hh hs
  have hF : ∀ s1 : St, s1.err = 0 → Sim (runR g E .filter s1) (evP E .filter s1.i) := fun s1 h1 n s1' h => ih E hE _ s1 h1 n s1' h
  have hL : ∀ s1 : St, s1.err = 0 → Sim (runR g E .list s1) (evP E (.binary 1) s1.i) := fun s1 h1 n s1' h => lr_ev (ih E hE .list s1 h1 n s1' h)
  refine (?_ : Sim (stepR (runR g) E .filter s) (evP E .filter (s.i))) n s' h; clear h ih; rw [evP_step E]; simp only [stepR, stepP]; rw [if_neg hs0]; by_cases hc : isT E (s.i) 1 ⟨#[100, 101, 102]⟩
  · rw [if_pos ((hasR_word hE (s := s) hs (x := ⟨#[100, 101, 102]⟩) rfl).2 hc), if_pos hc]
    rw [evP_step E]; simp only [stepP]; have hrest : ∀ (name : ByteArray) (args : List ByteArray) (s1 : St), s1.err = 0 → Sim (bindR (runR g E .filter (wantR E s1 ⟨#[58]⟩)) fun a s => bindR (runR g E .filter (wantR E s ⟨#[59]⟩)) fun b s => some (.mk 24 name 0 0 [a, b] args, s))
        (wantP E s1.i 6 ⟨#[58]⟩ fun j => bindP (evP E .filter j) fun what j => wantP E j 6 ⟨#[59]⟩ fun j => bindP (evP E .filter j) fun m j => okP (.mk 24 name 0 0 [what, m] args) j) := by
      intro name args s1 h1; by_cases hc : isT E (s1.i) 6 ⟨#[58]⟩
      · rw [want_yes (s := s1) (hasR_sign hE (s := s1) h1 (x := ⟨#[58]⟩) rfl) hc, wantP_yes hc]
        refine Sim.bind (hF s1.next h1) (fun a s2 h2 => ?_) (fun _ s2 hn => ?_)
        · by_cases hc : isT E (s2.i) 6 ⟨#[59]⟩
          · rw [want_yes (s := s2) (hasR_sign hE (s := s2) h2 (x := ⟨#[59]⟩) rfl) hc, wantP_yes hc]
            refine Sim.bind (hF s2.next h2) (fun b s3 h3 => ?_) (fun _ s3 hn => ?_)
            · exact Sim.ok (s := s3) h3
            have hS := SameS.refl s3; repeat' (first | assumption | apply z1 | apply z2 hn | apply z3 hn | apply z4 hn | apply z5 | refine z6 _ _ _ _ _ hn ?_ trivial | refine z7 ?_ (fun _ _ _ => ?_) | refine z8 hn ?_ (fun _ _ _ => ?_) | refine z9 ?_ ?_)
          rw [want_no (s := s2) (hasR_sign hE (s := s2) h2 (x := ⟨#[59]⟩) rfl) hc, wantP_no hc]; refine Sim.dead (s := s2) h2 (by decide) ?_; have hn := fail_ne (E := E) (s := s2) h2 (e := 60) (by decide); have hS := SameS.refl (failR E s2 60); repeat' (first | assumption | apply z1 | apply z2 hn | apply z3 hn | apply z4 hn | apply z5 | refine z6 _ _ _ _ _ hn ?_ trivial | refine z7 ?_ (fun _ _ _ => ?_) | refine z8 hn ?_ (fun _ _ _ => ?_) | refine z9 ?_ ?_)
        have hS := SameS.refl s2; repeat' (first | assumption | apply z1 | apply z2 hn | apply z3 hn | apply z4 hn | apply z5 | refine z6 _ _ _ _ _ hn ?_ trivial | refine z7 ?_ (fun _ _ _ => ?_) | refine z8 hn ?_ (fun _ _ _ => ?_) | refine z9 ?_ ?_)
      rw [want_no (s := s1) (hasR_sign hE (s := s1) h1 (x := ⟨#[58]⟩) rfl) hc, wantP_no hc]; refine Sim.dead (s := s1) h1 (by decide) ?_; have hn := fail_ne (E := E) (s := s1) h1 (e := 60) (by decide); have hS := SameS.refl (failR E s1 60); repeat' (first | assumption | apply z1 | apply z2 hn | apply z3 hn | apply z4 hn | apply z5 | refine z6 _ _ _ _ _ hn ?_ trivial | refine z7 ?_ (fun _ _ _ => ?_) | refine z8 hn ?_ (fun _ _ _ => ?_) | refine z9 ?_ ?_)
    by_cases hk : noKind E (s.i + 1) 1
    · rw [named_no (s := s.next) hk, kindP_no hk]
      try dsimp only
      refine Sim.dead (s := s.next) hs (by decide) ?_; have hn := fail_ne (E := E) (s := s.next) hs (e := 60) (by decide); have hS := SameS.refl (failR E s.next 60); repeat' (first | assumption | apply z1 | apply z2 hn | apply z3 hn | apply z4 hn | apply z5 | refine z6 _ _ _ _ _ hn ?_ trivial | refine z7 ?_ (fun _ _ _ => ?_) | refine z8 hn ?_ (fun _ _ _ => ?_) | refine z9 ?_ ?_)
    rw [named_yes (s := s.next) hs hk, kindP_yes hk]; try dsimp only
    by_cases hc : isT E (s.i + 1 + 1) 6 ⟨#[40]⟩
    · rw [if_pos ((hasR_sign hE (s := s.next.next) hs (x := ⟨#[40]⟩) rfl).2 hc), if_pos hc]
      refine args_sim hE (fun args s1 h1 => ?_) (fun args s1 hn => ?_) _ _ s.next.next.next hs
      · by_cases hc : isT E (s1.i) 6 ⟨#[41]⟩
        · rw [want_yes (s := s1) (hasR_sign hE (s := s1) h1 (x := ⟨#[41]⟩) rfl) hc, wantP_yes hc]
          exact hrest _ _ s1.next h1
        rw [want_no (s := s1) (hasR_sign hE (s := s1) h1 (x := ⟨#[41]⟩) rfl) hc, wantP_no hc]; refine Sim.dead (s := s1) h1 (by decide) ?_; have hn := fail_ne (E := E) (s := s1) h1 (e := 60) (by decide); have hS := SameS.refl (failR E s1 60); repeat' (first | assumption | apply z1 | apply z2 hn | apply z3 hn | apply z4 hn | apply z5 | refine z6 _ _ _ _ _ hn ?_ trivial | refine z7 ?_ (fun _ _ _ => ?_) | refine z8 hn ?_ (fun _ _ _ => ?_) | refine z9 ?_ ?_)
      have hS := SameS.refl s1; repeat' (first | assumption | apply z1 | apply z2 hn | apply z3 hn | apply z4 hn | apply z5 | refine z6 _ _ _ _ _ hn ?_ trivial | refine z7 ?_ (fun _ _ _ => ?_) | refine z8 hn ?_ (fun _ _ _ => ?_) | refine z9 ?_ ?_)
    rw [if_neg (fun hh => hc ((hasR_sign hE (s := s.next.next) hs (x := ⟨#[40]⟩) rfl).1 hh)), if_neg hc]; exact hrest _ _ s.next.next hs
  rw [if_neg (fun hh => hc ((hasR_word hE (s := s) hs (x := ⟨#[100, 101, 102]⟩) rfl).1 hh)), if_neg hc]; refine Sim.bind (hL s hs) (fun m s2 h2 => ?_) (fun _ s2 hn => ?_)
  · by_cases hc : isT E (s2.i) 6 ⟨#[124]⟩
    · rw [if_pos ((hasR_sign hE (s := s2) h2 (x := ⟨#[124]⟩) rfl).2 hc), if_pos hc]
      refine Sim.bind (hF s2.next h2) (fun m2 s3 h3 => ?_) (fun _ s3 hn => ?_)
      · exact Sim.ok (s := s3) h3
      have hS := SameS.refl s3; repeat' (first | assumption | apply z1 | apply z2 hn | apply z3 hn | apply z4 hn | apply z5 | refine z6 _ _ _ _ _ hn ?_ trivial | refine z7 ?_ (fun _ _ _ => ?_) | refine z8 hn ?_ (fun _ _ _ => ?_) | refine z9 ?_ ?_)
    rw [if_neg (fun hh => hc ((hasR_sign hE (s := s2) h2 (x := ⟨#[124]⟩) rfl).1 hh)), if_neg hc]; exact Sim.ok (s := s2) h2
  have hS := SameS.refl s2; repeat' (first | assumption | apply z1 | apply z2 hn | apply z3 hn | apply z4 hn | apply z5 | refine z6 _ _ _ _ _ hn ?_ trivial | refine z7 ?_ (fun _ _ _ => ?_) | refine z8 hn ?_ (fun _ _ _ => ?_) | refine z9 ?_ ?_)
theorem sim_minus {g : Nat} (ih : ∀ (E : Env), WfE E → ∀ (job : RJob) (s : St), s.err = 0 → ∀ n s', runR g E job s = some (n, s') → Sp E job s.i n s') (E : Env) (hE : WfE E) (s : St) (hs : s.err = 0) (n : NJ) (s' : St) (h : stepR (runR g) E .minus s = some (n, s')) : Sp E .minus s.i n s' := by
  have hs0 : ¬ s.err ≠ 0 := fun hh => hh hs
  have hF : ∀ s1 : St, s1.err = 0 → Sim (runR g E .filter s1) (evP E .filter s1.i) := fun s1 h1 n s1' h => ih E hE _ s1 h1 n s1' h
  have hM : ∀ s1 : St, s1.err = 0 → Sim (runR g E .minus s1) (evP E .minus s1.i) := fun s1 h1 n s1' h => ih E hE _ s1 h1 n s1' h
  have hT : ∀ s1 : St, s1.err = 0 → Sim (runR g E .term s1) (evP E .term s1.i) := fun s1 h1 n s1' h => ih E hE _ s1 h1 n s1' h
  refine (?_ : Sim (stepR (runR g) E .minus s) (evP E .minus (s.i))) n s' h; clear h ih; rw [evP_step E]; simp only [stepR, stepP]; rw [if_neg hs0]; by_cases hc : isT E (s.i) 6 ⟨#[45]⟩
  · rw [if_pos ((hasR_sign hE (s := s) hs (x := ⟨#[45]⟩) rfl).2 hc), if_pos hc]
    refine Sim.bind (hM s.next hs) (fun m s2 h2 => ?_) (fun _ s2 hn => ?_)
    · exact Sim.ok (s := s2) h2
    have hS := SameS.refl s2; repeat' (first | assumption | apply z1 | apply z2 hn | apply z3 hn | apply z4 hn | apply z5 | refine z6 _ _ _ _ _ hn ?_ trivial | refine z7 ?_ (fun _ _ _ => ?_) | refine z8 hn ?_ (fun _ _ _ => ?_) | refine z9 ?_ ?_)
  rw [if_neg (fun hh => hc ((hasR_sign hE (s := s) hs (x := ⟨#[45]⟩) rfl).1 hh)), if_neg hc]; refine Sim.bind (hT s hs) (fun m s2 h2 => ?_) (fun _ s2 hn => ?_)
  · by_cases hc : isT E (s2.i) 1 ⟨#[97, 115]⟩
    · rw [if_pos ((hasR_word hE (s := s2) h2 (x := ⟨#[97, 115]⟩) rfl).2 hc), if_pos hc]
      by_cases hk : noKind E (s2.i + 1) 2
      · rw [named_no (s := s2.next) hk, kindP_no hk]
        try dsimp only
        refine Sim.dead (s := s2.next) h2 (by decide) ?_; have hn := fail_ne (E := E) (s := s2.next) h2 (e := 60) (by decide); have hS := SameS.refl (failR E s2.next 60); repeat' (first | assumption | apply z1 | apply z2 hn | apply z3 hn | apply z4 hn | apply z5 | refine z6 _ _ _ _ _ hn ?_ trivial | refine z7 ?_ (fun _ _ _ => ?_) | refine z8 hn ?_ (fun _ _ _ => ?_) | refine z9 ?_ ?_)
      rw [named_yes (s := s2.next) h2 hk, kindP_yes hk]; try dsimp only
      by_cases hc : isT E (s2.i + 1 + 1) 6 ⟨#[124]⟩
      · rw [want_yes (s := s2.next.next) (hasR_sign hE (s := s2.next.next) h2 (x := ⟨#[124]⟩) rfl) hc, wantP_yes hc]
        refine Sim.bind (hF s2.next.next.next h2) (fun m2 s3 h3 => ?_) (fun _ s3 hn => ?_)
        · exact Sim.ok (s := s3) h3
        have hS := SameS.refl s3; repeat' (first | assumption | apply z1 | apply z2 hn | apply z3 hn | apply z4 hn | apply z5 | refine z6 _ _ _ _ _ hn ?_ trivial | refine z7 ?_ (fun _ _ _ => ?_) | refine z8 hn ?_ (fun _ _ _ => ?_) | refine z9 ?_ ?_)
      rw [want_no (s := s2.next.next) (hasR_sign hE (s := s2.next.next) h2 (x := ⟨#[124]⟩) rfl) hc, wantP_no hc]; refine Sim.dead (s := s2.next.next) h2 (by decide) ?_; have hn := fail_ne (E := E) (s := s2.next.next) h2 (e := 60) (by decide); have hS := SameS.refl (failR E s2.next.next 60); repeat' (first | assumption | apply z1 | apply z2 hn | apply z3 hn | apply z4 hn | apply z5 | refine z6 _ _ _ _ _ hn ?_ trivial | refine z7 ?_ (fun _ _ _ => ?_) | refine z8 hn ?_ (fun _ _ _ => ?_) | refine z9 ?_ ?_)
    rw [if_neg (fun hh => hc ((hasR_word hE (s := s2) h2 (x := ⟨#[97, 115]⟩) rfl).1 hh)), if_neg hc]; exact Sim.ok (s := s2) h2
  have hS := SameS.refl s2; repeat' (first | assumption | apply z1 | apply z2 hn | apply z3 hn | apply z4 hn | apply z5 | refine z6 _ _ _ _ _ hn ?_ trivial | refine z7 ?_ (fun _ _ _ => ?_) | refine z8 hn ?_ (fun _ _ _ => ?_) | refine z9 ?_ ?_)
theorem sim_term {g : Nat} (ih : ∀ (E : Env), WfE E → ∀ (job : RJob) (s : St), s.err = 0 → ∀ n s', runR g E job s = some (n, s') → Sp E job s.i n s') (E : Env) (hE : WfE E) (s : St) (hs : s.err = 0) (n : NJ) (s' : St) (h : stepR (runR g) E .term s = some (n, s')) : Sp E .term s.i n s' := by
  have hs0 : ¬ s.err ≠ 0 := fun hh => hh hs
  have hFi : ∀ s1 : St, s1.err = 0 → Sim (runR g E .first s1) (evP E .first s1.i) := fun s1 h1 n s1' h => ih E hE _ s1 h1 n s1' h
  have hTL : ∀ (x : NJ) (s1 : St), s1.err = 0 → Sim (runR g E (.termLoop x) s1) (evP E (.termLoop x) s1.i) := fun x s1 h1 n s1' h => ih E hE (.termLoop x) s1 h1 n s1' h
  refine (?_ : Sim (stepR (runR g) E .term s) (evP E .term (s.i))) n s' h; clear h ih; rw [evP_step E]; simp only [stepR, stepP]; refine Sim.bind (hFi s hs) (fun m s2 h2 => ?_) (fun _ s2 hn => ?_)
  · exact hTL m s2 h2
  have hS := SameS.refl s2; repeat' (first | assumption | apply z1 | apply z2 hn | apply z3 hn | apply z4 hn | apply z5 | refine z6 _ _ _ _ _ hn ?_ trivial | refine z7 ?_ (fun _ _ _ => ?_) | refine z8 hn ?_ (fun _ _ _ => ?_) | refine z9 ?_ ?_)
theorem sim_termLoop {g : Nat} (ih : ∀ (E : Env), WfE E → ∀ (job : RJob) (s : St), s.err = 0 → ∀ n s', runR g E job s = some (n, s') → Sp E job s.i n s') (E : Env) (hE : WfE E) (x : NJ) (s : St) (hs : s.err = 0) (n : NJ) (s' : St) (h : stepR (runR g) E (.termLoop x) s = some (n, s')) : Sp E (.termLoop x) s.i n s' := by
  have hs0 : ¬ s.err ≠ 0 := fun hh => hh hs
  have hTL : ∀ (x : NJ) (s1 : St), s1.err = 0 → Sim (runR g E (.termLoop x) s1) (evP E (.termLoop x) s1.i) := fun x s1 h1 n s1' h => ih E hE (.termLoop x) s1 h1 n s1' h
  have hX : ∀ s1 : St, s1.err = 0 → (tokAt E s1.i).kind = 5 → Sim (runR g E .text s1) (evP E .quoted s1.i) := fun s1 h1 hk n s1' h => ih E hE .text s1 h1 n s1' h hk
  have hI : ∀ (x : NJ) (s1 : St) (i0 : Nat), s1.err = 0 → s1.i = i0 + 1 → isT E i0 6 ⟨#[91]⟩ → Sim (runR g E (.index x) s1) (evP E (.index x) i0) := fun x s1 i0 h1 hi hb n s1' h => ih E hE (.index x) s1 h1 n s1' h i0 hi hb
  refine (?_ : Sim (stepR (runR g) E (.termLoop x) s) (evP E (.termLoop x) (s.i))) n s' h; clear h ih; rw [evP_step E]; simp only [stepR, stepP]; rw [if_neg hs0]; by_cases h3 : (tokAt E s.i).kind = 3
  · simp only [if_pos h3]
    exact hTL _ s.next hs
  simp only [if_neg h3]; by_cases hc : isT E (s.i) 6 ⟨#[63]⟩
  · rw [if_pos ((hasR_sign hE (s := s) hs (x := ⟨#[63]⟩) rfl).2 hc), if_pos hc]
    exact hTL _ s.next hs
  rw [if_neg (fun hh => hc ((hasR_sign hE (s := s) hs (x := ⟨#[63]⟩) rfl).1 hh)), if_neg hc]; have xb := hasR_sign hE (s := s) hs (x := ⟨#[91]⟩) rfl; have xd := hasR_sign hE (s := s) hs (x := ⟨#[46]⟩) rfl; by_cases hb : isT E s.i 6 ⟨#[91]⟩
  · have hd : ¬ isT E s.i 6 ⟨#[46]⟩ := fun hd => by have := hb.2; rw [hd.2] at this; exact absurd this (by decide)
    rw [if_neg (fun hh => hd (xd.1 hh)), if_pos (xb.2 hb), if_pos hb]; refine Sim.bind (hI x s.next s.i hs rfl hb) (fun m s2 h2 => ?_) (fun _ s2 hn => ?_)
    · exact hTL m s2 h2
    have hS := SameS.refl s2; repeat' (first | assumption | apply z1 | apply z2 hn | apply z3 hn | apply z4 hn | apply z5 | refine z6 _ _ _ _ _ hn ?_ trivial | refine z7 ?_ (fun _ _ _ => ?_) | refine z8 hn ?_ (fun _ _ _ => ?_) | refine z9 ?_ ?_)
  by_cases hd : isT E s.i 6 ⟨#[46]⟩
  · rw [if_pos (xd.2 hd), if_neg hb, if_pos hd]
    by_cases h5 : (tokAt E (s.i + 1)).kind = 5
    · rw [if_pos (show (tokAt E s.next.i).kind = 5 from h5), if_pos h5]
      refine Sim.bind (hX s.next hs h5) (fun m s2 h2 => ?_) (fun _ s2 hn => ?_)
      · exact hTL _ s2 h2
      have hS := SameS.refl s2; repeat' (first | assumption | apply z1 | apply z2 hn | apply z3 hn | apply z4 hn | apply z5 | refine z6 _ _ _ _ _ hn ?_ trivial | refine z7 ?_ (fun _ _ _ => ?_) | refine z8 hn ?_ (fun _ _ _ => ?_) | refine z9 ?_ ?_)
    rw [if_neg (show ¬ (tokAt E s.next.i).kind = 5 from h5), if_neg h5]; by_cases hc : isT E (s.i + 1) 6 ⟨#[91]⟩
    · rw [if_pos ((hasR_sign hE (s := s.next) hs (x := ⟨#[91]⟩) rfl).2 hc), if_pos hc]
      refine Sim.bind (hI x s.next.next (s.i + 1) hs rfl hc) (fun m s2 h2 => ?_) (fun _ s2 hn => ?_)
      · exact hTL m s2 h2
      have hS := SameS.refl s2; repeat' (first | assumption | apply z1 | apply z2 hn | apply z3 hn | apply z4 hn | apply z5 | refine z6 _ _ _ _ _ hn ?_ trivial | refine z7 ?_ (fun _ _ _ => ?_) | refine z8 hn ?_ (fun _ _ _ => ?_) | refine z9 ?_ ?_)
    rw [if_neg (fun hh => hc ((hasR_sign hE (s := s.next) hs (x := ⟨#[91]⟩) rfl).1 hh)), if_neg hc]; exact Sim.dead (s := s.next) hs (by decide) (Kp.ret (SameS.refl _))
  rw [if_neg (fun hh => hd (xd.1 hh)), if_neg (fun hh => hb (xb.1 hh)), if_neg hb, if_neg hd]; exact Sim.ok (s := s) hs
theorem sim_index {g : Nat} (ih : ∀ (E : Env), WfE E → ∀ (job : RJob) (s : St), s.err = 0 → ∀ n s', runR g E job s = some (n, s') → Sp E job s.i n s') (E : Env) (hE : WfE E) (x : NJ) (s : St) (hs : s.err = 0) (n : NJ) (s' : St) (h : stepR (runR g) E (.index x) s = some (n, s')) : Sp E (.index x) s.i n s' := by
  have hs0 : ¬ s.err ≠ 0 := fun hh => hh hs
  have hF : ∀ s1 : St, s1.err = 0 → Sim (runR g E .filter s1) (evP E .filter s1.i) := fun s1 h1 n s1' h => ih E hE _ s1 h1 n s1' h
  intro i0 hi hb; refine (?_ : Sim (stepR (runR g) E (.index x) s) (evP E (.index x) i0)) n s' h; clear h ih; rw [evP_step E]; simp only [stepR, stepP]; rw [wantP_yes hb, ← hi]; by_cases hc : isT E (s.i) 6 ⟨#[93]⟩
  · rw [if_pos ((hasR_sign hE (s := s) hs (x := ⟨#[93]⟩) rfl).2 hc), if_pos hc]
    exact Sim.ok (s := s.next) hs
  rw [if_neg (fun hh => hc ((hasR_sign hE (s := s) hs (x := ⟨#[93]⟩) rfl).1 hh)), if_neg hc]; have xc := isR_sign hE (s := s) (x := ⟨#[58]⟩) rfl; by_cases hc2 : isT E s.i 6 ⟨#[58]⟩
  · rw [if_pos (xc.2 hc2), if_pos hc2, want_yes (s := s) (hasR_sign hE (s := s) hs (x := ⟨#[58]⟩) rfl) hc2, if_pos (show ([] : List ByteArray).length = 0 ∨ _ from Or.inl rfl)]
    refine Sim.bind (hF s.next hs) (fun m s2 h2 => ?_) (fun _ s2 hn => ?_)
    · by_cases hc : isT E (s2.i) 6 ⟨#[93]⟩
      · rw [want_yes (s := s2) (hasR_sign hE (s := s2) h2 (x := ⟨#[93]⟩) rfl) hc, wantP_yes hc]
        exact Sim.ok (s := s2.next) h2
      rw [want_no (s := s2) (hasR_sign hE (s := s2) h2 (x := ⟨#[93]⟩) rfl) hc, wantP_no hc]; refine Sim.dead (s := s2) h2 (by decide) ?_; have hn := fail_ne (E := E) (s := s2) h2 (e := 60) (by decide); have hS := SameS.refl (failR E s2 60); repeat' (first | assumption | apply z1 | apply z2 hn | apply z3 hn | apply z4 hn | apply z5 | refine z6 _ _ _ _ _ hn ?_ trivial | refine z7 ?_ (fun _ _ _ => ?_) | refine z8 hn ?_ (fun _ _ _ => ?_) | refine z9 ?_ ?_)
    have hS := SameS.refl s2; repeat' (first | assumption | apply z1 | apply z2 hn | apply z3 hn | apply z4 hn | apply z5 | refine z6 _ _ _ _ _ hn ?_ trivial | refine z7 ?_ (fun _ _ _ => ?_) | refine z8 hn ?_ (fun _ _ _ => ?_) | refine z9 ?_ ?_)
  rw [if_neg (fun hh => hc2 (xc.1 hh)), if_neg hc2]; refine Sim.bind (hF s hs) (fun m s2 h2 => ?_) (fun _ s2 hn => ?_)
  · by_cases hc : isT E (s2.i) 6 ⟨#[93]⟩
    · rw [if_pos ((hasR_sign hE (s := s2) h2 (x := ⟨#[93]⟩) rfl).2 hc), if_pos hc]
      exact Sim.ok (s := s2.next) h2
    rw [if_neg (fun hh => hc ((hasR_sign hE (s := s2) h2 (x := ⟨#[93]⟩) rfl).1 hh)), if_neg hc]; by_cases hc : isT E (s2.i) 6 ⟨#[58]⟩
    · rw [want_yes (s := s2) (hasR_sign hE (s := s2) h2 (x := ⟨#[58]⟩) rfl) hc, wantP_yes hc]
      have xe := isR_sign hE (s := s2.next) (x := ⟨#[93]⟩) rfl; by_cases hq : isT E (s2.i + 1) 6 ⟨#[93]⟩
      · rw [if_neg (fun hh => hh.elim (fun h => absurd h (by simp)) (fun h => h (xe.2 hq))), if_pos hq, want_yes (s := s2.next) (hasR_sign hE (s := s2.next) h2 (x := ⟨#[93]⟩) rfl) hq]
        exact Sim.ok (s := s2.next.next) h2
      rw [if_pos (Or.inr (fun h => hq (xe.1 h))), if_neg hq]; refine Sim.bind (hF s2.next h2) (fun m s3 h3 => ?_) (fun _ s3 hn => ?_)
      · by_cases hc : isT E (s3.i) 6 ⟨#[93]⟩
        · rw [want_yes (s := s3) (hasR_sign hE (s := s3) h3 (x := ⟨#[93]⟩) rfl) hc, wantP_yes hc]
          exact Sim.ok (s := s3.next) h3
        rw [want_no (s := s3) (hasR_sign hE (s := s3) h3 (x := ⟨#[93]⟩) rfl) hc, wantP_no hc]; refine Sim.dead (s := s3) h3 (by decide) ?_; have hn := fail_ne (E := E) (s := s3) h3 (e := 60) (by decide); have hS := SameS.refl (failR E s3 60); repeat' (first | assumption | apply z1 | apply z2 hn | apply z3 hn | apply z4 hn | apply z5 | refine z6 _ _ _ _ _ hn ?_ trivial | refine z7 ?_ (fun _ _ _ => ?_) | refine z8 hn ?_ (fun _ _ _ => ?_) | refine z9 ?_ ?_)
      have hS := SameS.refl s3; repeat' (first | assumption | apply z1 | apply z2 hn | apply z3 hn | apply z4 hn | apply z5 | refine z6 _ _ _ _ _ hn ?_ trivial | refine z7 ?_ (fun _ _ _ => ?_) | refine z8 hn ?_ (fun _ _ _ => ?_) | refine z9 ?_ ?_)
    rw [want_no (s := s2) (hasR_sign hE (s := s2) h2 (x := ⟨#[58]⟩) rfl) hc, wantP_no hc]; refine Sim.dead (s := s2) h2 (by decide) ?_; have hn := fail_ne (E := E) (s := s2) h2 (e := 60) (by decide); have hS := SameS.refl (failR E s2 60); repeat' (first | assumption | apply z1 | apply z2 hn | apply z3 hn | apply z4 hn | apply z5 | refine z6 _ _ _ _ _ hn ?_ trivial | refine z7 ?_ (fun _ _ _ => ?_) | refine z8 hn ?_ (fun _ _ _ => ?_) | refine z9 ?_ ?_)
  have hS := SameS.refl s2; repeat' (first | assumption | apply z1 | apply z2 hn | apply z3 hn | apply z4 hn | apply z5 | refine z6 _ _ _ _ _ hn ?_ trivial | refine z7 ?_ (fun _ _ _ => ?_) | refine z8 hn ?_ (fun _ _ _ => ?_) | refine z9 ?_ ?_)
theorem sim_text {g : Nat} (ih : ∀ (E : Env), WfE E → ∀ (job : RJob) (s : St), s.err = 0 → ∀ n s', runR g E job s = some (n, s') → Sp E job s.i n s') (E : Env) (hE : WfE E) (s : St) (hs : s.err = 0) (n : NJ) (s' : St) (h : stepR (runR g) E .text s = some (n, s')) : Sp E .text s.i n s' := by
  intro hk; rw [evP_step E]; simp only [stepR] at h; simp only [stepP]; rw [if_neg (fun hh => hh hk)]; exact ih E hE (.parts _ _ _ _) s hs n s' h ((parts_len _).imp And.left id)
theorem sim_parts {g : Nat} (ih : ∀ (E : Env), WfE E → ∀ (job : RJob) (s : St), s.err = 0 → ∀ n s', runR g E job s = some (n, s') → Sp E job s.i n s') (E : Env) (hE : WfE E) (t f : List (List UInt8)) (p : List Nat) (kids : List NJ) (s : St) (hs : s.err = 0) (n : NJ) (s' : St) (h : stepR (runR g) E (.parts t f p kids) s = some (n, s')) : Sp E (.parts t f p kids) s.i n s' := by
  intro hlen; refine (?_ : Sim (stepR (runR g) E (.parts t f p kids) s) (evP E (.parts t f p kids) s.i)) n s' h; clear h; rw [evP_step E]; cases t with
  | nil => exact Sim.ok (s := s.next) hs
  | cons t0 t =>
    simp only [stepR, stepP]; by_cases hbad : (readQ (textQ t0)).2.2 ≠ 0 ∨ (readQ (textQ t0)).2.1 ≠ t0.length + 2
    · rw [if_pos hbad, if_pos hbad]
      exact Sim.dead hs (by decide) (Kp.ret (SameS.refl _))
    rw [if_neg hbad, if_neg hbad]; cases f with
    | nil =>
      have ht : t = [] := by
        rcases hlen with h | h
        · cases h
        simpa using h
      subst ht; dsimp only; rw [evP_step E]; exact Sim.ok (s := s.next) hs
    | cons g0 f =>
      intro n s' hx; obtain ⟨m, own, h1, h2⟩ := bindR_some hx; have h3 : evP (envOf g0 (E.base + (tokAt E s.i).at_ + p.headD 0)) .whole 0 = some (toPR m own) := ih (envOf g0 (E.base + (tokAt E s.i).at_ + p.headD 0)) (envOf_wf _ _) .whole ⟨0, 0, 0⟩ rfl m own h1; dsimp only; rw [h3]; by_cases ho : own.err = 0
      · rw [if_neg (fun hh => hh ho)] at h2
        rw [toPR_ok ho]; exact ih E hE (.parts t f p.tail _) s hs n s' h2 (by
          rcases hlen with h | h
          · cases h
          right; simpa using h)
      rw [if_pos ho] at h2; obtain ⟨e1, e2⟩ := Prod.mk.inj (Option.some.inj h2); subst e1 e2; have e3 : (failR E s own.err).err = own.err := by rw [fail_eq hs]
      rw [toPR_bad ho, toPR_bad (by show (failR E s own.err).err ≠ 0; rw [e3]; exact ho)]; show some (PR.bad own.at_ own.err) = some (PR.bad own.at_ (failR E s own.err).err)
      rw [e3]
theorem sim_whole {g : Nat} (ih : ∀ (E : Env), WfE E → ∀ (job : RJob) (s : St), s.err = 0 → ∀ n s', runR g E job s = some (n, s') → Sp E job s.i n s') (E : Env) (hE : WfE E) (s : St) (hs : s.err = 0) (n : NJ) (s' : St) (h : stepR (runR g) E .whole s = some (n, s')) : Sp E .whole s.i n s' := by
  have hs0 : ¬ s.err ≠ 0 := fun hh => hh hs
  have hF : ∀ s1 : St, s1.err = 0 → Sim (runR g E .filter s1) (evP E .filter s1.i) := fun s1 h1 n s1' h => ih E hE _ s1 h1 n s1' h
  refine (?_ : Sim (stepR (runR g) E .whole s) (evP E .whole (s.i))) n s' h; clear h ih; rw [evP_step E]; simp only [stepR, stepP]; refine Sim.bind (hF s hs) (fun m s2 h2 => ?_) (fun _ s2 hn => ?_)
  · by_cases hc : s2.i < E.l.length
    · rw [if_pos ⟨h2, hc⟩, if_pos hc]
      exact Sim.dead h2 (by decide) (Kp.ret (SameS.refl _))
    rw [if_neg (fun hh => hc hh.2), if_neg hc]; exact Sim.ok (s := s2) h2
  have hS := SameS.refl s2; repeat' (first | assumption | apply z1 | apply z2 hn | apply z3 hn | apply z4 hn | apply z5 | refine z6 _ _ _ _ _ hn ?_ trivial | refine z7 ?_ (fun _ _ _ => ?_) | refine z8 hn ?_ (fun _ _ _ => ?_) | refine z9 ?_ ?_)
theorem sim_first {g : Nat} (ih : ∀ (E : Env), WfE E → ∀ (job : RJob) (s : St), s.err = 0 → ∀ n s', runR g E job s = some (n, s') → Sp E job s.i n s') (E : Env) (hE : WfE E) (s : St) (hs : s.err = 0) (n : NJ) (s' : St) (h : stepR (runR g) E .first s = some (n, s')) : Sp E .first s.i n s' := by
  have hs0 : ¬ s.err ≠ 0 := fun hh => hh hs
  have hF : ∀ s1 : St, s1.err = 0 → Sim (runR g E .filter s1) (evP E .filter s1.i) := fun s1 h1 n s1' h => ih E hE _ s1 h1 n s1' h
  have hOb : ∀ s1 : St, s1.err = 0 → Sim (runR g E .object s1) (evP E .object s1.i) := fun s1 h1 n s1' h => ih E hE _ s1 h1 n s1' h
  have hX : ∀ s1 : St, s1.err = 0 → (tokAt E s1.i).kind = 5 → Sim (runR g E .text s1) (evP E .quoted s1.i) := fun s1 h1 hk n s1' h => ih E hE .text s1 h1 n s1' h hk
  have hW : ∀ s1 : St, s1.err = 0 → (tokAt E s1.i).kind = 1 → Sim (runR g E .word s1) (evP E (.word (tokAt E s1.i).text) s1.i) := fun s1 h1 hk n s1' h => ih E hE .word s1 h1 n s1' h hk
  refine (?_ : Sim (stepR (runR g) E .first s) (evP E .first (s.i))) n s' h; clear h ih; rw [evP_step E]; simp only [stepR, stepP]; rw [if_neg hs0]; by_cases k1 : (tokAt E s.i).kind = 1
  · have d1 : (tokAt E s.i).kind = 1 := by omega
    have d2 : ¬ (tokAt E s.i).kind = 2 := by omega
    have d3 : ¬ (tokAt E s.i).kind = 3 := by omega
    have d4 : ¬ (tokAt E s.i).kind = 4 := by omega
    have d5 : ¬ (tokAt E s.i).kind = 5 := by omega
    have d6 : ¬ (tokAt E s.i).kind = 6 := by omega
    simp only [if_pos d1, if_neg d2, if_neg d3, if_neg d4, if_neg d5, if_neg d6]; exact hW s hs d1
  by_cases k2 : (tokAt E s.i).kind = 2
  · have d1 : ¬ (tokAt E s.i).kind = 1 := by omega
    have d2 : (tokAt E s.i).kind = 2 := by omega
    have d3 : ¬ (tokAt E s.i).kind = 3 := by omega
    have d4 : ¬ (tokAt E s.i).kind = 4 := by omega
    have d5 : ¬ (tokAt E s.i).kind = 5 := by omega
    have d6 : ¬ (tokAt E s.i).kind = 6 := by omega
    simp only [if_neg d1, if_pos d2, if_neg d3, if_neg d4, if_neg d5, if_neg d6]; rw [named_yes hs (k := 2) (by unfold noKind; rw [d2]; simp)]; exact Sim.ok (s := s.next) hs
  by_cases k3 : (tokAt E s.i).kind = 3
  · have d1 : ¬ (tokAt E s.i).kind = 1 := by omega
    have d2 : ¬ (tokAt E s.i).kind = 2 := by omega
    have d3 : (tokAt E s.i).kind = 3 := by omega
    have d4 : ¬ (tokAt E s.i).kind = 4 := by omega
    have d5 : ¬ (tokAt E s.i).kind = 5 := by omega
    have d6 : ¬ (tokAt E s.i).kind = 6 := by omega
    simp only [if_neg d1, if_neg d2, if_pos d3, if_neg d4, if_neg d5, if_neg d6]; exact Sim.ok (s := s.next) hs
  by_cases k4 : (tokAt E s.i).kind = 4
  · have d1 : ¬ (tokAt E s.i).kind = 1 := by omega
    have d2 : ¬ (tokAt E s.i).kind = 2 := by omega
    have d3 : ¬ (tokAt E s.i).kind = 3 := by omega
    have d4 : (tokAt E s.i).kind = 4 := by omega
    have d5 : ¬ (tokAt E s.i).kind = 5 := by omega
    have d6 : ¬ (tokAt E s.i).kind = 6 := by omega
    simp only [if_neg d1, if_neg d2, if_neg d3, if_pos d4, if_neg d5, if_neg d6]; by_cases ha : (parseN (tokAt E s.i).text.data.toList).2 = 10
    · simp only [if_pos ha]
      exact Sim.dead hs (by decide) (Kp.ret (SameS.refl _))
    simp only [if_neg ha]; by_cases hb : (parseN (tokAt E s.i).text.data.toList).2 ≠ 0
    · simp only [if_pos hb]
      exact Sim.dead hs (parse_err _ hb) (Kp.ret (SameS.refl _))
    simp only [if_neg hb]; exact Sim.ok (s := s.next) hs
  by_cases k5 : (tokAt E s.i).kind = 5
  · have d1 : ¬ (tokAt E s.i).kind = 1 := by omega
    have d2 : ¬ (tokAt E s.i).kind = 2 := by omega
    have d3 : ¬ (tokAt E s.i).kind = 3 := by omega
    have d4 : ¬ (tokAt E s.i).kind = 4 := by omega
    have d5 : (tokAt E s.i).kind = 5 := by omega
    have d6 : ¬ (tokAt E s.i).kind = 6 := by omega
    simp only [if_neg d1, if_neg d2, if_neg d3, if_neg d4, if_pos d5, if_neg d6]; exact hX s hs d5
  by_cases k6 : (tokAt E s.i).kind = 6
  · have d1 : ¬ (tokAt E s.i).kind = 1 := by omega
    have d2 : ¬ (tokAt E s.i).kind = 2 := by omega
    have d3 : ¬ (tokAt E s.i).kind = 3 := by omega
    have d4 : ¬ (tokAt E s.i).kind = 4 := by omega
    have d5 : ¬ (tokAt E s.i).kind = 5 := by omega
    have d6 : (tokAt E s.i).kind = 6 := by omega
    simp only [if_neg d1, if_neg d2, if_neg d3, if_neg d4, if_neg d5, if_pos d6]; rw [evP_step E]; simp only [stepP]; by_cases hc : (tokAt E s.i).text = ⟨#[46]⟩
    · rw [if_pos ((hasR_sign hE (s := s) hs (x := ⟨#[46]⟩) rfl).2 ⟨d6, hc⟩), if_pos hc]
      by_cases h5 : (tokAt E (s.i + 1)).kind = 5
      · rw [if_pos (show (tokAt E s.next.i).kind = 5 from h5), if_pos h5]
        refine Sim.bind (hX s.next hs h5) (fun m s2 h2 => ?_) (fun _ s2 hn => ?_)
        · exact Sim.ok (s := s2) h2
        have hS := SameS.refl s2; repeat' (first | assumption | apply z1 | apply z2 hn | apply z3 hn | apply z4 hn | apply z5 | refine z6 _ _ _ _ _ hn ?_ trivial | refine z7 ?_ (fun _ _ _ => ?_) | refine z8 hn ?_ (fun _ _ _ => ?_) | refine z9 ?_ ?_)
      rw [if_neg (show ¬ (tokAt E s.next.i).kind = 5 from h5), if_neg h5]; exact Sim.ok (s := s.next) hs
    rw [if_neg (fun hh => hc ((hasR_sign hE (s := s) hs (x := ⟨#[46]⟩) rfl).1 hh).2), if_neg hc]; by_cases hc : (tokAt E s.i).text = ⟨#[46, 46]⟩
    · rw [if_pos ((hasR_sign hE (s := s) hs (x := ⟨#[46, 46]⟩) rfl).2 ⟨d6, hc⟩), if_pos hc]
      exact Sim.ok (s := s.next) hs
    rw [if_neg (fun hh => hc ((hasR_sign hE (s := s) hs (x := ⟨#[46, 46]⟩) rfl).1 hh).2), if_neg hc]; by_cases hc : (tokAt E s.i).text = ⟨#[40]⟩
    · rw [if_pos ((hasR_sign hE (s := s) hs (x := ⟨#[40]⟩) rfl).2 ⟨d6, hc⟩), if_pos hc]
      refine Sim.bind (hF s.next hs) (fun m s2 h2 => ?_) (fun _ s2 hn => ?_)
      · by_cases hc : isT E (s2.i) 6 ⟨#[41]⟩
        · rw [want_yes (s := s2) (hasR_sign hE (s := s2) h2 (x := ⟨#[41]⟩) rfl) hc, wantP_yes hc]
          exact Sim.ok (s := s2.next) h2
        rw [want_no (s := s2) (hasR_sign hE (s := s2) h2 (x := ⟨#[41]⟩) rfl) hc, wantP_no hc]; refine Sim.dead (s := s2) h2 (by decide) ?_; have hn := fail_ne (E := E) (s := s2) h2 (e := 60) (by decide); have hS := SameS.refl (failR E s2 60); repeat' (first | assumption | apply z1 | apply z2 hn | apply z3 hn | apply z4 hn | apply z5 | refine z6 _ _ _ _ _ hn ?_ trivial | refine z7 ?_ (fun _ _ _ => ?_) | refine z8 hn ?_ (fun _ _ _ => ?_) | refine z9 ?_ ?_)
      have hS := SameS.refl s2; repeat' (first | assumption | apply z1 | apply z2 hn | apply z3 hn | apply z4 hn | apply z5 | refine z6 _ _ _ _ _ hn ?_ trivial | refine z7 ?_ (fun _ _ _ => ?_) | refine z8 hn ?_ (fun _ _ _ => ?_) | refine z9 ?_ ?_)
    rw [if_neg (fun hh => hc ((hasR_sign hE (s := s) hs (x := ⟨#[40]⟩) rfl).1 hh).2), if_neg hc]; by_cases hc : (tokAt E s.i).text = ⟨#[91]⟩
    · rw [if_pos ((hasR_sign hE (s := s) hs (x := ⟨#[91]⟩) rfl).2 ⟨d6, hc⟩), if_pos hc]
      by_cases hc : isT E (s.i + 1) 6 ⟨#[93]⟩
      · rw [if_pos ((hasR_sign hE (s := s.next) hs (x := ⟨#[93]⟩) rfl).2 hc), if_pos hc]
        exact Sim.ok (s := s.next.next) hs
      rw [if_neg (fun hh => hc ((hasR_sign hE (s := s.next) hs (x := ⟨#[93]⟩) rfl).1 hh)), if_neg hc]; refine Sim.bind (hF s.next hs) (fun m s2 h2 => ?_) (fun _ s2 hn => ?_)
      · by_cases hc : isT E (s2.i) 6 ⟨#[93]⟩
        · rw [want_yes (s := s2) (hasR_sign hE (s := s2) h2 (x := ⟨#[93]⟩) rfl) hc, wantP_yes hc]
          exact Sim.ok (s := s2.next) h2
        rw [want_no (s := s2) (hasR_sign hE (s := s2) h2 (x := ⟨#[93]⟩) rfl) hc, wantP_no hc]; refine Sim.dead (s := s2) h2 (by decide) ?_; have hn := fail_ne (E := E) (s := s2) h2 (e := 60) (by decide); have hS := SameS.refl (failR E s2 60); repeat' (first | assumption | apply z1 | apply z2 hn | apply z3 hn | apply z4 hn | apply z5 | refine z6 _ _ _ _ _ hn ?_ trivial | refine z7 ?_ (fun _ _ _ => ?_) | refine z8 hn ?_ (fun _ _ _ => ?_) | refine z9 ?_ ?_)
      have hS := SameS.refl s2; repeat' (first | assumption | apply z1 | apply z2 hn | apply z3 hn | apply z4 hn | apply z5 | refine z6 _ _ _ _ _ hn ?_ trivial | refine z7 ?_ (fun _ _ _ => ?_) | refine z8 hn ?_ (fun _ _ _ => ?_) | refine z9 ?_ ?_)
    rw [if_neg (fun hh => hc ((hasR_sign hE (s := s) hs (x := ⟨#[91]⟩) rfl).1 hh).2), if_neg hc]; by_cases hc : (tokAt E s.i).text = ⟨#[123]⟩
    · rw [if_pos ((hasR_sign hE (s := s) hs (x := ⟨#[123]⟩) rfl).2 ⟨d6, hc⟩), if_pos hc]
      exact hOb s.next hs
    rw [if_neg (fun hh => hc ((hasR_sign hE (s := s) hs (x := ⟨#[123]⟩) rfl).1 hh).2), if_neg hc]; exact Sim.dead hs (by decide) (Kp.ret (SameS.refl _))
  have hno : ∀ x, ¬ hasR E s x := fun x hh => by rcases hh.2.1 with h | h <;> omega
  simp only [if_neg k1, if_neg k2, if_neg k3, if_neg k4, if_neg k5, if_neg k6, if_neg (hno _)]; exact Sim.dead hs (by decide) (Kp.ret (SameS.refl _))
theorem sim_object {g : Nat} (ih : ∀ (E : Env), WfE E → ∀ (job : RJob) (s : St), s.err = 0 → ∀ n s', runR g E job s = some (n, s') → Sp E job s.i n s') (E : Env) (hE : WfE E) (s : St) (hs : s.err = 0) (n : NJ) (s' : St) (h : stepR (runR g) E .object s = some (n, s')) : Sp E .object s.i n s' := by
  have hs0 : ¬ s.err ≠ 0 := fun hh => hh hs
  have hOL : ∀ (x : List NJ) (s1 : St), s1.err = 0 → Sim (runR g E (.objLoop x) s1) (evP E (.objLoop x) s1.i) := fun x s1 h1 n s1' h => ih E hE (.objLoop x) s1 h1 n s1' h
  refine (?_ : Sim (stepR (runR g) E .object s) (evP E .object (s.i))) n s' h; clear h ih; rw [evP_step E]; simp only [stepR, stepP]; by_cases hc : isT E (s.i) 6 ⟨#[125]⟩
  · rw [if_pos ((hasR_sign hE (s := s) hs (x := ⟨#[125]⟩) rfl).2 hc), if_pos hc]
    exact Sim.ok (s := s.next) hs
  rw [if_neg (fun hh => hc ((hasR_sign hE (s := s) hs (x := ⟨#[125]⟩) rfl).1 hh)), if_neg hc]; exact hOL [] s hs
theorem sim_objLoop {g : Nat} (ih : ∀ (E : Env), WfE E → ∀ (job : RJob) (s : St), s.err = 0 → ∀ n s', runR g E job s = some (n, s') → Sp E job s.i n s') (E : Env) (hE : WfE E) (kids : List NJ) (s : St) (hs : s.err = 0) (n : NJ) (s' : St) (h : stepR (runR g) E (.objLoop kids) s = some (n, s')) : Sp E (.objLoop kids) s.i n s' := by
  have hs0 : ¬ s.err ≠ 0 := fun hh => hh hs
  have hF : ∀ s1 : St, s1.err = 0 → Sim (runR g E .filter s1) (evP E .filter s1.i) := fun s1 h1 n s1' h => ih E hE _ s1 h1 n s1' h
  have hO : ∀ s1 : St, s1.err = 0 → Sim (runR g E .other s1) (evP E (.binary 2) s1.i) := fun s1 h1 n s1' h => lr_ev (ih E hE .other s1 h1 n s1' h)
  have hOL : ∀ (x : List NJ) (s1 : St), s1.err = 0 → Sim (runR g E (.objLoop x) s1) (evP E (.objLoop x) s1.i) := fun x s1 h1 n s1' h => ih E hE (.objLoop x) s1 h1 n s1' h
  have hX : ∀ s1 : St, s1.err = 0 → (tokAt E s1.i).kind = 5 → Sim (runR g E .text s1) (evP E .quoted s1.i) := fun s1 h1 hk n s1' h => ih E hE .text s1 h1 n s1' h hk
  refine (?_ : Sim (stepR (runR g) E (.objLoop kids) s) (evP E (.objLoop kids) (s.i))) n s' h; clear h ih; rw [evP_step E]; simp only [stepR, stepP]; rw [if_neg hs0]; have hgo : ∀ (k v : NJ) (s1 : St), s1.err = 0 → Sim (if hasR E s1 ⟨#[44]⟩ then runR g E (.objLoop (kids ++ [k, v])) s1.next else some (kidsJ 16 (kids ++ [k, v]), wantR E s1 ⟨#[125]⟩))
      (if isT E s1.i 6 ⟨#[44]⟩ then evP E (.objLoop (kids ++ (kidsJ 0 [k, v]).kids)) (s1.i + 1) else wantP E s1.i 6 ⟨#[125]⟩ fun j => okP (kidsJ 16 (kids ++ (kidsJ 0 [k, v]).kids)) j) := by
    intro k v s1 h1; show Sim _ (if isT E s1.i 6 ⟨#[44]⟩ then evP E (.objLoop (kids ++ [k, v])) (s1.i + 1) else wantP E s1.i 6 ⟨#[125]⟩ fun j => okP (kidsJ 16 (kids ++ [k, v])) j)
    by_cases hc : isT E (s1.i) 6 ⟨#[44]⟩
    · rw [if_pos ((hasR_sign hE (s := s1) h1 (x := ⟨#[44]⟩) rfl).2 hc), if_pos hc]
      exact hOL _ s1.next h1
    rw [if_neg (fun hh => hc ((hasR_sign hE (s := s1) h1 (x := ⟨#[44]⟩) rfl).1 hh)), if_neg hc]; by_cases hc : isT E (s1.i) 6 ⟨#[125]⟩
    · rw [want_yes (s := s1) (hasR_sign hE (s := s1) h1 (x := ⟨#[125]⟩) rfl) hc, wantP_yes hc]
      exact Sim.ok (s := s1.next) h1
    rw [want_no (s := s1) (hasR_sign hE (s := s1) h1 (x := ⟨#[125]⟩) rfl) hc, wantP_no hc]; refine Sim.dead (s := s1) h1 (by decide) ?_; have hn := fail_ne (E := E) (s := s1) h1 (e := 60) (by decide); have hS := SameS.refl (failR E s1 60); repeat' (first | assumption | apply z1 | apply z2 hn | apply z3 hn | apply z4 hn | apply z5 | refine z6 _ _ _ _ _ hn ?_ trivial | refine z7 ?_ (fun _ _ _ => ?_) | refine z8 hn ?_ (fun _ _ _ => ?_) | refine z9 ?_ ?_)
  rw [evP_step E .entry]; simp only [stepP]; by_cases k2 : (tokAt E s.i).kind = 2
  · have d2 : (tokAt E s.i).kind = 2 := by omega
    simp only [if_pos d2]; rw [named_yes hs (k := 2) (by unfold noKind; rw [d2]; simp), bindP_ok]; exact hgo _ _ s.next hs
  by_cases k1 : (tokAt E s.i).kind = 1
  · have d1 : (tokAt E s.i).kind = 1 := by omega
    have d2 : ¬ (tokAt E s.i).kind = 2 := by omega
    simp only [if_pos d1, if_neg d2]; have xc := isR_sign hE (s := s.next) (x := ⟨#[58]⟩) rfl; by_cases hq : isT E (s.i + 1) 6 ⟨#[58]⟩
    · rw [if_neg (fun hh => hh.2 (xc.2 hq)), if_pos hq, wantP_yes hq, want_yes (s := s.next) (hasR_sign hE (s := s.next) hs (x := ⟨#[58]⟩) rfl) hq, bindP_assoc]
      refine Sim.bind (hO s.next.next hs) (fun v s2 h2 => ?_) (fun _ s2 hn => ?_)
      · rw [bindP_ok]
        exact hgo _ v s2 h2
      have hS := SameS.refl s2; repeat' (first | assumption | apply z1 | apply z2 hn | apply z3 hn | apply z4 hn | apply z5 | refine z6 _ _ _ _ _ hn ?_ trivial | refine z7 ?_ (fun _ _ _ => ?_) | refine z8 hn ?_ (fun _ _ _ => ?_) | refine z9 ?_ ?_)
    rw [if_pos ⟨hs, fun hh => hq (xc.1 hh)⟩, if_neg hq, bindP_ok]; exact hgo _ _ (s.next) hs
  by_cases k5 : (tokAt E s.i).kind = 5
  · have d1 : ¬ (tokAt E s.i).kind = 1 := by omega
    have d2 : ¬ (tokAt E s.i).kind = 2 := by omega
    have d5 : (tokAt E s.i).kind = 5 := by omega
    simp only [if_neg d1, if_neg d2, if_pos d5]; rw [bindP_assoc]; refine Sim.bind (hX s hs d5) (fun key s2 h2 => ?_) (fun _ s2 hn => ?_)
    · have xc := isR_sign hE (s := s2) (x := ⟨#[58]⟩) rfl
      by_cases hq : isT E (s2.i) 6 ⟨#[58]⟩
      · rw [if_neg (fun hh => hh.2 (xc.2 hq)), if_pos hq, wantP_yes hq, want_yes (s := s2) (hasR_sign hE (s := s2) h2 (x := ⟨#[58]⟩) rfl) hq, bindP_assoc]
        refine Sim.bind (hO s2.next h2) (fun v s3 h3 => ?_) (fun _ s3 hn => ?_)
        · rw [bindP_ok]
          exact hgo _ v s3 h3
        have hS := SameS.refl s3; repeat' (first | assumption | apply z1 | apply z2 hn | apply z3 hn | apply z4 hn | apply z5 | refine z6 _ _ _ _ _ hn ?_ trivial | refine z7 ?_ (fun _ _ _ => ?_) | refine z8 hn ?_ (fun _ _ _ => ?_) | refine z9 ?_ ?_)
      rw [if_pos ⟨h2, fun hh => hq (xc.1 hh)⟩, if_neg hq, bindP_ok]; exact hgo _ _ (s2) h2
    have hS := SameS.refl s2; repeat' (first | assumption | apply z1 | apply z2 hn | apply z3 hn | apply z4 hn | apply z5 | refine z6 _ _ _ _ _ hn ?_ trivial | refine z7 ?_ (fun _ _ _ => ?_) | refine z8 hn ?_ (fun _ _ _ => ?_) | refine z9 ?_ ?_)
  simp only [if_neg k2, if_neg k1, if_neg k5]; by_cases hc : isT E s.i 6 ⟨#[40]⟩
  · rw [if_pos hc, want_yes (s := s) (hasR_sign hE (s := s) hs (x := ⟨#[40]⟩) rfl) hc, bindP_assoc]
    refine Sim.bind (hF s.next hs) (fun key s2 h2 => ?_) (fun _ s2 hn => ?_)
    · rw [bindP_want]
      by_cases hc : isT E (s2.i) 6 ⟨#[41]⟩
      · rw [want_yes (s := s2) (hasR_sign hE (s := s2) h2 (x := ⟨#[41]⟩) rfl) hc, wantP_yes hc]
        rw [bindP_want]; by_cases hc : isT E (s2.i + 1) 6 ⟨#[58]⟩
        · rw [want_yes (s := s2.next) (hasR_sign hE (s := s2.next) h2 (x := ⟨#[58]⟩) rfl) hc, wantP_yes hc]
          rw [bindP_assoc]; refine Sim.bind (hO s2.next.next h2) (fun v s3 h3 => ?_) (fun _ s3 hn => ?_)
          · rw [bindP_ok]
            exact hgo _ v s3 h3
          have hS := SameS.refl s3; repeat' (first | assumption | apply z1 | apply z2 hn | apply z3 hn | apply z4 hn | apply z5 | refine z6 _ _ _ _ _ hn ?_ trivial | refine z7 ?_ (fun _ _ _ => ?_) | refine z8 hn ?_ (fun _ _ _ => ?_) | refine z9 ?_ ?_)
        rw [want_no (s := s2.next) (hasR_sign hE (s := s2.next) h2 (x := ⟨#[58]⟩) rfl) hc, wantP_no hc]; refine Sim.dead (s := s2.next) h2 (by decide) ?_; have hn := fail_ne (E := E) (s := s2.next) h2 (e := 60) (by decide); have hS := SameS.refl (failR E s2.next 60); repeat' (first | assumption | apply z1 | apply z2 hn | apply z3 hn | apply z4 hn | apply z5 | refine z6 _ _ _ _ _ hn ?_ trivial | refine z7 ?_ (fun _ _ _ => ?_) | refine z8 hn ?_ (fun _ _ _ => ?_) | refine z9 ?_ ?_)
      rw [want_no (s := s2) (hasR_sign hE (s := s2) h2 (x := ⟨#[41]⟩) rfl) hc, wantP_no hc]; refine Sim.dead (s := s2) h2 (by decide) ?_; have hn := fail_ne (E := E) (s := s2) h2 (e := 60) (by decide); have hS := SameS.refl (failR E s2 60); repeat' (first | assumption | apply z1 | apply z2 hn | apply z3 hn | apply z4 hn | apply z5 | refine z6 _ _ _ _ _ hn ?_ trivial | refine z7 ?_ (fun _ _ _ => ?_) | refine z8 hn ?_ (fun _ _ _ => ?_) | refine z9 ?_ ?_)
    have hS := SameS.refl s2; repeat' (first | assumption | apply z1 | apply z2 hn | apply z3 hn | apply z4 hn | apply z5 | refine z6 _ _ _ _ _ hn ?_ trivial | refine z7 ?_ (fun _ _ _ => ?_) | refine z8 hn ?_ (fun _ _ _ => ?_) | refine z9 ?_ ?_)
  rw [if_neg hc, want_no (s := s) (hasR_sign hE (s := s) hs (x := ⟨#[40]⟩) rfl) hc, bindP_fail]; refine Sim.dead (s := s) hs (by decide) ?_; have hn := fail_ne (E := E) (s := s) hs (e := 60) (by decide); have hS := SameS.refl (failR E s 60); repeat' (first | assumption | apply z1 | apply z2 hn | apply z3 hn | apply z4 hn | apply z5 | refine z6 _ _ _ _ _ hn ?_ trivial | refine z7 ?_ (fun _ _ _ => ?_) | refine z8 hn ?_ (fun _ _ _ => ?_) | refine z9 ?_ ?_)
theorem sim_word {g : Nat} (ih : ∀ (E : Env), WfE E → ∀ (job : RJob) (s : St), s.err = 0 → ∀ n s', runR g E job s = some (n, s') → Sp E job s.i n s') (E : Env) (hE : WfE E) (s : St) (hs : s.err = 0) (n : NJ) (s' : St) (h : stepR (runR g) E .word s = some (n, s')) : Sp E .word s.i n s' := by
  have hs0 : ¬ s.err ≠ 0 := fun hh => hh hs
  have hF : ∀ s1 : St, s1.err = 0 → Sim (runR g E .filter s1) (evP E .filter s1.i) := fun s1 h1 n s1' h => ih E hE _ s1 h1 n s1' h
  have hT : ∀ s1 : St, s1.err = 0 → Sim (runR g E .term s1) (evP E .term s1.i) := fun s1 h1 n s1' h => ih E hE _ s1 h1 n s1' h
  have hB : ∀ s1 : St, s1.err = 0 → Sim (runR g E .branch s1) (evP E .branch s1.i) := fun s1 h1 n s1' h => ih E hE _ s1 h1 n s1' h
  have hCL : ∀ (nm : ByteArray) (x : List NJ) (s1 : St), s1.err = 0 → Sim (runR g E (.callLoop nm x) s1) (evP E (.callLoop nm x) s1.i) := fun nm x s1 h1 n s1' h => ih E hE (.callLoop nm x) s1 h1 n s1' h
  intro k1; refine (?_ : Sim (stepR (runR g) E .word s) (evP E (.word (tokAt E s.i).text) (s.i))) n s' h; clear h ih; rw [evP_step E]; simp only [stepR, stepP]; by_cases hc : (tokAt E s.i).text = ⟨#[105, 102]⟩
  · rw [if_pos ((hasR_word hE (s := s) hs (x := ⟨#[105, 102]⟩) rfl).2 ⟨k1, hc⟩), if_pos hc]
    exact hB s.next hs
  rw [if_neg (fun hh => hc ((hasR_word hE (s := s) hs (x := ⟨#[105, 102]⟩) rfl).1 hh).2), if_neg hc]; by_cases hc : (tokAt E s.i).text = ⟨#[116, 114, 121]⟩
  · rw [if_pos ((hasR_word hE (s := s) hs (x := ⟨#[116, 114, 121]⟩) rfl).2 ⟨k1, hc⟩), if_pos hc]
    refine Sim.bind (hT s.next hs) (fun m s2 h2 => ?_) (fun _ s2 hn => ?_)
    · by_cases hc : isT E (s2.i) 1 ⟨#[99, 97, 116, 99, 104]⟩
      · rw [if_pos ((hasR_word hE (s := s2) h2 (x := ⟨#[99, 97, 116, 99, 104]⟩) rfl).2 hc), if_pos hc]
        refine Sim.bind (hT s2.next h2) (fun m2 s3 h3 => ?_) (fun _ s3 hn => ?_)
        · exact Sim.ok (s := s3) h3
        have hS := SameS.refl s3; repeat' (first | assumption | apply z1 | apply z2 hn | apply z3 hn | apply z4 hn | apply z5 | refine z6 _ _ _ _ _ hn ?_ trivial | refine z7 ?_ (fun _ _ _ => ?_) | refine z8 hn ?_ (fun _ _ _ => ?_) | refine z9 ?_ ?_)
      rw [if_neg (fun hh => hc ((hasR_word hE (s := s2) h2 (x := ⟨#[99, 97, 116, 99, 104]⟩) rfl).1 hh)), if_neg hc]; exact Sim.ok (s := s2) h2
    have hS := SameS.refl s2; repeat' (first | assumption | apply z1 | apply z2 hn | apply z3 hn | apply z4 hn | apply z5 | refine z6 _ _ _ _ _ hn ?_ trivial | refine z7 ?_ (fun _ _ _ => ?_) | refine z8 hn ?_ (fun _ _ _ => ?_) | refine z9 ?_ ?_)
  rw [if_neg (fun hh => hc ((hasR_word hE (s := s) hs (x := ⟨#[116, 114, 121]⟩) rfl).1 hh).2), if_neg hc]; have xr := isR_word hE (s := s) (x := ⟨#[114, 101, 100, 117, 99, 101]⟩) rfl; have xf := isR_word hE (s := s) (x := ⟨#[102, 111, 114, 101, 97, 99, 104]⟩) rfl; by_cases hr : (tokAt E s.i).text = ⟨#[114, 101, 100, 117, 99, 101]⟩
  · rw [if_pos (Or.inl (xr.2 ⟨k1, hr⟩)), if_pos hr]
    simp only [if_pos (xr.2 ⟨k1, hr⟩)]; rw [evP_step E]; simp only [stepP]; refine Sim.bind (hT s.next hs) (fun x s2 h2 => ?_) (fun _ s2 hn => ?_)
    · by_cases hc : isT E (s2.i) 1 ⟨#[97, 115]⟩
      · rw [want_yes (s := s2) (hasR_word hE (s := s2) h2 (x := ⟨#[97, 115]⟩) rfl) hc, wantP_yes hc]
        by_cases hk : noKind E (s2.i + 1) 2
        · rw [named_no (s := s2.next) hk, kindP_no hk]
          try dsimp only
          refine Sim.dead (s := s2.next) h2 (by decide) ?_; have hn := fail_ne (E := E) (s := s2.next) h2 (e := 60) (by decide); have hS := SameS.refl (failR E s2.next 60); repeat' (first | assumption | apply z1 | apply z2 hn | apply z3 hn | apply z4 hn | apply z5 | refine z6 _ _ _ _ _ hn ?_ trivial | refine z7 ?_ (fun _ _ _ => ?_) | refine z8 hn ?_ (fun _ _ _ => ?_) | refine z9 ?_ ?_)
        rw [named_yes (s := s2.next) h2 hk, kindP_yes hk]; try dsimp only
        by_cases hc : isT E (s2.i + 1 + 1) 6 ⟨#[40]⟩
        · rw [want_yes (s := s2.next.next) (hasR_sign hE (s := s2.next.next) h2 (x := ⟨#[40]⟩) rfl) hc, wantP_yes hc]
          refine Sim.bind (hF s2.next.next.next h2) (fun y s3 h3 => ?_) (fun _ s3 hn => ?_)
          · by_cases hc : isT E (s3.i) 6 ⟨#[59]⟩
            · rw [want_yes (s := s3) (hasR_sign hE (s := s3) h3 (x := ⟨#[59]⟩) rfl) hc, wantP_yes hc]
              refine Sim.bind (hF s3.next h3) (fun z s4 h4 => ?_) (fun _ s4 hn => ?_)
              · rw [if_neg (show ¬ (19 : Int) = 20 by decide), if_neg (show ¬ (19 : Int) = 20 by decide)]
                by_cases hc : isT E (s4.i) 6 ⟨#[41]⟩
                · rw [want_yes (s := s4) (hasR_sign hE (s := s4) h4 (x := ⟨#[41]⟩) rfl) hc, wantP_yes hc]
                  exact Sim.ok (s := s4.next) h4
                rw [want_no (s := s4) (hasR_sign hE (s := s4) h4 (x := ⟨#[41]⟩) rfl) hc, wantP_no hc]; refine Sim.dead (s := s4) h4 (by decide) ?_; have hn := fail_ne (E := E) (s := s4) h4 (e := 60) (by decide); have hS := SameS.refl (failR E s4 60); repeat' (first | assumption | apply z1 | apply z2 hn | apply z3 hn | apply z4 hn | apply z5 | refine z6 _ _ _ _ _ hn ?_ trivial | refine z7 ?_ (fun _ _ _ => ?_) | refine z8 hn ?_ (fun _ _ _ => ?_) | refine z9 ?_ ?_)
              have hS := SameS.refl s4; repeat' (first | assumption | apply z1 | apply z2 hn | apply z3 hn | apply z4 hn | apply z5 | refine z6 _ _ _ _ _ hn ?_ trivial | refine z7 ?_ (fun _ _ _ => ?_) | refine z8 hn ?_ (fun _ _ _ => ?_) | refine z9 ?_ ?_)
            rw [want_no (s := s3) (hasR_sign hE (s := s3) h3 (x := ⟨#[59]⟩) rfl) hc, wantP_no hc]; refine Sim.dead (s := s3) h3 (by decide) ?_; have hn := fail_ne (E := E) (s := s3) h3 (e := 60) (by decide); have hS := SameS.refl (failR E s3 60); repeat' (first | assumption | apply z1 | apply z2 hn | apply z3 hn | apply z4 hn | apply z5 | refine z6 _ _ _ _ _ hn ?_ trivial | refine z7 ?_ (fun _ _ _ => ?_) | refine z8 hn ?_ (fun _ _ _ => ?_) | refine z9 ?_ ?_)
          have hS := SameS.refl s3; repeat' (first | assumption | apply z1 | apply z2 hn | apply z3 hn | apply z4 hn | apply z5 | refine z6 _ _ _ _ _ hn ?_ trivial | refine z7 ?_ (fun _ _ _ => ?_) | refine z8 hn ?_ (fun _ _ _ => ?_) | refine z9 ?_ ?_)
        rw [want_no (s := s2.next.next) (hasR_sign hE (s := s2.next.next) h2 (x := ⟨#[40]⟩) rfl) hc, wantP_no hc]; refine Sim.dead (s := s2.next.next) h2 (by decide) ?_; have hn := fail_ne (E := E) (s := s2.next.next) h2 (e := 60) (by decide); have hS := SameS.refl (failR E s2.next.next 60); repeat' (first | assumption | apply z1 | apply z2 hn | apply z3 hn | apply z4 hn | apply z5 | refine z6 _ _ _ _ _ hn ?_ trivial | refine z7 ?_ (fun _ _ _ => ?_) | refine z8 hn ?_ (fun _ _ _ => ?_) | refine z9 ?_ ?_)
      rw [want_no (s := s2) (hasR_word hE (s := s2) h2 (x := ⟨#[97, 115]⟩) rfl) hc, wantP_no hc]; refine Sim.dead (s := s2) h2 (by decide) ?_; have hn := fail_ne (E := E) (s := s2) h2 (e := 60) (by decide); have hS := SameS.refl (failR E s2 60); repeat' (first | assumption | apply z1 | apply z2 hn | apply z3 hn | apply z4 hn | apply z5 | refine z6 _ _ _ _ _ hn ?_ trivial | refine z7 ?_ (fun _ _ _ => ?_) | refine z8 hn ?_ (fun _ _ _ => ?_) | refine z9 ?_ ?_)
    have hS := SameS.refl s2; repeat' (first | assumption | apply z1 | apply z2 hn | apply z3 hn | apply z4 hn | apply z5 | refine z6 _ _ _ _ _ hn ?_ trivial | refine z7 ?_ (fun _ _ _ => ?_) | refine z8 hn ?_ (fun _ _ _ => ?_) | refine z9 ?_ ?_)
  by_cases hf : (tokAt E s.i).text = ⟨#[102, 111, 114, 101, 97, 99, 104]⟩
  · rw [if_pos (Or.inr (xf.2 ⟨k1, hf⟩)), if_neg hr, if_pos hf]
    simp only [if_neg (fun hh => hr (xr.1 hh).2)]; rw [evP_step E]; simp only [stepP]; refine Sim.bind (hT s.next hs) (fun x s2 h2 => ?_) (fun _ s2 hn => ?_)
    · by_cases hc : isT E (s2.i) 1 ⟨#[97, 115]⟩
      · rw [want_yes (s := s2) (hasR_word hE (s := s2) h2 (x := ⟨#[97, 115]⟩) rfl) hc, wantP_yes hc]
        by_cases hk : noKind E (s2.i + 1) 2
        · rw [named_no (s := s2.next) hk, kindP_no hk]
          try dsimp only
          refine Sim.dead (s := s2.next) h2 (by decide) ?_; have hn := fail_ne (E := E) (s := s2.next) h2 (e := 60) (by decide); have hS := SameS.refl (failR E s2.next 60); repeat' (first | assumption | apply z1 | apply z2 hn | apply z3 hn | apply z4 hn | apply z5 | refine z6 _ _ _ _ _ hn ?_ trivial | refine z7 ?_ (fun _ _ _ => ?_) | refine z8 hn ?_ (fun _ _ _ => ?_) | refine z9 ?_ ?_)
        rw [named_yes (s := s2.next) h2 hk, kindP_yes hk]; try dsimp only
        by_cases hc : isT E (s2.i + 1 + 1) 6 ⟨#[40]⟩
        · rw [want_yes (s := s2.next.next) (hasR_sign hE (s := s2.next.next) h2 (x := ⟨#[40]⟩) rfl) hc, wantP_yes hc]
          refine Sim.bind (hF s2.next.next.next h2) (fun y s3 h3 => ?_) (fun _ s3 hn => ?_)
          · by_cases hc : isT E (s3.i) 6 ⟨#[59]⟩
            · rw [want_yes (s := s3) (hasR_sign hE (s := s3) h3 (x := ⟨#[59]⟩) rfl) hc, wantP_yes hc]
              refine Sim.bind (hF s3.next h3) (fun z s4 h4 => ?_) (fun _ s4 hn => ?_)
              · simp only [if_true]
                by_cases hc : isT E (s4.i) 6 ⟨#[59]⟩
                · rw [if_pos ((hasR_sign hE (s := s4) h4 (x := ⟨#[59]⟩) rfl).2 hc), if_pos hc]
                  refine Sim.bind (hF s4.next h4) (fun u s5 h5 => ?_) (fun _ s5 hn => ?_)
                  · by_cases hc : isT E (s5.i) 6 ⟨#[41]⟩
                    · rw [want_yes (s := s5) (hasR_sign hE (s := s5) h5 (x := ⟨#[41]⟩) rfl) hc, wantP_yes hc]
                      exact Sim.ok (s := s5.next) h5
                    rw [want_no (s := s5) (hasR_sign hE (s := s5) h5 (x := ⟨#[41]⟩) rfl) hc, wantP_no hc]; refine Sim.dead (s := s5) h5 (by decide) ?_; have hn := fail_ne (E := E) (s := s5) h5 (e := 60) (by decide); have hS := SameS.refl (failR E s5 60); repeat' (first | assumption | apply z1 | apply z2 hn | apply z3 hn | apply z4 hn | apply z5 | refine z6 _ _ _ _ _ hn ?_ trivial | refine z7 ?_ (fun _ _ _ => ?_) | refine z8 hn ?_ (fun _ _ _ => ?_) | refine z9 ?_ ?_)
                  have hS := SameS.refl s5; repeat' (first | assumption | apply z1 | apply z2 hn | apply z3 hn | apply z4 hn | apply z5 | refine z6 _ _ _ _ _ hn ?_ trivial | refine z7 ?_ (fun _ _ _ => ?_) | refine z8 hn ?_ (fun _ _ _ => ?_) | refine z9 ?_ ?_)
                rw [if_neg (fun hh => hc ((hasR_sign hE (s := s4) h4 (x := ⟨#[59]⟩) rfl).1 hh)), if_neg hc]; by_cases hc : isT E (s4.i) 6 ⟨#[41]⟩
                · rw [want_yes (s := s4) (hasR_sign hE (s := s4) h4 (x := ⟨#[41]⟩) rfl) hc, wantP_yes hc]
                  exact Sim.ok (s := s4.next) h4
                rw [want_no (s := s4) (hasR_sign hE (s := s4) h4 (x := ⟨#[41]⟩) rfl) hc, wantP_no hc]; refine Sim.dead (s := s4) h4 (by decide) ?_; have hn := fail_ne (E := E) (s := s4) h4 (e := 60) (by decide); have hS := SameS.refl (failR E s4 60); repeat' (first | assumption | apply z1 | apply z2 hn | apply z3 hn | apply z4 hn | apply z5 | refine z6 _ _ _ _ _ hn ?_ trivial | refine z7 ?_ (fun _ _ _ => ?_) | refine z8 hn ?_ (fun _ _ _ => ?_) | refine z9 ?_ ?_)
              have hS := SameS.refl s4; repeat' (first | assumption | apply z1 | apply z2 hn | apply z3 hn | apply z4 hn | apply z5 | refine z6 _ _ _ _ _ hn ?_ trivial | refine z7 ?_ (fun _ _ _ => ?_) | refine z8 hn ?_ (fun _ _ _ => ?_) | refine z9 ?_ ?_)
            rw [want_no (s := s3) (hasR_sign hE (s := s3) h3 (x := ⟨#[59]⟩) rfl) hc, wantP_no hc]; refine Sim.dead (s := s3) h3 (by decide) ?_; have hn := fail_ne (E := E) (s := s3) h3 (e := 60) (by decide); have hS := SameS.refl (failR E s3 60); repeat' (first | assumption | apply z1 | apply z2 hn | apply z3 hn | apply z4 hn | apply z5 | refine z6 _ _ _ _ _ hn ?_ trivial | refine z7 ?_ (fun _ _ _ => ?_) | refine z8 hn ?_ (fun _ _ _ => ?_) | refine z9 ?_ ?_)
          have hS := SameS.refl s3; repeat' (first | assumption | apply z1 | apply z2 hn | apply z3 hn | apply z4 hn | apply z5 | refine z6 _ _ _ _ _ hn ?_ trivial | refine z7 ?_ (fun _ _ _ => ?_) | refine z8 hn ?_ (fun _ _ _ => ?_) | refine z9 ?_ ?_)
        rw [want_no (s := s2.next.next) (hasR_sign hE (s := s2.next.next) h2 (x := ⟨#[40]⟩) rfl) hc, wantP_no hc]; refine Sim.dead (s := s2.next.next) h2 (by decide) ?_; have hn := fail_ne (E := E) (s := s2.next.next) h2 (e := 60) (by decide); have hS := SameS.refl (failR E s2.next.next 60); repeat' (first | assumption | apply z1 | apply z2 hn | apply z3 hn | apply z4 hn | apply z5 | refine z6 _ _ _ _ _ hn ?_ trivial | refine z7 ?_ (fun _ _ _ => ?_) | refine z8 hn ?_ (fun _ _ _ => ?_) | refine z9 ?_ ?_)
      rw [want_no (s := s2) (hasR_word hE (s := s2) h2 (x := ⟨#[97, 115]⟩) rfl) hc, wantP_no hc]; refine Sim.dead (s := s2) h2 (by decide) ?_; have hn := fail_ne (E := E) (s := s2) h2 (e := 60) (by decide); have hS := SameS.refl (failR E s2 60); repeat' (first | assumption | apply z1 | apply z2 hn | apply z3 hn | apply z4 hn | apply z5 | refine z6 _ _ _ _ _ hn ?_ trivial | refine z7 ?_ (fun _ _ _ => ?_) | refine z8 hn ?_ (fun _ _ _ => ?_) | refine z9 ?_ ?_)
    have hS := SameS.refl s2; repeat' (first | assumption | apply z1 | apply z2 hn | apply z3 hn | apply z4 hn | apply z5 | refine z6 _ _ _ _ _ hn ?_ trivial | refine z7 ?_ (fun _ _ _ => ?_) | refine z8 hn ?_ (fun _ _ _ => ?_) | refine z9 ?_ ?_)
  rw [if_neg (fun hh => hh.elim (fun h => hr (xr.1 h).2) (fun h => hf (xf.1 h).2)), if_neg hr, if_neg hf]; by_cases hk : noKind E (s.i) 1
  · rw [named_no (s := s) hk, kindP_no hk]
    try dsimp only
    refine Sim.dead (s := s) hs (by decide) ?_; have hn := fail_ne (E := E) (s := s) hs (e := 60) (by decide); have hS := SameS.refl (failR E s 60); repeat' (first | assumption | apply z1 | apply z2 hn | apply z3 hn | apply z4 hn | apply z5 | refine z6 _ _ _ _ _ hn ?_ trivial | refine z7 ?_ (fun _ _ _ => ?_) | refine z8 hn ?_ (fun _ _ _ => ?_) | refine z9 ?_ ?_)
  rw [named_yes (s := s) hs hk, kindP_yes hk]; try dsimp only
  by_cases hc : isT E (s.i + 1) 6 ⟨#[40]⟩
  · rw [if_pos ((hasR_sign hE (s := s.next) hs (x := ⟨#[40]⟩) rfl).2 hc), if_pos hc]
    exact hCL _ [] s.next.next hs
  rw [if_neg (fun hh => hc ((hasR_sign hE (s := s.next) hs (x := ⟨#[40]⟩) rfl).1 hh)), if_neg hc]; exact Sim.ok (s := s.next) hs
theorem sim_callLoop {g : Nat} (ih : ∀ (E : Env), WfE E → ∀ (job : RJob) (s : St), s.err = 0 → ∀ n s', runR g E job s = some (n, s') → Sp E job s.i n s') (E : Env) (hE : WfE E) (name : ByteArray) (kids : List NJ) (s : St) (hs : s.err = 0) (n : NJ) (s' : St) (h : stepR (runR g) E (.callLoop name kids) s = some (n, s')) : Sp E (.callLoop name kids) s.i n s' := by
  have hs0 : ¬ s.err ≠ 0 := fun hh => hh hs
  have hF : ∀ s1 : St, s1.err = 0 → Sim (runR g E .filter s1) (evP E .filter s1.i) := fun s1 h1 n s1' h => ih E hE _ s1 h1 n s1' h
  have hCL : ∀ (nm : ByteArray) (x : List NJ) (s1 : St), s1.err = 0 → Sim (runR g E (.callLoop nm x) s1) (evP E (.callLoop nm x) s1.i) := fun nm x s1 h1 n s1' h => ih E hE (.callLoop nm x) s1 h1 n s1' h
  refine (?_ : Sim (stepR (runR g) E (.callLoop name kids) s) (evP E (.callLoop name kids) (s.i))) n s' h; clear h ih; rw [evP_step E]; simp only [stepR, stepP]; rw [if_neg hs0]; refine Sim.bind (hF s hs) (fun m s2 h2 => ?_) (fun _ s2 hn => ?_)
  · by_cases hc : isT E (s2.i) 6 ⟨#[59]⟩
    · rw [if_pos ((hasR_sign hE (s := s2) h2 (x := ⟨#[59]⟩) rfl).2 hc), if_pos hc]
      exact hCL _ _ s2.next h2
    rw [if_neg (fun hh => hc ((hasR_sign hE (s := s2) h2 (x := ⟨#[59]⟩) rfl).1 hh)), if_neg hc]; by_cases hc : isT E (s2.i) 6 ⟨#[41]⟩
    · rw [want_yes (s := s2) (hasR_sign hE (s := s2) h2 (x := ⟨#[41]⟩) rfl) hc, wantP_yes hc]
      exact Sim.ok (s := s2.next) h2
    rw [want_no (s := s2) (hasR_sign hE (s := s2) h2 (x := ⟨#[41]⟩) rfl) hc, wantP_no hc]; refine Sim.dead (s := s2) h2 (by decide) ?_; have hn := fail_ne (E := E) (s := s2) h2 (e := 60) (by decide); have hS := SameS.refl (failR E s2 60); repeat' (first | assumption | apply z1 | apply z2 hn | apply z3 hn | apply z4 hn | apply z5 | refine z6 _ _ _ _ _ hn ?_ trivial | refine z7 ?_ (fun _ _ _ => ?_) | refine z8 hn ?_ (fun _ _ _ => ?_) | refine z9 ?_ ?_)
  have hS := SameS.refl s2; repeat' (first | assumption | apply z1 | apply z2 hn | apply z3 hn | apply z4 hn | apply z5 | refine z6 _ _ _ _ _ hn ?_ trivial | refine z7 ?_ (fun _ _ _ => ?_) | refine z8 hn ?_ (fun _ _ _ => ?_) | refine z9 ?_ ?_)
theorem sim_branch {g : Nat} (ih : ∀ (E : Env), WfE E → ∀ (job : RJob) (s : St), s.err = 0 → ∀ n s', runR g E job s = some (n, s') → Sp E job s.i n s') (E : Env) (hE : WfE E) (s : St) (hs : s.err = 0) (n : NJ) (s' : St) (h : stepR (runR g) E .branch s = some (n, s')) : Sp E .branch s.i n s' := by
  have hs0 : ¬ s.err ≠ 0 := fun hh => hh hs
  have hF : ∀ s1 : St, s1.err = 0 → Sim (runR g E .filter s1) (evP E .filter s1.i) := fun s1 h1 n s1' h => ih E hE _ s1 h1 n s1' h
  have hB : ∀ s1 : St, s1.err = 0 → Sim (runR g E .branch s1) (evP E .branch s1.i) := fun s1 h1 n s1' h => ih E hE _ s1 h1 n s1' h
  refine (?_ : Sim (stepR (runR g) E .branch s) (evP E .branch (s.i))) n s' h; clear h ih; rw [evP_step E]; simp only [stepR, stepP]; rw [if_neg hs0]; refine Sim.bind (hF s hs) (fun c s2 h2 => ?_) (fun _ s2 hn => ?_)
  · by_cases hc : isT E (s2.i) 1 ⟨#[116, 104, 101, 110]⟩
    · rw [want_yes (s := s2) (hasR_word hE (s := s2) h2 (x := ⟨#[116, 104, 101, 110]⟩) rfl) hc, wantP_yes hc]
      refine Sim.bind (hF s2.next h2) (fun t s3 h3 => ?_) (fun _ s3 hn => ?_)
      · by_cases hc : isT E (s3.i) 1 ⟨#[101, 108, 105, 102]⟩
        · rw [if_pos ((hasR_word hE (s := s3) h3 (x := ⟨#[101, 108, 105, 102]⟩) rfl).2 hc), if_pos hc]
          refine Sim.bind (hB s3.next h3) (fun m s4 h4 => ?_) (fun _ s4 hn => ?_)
          · exact Sim.ok (s := s4) h4
          have hS := SameS.refl s4; repeat' (first | assumption | apply z1 | apply z2 hn | apply z3 hn | apply z4 hn | apply z5 | refine z6 _ _ _ _ _ hn ?_ trivial | refine z7 ?_ (fun _ _ _ => ?_) | refine z8 hn ?_ (fun _ _ _ => ?_) | refine z9 ?_ ?_)
        rw [if_neg (fun hh => hc ((hasR_word hE (s := s3) h3 (x := ⟨#[101, 108, 105, 102]⟩) rfl).1 hh)), if_neg hc]; by_cases hc : isT E (s3.i) 1 ⟨#[101, 108, 115, 101]⟩
        · rw [if_pos ((hasR_word hE (s := s3) h3 (x := ⟨#[101, 108, 115, 101]⟩) rfl).2 hc), if_pos hc]
          refine Sim.bind (hF s3.next h3) (fun m s4 h4 => ?_) (fun _ s4 hn => ?_)
          · by_cases hc : isT E (s4.i) 1 ⟨#[101, 110, 100]⟩
            · rw [want_yes (s := s4) (hasR_word hE (s := s4) h4 (x := ⟨#[101, 110, 100]⟩) rfl) hc, wantP_yes hc]
              exact Sim.ok (s := s4.next) h4
            rw [want_no (s := s4) (hasR_word hE (s := s4) h4 (x := ⟨#[101, 110, 100]⟩) rfl) hc, wantP_no hc]; refine Sim.dead (s := s4) h4 (by decide) ?_; have hn := fail_ne (E := E) (s := s4) h4 (e := 60) (by decide); have hS := SameS.refl (failR E s4 60); repeat' (first | assumption | apply z1 | apply z2 hn | apply z3 hn | apply z4 hn | apply z5 | refine z6 _ _ _ _ _ hn ?_ trivial | refine z7 ?_ (fun _ _ _ => ?_) | refine z8 hn ?_ (fun _ _ _ => ?_) | refine z9 ?_ ?_)
          have hS := SameS.refl s4; repeat' (first | assumption | apply z1 | apply z2 hn | apply z3 hn | apply z4 hn | apply z5 | refine z6 _ _ _ _ _ hn ?_ trivial | refine z7 ?_ (fun _ _ _ => ?_) | refine z8 hn ?_ (fun _ _ _ => ?_) | refine z9 ?_ ?_)
        rw [if_neg (fun hh => hc ((hasR_word hE (s := s3) h3 (x := ⟨#[101, 108, 115, 101]⟩) rfl).1 hh)), if_neg hc]; by_cases hc : isT E (s3.i) 1 ⟨#[101, 110, 100]⟩
        · rw [want_yes (s := s3) (hasR_word hE (s := s3) h3 (x := ⟨#[101, 110, 100]⟩) rfl) hc, wantP_yes hc]
          exact Sim.ok (s := s3.next) h3
        rw [want_no (s := s3) (hasR_word hE (s := s3) h3 (x := ⟨#[101, 110, 100]⟩) rfl) hc, wantP_no hc]; refine Sim.dead (s := s3) h3 (by decide) ?_; have hn := fail_ne (E := E) (s := s3) h3 (e := 60) (by decide); have hS := SameS.refl (failR E s3 60); repeat' (first | assumption | apply z1 | apply z2 hn | apply z3 hn | apply z4 hn | apply z5 | refine z6 _ _ _ _ _ hn ?_ trivial | refine z7 ?_ (fun _ _ _ => ?_) | refine z8 hn ?_ (fun _ _ _ => ?_) | refine z9 ?_ ?_)
      have hS := SameS.refl s3; repeat' (first | assumption | apply z1 | apply z2 hn | apply z3 hn | apply z4 hn | apply z5 | refine z6 _ _ _ _ _ hn ?_ trivial | refine z7 ?_ (fun _ _ _ => ?_) | refine z8 hn ?_ (fun _ _ _ => ?_) | refine z9 ?_ ?_)
    rw [want_no (s := s2) (hasR_word hE (s := s2) h2 (x := ⟨#[116, 104, 101, 110]⟩) rfl) hc, wantP_no hc]; refine Sim.dead (s := s2) h2 (by decide) ?_; have hn := fail_ne (E := E) (s := s2) h2 (e := 60) (by decide); have hS := SameS.refl (failR E s2 60); repeat' (first | assumption | apply z1 | apply z2 hn | apply z3 hn | apply z4 hn | apply z5 | refine z6 _ _ _ _ _ hn ?_ trivial | refine z7 ?_ (fun _ _ _ => ?_) | refine z8 hn ?_ (fun _ _ _ => ?_) | refine z9 ?_ ?_)
  have hS := SameS.refl s2; repeat' (first | assumption | apply z1 | apply z2 hn | apply z3 hn | apply z4 hn | apply z5 | refine z6 _ _ _ _ _ hn ?_ trivial | refine z7 ?_ (fun _ _ _ => ?_) | refine z8 hn ?_ (fun _ _ _ => ?_) | refine z9 ?_ ?_)
theorem sim_all : ∀ (g : Nat) (E : Env), WfE E → ∀ (job : RJob) (s : St), s.err = 0 → ∀ n s', runR g E job s = some (n, s') → Sp E job s.i n s' := by
  intro g; induction g with
  | zero => intro E hE job s hs n s' h; cases h
  | succ g ih =>
    intro E hE job s hs n s' h; cases job with
    | filter => exact sim_filter ih E hE s hs n s' h
    | list => exact sim_list ih E hE s hs n s' h
    | listLoop n0 => exact sim_listLoop ih E hE n0 s hs n s' h
    | other => exact sim_other ih E hE s hs n s' h
    | set => exact sim_set ih E hE s hs n s' h
    | either => exact sim_either ih E hE s hs n s' h
    | eitherLoop n0 => exact sim_eitherLoop ih E hE n0 s hs n s' h
    | both => exact sim_both ih E hE s hs n s' h
    | bothLoop n0 => exact sim_bothLoop ih E hE n0 s hs n s' h
    | test => exact sim_test ih E hE s hs n s' h
    | sum => exact sim_sum ih E hE s hs n s' h
    | sumLoop n0 => exact sim_sumLoop ih E hE n0 s hs n s' h
    | product => exact sim_product ih E hE s hs n s' h
    | productLoop n0 => exact sim_productLoop ih E hE n0 s hs n s' h
    | minus => exact sim_minus ih E hE s hs n s' h
    | term => exact sim_term ih E hE s hs n s' h
    | termLoop x => exact sim_termLoop ih E hE x s hs n s' h
    | index x => exact sim_index ih E hE x s hs n s' h
    | text => exact sim_text ih E hE s hs n s' h
    | parts t f p kids => exact sim_parts ih E hE t f p kids s hs n s' h
    | whole => exact sim_whole ih E hE s hs n s' h
    | first => exact sim_first ih E hE s hs n s' h
    | object => exact sim_object ih E hE s hs n s' h
    | objLoop kids => exact sim_objLoop ih E hE kids s hs n s' h
    | word => exact sim_word ih E hE s hs n s' h
    | callLoop name kids => exact sim_callLoop ih E hE name kids s hs n s' h
    | branch => exact sim_branch ih E hE s hs n s' h
end Th
