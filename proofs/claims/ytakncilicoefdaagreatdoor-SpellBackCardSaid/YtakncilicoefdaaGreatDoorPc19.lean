/- Lemmas and contracts. Conditions: those that each lemma names. -/
import Derived.Test.YtakncilicoefdaaGreatDoorPc18
import Derived.Orders
set_option maxRecDepth 100000
set_option maxHeartbeats 4000000
namespace Go.Proofs.YtakncilicoefdaaGreatDoor
open Go Go.RowKit Go.Proofs Th
inductive ORes where
 | val (c : FV) (ch : Option (Nat × AObj))
 | pan (x : Value) (b : Option Nat)
def ORes.ch : ORes → Option (Nat × AObj)
 | .val _ ch => ch
 | .pan _ b => b.map fun b => (b, AObj.none)
def fin (n : Nat) (s : ASt) (d : Option Nat) (K : ASt → Prop) (Qp : Value → ASt → Prop) : ORes → Prop
 | .val c ch => aput n s d c (app s.st ch) K
 | .pan x none => Qp x s
 | .pan x (some b) => ∀ L : Nat, Qp x ⟨s.fr, upd s.st b (.box (List.replicate L .junk))⟩
def quietOp : Op → Bool
 | .call c => (match c.callee with
  | .builtin _ => true
  | _ => false)
 | .panic _ => false
 | _ => true
structure LoA (P : Program) (G : World → CS → Prop) (n : Nat) (o : Oper) (s : ASt) (r : ORes) : Prop where
 wr : wrOp o.op = false → r.ch = none
 ft : ∀ k x, r.ch = some (k, x) → k ∈ foot P o.op o.dst s
 q : quietOp o.op = true → ∃ c ch, r = .val c ch
 go : ∀ s2, SameOn P o.op o.dst s s2 → ∀ K Qp, fin n s2 o.dst K Qp r → aop P G n o s2 K Qp
theorem fin_mono {n : Nat} {s : ASt} {d : Option Nat} {K K' : ASt → Prop} {Qp : Value → ASt → Prop} (hK : ∀ s', K s' → K' s') {r : ORes} (h : fin n s d K Qp r) : fin n s d K' Qp r := by
 cases r with
 | val c ch =>
  cases d with
  | none => exact hK _ h
  | some d => exact ⟨h.1, hK _ h.2⟩
 | pan x b => cases b <;> exact h
theorem argsIV_same {s s2 : ASt} : ∀ {l : List Operand}, (∀ x ∈ l, valOf s2 x = valOf s x) → (∀ k n, FV.own k n ∈ l.map (valOf s) → s2.st k = s.st k) → argsIV s2 l = argsIV s l
 | [], _, _ => rfl
 | x :: r, h1, h2 => by
  have e2 : toIV s2.st (valOf s x) = toIV s.st (valOf s x) := toIV_same (fun k n e => h2 k n (by rw [← e]; exact List.mem_cons_self)); simp only [argsIV, h1 x List.mem_cons_self, e2, argsIV_same (l := r) (fun x hx => h1 x (List.mem_cons_of_mem _ hx)) (fun k n h => h2 k n (List.mem_cons_of_mem _ h))]
section
variable {P : Program} {G : World → CS → Prop} {n : Nat} {o : Oper} {s : ASt} {K : ASt → Prop} {Qp : Value → ASt → Prop}
theorem aop_lo (h : aop P G n o s K Qp) : ∃ r, fin n s o.dst K Qp r ∧ LoA P G n o s r := by
 have hval : (∀ s2 K2 Qp2, aval P o.op o.dst s2 (fun x st' => aput n s2 o.dst x st' K2) → aop P G n o s2 K2 Qp2) → aval P o.op o.dst s (fun x st' => aput n s o.dst x st' K) → ∃ r, fin n s o.dst K Qp r ∧ LoA P G n o s r := by
  intro hback hv; obtain ⟨c, ch, hK, hl⟩ := aval_lo hv; exact ⟨.val c ch, hK, hl.wr, hl.ft, fun _ => ⟨c, ch, rfl⟩, fun s2 hs K2 Qp2 hf => hback s2 K2 Qp2 (hl.go s2 hs _ hf)⟩
 unfold aop at h; split at h
 ·rename_i c ho
  split at h
  ·rename_i f hcal
   have hback : ∀ s2 K2 Qp2, acall P G f c.args.toList o.dst n s2 K2 Qp2 → aop P G n o s2 K2 Qp2 := fun s2 K2 Qp2 hh => by unfold aop; simp only [ho, hcal]; exact hh
   have hwr : wrOp o.op = true := by rw [ho]; simp [wrOp, hcal]
   have hq : quietOp o.op = false := by rw [ho]; simp [quietOp, hcal]
   have hops : ∀ x ∈ c.args.toList, x ∈ o.op.operands := fun x hx => by rw [ho]; simp [Op.operands, Call.operands]; exact Or.inr (by simpa using hx)
   have hfo : ∀ k n, FV.own k n ∈ c.args.toList.map (valOf s) → k ∈ foot P o.op o.dst s := fun k n hm => by
    rw [ho]; simp only [foot, hcal]; exact List.mem_append_left _ (owns_mem hm)
   have plain : ∀ xa, argsIV s c.args.toList = some xa → acallP P G f (some xa) o.dst n s K Qp → (∀ s2 K2 Qp2, SameOn P o.op o.dst s s2 → acallP P G f (argsIV s2 c.args.toList) o.dst n s2 K2 Qp2 → acall P G f c.args.toList o.dst n s2 K2 Qp2) → ∃ r, fin n s o.dst K Qp r ∧ LoA P G n o s r := by
    intro xa hxa hc hb2; obtain ⟨res, hC, hres⟩ := hc; have hsame : ∀ s2, SameOn P o.op o.dst s s2 → argsIV s2 c.args.toList = some xa := fun s2 hs => by
     rw [← hxa]; exact argsIV_same (fun x hx => hs.v x (hops x hx)) (fun k n hm => hs.o k (hfo k n hm))
    cases res with
    | ret v rc' => exact ⟨.val (.im v) none, hres, fun e => (by rw [hwr] at e; cases e), fun k x e => (by cases e), fun e => (by rw [hq] at e; cases e), fun s2 hs K2 Qp2 hf => hback s2 K2 Qp2 (hb2 s2 K2 Qp2 hs (by rw [hsame s2 hs]; exact ⟨_, hC, hf⟩))⟩
    | pan x => exact ⟨.pan x none, hres, fun e => (by rw [hwr] at e; cases e), fun k x e => (by cases e), fun e => (by rw [hq] at e; cases e), fun s2 hs K2 Qp2 hf => hback s2 K2 Qp2 (hb2 s2 K2 Qp2 hs (by rw [hsame s2 hs]; exact ⟨_, hC, hf⟩))⟩
   unfold acall at h; split at h
   ·rename_i hxs
    exact plain [] (by rw [hxs]; rfl) h (fun s2 K2 Qp2 _ hh => by rw [hxs] at hh ⊢; exact hh)
   rename_i x r hxs
   split at h
   ·rename_i b hx
    split at h
    ·rename_i cs hb
     unfold acallR at h; split at h
     ·rename_i rc xa hrc hxa
      obtain ⟨res, hC, hres⟩ := h; have hfb : b ∈ foot P o.op o.dst s := by rw [ho]; simp only [foot, hcal, hxs, hx]; exact List.mem_append_right _ List.mem_cons_self
      have hfc : ∀ k n, FV.own k n ∈ cs → k ∈ foot P o.op o.dst s := fun k n hm => by rw [ho]; simp only [foot, hcal, hxs, hx, hb]; exact List.mem_append_right _ (List.mem_cons_of_mem _ (owns_mem hm))
      have hgo : ∀ s2 K2 Qp2, SameOn P o.op o.dst s s2 → acallR P G f b (some rc) (some xa) o.dst n s2 K2 Qp2 → acall P G f c.args.toList o.dst n s2 K2 Qp2 := fun s2 K2 Qp2 hs hh => by
       have e1 : allIV s2.st cs = some rc := by rw [← hrc]; exact allIV_same (fun k n hm => hs.o k (hfc k n hm))
       have e2 : argsIV s2 r = some xa := by rw [← hxa]; exact argsIV_same (fun y hy => hs.v y (hops y (by rw [hxs]; exact List.mem_cons_of_mem _ hy))) (fun k n hm => hs.o k (hfo k n (by rw [hxs]; exact List.mem_cons_of_mem _ hm)))
       unfold acall; simp only [hxs, hs.v x (hops x (by rw [hxs]; exact List.mem_cons_self)), hx, hs.o b hfb, hb, e1, e2]; exact hh
      cases res with
      | ret v rc' => exact ⟨.val (.im v) (some (b, _)), hres, fun e => (by rw [hwr] at e; cases e), fun k x e => (by injection e with e; injection e with e1 e2; subst e1; exact hfb), fun e => (by rw [hq] at e; cases e), fun s2 hs K2 Qp2 hf => hback s2 K2 Qp2 (hgo s2 K2 Qp2 hs ⟨_, hC, hf⟩)⟩
      | pan x => exact ⟨.pan x (some b), hres, fun e => (by rw [hwr] at e; cases e), fun k x e => (by simp only [ORes.ch, Option.map_some] at e; injection e with e; injection e with e1 e2; subst e1; exact hfb), fun e => (by rw [hq] at e; cases e), fun s2 hs K2 Qp2 hf => hback s2 K2 Qp2 (hgo s2 K2 Qp2 hs ⟨_, hC, hf⟩)⟩
     exact h.elim
    exact h.elim
   rename_i hnp
   unfold acallP at h; split at h
   ·rename_i xa hxa
    refine plain xa (by rw [hxs]; exact hxa) (by unfold acallP; exact h) (fun s2 K2 Qp2 hs hh => ?_); rw [hxs] at hh ⊢; unfold acall; simp only; split
    ·rename_i b hx2
     rw [hs.v x (hops x (by rw [hxs]; exact List.mem_cons_self))] at hx2; exact absurd hx2 (hnp b)
    exact hh
   exact h.elim
  ·rename_i t hcal
   have hwr : wrOp o.op = true := by rw [ho]; simp [wrOp, hcal]
   have hq : quietOp o.op = false := by rw [ho]; simp [quietOp, hcal]
   have hops : ∀ x ∈ c.args.toList, x ∈ o.op.operands := fun x hx => by rw [ho]; simp [Op.operands, Call.operands]; exact Or.inr (by simpa using hx)
   have hot : Operand.tmp t ∈ o.op.operands := by rw [ho]; simp [Op.operands, Call.operands, hcal]
   have hfo : ∀ k n, FV.own k n ∈ c.args.toList.map (valOf s) → k ∈ foot P o.op o.dst s := fun k n hm => by
    rw [ho]; simp only [foot, hcal]; exact List.mem_append_left _ (owns_mem hm)
   split at h
   ·rename_i f first caps hx
    obtain ⟨h0, h⟩ := h; unfold acallP at h; split at h
    ·rename_i xa has
     obtain ⟨res, hC, hres⟩ := h; have hsame : ∀ s2, SameOn P o.op o.dst s s2 → (argsIV s2 c.args.toList).map (fun xa => xa ++ caps.toList.map IV.v) = some xa := fun s2 hs => by
      rw [← has]; congr 1; exact argsIV_same (fun x hx => hs.v x (hops x hx)) (fun k n hm => hs.o k (hfo k n hm))
     have hgo : ∀ s2 K2 Qp2, SameOn P o.op o.dst s s2 → acallP P G f (some xa) o.dst n s2 K2 Qp2 → aop P G n o s2 K2 Qp2 := fun s2 K2 Qp2 hs hh => by
      have hv : s2.fr t = .im (.v (.func (.func f) first caps)) := (hs.v _ hot).trans hx; unfold aop; simp only [ho, hcal, hv]; exact ⟨h0, by rw [hsame s2 hs]; exact hh⟩
     cases res with
     | ret v rc' => exact ⟨.val (.im v) none, hres, fun e => (by rw [hwr] at e; cases e), fun k x e => (by cases e), fun e => (by rw [hq] at e; cases e), fun s2 hs K2 Qp2 hf => hgo s2 K2 Qp2 hs ⟨_, hC, hf⟩⟩
     | pan x => exact ⟨.pan x none, hres, fun e => (by rw [hwr] at e; cases e), fun k x e => (by cases e), fun e => (by rw [hq] at e; cases e), fun s2 hs K2 Qp2 hf => hgo s2 K2 Qp2 hs ⟨_, hC, hf⟩⟩
    exact h.elim
   exact h.elim
  exact hval (fun s2 K2 Qp2 hv => by
   unfold aop; simp only [ho]; rw [ho] at hv; exact hv) (by rw [ho]; exact h)
 ·rename_i x ho
  split at h
  ·rename_i t u hx
   refine ⟨.pan (.iface t u) none, h, fun _ => rfl, fun k x e => (by cases e), fun e => (by rw [ho] at e; cases e), fun s2 hs K2 Qp2 hf => ?_⟩; unfold aop; simp only [ho, hs.v x (by rw [ho]; simp [Op.operands]), hx]; exact hf
  exact h.elim
 rename_i hnc hnp
 refine hval (fun s2 K2 Qp2 hv => ?_) h; unfold aop; split
 ·rename_i c e; exact (hnc c e).elim
 ·rename_i x e; exact (hnp x e).elim
 exact hv
end
/-! steps, in any order -/
def stepA (P : Program) (G : World → CS → Prop) (n : Nat) (ops : Array Oper) (o : Oper) (s : ASt) (K : ASt → Prop) (Qp : Value → ASt → Prop) : Prop := match aguard ops s o.guard with
 | some true => aop P G n o s K Qp
 | some false => aput n s o.dst (.im (.v undef)) s.st K
 | none => False
structure LoS (P : Program) (G : World → CS → Prop) (n : Nat) (ops : Array Oper) (o : Oper) (s : ASt) (r : ORes) : Prop where
 wr : wrOp o.op = false → r.ch = none
 ft : ∀ k x, r.ch = some (k, x) → k ∈ foot P o.op o.dst s
 q : quietOp o.op = true → ∃ c ch, r = .val c ch
 go : ∀ s2, SameOn P o.op o.dst s s2 → aguard ops s2 o.guard = aguard ops s o.guard → ∀ K Qp, fin n s2 o.dst K Qp r → stepA P G n ops o s2 K Qp
section
variable {P : Program} {G : World → CS → Prop} {n : Nat} {ops : Array Oper} {o : Oper} {s : ASt} {K K' : ASt → Prop} {Qp : Value → ASt → Prop}
theorem step_lo (h : stepA P G n ops o s K Qp) : ∃ r, fin n s o.dst K Qp r ∧ LoS P G n ops o s r := by
 unfold stepA at h; split at h
 ·rename_i hg
  obtain ⟨r, hf, hl⟩ := aop_lo h; exact ⟨r, hf, hl.wr, hl.ft, hl.q, fun s2 hs hg2 K Qp hf2 => by unfold stepA; rw [hg2, hg]; exact hl.go s2 hs K Qp hf2⟩
 ·rename_i hg
  exact ⟨.val (.im (.v undef)) none, h, fun _ => rfl, fun k x e => (by cases e), fun _ => ⟨_, _, rfl⟩, fun s2 hs hg2 K Qp hf2 => by unfold stepA; rw [hg2, hg]; exact hf2⟩
 exact h.elim
theorem SameOn.rfl' {op : Op} {d : Option Nat} (s : ASt) : SameOn P op d s s := ⟨fun _ _ => rfl, fun _ _ => rfl⟩
theorem step_mono (hK : ∀ s', K s' → K' s') (h : stepA P G n ops o s K Qp) : stepA P G n ops o s K' Qp := by
 obtain ⟨r, hf, hl⟩ := step_lo h; exact hl.go s (SameOn.rfl' s) rfl K' Qp (fin_mono hK hf)
theorem foot_same {op : Op} {d : Option Nat} {s s2 : ASt} (h : SameOn P op d s s2) : foot P op d s2 = foot P op d s := by
 have hv := h.v; have hps : ∀ ps : Array (Nat × Operand), (∀ x ∈ (ps.toList.map (·.2)).toArray, valOf s2 x = valOf s x) → (ps.toList.map fun p => valOf s2 p.2) = ps.toList.map fun p => valOf s p.2 := fun ps hh =>
  List.map_congr_left fun p hp => hh p.2 (by simp; exact ⟨p.1, by simpa using hp⟩)
 have ho := h.o; cases op with
 | box t x => simp only [foot, hv x (by simp [Op.operands])]
 | load t x =>
  have e1 := hv x (by simp [Op.operands]); simp only [foot] at ho ⊢; rw [e1]; split
  ·rename_i b o hx
   rw [ho b (by rw [hx]; exact List.mem_cons_self)]
  rfl
 | store t x y => simp only [foot, hv x (by simp [Op.operands]), hv y (by simp [Op.operands])]
 | build t ps => simp only [foot, hps ps hv]
 | buildSlice t n ps => simp only [foot, hps ps hv]
 | indexAddr t x i => simp only [foot, hv x (by simp [Op.operands])]
 | call c =>
  have e1 : c.args.toList.map (valOf s2) = c.args.toList.map (valOf s) := List.map_congr_left fun x hx => hv x (by simp [Op.operands, Call.operands]; exact Or.inr (by simpa using hx))
  simp only [foot] at ho ⊢; rw [e1]; split
  ·rfl
  rename_i hcal
  have hne : ∀ x r, c.args.toList = x :: r → valOf s2 x = valOf s x := by
   intro x r hxr; apply hv; have h1 : x ∈ c.args.toList := by rw [hxr]; exact List.mem_cons_self
   simp [Op.operands, Call.operands]; exact Or.inr (by simpa using h1)
  have ho2 : ∀ k ∈ (match c.args.toList with
   | x :: _ => (match valOf s x with
    | .ptr b _ => b :: (match s.st b with
     | .box cs => owns cs
     | _ => [])
    | _ => [])
   | [] => []), s2.st k = s.st k := by
   intro k hk; apply ho; split
   ·rename_i b e; exact (hcal b e).elim
   exact List.mem_append_right _ hk
  congr 1
  revert ho2 hne
  cases c.args.toList with
  | nil => intro _ _; rfl
  | cons x r =>
   intro hne ho2; simp only at ho2 ⊢; rw [hne x r rfl]; split
   ·rename_i b oo hx
    rw [ho2 b (by rw [hx]; exact List.mem_cons_self)]
   rfl
 | _ => rfl
theorem look_val {a : Oper} {t : Nat} (h : t ∉ a.looksAt ops) (c : FV) (st' : Nat → AObj) : (∀ x ∈ a.op.operands, valOf ⟨upd s.fr t c, st'⟩ x = valOf s x) ∧ aguard ops ⟨upd s.fr t c, st'⟩ a.guard = aguard ops s a.guard := by
 unfold Oper.looksAt at h; rw [List.mem_append, not_or] at h; refine ⟨fun x hx => ?_, ?_⟩
 ·cases x with
  | tmp u =>
   have : u ≠ t := fun e => h.1 (List.mem_filterMap.2 ⟨.tmp u, by simpa using hx, by rw [e]⟩)
   exact upd_ne _ _ this
  | _ => rfl
 unfold aguard; cases hg : a.guard with
 | none => rfl
 | some gw =>
  obtain ⟨g, want⟩ := gw; simp only; cases hd : (ops[g]?).bind (·.dst) with
  | none => rfl
  | some u =>
   have : u ≠ t := fun e => h.2 (by rw [hg]; simp only [hd]; simp [e])
   simp only [upd_ne _ _ this]
def putS (s : ASt) (dd : Option Nat) (c : FV) (st' : Nat → AObj) : ASt := match dd with
 | some t => ⟨upd s.fr t c, st'⟩
 | none => ⟨s.fr, st'⟩
theorem look_val' {a : Oper} {dd : Option Nat} (h : ∀ t, dd = some t → t ∉ a.looksAt ops) (c : FV) (st' : Nat → AObj) {s2 : ASt} (hs2 : s2 = putS s dd c st') :
  (∀ x ∈ a.op.operands, valOf s2 x = valOf s x) ∧ aguard ops s2 a.guard = aguard ops s a.guard := by
 subst hs2; cases dd with
 | none => exact ⟨fun x _ => by cases x <;> rfl, rfl⟩
 | some t => exact look_val (h t rfl) c st'
theorem aput_iff {dd : Option Nat} {c : FV} {st' : Nat → AObj} : aput n s dd c st' K ↔ (∀ t, dd = some t → t < n) ∧ K (putS s dd c st') := by
 cases dd with
 | none => exact ⟨fun h => ⟨fun t e => (by cases e), h⟩, fun h => h.2⟩
 | some t => exact ⟨fun h => ⟨fun t' e => (by injection e with e; subst e; exact h.1), h.2⟩, fun h => ⟨h.1 t rfl, h.2⟩⟩
def disj (f g : List Nat) : Bool := f.all fun k => !g.contains k
theorem disj_ne {f g : List Nat} (h : disj f g = true) {k : Nat} (hk : k ∈ f) : k ∉ g := by
 have := List.all_eq_true.1 h k hk; simpa using this
def chkD (U : List (Nat × Nat)) (i : Nat) (f : List Nat) : List (Nat × List Nat) → Prop
 | [] => True
 | (j, g) :: r => (U.contains (j, i) = true → disj g f = true) ∧ chkD U i f r
theorem chkD_iff {U : List (Nat × Nat)} {i : Nat} {f : List Nat} : ∀ {acc : List (Nat × List Nat)}, chkD U i f acc ↔ ∀ e ∈ acc, U.contains (e.1, i) = true → disj e.2 f = true
 | [] => ⟨fun _ e h => (by cases h), fun _ => trivial⟩
 | (j, g) :: r => ⟨fun h e he => by
   rcases List.mem_cons.1 he with rfl | he
   ·exact h.1
   exact chkD_iff.1 h.2 e he, fun h => ⟨h (j, g) List.mem_cons_self, chkD_iff.2 fun e he => h e (List.mem_cons_of_mem _ he)⟩⟩
def aopsD (P : Program) (G : World → CS → Prop) (n : Nat) (ops : Array Oper) (U : List (Nat × Nat)) : List Nat → List (Nat × List Nat) → ASt → (ASt → Prop) → (Value → ASt → Prop) → Prop
 | [], _, s, K, _ => K s
 | i :: r, acc, s, K, Qp => match ops[i]? with
  | some o => chkD U i (foot P o.op o.dst s) acc ∧ stepA P G n ops o s (fun s' => aopsD P G n ops U r ((i, foot P o.op o.dst s) :: acc) s' K Qp) Qp
  | none => False
theorem aopsD_acc {U : List (Nat × Nat)} : ∀ (l : List Nat) {acc acc' : List (Nat × List Nat)} {s : ASt}, (∀ e ∈ acc', e ∈ acc) → aopsD P G n ops U l acc s K Qp → aopsD P G n ops U l acc' s K Qp
 | [], _, _, _, _, h => h
 | i :: r, acc, acc', s, hs, h => by
  simp only [aopsD] at h ⊢; cases ho : ops[i]? with
  | none => rw [ho] at h; exact h
  | some o =>
   rw [ho] at h; exact ⟨chkD_iff.2 fun e he => chkD_iff.1 h.1 e (hs e he), step_mono (fun s' h' => aopsD_acc r (fun e he => (List.mem_cons.1 he).elim (fun e => e ▸ List.mem_cons_self) (fun he => List.mem_cons_of_mem _ (hs e he))) h') h.2⟩
def softOp (a : Oper) : Bool := !wrOp a.op || (match a.op with | .alloc _ => a.dst != some 1000 | _ => false)
def okPair (ops : Array Oper) (U : List (Nat × Nat)) (x y : Nat) : Bool := match ops[x]?, ops[y]? with
 | some a, some b => a.apart ops b && quietOp a.op && (quietOp b.op || softOp a) && !U.contains (y, x) && (U.contains (x, y) || !(touchOp a.op && touchOp b.op && (wrOp a.op || wrOp b.op)))
 | _, _ => false
theorem touch_foot {op : Op} {d : Option Nat} (h : touchOp op = false) (s : ASt) : foot P op d s = [] := by
 cases op <;> first | rfl | cases h
def Insens (Qp : Value → ASt → Prop) : Prop := ∀ x (s s' : ASt), s'.st 1000 = s.st 1000 → Qp x s → Qp x s'
theorem app_same {st : Nat → AObj} {ch : Option (Nat × AObj)} {k : Nat} (h : ∀ j x, ch = some (j, x) → k ≠ j) : app st ch k = st k := by
 cases ch with
 | none => rfl
 | some e => obtain ⟨j, x⟩ := e; exact upd_ne _ _ (h j x rfl)
theorem app_comm {st : Nat → AObj} {c1 c2 : Option (Nat × AObj)} (h : ∀ j x k y, c1 = some (j, x) → c2 = some (k, y) → j ≠ k) : app (app st c1) c2 = app (app st c2) c1 := by
 cases c1 with
 | none => rfl
 | some e1 =>
  cases c2 with
  | none => rfl
  | some e2 =>
   obtain ⟨j, x⟩ := e1; obtain ⟨k, y⟩ := e2; exact upd_comm st x y (h j x k y rfl rfl)
theorem fin_val {dd : Option Nat} {c : FV} {ch : Option (Nat × AObj)} {s : ASt} : fin n s dd K Qp (.val c ch) ↔ (∀ t, dd = some t → t < n) ∧ K (putS s dd c (app s.st ch)) := aput_iff
theorem aopsD_swap {U : List (Nat × Nat)} (hQ : Insens Qp) {x y : Nat} {r : List Nat} {acc : List (Nat × List Nat)} (hp : okPair ops U x y = true) (h : aopsD P G n ops U (x :: y :: r) acc s K Qp) : aopsD P G n ops U (y :: x :: r) acc s K Qp := by
 unfold okPair at hp; split at hp
 ·rename_i a b ha hb
  simp only [Bool.and_eq_true, Bool.not_eq_true'] at hp; obtain ⟨⟨⟨⟨hap, hq⟩, hsoft⟩, hyx⟩, hxy⟩ := hp; obtain ⟨p1, p2, p3⟩ := Oper.apart_spec hap; simp only [aopsD, ha, hb] at h ⊢; obtain ⟨hc, hst⟩ := h; obtain ⟨rx, hfx, lx⟩ := step_lo hst; obtain ⟨cx, chx, rfl⟩ := lx.q hq; rw [fin_val] at hfx; obtain ⟨hnx, hcy, hsy⟩ := hfx; obtain ⟨ry, hfy, ly⟩ := step_lo hsy; generalize hs1 : putS s a.dst cx (app s.st chx) = s1 at *; have hst1 : s1.st = app s.st chx := by rw [← hs1]; cases a.dst <;> rfl
  -- the feet are apart
  have hdis : chx ≠ none ∨ ry.ch ≠ none → ∀ k, k ∈ foot P a.op a.dst s → k ∉ foot P b.op b.dst s1 := by
   intro hor k hk; have hwr : wrOp a.op = true ∨ wrOp b.op = true := by
    rcases hor with h1 | h1
    ·exact Or.inl (by cases hw : wrOp a.op with
      | true => rfl
      | false => exact absurd (lx.wr hw) h1)
    exact Or.inr (by cases hw : wrOp b.op with
     | true => rfl
     | false => exact absurd (ly.wr hw) h1)
   rw [Bool.or_eq_true] at hxy; rcases hxy with h2 | h2
   ·exact disj_ne ((chkD_iff.1 hcy) _ List.mem_cons_self h2) hk
   simp only [Bool.not_eq_true', Bool.and_eq_false_iff] at h2; rcases h2 with (h2 | h2) | h2
   ·rw [touch_foot h2] at hk; cases hk
   ·rw [touch_foot h2]; simp
   simp only [Bool.or_eq_false_iff] at h2; rcases hwr with h3 | h3
   ·rw [h2.1] at h3; cases h3
   rw [h2.2] at h3; cases h3
  -- y, without x
  have hly := look_val' (ops := ops) (s := s) (a := b) (dd := a.dst) p1 cx (app s.st chx) (s2 := s1) hs1.symm; have hsy0 : SameOn P b.op b.dst s1 s := ⟨fun z hz => (hly.1 z hz).symm, fun k hk => by
   rw [hst1]; refine (app_same fun j z e hkj => ?_).symm; subst hkj; exact hdis (Or.inl (by rw [e]; simp)) k (lx.ft k z e) hk⟩
  have hfy0 := foot_same hsy0; refine ⟨?_, ?_⟩
  ·rw [hfy0]
   exact chkD_iff.2 fun e he => chkD_iff.1 hcy e (List.mem_cons_of_mem _ he)
  refine ly.go s hsy0 hly.2.symm _ _ ?_; cases ry with
  | pan z chy =>
   have hsf : softOp a = true := by
    rw [Bool.or_eq_true] at hsoft; rcases hsoft with h9 | h9
    ·obtain ⟨_, _, h9⟩ := ly.q h9; cases h9
    exact h9
   have hloc : ∀ j w, chx = some (j, w) → 1000 ≠ j := by
    intro j w e hj; subst hj; have hw : wrOp a.op = true := by
     cases hw : wrOp a.op with
     | true => rfl
     | false => have h9 := lx.wr hw; rw [show chx = none from h9] at e; cases e
    have hft := lx.ft _ w e; unfold softOp at hsf; rw [hw] at hsf; simp only [Bool.not_true, Bool.false_or] at hsf; split at hsf
    ·rename_i t hop
     rw [hop] at hft; simp only [foot, Option.mem_toList] at hft; rw [hft] at hsf; simp at hsf
    cases hsf
   cases chy with
   | none =>
    refine hQ z s1 s ?_ hfy; rw [hst1]; exact (app_same hloc).symm
   | some j =>
    intro L; refine hQ z _ _ ?_ (hfy L); show upd s.st j _ 1000 = upd s1.st j _ 1000
    by_cases hj : 1000 = j
    ·subst hj; rw [upd_same, upd_same]
    rw [upd_ne _ _ hj, upd_ne _ _ hj, hst1]; exact (app_same hloc).symm
  | val cy chy =>
   rw [fin_val] at hfy ⊢; refine ⟨hfy.1, ?_⟩; generalize hs2 : putS s b.dst cy (app s.st chy) = s2; have hst2 : s2.st = app s.st chy := by rw [← hs2]; cases b.dst <;> rfl
   have hlx := look_val' (ops := ops) (s := s) (a := a) (dd := b.dst) p3 cy (app s.st chy) (s2 := s2) hs2.symm; have hsx : SameOn P a.op a.dst s s2 := ⟨hlx.1, fun k hk => by
    rw [hst2]; refine app_same fun j z e hkj => ?_
    subst hkj; exact hdis (Or.inr (by show chy ≠ none; rw [e]; simp)) k hk (ly.ft k z e)⟩
   have hfx0 := foot_same hsx; refine ⟨?_, ?_⟩
   ·rw [hfx0]
    exact chkD_iff.2 fun e he => by
     rcases List.mem_cons.1 he with rfl | he
     ·intro h9; rw [hyx] at h9; cases h9
     exact chkD_iff.1 hc e he
   refine lx.go s2 hsx hlx.2 _ _ ?_; rw [fin_val]; refine ⟨hnx, ?_⟩; have hcomm : putS s2 a.dst cx (app s2.st chx) = putS s1 b.dst cy (app s1.st chy) := by
    rw [hst2, hst1, app_comm (c1 := chy) (c2 := chx) (fun j u k v e1 e2 hjk => by
     subst hjk; exact hdis (Or.inl (by rw [e2]; simp)) j (lx.ft j v e2) (ly.ft j u e1)), ← hs1, ← hs2]
    cases hda : a.dst with
    | none => cases b.dst <;> rfl
    | some t =>
     cases hdb : b.dst with
     | none => rfl
     | some u =>
      simp only [putS]; rw [upd_comm _ _ _ (fun e => p2 t hda (by rw [hdb, e]))]
   rw [hcomm]; refine aopsD_acc r (fun e he => ?_) hfy.2; rw [hfx0, hfy0] at he; rcases List.mem_cons.1 he with rfl | he
   ·exact List.mem_cons_of_mem _ List.mem_cons_self
   rcases List.mem_cons.1 he with rfl | he
   ·exact List.mem_cons_self
   exact List.mem_cons_of_mem _ (List.mem_cons_of_mem _ he)
 cases hp
theorem aopsD_front {U : List (Nat × Nat)} (hQ : Insens Qp) {y : Nat} : ∀ (pre : List Nat) {post : List Nat} {acc : List (Nat × List Nat)} {s : ASt}, (∀ x ∈ pre, okPair ops U x y = true) → aopsD P G n ops U (pre ++ y :: post) acc s K Qp → aopsD P G n ops U (y :: (pre ++ post)) acc s K Qp
 | [], _, _, _, _, h => h
 | x :: pre, post, acc, s, hp, h => by
  refine aopsD_swap hQ (hp x List.mem_cons_self) ?_; rw [List.cons_append, aopsD] at h; rw [aopsD]; split at h
  ·rename_i a ha
   exact ⟨h.1, step_mono (fun s' hs => aopsD_front hQ pre (fun z hz => hp z (List.mem_cons_of_mem _ hz)) hs) h.2⟩
  exact h.elim
end
/-! what comes before what -/
def deps (o : Oper) : List Nat := (o.after.toList.filter (Region.binds .any ·)).map (·.on)
def rowGo (x : Nat) : List Oper → List Bool → List Bool
 | [], acc => acc
 | o :: r, acc => rowGo x r (acc ++ [(deps o).any fun z => z == x || acc.getD z false])
theorem rowGo_pre (x : Nat) : ∀ (l : List Oper) (acc : List Bool), ∃ t, rowGo x l acc = acc ++ t ∧ t.length = l.length
 | [], acc => ⟨[], by simp [rowGo], rfl⟩
 | o :: r, acc => by
  obtain ⟨t, h1, h2⟩ := rowGo_pre x r (acc ++ [(deps o).any fun z => z == x || acc.getD z false]); exact ⟨((deps o).any fun z => z == x || acc.getD z false) :: t, by rw [rowGo, h1]; simp, by simp [h2]⟩
theorem rowGo_at (x : Nat) (l : List Oper) : ∀ (acc : List Bool) (j : Nat) (o : Oper), l[j]? = some o → (rowGo x l acc)[acc.length + j]? = some ((deps o).any fun z => z == x || ((rowGo x l acc).take (acc.length + j)).getD z false) := by
 induction l with
 | nil => intro acc j o h; simp at h
 | cons o r ih =>
  intro acc j o' h; cases j with
  | zero =>
   simp only [List.getElem?_cons_zero, Option.some.injEq] at h; subst h; obtain ⟨t, h1, h2⟩ := rowGo_pre x r (acc ++ [(deps o).any fun z => z == x || acc.getD z false]); rw [rowGo, h1, Nat.add_zero, List.append_assoc, List.getElem?_append_right (Nat.le_refl _), Nat.sub_self, List.take_left]; rfl
  | succ j =>
   have := ih (acc ++ [(deps o).any fun z => z == x || acc.getD z false]) j o' (by simpa using h); rw [List.length_append, List.length_singleton, show acc.length + 1 + j = acc.length + (j + 1) by omega] at this; exact this
def ordRow (ops : Array Oper) (x : Nat) : List Bool := rowGo x ops.toList []
theorem ord_done {ops : Array Oper} {L : Nat → Prop} (hcl : ∀ i o, ops[i]? = some o → L i → ∀ z ∈ deps o, L z) (x : Nat) : ∀ (y : Nat) (o : Oper), ops[y]? = some o → (∀ z ∈ deps o, L z) → (ordRow ops x).getD y false = true → L x := by
 intro y; induction y using Nat.strongRecOn with
 | _ y ih =>
  intro o ho hd hr; have hsp := rowGo_at x ops.toList [] y o (by simpa using ho); simp only [List.length_nil, Nat.zero_add] at hsp; rw [List.getD_eq_getElem?_getD, ordRow, hsp] at hr; simp only [Option.getD_some, List.any_eq_true, Bool.or_eq_true, beq_iff_eq] at hr; obtain ⟨z, hz, hzx | hzr⟩ := hr
  ·exact hzx ▸ hd z hz
  have hzy : z < y := by
   rcases Nat.lt_or_ge z y with h1 | h1
   ·exact h1
   rw [List.getD_eq_getElem?_getD, List.getElem?_eq_none (by rw [List.length_take]; omega)] at hzr; cases hzr
  have hlt : z < ops.size := Nat.lt_trans hzy (Array.getElem?_eq_some_iff.1 ho).1; refine ih z hzy _ (Array.getElem?_eq_getElem hlt) (hcl z _ (Array.getElem?_eq_getElem hlt) (hd z hz)) ?_; rw [List.getD_eq_getElem?_getD, List.getElem?_take_of_lt hzy] at hzr; rw [List.getD_eq_getElem?_getD]; exact hzr
def pairsOK (ops : Array Oper) (U : List (Nat × Nat)) : List Nat → Bool
 | [] => true
 | x :: r => (r.all fun y => (ordRow ops x).getD y false || okPair ops U x y) && pairsOK ops U r
def nodupB : List Nat → Bool
 | [] => true
 | x :: r => !r.contains x && nodupB r
def drawOK (ops : Array Oper) (π : List Nat) (U : List (Nat × Nat)) : Bool :=
 π.length == ops.size && π.all (· < ops.size) && (List.range ops.size).all (π.contains ·) && nodupB π && ((List.range ops.size).all fun i => match ops[i]? with | some o => (deps o).all (· < i) | none => true) && pairsOK ops U π
def PW (ops : Array Oper) (U : List (Nat × Nat)) (l : List Nat) : Prop := l.Pairwise fun x y => (ordRow ops x).getD y false = true ∨ okPair ops U x y = true
theorem pairsOK_pw {ops : Array Oper} {U : List (Nat × Nat)} : ∀ {l : List Nat}, pairsOK ops U l = true → PW ops U l
 | [], _ => List.Pairwise.nil
 | x :: r, h => by
  simp only [pairsOK, Bool.and_eq_true, List.all_eq_true, Bool.or_eq_true] at h; exact List.Pairwise.cons h.1 (pairsOK_pw h.2)
theorem nodupB_nd : ∀ {l : List Nat}, nodupB l = true → l.Nodup
 | [], _ => List.nodup_nil
 | x :: r, h => by
  simp only [nodupB, Bool.and_eq_true, Bool.not_eq_true'] at h; exact List.nodup_cons.2 ⟨by simpa using h.1, nodupB_nd h.2⟩
section
variable {P : Program} {X : Ctx} {n : Nat} {ops : Array Oper} {U : List (Nat × Nat)} {Q : AExit → ASt → Prop}
theorem draw_sound (hn : n ≤ X.N) (hQ : Insens fun x s => Q (.panic x) s) (hback : ∀ i o, ops[i]? = some o → ∀ z ∈ deps o, z < i) : ∀ (rem : List Nat) (fuel : Nat) (listed : Array Bool) (acc : List (Nat × List Nat)) (s : ASt) (a : Act) (W : World),
  rem.length = fuel → listed.size = ops.size → (∀ i, i < ops.size → (listed.getD i true = false ↔ i ∈ rem)) → (∀ i ∈ rem, i < ops.size) → rem.Nodup → PW ops U rem → (∀ i o, ops[i]? = some o → listed.getD i false = true → ∀ z ∈ deps o, listed.getD z false = true) →
  Rel X s a W → aopsD P X.G n ops U rem acc s (fun s' => Q .normal s') (fun x s' => Q (.panic x) s') → wpAny P .any ops (conc X Q) fuel listed a W := by
 intro rem fuel; induction fuel generalizing rem with
 | zero =>
  intro listed acc s a W hl hsz hli hlt hnd hpw hcl hR hop; obtain rfl : rem = [] := List.eq_nil_of_length_eq_zero hl; refine ⟨List.eq_nil_iff_forall_not_mem.2 fun i hi => ?_, ⟨s, hR, hop⟩⟩; obtain ⟨h1, o, ho, _⟩ := mem_ready.1 hi; exact absurd ((hli i (Array.getElem?_eq_some_iff.1 ho).1).1 h1) List.not_mem_nil
 | succ fuel ih =>
  intro listed acc s a W hl hsz hli hlt hnd hpw hcl hR hop; have hboth : ∀ i, i < ops.size → (listed.getD i false = true ↔ i ∉ rem) := fun i hi => by
   rw [← hli i hi]; simp only [Array.getD_eq_getD_getElem?, Array.getElem?_eq_getElem (show i < listed.size by omega), Option.getD_some]; cases listed[i] <;> simp
  have hdeps : ∀ (o : Oper), (∀ e ∈ o.after, Region.binds .any e = true → listed.getD e.on false = true) ↔ ∀ z ∈ deps o, listed.getD z false = true := fun o => by
   unfold deps; constructor
   ·intro h z hz
    obtain ⟨e, he, rfl⟩ := List.mem_map.1 hz; obtain ⟨he, hb⟩ := List.mem_filter.1 he; exact h e (by simpa using he) hb
   intro h e he hb; exact h e.on (List.mem_map.2 ⟨e, List.mem_filter.2 ⟨by simpa using he, hb⟩, rfl⟩)
  refine ⟨fun hnr => ?_, fun i hi => ?_⟩
  ·exfalso
   have hex : ∃ i, i ∈ rem := by
    cases rem with
    | nil => cases hl
    | cons x r => exact ⟨x, List.mem_cons_self⟩
   obtain ⟨i, hi⟩ := hex; induction i using Nat.strongRecOn with
   | _ i ihi =>
    by_cases hm : ∃ j, j < i ∧ j ∈ rem
    ·obtain ⟨j, hj, hjr⟩ := hm
     exact ihi j hj hjr
    have hilt := hlt i hi; have : i ∈ Region.ready .any ops listed := mem_ready.2 ⟨(hli i hilt).2 hi, _, Array.getElem?_eq_getElem hilt, (hdeps _).2 fun z hz => by
     have hzi := hback i _ (Array.getElem?_eq_getElem hilt) z hz; exact (hboth z (by omega)).2 fun hzr => hm ⟨z, hzi, hzr⟩⟩
    rw [hnr] at this; cases this
  obtain ⟨h1, o, ho, hall⟩ := mem_ready.1 hi; have hilt := (Array.getElem?_eq_some_iff.1 ho).1; have him := (hli i hilt).1 h1; obtain ⟨pre, post, rfl⟩ := List.append_of_mem him; have hdo := (hdeps o).1 hall; have hpre : ∀ x ∈ pre, okPair ops U x i = true := fun x hx => by
   have := (List.pairwise_append.1 hpw).2.2 x hx i List.mem_cons_self; refine this.resolve_left fun hord => ?_
   have hxd := ord_done (L := fun z => listed.getD z false = true) hcl x i o ho hdo hord; exact (hboth x (hlt x (List.mem_append_left _ hx))).1 hxd (List.mem_append_left _ hx)
  have hfr := aopsD_front hQ pre hpre hop; rw [aopsD, ho] at hfr; obtain ⟨_, hst⟩ := hfr; have hnext : ∀ s' a' W', Rel X s' a' W' → aopsD P X.G n ops U (pre ++ post) ((i, foot P o.op o.dst s) :: acc) s' (fun s' => Q .normal s') (fun x s' => Q (.panic x) s') → wpAny P .any ops (conc X Q) fuel (listed.setIfInBounds i true) a' W' := by
   intro s' a' W' hR' hop'; have hmem : ∀ j, j ∈ pre ++ post ↔ (j ∈ pre ++ i :: post ∧ j ≠ i) := fun j => by
    have hnd' : i ∉ pre ∧ i ∉ post := by
     have := List.nodup_append.1 hnd; exact ⟨fun h => this.2.2 i h i List.mem_cons_self rfl, (List.nodup_cons.1 this.2.1).1⟩
    simp only [List.mem_append, List.mem_cons]; constructor
    ·intro h
     exact ⟨h.imp id Or.inr, fun e => by subst e; exact h.elim hnd'.1 hnd'.2⟩
    rintro ⟨h | h | h, hne⟩
    ·exact Or.inl h
    ·exact absurd h hne
    exact Or.inr h
   have hget : ∀ j d, (listed.setIfInBounds i true).getD j d = if j = i then true else listed.getD j d := fun j d => by
    simp only [Array.getD_eq_getD_getElem?, Array.getElem?_setIfInBounds]; by_cases hj : j = i
    ·subst hj; rw [if_pos rfl, if_pos rfl, if_pos (by omega)]; rfl
    rw [if_neg (Ne.symm hj), if_neg hj]
   have hsub : (pre ++ post).Sublist (pre ++ i :: post) := List.Sublist.append_left (List.sublist_cons_self i post) pre; refine ih (pre ++ post) (listed.setIfInBounds i true) _ s' a' W' (by simp at hl ⊢; omega) (by simpa using hsz) (fun j hj => ?_) (fun j hj => hlt j ((hmem j).1 hj).1) (hnd.sublist hsub) (hpw.sublist hsub) (fun j o' ho' hj z hz => ?_) hR' hop'
   ·rw [hget, hmem]
    by_cases hji : j = i
    ·subst hji; simp
    rw [if_neg hji, hli j hj]; exact ⟨fun h => ⟨h, hji⟩, fun h => h.1⟩
   rw [hget] at hj ⊢; by_cases hzi : z = i
   ·rw [if_pos hzi]
   rw [if_neg hzi]; by_cases hji : j = i
   ·subst hji
    rw [ho] at ho'; injection ho' with ho'; subst ho'; exact hdo z hz
   rw [if_neg hji] at hj; exact hcl j o' ho' hj z hz
  unfold wpOp; rw [ho]; obtain ⟨E, S, hRE⟩ := hR; unfold stepA at hst; split at hst
  ·rename_i hg
   simp only; rw [if_pos (guard_sound hRE hg rfl)]; exact Or.inl (Oper.wp_mono (fun a' W' ⟨s', hR', hK⟩ => hnext s' a' W' hR' hK) (aop_sound hn hRE hst))
  ·rename_i hg
   simp only; rw [if_neg (by rw [guard_sound hRE hg rfl]; simp)]; obtain ⟨s', hR', hK⟩ := put_any (c := .im (.v undef)) (u := undef) hn hRE (Rep.v undef) hst; exact hnext s' _ _ hR' hK
  exact hst.elim
theorem Rel.drawn {s : ASt} {a : Act} {W : World} (h : Rel X s a W) : Rel X s a { W with drawn := W.drawn + 1 } := by
 obtain ⟨E, S, h⟩ := h; exact ⟨E, S, h.core (fun _ => False) s.st E S _ (fun _ _ => ⟨rfl, rfl, rfl⟩) rfl (fun _ hj => hj.elim) rfl rfl rfl (Nat.le_refl _) (fun _ _ _ => rfl) (fun _ _ _ => rfl) (fun _ _ h => h) (fun _ _ h => Or.inl h) h.Sb (fun _ hj => hj.elim) (fun _ _ hj => hj.elim) (fun _ _ _ hj => hj.elim)⟩
class PanicOK (Q : AExit → ASt → Prop) : Prop where
 ins : Insens fun x s => Q (.panic x) s
instance {K : ASt → Prop} {Q : AExit → ASt → Prop} [h : PanicOK Q] : PanicOK (AThen K Q) := ⟨h.ins⟩
instance {id : Nat} {Q : AExit → ASt → Prop} [h : PanicOK Q] : PanicOK (ABlock id Q) := ⟨h.ins⟩
theorem AW.draw {id : Nat} {s : ASt} (n : Nat) (hn : n ≤ X.N) (π : List Nat) (U : List (Nat × Nat)) [hQ : PanicOK Q] (hm : P.follows .mixedOrders = true) (hd : drawOK ops π U = true) (h : aopsD P X.G n ops U π [] s (fun s' => Q .normal s') (fun x s' => Q (.panic x) s')) : AW P X (.region id ops true) Q s := fun a W hR => by
 simp only [drawOK, Bool.and_eq_true, beq_iff_eq, List.all_eq_true, decide_eq_true_eq] at hd; obtain ⟨⟨⟨⟨⟨h1, h2⟩, h3⟩, h4⟩, h5⟩, h6⟩ := hd; refine wp_region_any hm ?_; refine draw_sound hn hQ.ins (fun i o ho z hz => ?_) π ops.size _ [] s a _ h1 (by simp) (fun i hi => ?_) h2 (nodupB_nd h4) (pairsOK_pw h6) (fun i o _ hj => ?_) hR.drawn h
 ·have := h5 i (List.mem_range.2 (Array.getElem?_eq_some_iff.1 ho).1)
  rw [ho] at this; simpa using List.all_eq_true.1 this z hz
 ·have : (Array.replicate ops.size false).getD i true = false := by simp [Array.getD, hi]
  rw [this]; exact ⟨fun _ => by simpa using h3 i (List.mem_range.2 hi), fun _ => rfl⟩
 by_cases hi : i < ops.size <;> simp [Array.getD, hi] at hj
end
open Go Go.RowKit Go.Proofs Th
theorem bare_of {k : Int} {s : ByteArray} {m e : Int} {l : List NJ} {a : List ByteArray} (h : bareJ (.mk k s m e l a) = true) : (namedK k = true ∨ s = ⟨#[]⟩) ∧ (k = 2 ∨ (m = 0 ∧ e = 0)) ∧ ((k = 6 ∨ k = 24) ∨ a = []) := by
 unfold bareJ at h; simp only [Bool.and_eq_true, Bool.or_eq_true, decide_eq_true_eq, List.isEmpty_iff] at h; exact ⟨h.1.1, h.1.2, h.2⟩
theorem l1 {l : List NJ} (h : l.length = 1) : ∃ x0, l = [x0] := by
 match l, h with
 | [x0], _ => exact ⟨x0, rfl⟩
theorem l2 {l : List NJ} (h : l.length = 2) : ∃ x0 x1, l = [x0, x1] := by
 match l, h with
 | [x0, x1], _ => exact ⟨x0, x1, rfl⟩
theorem l3 {l : List NJ} (h : l.length = 3) : ∃ x0 x1 x2, l = [x0, x1, x2] := by
 match l, h with
 | [x0, x1, x2], _ => exact ⟨x0, x1, x2, rfl⟩
theorem l4 {l : List NJ} (h : l.length = 4) : ∃ x0 x1 x2 x3, l = [x0, x1, x2, x3] := by
 match l, h with
 | [x0, x1, x2, x3], _ => exact ⟨x0, x1, x2, x3, rfl⟩
theorem tg_ge (ks : List Int) (ts : List ByteArray) (i : Nat) : (ts.getD i ⟨#[]⟩).size ≤ (tgJ ks ts i).size := by
 unfold tgJ; split
 ·exact Nat.le_refl _
 rw [paren_size]; omega
theorem sep_ge (g : ByteArray) : ∀ (ts : List ByteArray), ∀ x ∈ ts, x.size ≤ (sepB g ts).size
 | [], x, h => by cases h
 | [y], x, h => by rw [List.mem_singleton.1 h]; exact Nat.le_refl _
 | y :: z :: r, x, h => by
  show _ ≤ (y ++ g ++ sepB g (z :: r)).size
  rw [ByteArray.size_append, ByteArray.size_append]; rcases List.mem_cons.1 h with rfl | h
  ·omega
  have := sep_ge g (z :: r) x h; omega
theorem obj_ge : ∀ (f : Bool) (ts : List ByteArray), ts.length % 2 = 0 → ∀ x ∈ ts, x.size ≤ (objT f ts).size
 | _, [], _, x, h => by cases h
 | _, [_], h, _, _ => by simp at h
 | f, k :: v :: r, hl, x, h => by
  have ih := obj_ge false r (by simp only [List.length_cons] at hl; omega); unfold objT; simp only [ByteArray.size_append, paren_size]; rcases List.mem_cons.1 h with rfl | h
  ·omega
  rcases List.mem_cons.1 h with rfl | h
  ·omega
  have := ih x h; omega
theorem kid_size {k : Int} {s : ByteArray} {m e : Int} {l : List NJ} {a : List ByteArray} (h4 : k ≠ 4) (hf : fitJ (.mk k s m e l a) = true) : ∀ x ∈ l, (spJ x).size ≤ (spJ (.mk k s m e l a)).size := by
 intro x hx; by_cases k1 : k = 1
 ·subst k1
  have hl : l = [] := by simp [fitJ] at hf; exact hf
  rw [hl] at hx; cases hx
 by_cases k26 : k = 26
 ·subst k26
  have hl : l = [] := by simp [fitJ] at hf; exact hf
  rw [hl] at hx; cases hx
 by_cases k2 : k = 2
 ·subst k2
  have hl : l = [] := by simp [fitJ] at hf; exact hf.1.1
  rw [hl] at hx; cases hx
 by_cases k3 : k = 3
 ·subst k3
  have hl : l = [] := by simp [fitJ] at hf; exact hf.1
  rw [hl] at hx; cases hx
 by_cases k5 : k = 5
 ·subst k5
  have hl : l.length = 2 := by simp [fitJ] at hf; exact hf
  obtain ⟨x0, x1, rfl⟩ := l2 hl; have tg0 := tg_ge (List.map kindJ [x0, x1]) [spJ x0, spJ x1] 0; have tg1 := tg_ge (List.map kindJ [x0, x1]) [spJ x0, spJ x1] 1; simp only [List.getD_cons_zero, List.getD_cons_succ] at tg0 tg1; rw [spJ]; simp only [Int.reduceEq, if_true, if_false, or_false, spL, List.getD_cons_zero, List.getD_cons_succ, List.tail_cons, sepB, ByteArray.size_append]; simp only [List.mem_cons, List.not_mem_nil, or_false] at hx; rcases hx with rfl | rfl <;> omega
 by_cases k6 : k = 6
 ·subst k6
  obtain ⟨hl, ha⟩ := bareA hf rfl; rcases ha with rfl | rfl | rfl
  ·obtain ⟨x0, x1, rfl⟩ := l2 hl
   have tg0 := tg_ge (List.map kindJ [x0, x1]) [spJ x0, spJ x1] 0; have tg1 := tg_ge (List.map kindJ [x0, x1]) [spJ x0, spJ x1] 1; simp only [List.getD_cons_zero, List.getD_cons_succ] at tg0 tg1; rw [spJ]; simp only [Int.reduceEq, if_true, if_false, or_false, spL, List.getD_cons_zero, List.getD_cons_succ, List.tail_cons, sepB, ByteArray.size_append, show [fromB].head? = some fromB from rfl, show ¬ [fromB].getLast? = some toB by decide, List.length_cons, List.length_nil, Nat.add_sub_cancel]; simp only [List.mem_cons, List.not_mem_nil, or_false] at hx; rcases hx with rfl | rfl <;> omega
  ·obtain ⟨x0, x1, rfl⟩ := l2 hl
   have tg0 := tg_ge (List.map kindJ [x0, x1]) [spJ x0, spJ x1] 0; have tg1 := tg_ge (List.map kindJ [x0, x1]) [spJ x0, spJ x1] 1; simp only [List.getD_cons_zero, List.getD_cons_succ] at tg0 tg1; rw [spJ]; simp only [Int.reduceEq, if_true, if_false, or_false, spL, List.getD_cons_zero, List.getD_cons_succ, List.tail_cons, sepB, ByteArray.size_append, show ¬ [toB].head? = some fromB by decide, show [toB].getLast? = some toB from rfl, List.length_cons, List.length_nil, Nat.add_sub_cancel]; simp only [List.mem_cons, List.not_mem_nil, or_false] at hx; rcases hx with rfl | rfl <;> omega
  obtain ⟨x0, x1, x2, rfl⟩ := l3 hl; have tg0 := tg_ge (List.map kindJ [x0, x1, x2]) [spJ x0, spJ x1, spJ x2] 0; have tg1 := tg_ge (List.map kindJ [x0, x1, x2]) [spJ x0, spJ x1, spJ x2] 1; simp only [List.getD_cons_zero, List.getD_cons_succ] at tg0 tg1; rw [spJ]; simp only [Int.reduceEq, if_true, if_false, or_false, spL, List.getD_cons_zero, List.getD_cons_succ, List.tail_cons, sepB, ByteArray.size_append, show [fromB, toB].head? = some fromB from rfl, show [fromB, toB].getLast? = some toB from rfl, List.length_cons, List.length_nil, Nat.add_sub_cancel]; simp only [List.mem_cons, List.not_mem_nil, or_false] at hx; rcases hx with rfl | rfl | rfl <;> omega
 by_cases k7 : k = 7
 ·subst k7
  have hl : l.length = 1 := by simp [fitJ] at hf; exact hf
  obtain ⟨x0, rfl⟩ := l1 hl; have tg0 := tg_ge (List.map kindJ [x0]) [spJ x0] 0; have tg1 := tg_ge (List.map kindJ [x0]) [spJ x0] 1; simp only [List.getD_cons_zero, List.getD_cons_succ, List.getD_nil] at tg0 tg1; rw [spJ]; simp only [Int.reduceEq, if_true, if_false, or_false, spL, List.getD_cons_zero, List.getD_cons_succ, List.tail_cons, sepB, ByteArray.size_append]; simp only [List.mem_cons, List.not_mem_nil, or_false] at hx; rcases hx with rfl <;> omega
 by_cases k8 : k = 8
 ·subst k8
  have hl : l.length = 2 := by simp [fitJ] at hf; exact hf
  obtain ⟨x0, x1, rfl⟩ := l2 hl; rw [show spJ (.mk 8 s m e [x0, x1] a) = ⟨#[40]⟩ ++ spJ x0 ++ ⟨#[32]⟩ ++ signB 8 s ++ ⟨#[32]⟩ ++ spJ x1 ++ ⟨#[41]⟩ by rw [spJ]; rfl]; simp only [ByteArray.size_append]; simp only [List.mem_cons, List.not_mem_nil, or_false] at hx; rcases hx with rfl | rfl <;> omega
 by_cases k9 : k = 9
 ·subst k9
  have hl : l.length = 2 := by simp [fitJ] at hf; exact hf
  obtain ⟨x0, x1, rfl⟩ := l2 hl; rw [show spJ (.mk 9 s m e [x0, x1] a) = ⟨#[40]⟩ ++ spJ x0 ++ ⟨#[32]⟩ ++ signB 9 s ++ ⟨#[32]⟩ ++ spJ x1 ++ ⟨#[41]⟩ by rw [spJ]; rfl]; simp only [ByteArray.size_append]; simp only [List.mem_cons, List.not_mem_nil, or_false] at hx; rcases hx with rfl | rfl <;> omega
 by_cases k10 : k = 10
 ·subst k10
  have hl : l.length = 2 := by simp [fitJ] at hf; exact hf.1
  obtain ⟨x0, x1, rfl⟩ := l2 hl; rw [show spJ (.mk 10 s m e [x0, x1] a) = ⟨#[40]⟩ ++ spJ x0 ++ ⟨#[32]⟩ ++ signB 10 s ++ ⟨#[32]⟩ ++ spJ x1 ++ ⟨#[41]⟩ by rw [spJ]; rfl]; simp only [ByteArray.size_append]; simp only [List.mem_cons, List.not_mem_nil, or_false] at hx; rcases hx with rfl | rfl <;> omega
 by_cases k11 : k = 11
 ·subst k11
  have hl : l.length = 2 := by simp [fitJ] at hf; exact hf
  obtain ⟨x0, x1, rfl⟩ := l2 hl; rw [show spJ (.mk 11 s m e [x0, x1] a) = ⟨#[40]⟩ ++ spJ x0 ++ ⟨#[32]⟩ ++ signB 11 s ++ ⟨#[32]⟩ ++ spJ x1 ++ ⟨#[41]⟩ by rw [spJ]; rfl]; simp only [ByteArray.size_append]; simp only [List.mem_cons, List.not_mem_nil, or_false] at hx; rcases hx with rfl | rfl <;> omega
 by_cases k12 : k = 12
 ·subst k12
  have hl : l.length = 2 := by simp [fitJ] at hf; exact hf
  obtain ⟨x0, x1, rfl⟩ := l2 hl; rw [show spJ (.mk 12 s m e [x0, x1] a) = ⟨#[40]⟩ ++ spJ x0 ++ ⟨#[32]⟩ ++ signB 12 s ++ ⟨#[32]⟩ ++ spJ x1 ++ ⟨#[41]⟩ by rw [spJ]; rfl]; simp only [ByteArray.size_append]; simp only [List.mem_cons, List.not_mem_nil, or_false] at hx; rcases hx with rfl | rfl <;> omega
 by_cases k13 : k = 13
 ·subst k13
  have hl : l.length = 2 := by simp [fitJ] at hf; exact hf
  obtain ⟨x0, x1, rfl⟩ := l2 hl; rw [show spJ (.mk 13 s m e [x0, x1] a) = ⟨#[40]⟩ ++ spJ x0 ++ ⟨#[32]⟩ ++ signB 13 s ++ ⟨#[32]⟩ ++ spJ x1 ++ ⟨#[41]⟩ by rw [spJ]; rfl]; simp only [ByteArray.size_append]; simp only [List.mem_cons, List.not_mem_nil, or_false] at hx; rcases hx with rfl | rfl <;> omega
 by_cases k14 : k = 14
 ·subst k14
  have hl : l.length = 1 := by simp [fitJ] at hf; exact hf
  obtain ⟨x0, rfl⟩ := l1 hl; rw [spJ]; simp only [Int.reduceEq, if_true, if_false, or_false, spL, List.getD_cons_zero, List.getD_cons_succ, List.tail_cons, sepB, ByteArray.size_append]; simp only [List.mem_cons, List.not_mem_nil, or_false] at hx; rcases hx with rfl <;> omega
 by_cases k15 : k = 15
 ·subst k15
  have hl : l.length = 0 ∨ l.length = 1 := by simp [fitJ] at hf; omega
  rcases hl with hl | hl
  ·rw [List.eq_nil_of_length_eq_zero hl] at hx; cases hx
  obtain ⟨x0, rfl⟩ := l1 hl; rw [spJ]; simp only [Int.reduceEq, if_true, if_false, or_false, spL, List.getD_cons_zero, List.getD_cons_succ, List.tail_cons, sepB, ByteArray.size_append]; simp only [List.mem_cons, List.not_mem_nil, or_false] at hx; rcases hx with rfl <;> omega
 by_cases k16 : k = 16
 ·subst k16
  have hx2 : spJ x ∈ spL l := by rw [spL_map]; exact List.mem_map_of_mem hx
  have hl : (spL l).length % 2 = 0 := by rw [spL_len]; simpa [fitJ] using hf
  have := obj_ge true (spL l) hl _ hx2; rw [spJ]; simp only [Int.reduceEq, if_true, if_false, or_false, ByteArray.size_append]; omega
 by_cases k17 : k = 17
 ·subst k17
  have hl : l.length = 3 := by simp [fitJ] at hf; exact hf
  obtain ⟨x0, x1, x2, rfl⟩ := l3 hl; rw [spJ]; simp only [Int.reduceEq, if_true, if_false, or_false, spL, List.getD_cons_zero, List.getD_cons_succ, List.tail_cons, sepB, ByteArray.size_append]; simp only [List.mem_cons, List.not_mem_nil, or_false] at hx; rcases hx with rfl | rfl | rfl <;> omega
 by_cases k18 : k = 18
 ·subst k18
  have hl : l.length = 1 ∨ l.length = 2 := by simpa [fitJ] using hf
  rcases hl with hl | hl
  ·obtain ⟨x0, rfl⟩ := l1 hl
   have tg0 := tg_ge (List.map kindJ [x0]) [spJ x0] 0; have tg1 := tg_ge (List.map kindJ [x0]) [spJ x0] 1; simp only [List.getD_cons_zero, List.getD_cons_succ, List.getD_nil] at tg0 tg1; rw [spJ]; simp only [Int.reduceEq, if_true, if_false, or_false, spL, List.getD_cons_zero, List.getD_cons_succ, List.tail_cons, sepB, ByteArray.size_append]; simp only [List.mem_cons, List.not_mem_nil, or_false] at hx; rcases hx with rfl <;> omega
  obtain ⟨x0, x1, rfl⟩ := l2 hl; have tg0 := tg_ge (List.map kindJ [x0, x1]) [spJ x0, spJ x1] 0; have tg1 := tg_ge (List.map kindJ [x0, x1]) [spJ x0, spJ x1] 1; simp only [List.getD_cons_zero, List.getD_cons_succ] at tg0 tg1; rw [spJ]; simp only [Int.reduceEq, if_true, if_false, or_false, spL, List.getD_cons_zero, List.getD_cons_succ, List.tail_cons, sepB, ByteArray.size_append, List.length_cons, List.length_nil, show 0 + 1 + 1 = 2 from rfl]; simp only [List.mem_cons, List.not_mem_nil, or_false] at hx; rcases hx with rfl | rfl <;> omega
 by_cases k19 : k = 19
 ·subst k19
  have hl : l.length = 3 := by simp [fitJ] at hf; exact hf.1
  obtain ⟨x0, x1, x2, rfl⟩ := l3 hl; have tg0 := tg_ge (List.map kindJ [x0, x1, x2]) [spJ x0, spJ x1, spJ x2] 0; have tg1 := tg_ge (List.map kindJ [x0, x1, x2]) [spJ x0, spJ x1, spJ x2] 1; simp only [List.getD_cons_zero, List.getD_cons_succ] at tg0 tg1; rw [spJ]; simp only [Int.reduceEq, if_true, if_false, or_false, spL, List.getD_cons_zero, List.getD_cons_succ, List.tail_cons, sepB, ByteArray.size_append]; simp only [List.mem_cons, List.not_mem_nil, or_false] at hx; rcases hx with rfl | rfl | rfl <;> omega
 by_cases k20 : k = 20
 ·subst k20
  have hl : l.length = 4 := by simp [fitJ] at hf; exact hf.1
  obtain ⟨x0, x1, x2, x3, rfl⟩ := l4 hl; have tg0 := tg_ge (List.map kindJ [x0, x1, x2, x3]) [spJ x0, spJ x1, spJ x2, spJ x3] 0; have tg1 := tg_ge (List.map kindJ [x0, x1, x2, x3]) [spJ x0, spJ x1, spJ x2, spJ x3] 1; simp only [List.getD_cons_zero, List.getD_cons_succ] at tg0 tg1; rw [spJ]; simp only [Int.reduceEq, if_true, if_false, or_true, spL, List.getD_cons_zero, List.getD_cons_succ, List.tail_cons, sepB, ByteArray.size_append, or_true]; simp only [List.mem_cons, List.not_mem_nil, or_false] at hx; rcases hx with rfl | rfl | rfl | rfl <;> omega
 by_cases k21 : k = 21
 ·subst k21
  have hl : l.length = 2 := by simp [fitJ] at hf; exact hf.1
  obtain ⟨x0, x1, rfl⟩ := l2 hl; have tg0 := tg_ge (List.map kindJ [x0, x1]) [spJ x0, spJ x1] 0; have tg1 := tg_ge (List.map kindJ [x0, x1]) [spJ x0, spJ x1] 1; simp only [List.getD_cons_zero, List.getD_cons_succ] at tg0 tg1; rw [spJ]; simp only [Int.reduceEq, if_true, if_false, or_false, spL, List.getD_cons_zero, List.getD_cons_succ, List.tail_cons, sepB, ByteArray.size_append]; simp only [List.mem_cons, List.not_mem_nil, or_false] at hx; rcases hx with rfl | rfl <;> omega
 by_cases k22 : k = 22
 ·subst k22
  have hl : l = [] := by simp [fitJ] at hf; exact hf.1
  rw [hl] at hx; cases hx
 by_cases k23 : k = 23
 ·subst k23
  have hx2 : spJ x ∈ spL l := by rw [spL_map]; exact List.mem_map_of_mem hx
  have h0 : ¬ l.length = 0 := fun h => by rw [List.eq_nil_of_length_eq_zero h] at hx; cases hx
  have := sep_ge ⟨#[59, 32]⟩ (spL l) _ hx2; rw [spJ]; simp only [Int.reduceEq, if_true, if_false, or_false, if_neg h0, ByteArray.size_append]; omega
 by_cases k24 : k = 24
 ·subst k24
  have hl : l.length = 2 := by simp [fitJ] at hf; exact hf.1.1
  obtain ⟨x0, x1, rfl⟩ := l2 hl; rw [spJ]; simp only [Int.reduceEq, if_true, if_false, or_false, spL, List.getD_cons_zero, List.getD_cons_succ, List.tail_cons, sepB, ByteArray.size_append]; simp only [List.mem_cons, List.not_mem_nil, or_false] at hx; rcases hx with rfl | rfl <;> omega
 by_cases k25 : k = 25
 ·subst k25
  have hl : l.length = 2 := by simp [fitJ] at hf; exact hf.1
  obtain ⟨x0, x1, rfl⟩ := l2 hl; rw [show spJ (.mk 25 s m e [x0, x1] a) = ⟨#[40]⟩ ++ spJ x0 ++ ⟨#[32]⟩ ++ signB 25 s ++ ⟨#[32]⟩ ++ spJ x1 ++ ⟨#[41]⟩ by rw [spJ]; rfl]; simp only [ByteArray.size_append]; simp only [List.mem_cons, List.not_mem_nil, or_false] at hx; rcases hx with rfl | rfl <;> omega
 exfalso; unfold fitJ at hf; simp only [h4, k1, k26, k2, k3, k5, k6, k7, k8, k9, k10, k11, k12, k13, k14, k15, k16, k17, k18, k19, k20, k21, k22, k23, k24, k25, or_self, if_false, Bool.false_eq_true] at hf
/-! texts in quotes -/
theorem str_form : ∀ x : NJ, okJ x = true → kindJ x = 3 → ∃ s, x = strJ s ∧ Lib.validD s.data.toList = true
 | .mk k s m e l a, h, hk => by
  obtain rfl : k = 3 := hk; rw [okJ, Bool.and_eq_true] at h; have h1 := h.1; unfold oneJ at h1; rw [Bool.and_eq_true] at h1; obtain ⟨_, b2, b3⟩ := bare_of h1.1; have hf : l = [] ∧ Lib.validD s.data.toList = true := by have := h1.2; simpa [fitJ] using this
  obtain ⟨rfl, rfl⟩ := b2.resolve_left (by decide); obtain rfl := b3.resolve_left (by decide); obtain ⟨rfl, hv⟩ := hf; exact ⟨s, rfl, hv⟩
theorem form4 : ∀ (n : Nat) (l : List NJ), l.length ≤ n → evenStr l = true → l.length % 2 = 1 → (∀ x ∈ l, okJ x = true) → ∃ s r, l = strJ s :: flatN r ∧ Lib.validD s.data.toList = true ∧ ∀ x ∈ r, Lib.validD x.2.data.toList = true ∧ x.1 ∈ l
 | 0, l, hn, _, h2, _ => by
  obtain rfl : l = [] := List.eq_nil_of_length_eq_zero (by omega); simp at h2
 | n + 1, l, hn, he, h2, hk => by
  match l, hn, he, h2, hk with
  | [x], _, he, _, hk =>
   obtain ⟨s, rfl, hv⟩ := str_form x (hk x (by simp)) (by simpa [evenStr] using he); exact ⟨s, [], rfl, hv, fun x hx => by cases hx⟩
  | [x, y], _, _, h2, _ => simp at h2
  | x :: y :: z :: r, hn, he, h2, hk =>
   have he2 : kindJ x = 3 ∧ evenStr (z :: r) = true := by simpa [evenStr] using he
   obtain ⟨s, rfl, hv⟩ := str_form x (hk x (by simp)) he2.1; obtain ⟨s2, r2, e, hv2, hr⟩ := form4 n (z :: r) (by simp at hn ⊢; omega) he2.2 (by simp at h2 ⊢; omega) fun w hw => hk w (List.mem_cons_of_mem _ (List.mem_cons_of_mem _ hw))
   refine ⟨s, (y, s2) :: r2, by rw [flatN, ← e], hv, fun w hw => ?_⟩; rcases List.mem_cons.1 hw with rfl | hw
   ·exact ⟨hv2, by simp⟩
   have := hr w hw; exact ⟨this.1, List.mem_cons_of_mem _ (List.mem_cons_of_mem _ this.2)⟩
theorem join_jn : ∀ (r : List (NJ × ByteArray)) (s : ByteArray), tl (joinT true ((strJ s :: flatN r).map nmJ) (spL (strJ s :: flatN r))) = jn (bodyD (tl s)) (r.map fun x => ⟨tl (spJ x.1), tokJ x.1, bodyD (tl x.2)⟩)
 | [], s => by
  rw [flatN, List.map_cons, List.map_nil, spL, joinT, spL, joinT, tl_app]; simp only [List.map_nil, jn]; exact List.append_nil _
  all_goals simp
 | (x, t) :: r, s => by
  have ih := join_jn r t; rw [flatN, List.map_cons, List.map_cons, spL, spL, joinT, joinT, tl_app, tl_app, tl_app, tl_app, ih]; simp only [List.map_cons, jn, List.append_assoc]; rfl
theorem jn_size : ∀ (r : List (NJ × ByteArray)) (s : ByteArray), ∀ x ∈ r, (tl (spJ x.1)).length ≤ (jn (bodyD (tl s)) (r.map fun x => ⟨tl (spJ x.1), tokJ x.1, bodyD (tl x.2)⟩)).length
 | [], _, _, h => by cases h
 | (y, t) :: r, s, x, h => by
  have ih := jn_size r t; simp only [List.map_cons, jn, List.length_append, List.length_cons]; rcases List.mem_cons.1 h with rfl | h
  ·dsimp only; omega
  have := ih x h; omega
theorem tl4 (s : ByteArray) (m e : Int) (l : List NJ) (a : List ByteArray) : tl (spJ (.mk 4 s m e l a)) = 34 :: (tl (joinT true (l.map nmJ) (spL l)) ++ [34]) := by
 rw [spJ]; simp only [Int.reduceEq, if_true, if_false, or_false, tl_app, tl_mk, List.cons_append, List.nil_append]
theorem rd3 {s : ByteArray} (hv : Lib.validD s.data.toList = true) (hl : (spJ (strJ s)).size ≤ 16384) : ∃ T, Rd (strJ s) T := by
 refine rd_quoted (n := strJ s) (s := s) (r := []) ?_ rfl (by simp [strJ, depJ, depsJ]) (by simp [strJ, depJ]) hl hv fun x hx => by cases hx
 unfold strJ; rw [spJ]; simp only [Int.reduceEq, if_true, if_false, or_false]; rfl
theorem rd4 {l : List NJ} (hl : evenStr l = true) (h3 : 3 ≤ l.length) (h2 : l.length % 2 = 1) (hk : ∀ x ∈ l, okJ x = true) (hd : depsJ l ≤ 47) (hz : (spJ (kidsJ 4 l)).size ≤ 16384) (hr : ∀ x ∈ l, (spJ x).size ≤ 16384 → Rd x (tokJ x)) : ∃ T, Rd (kidsJ 4 l) T := by
 obtain ⟨s, r, e, hv, hx⟩ := form4 _ l (Nat.le_refl _) hl h2 hk; have ht : tl (spJ (kidsJ 4 l)) = 34 :: (jn (bodyD (tl s)) (r.map fun x => ⟨tl (spJ x.1), tokJ x.1, bodyD (tl x.2)⟩) ++ [34]) := by
  unfold kidsJ; rw [tl4, e, join_jn]
 have hlen : (tl (spJ (kidsJ 4 l))).length ≤ 16384 := hz; rw [ht, List.length_cons, List.length_append] at hlen; have hdd : depJ (kidsJ 4 l) = 1 + depsJ l := by unfold kidsJ; rw [depJ]
 refine rd_quoted ht ?_ (by omega) (by omega) hz hv fun x hx2 => ?_
 ·rw [e]
  cases r with
  | nil => rw [e] at h3; simp [flatN] at h3
  | cons y r => rfl
 obtain ⟨h1, h2⟩ := hx x hx2; have h5 := jn_size r s x hx2; have h6 : (spJ x.1).size ≤ 16384 := by rw [← tl_len]; omega
 have h7 : depJ x.1 ≤ depsJ l := deps_le2.1 (Nat.le_refl _) _ h2; exact ⟨h1, hr x.1 h2 h6, by omega, h6⟩
theorem sp_rd : ∀ (d : Nat) (n : NJ), depJ n ≤ d → d ≤ 48 → okJ n = true → (spJ n).size ≤ 16384 → ∃ T, Rd n T
 | 0, .mk k s m e l a, hd, _, _, _ => by rw [depJ] at hd; omega
 | d + 1, .mk k s m e l a, hd, hd8, h, hz => by
  rw [okJ, Bool.and_eq_true, okL_all, List.all_eq_true] at h; obtain ⟨h1, hk⟩ := h; unfold oneJ at h1; rw [Bool.and_eq_true] at h1; obtain ⟨hb, hf⟩ := h1; obtain ⟨bs, bm, ba⟩ := bare_of hb; rw [depJ] at hd; have K : ∀ x ∈ l, (spJ x).size ≤ 16384 → Rd x (tokJ x) := fun x hx h2 => rd_tok2 (sp_rd d x (deps_le2.1 (show depsJ l ≤ d by omega) x hx) (by omega) (hk x hx) h2)
  by_cases k4 : k = 4
  ·subst k4
   have h4 : (evenStr l = true ∧ 3 ≤ l.length) ∧ l.length % 2 = 1 := by simpa [fitJ] using hf
   obtain rfl := bs.resolve_left (by decide); obtain ⟨rfl, rfl⟩ := bm.resolve_left (by decide); obtain rfl := ba.resolve_left (by decide); exact rd4 h4.1.1 h4.1.2 h4.2 hk (by omega) hz K
  have ks := kid_size k4 hf; replace K : Rds l := fun x hx => K x hx (Nat.le_trans (ks x hx) hz)
  clear ks; by_cases k1 : k = 1
  ·subst k1
   obtain rfl := bs.resolve_left (by decide); obtain ⟨rfl, rfl⟩ := bm.resolve_left (by decide); obtain rfl := ba.resolve_left (by decide); obtain rfl : l = [] := by simpa [fitJ] using hf
   exact rd1
  by_cases k26 : k = 26
  ·subst k26
   obtain rfl := bs.resolve_left (by decide); obtain ⟨rfl, rfl⟩ := bm.resolve_left (by decide); obtain rfl := ba.resolve_left (by decide); obtain rfl : l = [] := by simpa [fitJ] using hf
   exact rd26
  by_cases k2 : k = 2
  ·subst k2
   obtain rfl := bs.resolve_left (by decide); obtain rfl := ba.resolve_left (by decide); have h2 : (l = [] ∧ right m e = true) ∧ 0 ≤ m := by simpa [fitJ] using hf
   obtain ⟨⟨rfl, hr⟩, h0⟩ := h2; exact rd2 h0 hr
  by_cases k3 : k = 3
  ·subst k3
   obtain ⟨rfl, rfl⟩ := bm.resolve_left (by decide); obtain rfl := ba.resolve_left (by decide); have h2 : l = [] ∧ Lib.validD s.data.toList = true := by simpa [fitJ] using hf
   obtain ⟨rfl, hv⟩ := h2; exact rd3 hv hz
  by_cases k5 : k = 5
  ·subst k5
   obtain rfl := bs.resolve_left (by decide); obtain ⟨rfl, rfl⟩ := bm.resolve_left (by decide); obtain rfl := ba.resolve_left (by decide); have hl : l.length = 2 := by simpa [fitJ] using hf
   obtain ⟨x0, x1, rfl⟩ := l2 hl; have r0 := K x0 (by simp); obtain ⟨g0, hg0⟩ := rd_tg r0; have r1 := K x1 (by simp); exact rd5 hg0 r1
  by_cases k6 : k = 6
  ·subst k6
   obtain rfl := bs.resolve_left (by decide); obtain ⟨rfl, rfl⟩ := bm.resolve_left (by decide); obtain ⟨hl, ha⟩ := bareA hf rfl; rcases ha with rfl | rfl | rfl
   ·obtain ⟨x0, x1, rfl⟩ := l2 hl
    have r0 := K x0 (by simp); obtain ⟨g0, hg0⟩ := rd_tg r0; have r1 := K x1 (by simp); exact rd6a hg0 r1
   ·obtain ⟨x0, x1, rfl⟩ := l2 hl
    have r0 := K x0 (by simp); obtain ⟨g0, hg0⟩ := rd_tg r0; have r1 := K x1 (by simp); exact rd6b hg0 r1
   obtain ⟨x0, x1, x2, rfl⟩ := l3 hl; have r0 := K x0 (by simp); obtain ⟨g0, hg0⟩ := rd_tg r0; have r1 := K x1 (by simp); have r2 := K x2 (by simp); exact rd6c hg0 r1 r2
  by_cases k7 : k = 7
  ·subst k7
   obtain rfl := bs.resolve_left (by decide); obtain ⟨rfl, rfl⟩ := bm.resolve_left (by decide); obtain rfl := ba.resolve_left (by decide); have hl : l.length = 1 := by simpa [fitJ] using hf
   obtain ⟨x0, rfl⟩ := l1 hl; have r0 := K x0 (by simp); obtain ⟨g0, hg0⟩ := rd_tg r0; exact rd7 hg0
  by_cases k8 : k = 8
  ·subst k8
   obtain rfl := bs.resolve_left (by decide); obtain ⟨rfl, rfl⟩ := bm.resolve_left (by decide); obtain rfl := ba.resolve_left (by decide); have hl : l.length = 2 := by simpa [fitJ] using hf
   obtain ⟨x0, x1, rfl⟩ := l2 hl; have r0 := K x0 (by simp); have r1 := K x1 (by simp); exact rd8 r0 r1 op_8
  by_cases k9 : k = 9
  ·subst k9
   obtain rfl := bs.resolve_left (by decide); obtain ⟨rfl, rfl⟩ := bm.resolve_left (by decide); obtain rfl := ba.resolve_left (by decide); have hl : l.length = 2 := by simpa [fitJ] using hf
   obtain ⟨x0, x1, rfl⟩ := l2 hl; have r0 := K x0 (by simp); have r1 := K x1 (by simp); exact rd8 r0 r1 op_9
  by_cases k10 : k = 10
  ·subst k10
   obtain ⟨rfl, rfl⟩ := bm.resolve_left (by decide); obtain rfl := ba.resolve_left (by decide); have h2 : l.length = 2 ∧ inB opers11 s = true := by simpa [fitJ] using hf
   obtain ⟨hl, hs⟩ := h2; obtain ⟨x0, x1, rfl⟩ := l2 hl; have r0 := K x0 (by simp); have r1 := K x1 (by simp); exact rd8 r0 r1 (op_10 hs)
  by_cases k11 : k = 11
  ·subst k11
   obtain rfl := bs.resolve_left (by decide); obtain ⟨rfl, rfl⟩ := bm.resolve_left (by decide); obtain rfl := ba.resolve_left (by decide); have hl : l.length = 2 := by simpa [fitJ] using hf
   obtain ⟨x0, x1, rfl⟩ := l2 hl; have r0 := K x0 (by simp); have r1 := K x1 (by simp); exact rd8 r0 r1 op_11
  by_cases k12 : k = 12
  ·subst k12
   obtain rfl := bs.resolve_left (by decide); obtain ⟨rfl, rfl⟩ := bm.resolve_left (by decide); obtain rfl := ba.resolve_left (by decide); have hl : l.length = 2 := by simpa [fitJ] using hf
   obtain ⟨x0, x1, rfl⟩ := l2 hl; have r0 := K x0 (by simp); have r1 := K x1 (by simp); exact rd8 r0 r1 op_12
  by_cases k13 : k = 13
  ·subst k13
   obtain rfl := bs.resolve_left (by decide); obtain ⟨rfl, rfl⟩ := bm.resolve_left (by decide); obtain rfl := ba.resolve_left (by decide); have hl : l.length = 2 := by simpa [fitJ] using hf
   obtain ⟨x0, x1, rfl⟩ := l2 hl; have r0 := K x0 (by simp); have r1 := K x1 (by simp); exact rd8 r0 r1 op_13
  by_cases k14 : k = 14
  ·subst k14
   obtain rfl := bs.resolve_left (by decide); obtain ⟨rfl, rfl⟩ := bm.resolve_left (by decide); obtain rfl := ba.resolve_left (by decide); have hl : l.length = 1 := by simpa [fitJ] using hf
   obtain ⟨x0, rfl⟩ := l1 hl; have r0 := K x0 (by simp); exact rd14 r0
  by_cases k15 : k = 15
  ·subst k15
   obtain rfl := bs.resolve_left (by decide); obtain ⟨rfl, rfl⟩ := bm.resolve_left (by decide); obtain rfl := ba.resolve_left (by decide); have hl : l.length = 0 ∨ l.length = 1 := by simp [fitJ] at hf; omega
   rcases hl with hl | hl
   ·obtain rfl := List.eq_nil_of_length_eq_zero hl
    exact rd15a
   obtain ⟨x0, rfl⟩ := l1 hl; exact rd15b (K x0 (by simp))
  by_cases k16 : k = 16
  ·subst k16
   obtain rfl := bs.resolve_left (by decide); obtain ⟨rfl, rfl⟩ := bm.resolve_left (by decide); obtain rfl := ba.resolve_left (by decide); exact rd16 (by simpa [fitJ] using hf) K
  by_cases k17 : k = 17
  ·subst k17
   obtain rfl := bs.resolve_left (by decide); obtain ⟨rfl, rfl⟩ := bm.resolve_left (by decide); obtain rfl := ba.resolve_left (by decide); have hl : l.length = 3 := by simpa [fitJ] using hf
   obtain ⟨x0, x1, x2, rfl⟩ := l3 hl; have r0 := K x0 (by simp); have r1 := K x1 (by simp); have r2 := K x2 (by simp); exact rd17 r0 r1 r2
  by_cases k18 : k = 18
  ·subst k18
   obtain rfl := bs.resolve_left (by decide); obtain ⟨rfl, rfl⟩ := bm.resolve_left (by decide); obtain rfl := ba.resolve_left (by decide); have hl : l.length = 1 ∨ l.length = 2 := by simpa [fitJ] using hf
   rcases hl with hl | hl
   ·obtain ⟨x0, rfl⟩ := l1 hl
    have r0 := K x0 (by simp); obtain ⟨g0, hg0⟩ := rd_tg r0; exact rd18a hg0
   obtain ⟨x0, x1, rfl⟩ := l2 hl; have r0 := K x0 (by simp); obtain ⟨g0, hg0⟩ := rd_tg r0; have r1 := K x1 (by simp); obtain ⟨g1, hg1⟩ := rd_tg r1; exact rd18b hg0 hg1
  by_cases k19 : k = 19
  ·subst k19
   obtain ⟨rfl, rfl⟩ := bm.resolve_left (by decide); obtain rfl := ba.resolve_left (by decide); have h2 : l.length = 3 ∧ nameB s = true := by simpa [fitJ] using hf
   obtain ⟨hl, hs⟩ := h2; obtain ⟨x0, x1, x2, rfl⟩ := l3 hl; have r0 := K x0 (by simp); obtain ⟨g0, hg0⟩ := rd_tg r0; have r1 := K x1 (by simp); have r2 := K x2 (by simp); exact rd19 hg0 r1 r2 hs
  by_cases k20 : k = 20
  ·subst k20
   obtain ⟨rfl, rfl⟩ := bm.resolve_left (by decide); obtain rfl := ba.resolve_left (by decide); have h2 : l.length = 4 ∧ nameB s = true := by simpa [fitJ] using hf
   obtain ⟨hl, hs⟩ := h2; obtain ⟨x0, x1, x2, x3, rfl⟩ := l4 hl; have r0 := K x0 (by simp); obtain ⟨g0, hg0⟩ := rd_tg r0; have r1 := K x1 (by simp); have r2 := K x2 (by simp); have r3 := K x3 (by simp); exact rd20 hg0 r1 r2 r3 hs
  by_cases k21 : k = 21
  ·subst k21
   obtain ⟨rfl, rfl⟩ := bm.resolve_left (by decide); obtain rfl := ba.resolve_left (by decide); have h2 : l.length = 2 ∧ nameB s = true := by simpa [fitJ] using hf
   obtain ⟨hl, hs⟩ := h2; obtain ⟨x0, x1, rfl⟩ := l2 hl; have r0 := K x0 (by simp); obtain ⟨g0, hg0⟩ := rd_tg r0; have r1 := K x1 (by simp); exact rd21 hg0 r1 hs
  by_cases k22 : k = 22
  ·subst k22
   obtain ⟨rfl, rfl⟩ := bm.resolve_left (by decide); obtain rfl := ba.resolve_left (by decide); have h2 : l = [] ∧ nameB s = true := by simpa [fitJ] using hf
   obtain ⟨rfl, hv⟩ := h2; exact rd22 hv
  by_cases k23 : k = 23
  ·subst k23
   obtain ⟨rfl, rfl⟩ := bm.resolve_left (by decide); obtain rfl := ba.resolve_left (by decide); exact rd23 (by simpa [fitJ] using hf) K
  by_cases k24 : k = 24
  ·subst k24
   obtain ⟨rfl, rfl⟩ := bm.resolve_left (by decide); have h2 : (l.length = 2 ∧ freeB s = true) ∧ ∀ s ∈ a, paramB s = true := by simpa [fitJ] using hf
   obtain ⟨⟨hl, hs⟩, ha⟩ := h2; obtain ⟨x0, x1, rfl⟩ := l2 hl; have r0 := K x0 (by simp); have r1 := K x1 (by simp); exact rd24 hs ha r0 r1
  by_cases k25 : k = 25
  ·subst k25
   obtain ⟨rfl, rfl⟩ := bm.resolve_left (by decide); obtain rfl := ba.resolve_left (by decide); have h2 : l.length = 2 ∧ inB sets7 s = true := by simpa [fitJ] using hf
   obtain ⟨hl, hs⟩ := h2; obtain ⟨x0, x1, rfl⟩ := l2 hl; have r0 := K x0 (by simp); have r1 := K x1 (by simp); exact rd8 r0 r1 (op_25 hs)
  exfalso; unfold fitJ at hf; simp only [k4, k1, k26, k2, k3, k5, k6, k7, k8, k9, k10, k11, k12, k13, k14, k15, k16, k17, k18, k19, k20, k21, k22, k23, k24, k25, or_self, if_false, Bool.false_eq_true] at hf
theorem sp_flt {n : NJ} (hd : depJ n ≤ 48) (hk : okJ n = true) (hz : (spJ n).size ≤ 16384) : Flt (tl (spJ n)) n := by
 obtain ⟨T, h⟩ := sp_rd (depJ n) n (Nat.le_refl _) hd hk hz; obtain ⟨l, h1, _, h3⟩ := h.whole hd hz 0; exact ⟨l, h1, h3⟩
end Go.Proofs.YtakncilicoefdaaGreatDoor
