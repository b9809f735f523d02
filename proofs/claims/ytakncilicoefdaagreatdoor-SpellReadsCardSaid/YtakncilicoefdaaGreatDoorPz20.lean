/- Lemmas and contracts. Conditions: those that each lemma names. -/
import Derived.Test.YtakncilicoefdaaGreatDoorPz19
set_option maxRecDepth 100000
set_option maxHeartbeats 4000000
namespace Go.Proofs.YtakncilicoefdaaGreatDoor
open Go Go.RowKit Go.Proofs Th
inductive ORes where
 | val (c : FV) (ch : Option (Nat × AObj))
 | pan (x : Value) (b : Option Nat)
def ORes.ch : ORes → Option (Nat × AObj)
 | .val _ ch => ch
 | .pan _ b => b.map fun b => (b, AObj.none)
def fin (n : Nat) (s : ASt) (d : Option Nat) (K : ASt → Prop) (Qp : Value → ASt → Prop) : ORes → Prop
 | .val c ch => Fm n s d c (app s.st ch) K
 | .pan x none => Qp x s
 | .pan x (some b) => ∀ L : Nat, Qp x ⟨s.fr, upd s.st b (.box (List.replicate L .junk))⟩
def E1 : Op → Bool
 | .call c => (match c.callee with
  | .builtin _ => true
  | _ => false)
 | .panic _ => false
 | _ => true
structure LoA (P : Program) (G : World → CS → Prop) (n : Nat) (o : Oper) (s : ASt) (r : ORes) : Prop where
 wr : EC o.op = false → r.ch = none
 ft : ∀ k x, r.ch = some (k, x) → k ∈ BC P o.op o.dst s
 q : E1 o.op = true → ∃ c ch, r = .val c ch
 go : ∀ s2, SameOn P o.op o.dst s s2 → ∀ K Qp, fin n s2 o.dst K Qp r → aop P G n o s2 K Qp
theorem VL {n : Nat} {s : ASt} {d : Option Nat} {K K' : ASt → Prop} {Qp : Value → ASt → Prop} (hK : ∀ s', K s' → K' s') {r : ORes} (h : fin n s d K Qp r) : fin n s d K' Qp r := by
 cases r with
 | val c ch =>
  cases d with
  | none => exact hK _ h
  | some d => exact ⟨h.1, hK _ h.2⟩
 | pan x b => cases b <;> exact h
theorem FN {s s2 : ASt} : ∀ {l : List Operand}, (∀ x ∈ l, Aw s2 x = Aw s x) → (∀ k n, FV.own k n ∈ l.map (Aw s) → s2.st k = s.st k) → Df s2 l = Df s l
 | [], _, _ => rfl
 | x :: r, h1, h2 => by
  have e2 : DK s2.st (Aw s x) = DK s.st (Aw s x) := E7 (fun k n e => h2 k n (by rw [← e]; exact List.mem_cons_self)); simp only [Df, h1 x List.mem_cons_self, e2, FN (l := r) (fun x hx => h1 x (List.mem_cons_of_mem _ hx)) (fun k n h => h2 k n (List.mem_cons_of_mem _ h))]
section
variable {P : Program} {G : World → CS → Prop} {n : Nat} {o : Oper} {s : ASt} {K : ASt → Prop} {Qp : Value → ASt → Prop}
theorem ZN (h : aop P G n o s K Qp) : ∃ r, fin n s o.dst K Qp r ∧ LoA P G n o s r := by
 have hval : (∀ s2 K2 Qp2, AH P o.op o.dst s2 (fun x st' => Fm n s2 o.dst x st' K2) → aop P G n o s2 K2 Qp2) → AH P o.op o.dst s (fun x st' => Fm n s o.dst x st' K) → ∃ r, fin n s o.dst K Qp r ∧ LoA P G n o s r := by
  intro hback hv; obtain ⟨c, ch, hK, hl⟩ := YB hv; exact ⟨.val c ch, hK, hl.wr, hl.ft, fun _ => ⟨c, ch, rfl⟩, fun s2 hs K2 Qp2 hf => hback s2 K2 Qp2 (hl.go s2 hs _ hf)⟩
 unfold aop at h; split at h
 ·rename_i c ho
  split at h
  ·rename_i f hcal
   have hback : ∀ s2 K2 Qp2, FL P G f c.args.toList o.dst n s2 K2 Qp2 → aop P G n o s2 K2 Qp2 := fun s2 K2 Qp2 hh => by unfold aop; simp only [ho, hcal]; exact hh
   have hwr : EC o.op = true := by rw [ho]; simp [EC, hcal]
   have hq : E1 o.op = false := by rw [ho]; simp [E1, hcal]
   have hops : ∀ x ∈ c.args.toList, x ∈ o.op.operands := fun x hx => by rw [ho]; simp [Op.operands, Call.operands]; exact Or.inr (by simpa using hx)
   have hfo : ∀ k n, FV.own k n ∈ c.args.toList.map (Aw s) → k ∈ BC P o.op o.dst s := fun k n hm => by
    rw [ho]; simp only [BC, hcal]; exact List.mem_append_left _ (CO hm)
   have plain : ∀ xa, Df s c.args.toList = some xa → Dx P G f (some xa) o.dst n s K Qp → (∀ s2 K2 Qp2, SameOn P o.op o.dst s s2 → Dx P G f (Df s2 c.args.toList) o.dst n s2 K2 Qp2 → FL P G f c.args.toList o.dst n s2 K2 Qp2) → ∃ r, fin n s o.dst K Qp r ∧ LoA P G n o s r := by
    intro xa hxa hc hb2; obtain ⟨res, hC, hres⟩ := hc; have hsame : ∀ s2, SameOn P o.op o.dst s s2 → Df s2 c.args.toList = some xa := fun s2 hs => by
     rw [← hxa]; exact FN (fun x hx => hs.v x (hops x hx)) (fun k n hm => hs.o k (hfo k n hm))
    cases res with
    | ret v rc' => exact ⟨.val (.im v) none, hres, fun e => (by rw [hwr] at e; cases e), fun k x e => (by cases e), fun e => (by rw [hq] at e; cases e), fun s2 hs K2 Qp2 hf => hback s2 K2 Qp2 (hb2 s2 K2 Qp2 hs (by rw [hsame s2 hs]; exact ⟨_, hC, hf⟩))⟩
    | pan x => exact ⟨.pan x none, hres, fun e => (by rw [hwr] at e; cases e), fun k x e => (by cases e), fun e => (by rw [hq] at e; cases e), fun s2 hs K2 Qp2 hf => hback s2 K2 Qp2 (hb2 s2 K2 Qp2 hs (by rw [hsame s2 hs]; exact ⟨_, hC, hf⟩))⟩
   unfold FL at h; split at h
   ·rename_i hxs
    exact plain [] (by rw [hxs]; rfl) h (fun s2 K2 Qp2 _ hh => by rw [hxs] at hh ⊢; exact hh)
   rename_i x r hxs
   split at h
   ·rename_i b hx
    split at h
    ·rename_i cs hb
     unfold H4 at h; split at h
     ·rename_i rc xa hrc hxa
      obtain ⟨res, hC, hres⟩ := h; have hfb : b ∈ BC P o.op o.dst s := by rw [ho]; simp only [BC, hcal, hxs, hx]; exact List.mem_append_right _ List.mem_cons_self
      have hfc : ∀ k n, FV.own k n ∈ cs → k ∈ BC P o.op o.dst s := fun k n hm => by rw [ho]; simp only [BC, hcal, hxs, hx, hb]; exact List.mem_append_right _ (List.mem_cons_of_mem _ (CO hm))
      have hgo : ∀ s2 K2 Qp2, SameOn P o.op o.dst s s2 → H4 P G f b (some rc) (some xa) o.dst n s2 K2 Qp2 → FL P G f c.args.toList o.dst n s2 K2 Qp2 := fun s2 K2 Qp2 hs hh => by
       have e1 : Ev s2.st cs = some rc := by rw [← hrc]; exact II (fun k n hm => hs.o k (hfc k n hm))
       have e2 : Df s2 r = some xa := by rw [← hxa]; exact FN (fun y hy => hs.v y (hops y (by rw [hxs]; exact List.mem_cons_of_mem _ hy))) (fun k n hm => hs.o k (hfo k n (by rw [hxs]; exact List.mem_cons_of_mem _ hm)))
       unfold FL; simp only [hxs, hs.v x (hops x (by rw [hxs]; exact List.mem_cons_self)), hx, hs.o b hfb, hb, e1, e2]; exact hh
      cases res with
      | ret v rc' => exact ⟨.val (.im v) (some (b, _)), hres, fun e => (by rw [hwr] at e; cases e), fun k x e => (by injection e with e; injection e with e1 e2; subst e1; exact hfb), fun e => (by rw [hq] at e; cases e), fun s2 hs K2 Qp2 hf => hback s2 K2 Qp2 (hgo s2 K2 Qp2 hs ⟨_, hC, hf⟩)⟩
      | pan x => exact ⟨.pan x (some b), hres, fun e => (by rw [hwr] at e; cases e), fun k x e => (by simp only [ORes.ch, Option.map_some] at e; injection e with e; injection e with e1 e2; subst e1; exact hfb), fun e => (by rw [hq] at e; cases e), fun s2 hs K2 Qp2 hf => hback s2 K2 Qp2 (hgo s2 K2 Qp2 hs ⟨_, hC, hf⟩)⟩
     exact h.elim
    exact h.elim
   rename_i hnp
   unfold Dx at h; split at h
   ·rename_i xa hxa
    refine plain xa (by rw [hxs]; exact hxa) (by unfold Dx; exact h) (fun s2 K2 Qp2 hs hh => ?_); rw [hxs] at hh ⊢; unfold FL; simp only; split
    ·rename_i b hx2
     rw [hs.v x (hops x (by rw [hxs]; exact List.mem_cons_self))] at hx2; exact absurd hx2 (hnp b)
    exact hh
   exact h.elim
  ·rename_i t hcal
   have hwr : EC o.op = true := by rw [ho]; simp [EC, hcal]
   have hq : E1 o.op = false := by rw [ho]; simp [E1, hcal]
   have hops : ∀ x ∈ c.args.toList, x ∈ o.op.operands := fun x hx => by rw [ho]; simp [Op.operands, Call.operands]; exact Or.inr (by simpa using hx)
   have hot : Operand.tmp t ∈ o.op.operands := by rw [ho]; simp [Op.operands, Call.operands, hcal]
   have hfo : ∀ k n, FV.own k n ∈ c.args.toList.map (Aw s) → k ∈ BC P o.op o.dst s := fun k n hm => by
    rw [ho]; simp only [BC, hcal]; exact List.mem_append_left _ (CO hm)
   split at h
   ·rename_i f first caps hx
    obtain ⟨h0, h⟩ := h; unfold Dx at h; split at h
    ·rename_i xa has
     obtain ⟨res, hC, hres⟩ := h; have hsame : ∀ s2, SameOn P o.op o.dst s s2 → (Df s2 c.args.toList).map (fun xa => xa ++ caps.toList.map IV.v) = some xa := fun s2 hs => by
      rw [← has]; congr 1; exact FN (fun x hx => hs.v x (hops x hx)) (fun k n hm => hs.o k (hfo k n hm))
     have hgo : ∀ s2 K2 Qp2, SameOn P o.op o.dst s s2 → Dx P G f (some xa) o.dst n s2 K2 Qp2 → aop P G n o s2 K2 Qp2 := fun s2 K2 Qp2 hs hh => by
      have hv : s2.fr t = .im (.v (.func (.func f) first caps)) := (hs.v _ hot).trans hx; unfold aop; simp only [ho, hcal, hv]; exact ⟨h0, by rw [hsame s2 hs]; exact hh⟩
     cases res with
     | ret v rc' => exact ⟨.val (.im v) none, hres, fun e => (by rw [hwr] at e; cases e), fun k x e => (by cases e), fun e => (by rw [hq] at e; cases e), fun s2 hs K2 Qp2 hf => hgo s2 K2 Qp2 hs ⟨_, hC, hf⟩⟩
     | pan x => exact ⟨.pan x none, hres, fun e => (by rw [hwr] at e; cases e), fun k x e => (by cases e), fun e => (by rw [hq] at e; cases e), fun s2 hs K2 Qp2 hf => hgo s2 K2 Qp2 hs ⟨_, hC, hf⟩⟩
    exact h.elim
   exact h.elim
  exact hval (fun s2 K2 Qp2 hv => by
   unfold aop; simp only [ho]; rw [ho] at hv; exact hv) (by rw [ho]; exact h)
 ·rename_i x ho
  split at h
  ·rename_i t u hx
   refine ⟨.pan (.iface t u) none, h, fun _ => rfl, fun k x e => (by cases e), fun e => (by rw [ho] at e; cases e), fun s2 hs K2 Qp2 hf => ?_⟩; unfold aop; simp only [ho, hs.v x (by rw [ho]; simp [Op.operands]), hx]; exact hf
  exact h.elim
 rename_i hnc hnp
 refine hval (fun s2 K2 Qp2 hv => ?_) h; unfold aop; split
 ·rename_i c e; exact (hnc c e).elim
 ·rename_i x e; exact (hnp x e).elim
 exact hv
end
/-! steps, in any order -/
def Fc (P : Program) (G : World → CS → Prop) (n : Nat) (ops : Array Oper) (o : Oper) (s : ASt) (K : ASt → Prop) (Qp : Value → ASt → Prop) : Prop := match DU ops s o.guard with
 | some true => aop P G n o s K Qp
 | some false => Fm n s o.dst (.im (.v undef)) s.st K
 | none => False
structure LoS (P : Program) (G : World → CS → Prop) (n : Nat) (ops : Array Oper) (o : Oper) (s : ASt) (r : ORes) : Prop where
 wr : EC o.op = false → r.ch = none
 ft : ∀ k x, r.ch = some (k, x) → k ∈ BC P o.op o.dst s
 q : E1 o.op = true → ∃ c ch, r = .val c ch
 go : ∀ s2, SameOn P o.op o.dst s s2 → DU ops s2 o.guard = DU ops s o.guard → ∀ K Qp, fin n s2 o.dst K Qp r → Fc P G n ops o s2 K Qp
section
variable {P : Program} {G : World → CS → Prop} {n : Nat} {ops : Array Oper} {o : Oper} {s : ASt} {K K' : ASt → Prop} {Qp : Value → ASt → Prop}
theorem MS (h : Fc P G n ops o s K Qp) : ∃ r, fin n s o.dst K Qp r ∧ LoS P G n ops o s r := by
 unfold Fc at h; split at h
 ·rename_i hg
  obtain ⟨r, hf, hl⟩ := ZN h; exact ⟨r, hf, hl.wr, hl.ft, hl.q, fun s2 hs hg2 K Qp hf2 => by unfold Fc; rw [hg2, hg]; exact hl.go s2 hs K Qp hf2⟩
 ·rename_i hg
  exact ⟨.val (.im (.v undef)) none, h, fun _ => rfl, fun k x e => (by cases e), fun _ => ⟨_, _, rfl⟩, fun s2 hs hg2 K Qp hf2 => by unfold Fc; rw [hg2, hg]; exact hf2⟩
 exact h.elim
theorem QF {op : Op} {d : Option Nat} (s : ASt) : SameOn P op d s s := ⟨fun _ _ => rfl, fun _ _ => rfl⟩
theorem NA (hK : ∀ s', K s' → K' s') (h : Fc P G n ops o s K Qp) : Fc P G n ops o s K' Qp := by
 obtain ⟨r, hf, hl⟩ := MS h; exact hl.go s (QF s) rfl K' Qp (VL hK hf)
theorem NT {op : Op} {d : Option Nat} {s s2 : ASt} (h : SameOn P op d s s2) : BC P op d s2 = BC P op d s := by
 have hv := h.v; have hps : ∀ ps : Array (Nat × Operand), (∀ x ∈ (ps.toList.map (·.2)).toArray, Aw s2 x = Aw s x) → (ps.toList.map fun p => Aw s2 p.2) = ps.toList.map fun p => Aw s p.2 := fun ps hh =>
  List.map_congr_left fun p hp => hh p.2 (by simp; exact ⟨p.1, by simpa using hp⟩)
 have ho := h.o; cases op with
 | box t x => simp only [BC, hv x (by simp [Op.operands])]
 | load t x =>
  have e1 := hv x (by simp [Op.operands]); simp only [BC] at ho ⊢; rw [e1]; split
  ·rename_i b o hx
   rw [ho b (by rw [hx]; exact List.mem_cons_self)]
  rfl
 | store t x y => simp only [BC, hv x (by simp [Op.operands]), hv y (by simp [Op.operands])]
 | build t ps => simp only [BC, hps ps hv]
 | buildSlice t n ps => simp only [BC, hps ps hv]
 | indexAddr t x i => simp only [BC, hv x (by simp [Op.operands])]
 | call c =>
  have e1 : c.args.toList.map (Aw s2) = c.args.toList.map (Aw s) := List.map_congr_left fun x hx => hv x (by simp [Op.operands, Call.operands]; exact Or.inr (by simpa using hx))
  simp only [BC] at ho ⊢; rw [e1]; split
  ·rfl
  rename_i hcal
  have hne : ∀ x r, c.args.toList = x :: r → Aw s2 x = Aw s x := by
   intro x r hxr; apply hv; have h1 : x ∈ c.args.toList := by rw [hxr]; exact List.mem_cons_self
   simp [Op.operands, Call.operands]; exact Or.inr (by simpa using h1)
  have ho2 : ∀ k ∈ (match c.args.toList with
   | x :: _ => (match Aw s x with
    | .ptr b _ => b :: (match s.st b with
     | .box cs => DV cs
     | _ => [])
    | _ => [])
   | [] => []), s2.st k = s.st k := by
   intro k hk; apply ho; split
   ·rename_i b e; exact (hcal b e).elim
   exact List.mem_append_right _ hk
  congr 1
  revert ho2 hne
  cases c.args.toList with
  | nil => intro _ _; rfl
  | cons x r =>
   intro hne ho2; simp only at ho2 ⊢; rw [hne x r rfl]; split
   ·rename_i b oo hx
    rw [ho2 b (by rw [hx]; exact List.mem_cons_self)]
   rfl
 | _ => rfl
theorem VS {a : Oper} {t : Nat} (h : t ∉ a.looksAt ops) (c : FV) (st' : Nat → AObj) : (∀ x ∈ a.op.operands, Aw ⟨upd s.fr t c, st'⟩ x = Aw s x) ∧ DU ops ⟨upd s.fr t c, st'⟩ a.guard = DU ops s a.guard := by
 unfold Oper.looksAt at h; rw [List.mem_append, not_or] at h; refine ⟨fun x hx => ?_, ?_⟩
 ·cases x with
  | tmp u =>
   have : u ≠ t := fun e => h.1 (List.mem_filterMap.2 ⟨.tmp u, by simpa using hx, by rw [e]⟩)
   exact Ce _ _ this
  | _ => rfl
 unfold DU; cases hg : a.guard with
 | none => rfl
 | some gw =>
  obtain ⟨g, want⟩ := gw; simp only; cases hd : (ops[g]?).bind (·.dst) with
  | none => rfl
  | some u =>
   have : u ≠ t := fun e => h.2 (by rw [hg]; simp only [hd]; simp [e])
   simp only [Ce _ _ this]
def Jg (s : ASt) (dd : Option Nat) (c : FV) (st' : Nat → AObj) : ASt := match dd with
 | some t => ⟨upd s.fr t c, st'⟩
 | none => ⟨s.fr, st'⟩
theorem Nu {a : Oper} {dd : Option Nat} (h : ∀ t, dd = some t → t ∉ a.looksAt ops) (c : FV) (st' : Nat → AObj) {s2 : ASt} (hs2 : s2 = Jg s dd c st') :
  (∀ x ∈ a.op.operands, Aw s2 x = Aw s x) ∧ DU ops s2 a.guard = DU ops s a.guard := by
 subst hs2; cases dd with
 | none => exact ⟨fun x _ => by cases x <;> rfl, rfl⟩
 | some t => exact VS (h t rfl) c st'
theorem Wg {dd : Option Nat} {c : FV} {st' : Nat → AObj} : Fm n s dd c st' K ↔ (∀ t, dd = some t → t < n) ∧ K (Jg s dd c st') := by
 cases dd with
 | none => exact ⟨fun h => ⟨fun t e => (by cases e), h⟩, fun h => h.2⟩
 | some t => exact ⟨fun h => ⟨fun t' e => (by injection e with e; subst e; exact h.1), h.2⟩, fun h => ⟨h.1 t rfl, h.2⟩⟩
def Qc (f g : List Nat) : Bool := f.all fun k => !g.contains k
theorem Yn {f g : List Nat} (h : Qc f g = true) {k : Nat} (hk : k ∈ f) : k ∉ g := by
 have := List.all_eq_true.1 h k hk; simpa using this
def OJ (U : List (Nat × Nat)) (i : Nat) (f : List Nat) : List (Nat × List Nat) → Prop
 | [] => True
 | (j, g) :: r => (U.contains (j, i) = true → Qc g f = true) ∧ OJ U i f r
theorem D6 {U : List (Nat × Nat)} {i : Nat} {f : List Nat} : ∀ {acc : List (Nat × List Nat)}, OJ U i f acc ↔ ∀ e ∈ acc, U.contains (e.1, i) = true → Qc e.2 f = true
 | [] => ⟨fun _ e h => (by cases h), fun _ => trivial⟩
 | (j, g) :: r => ⟨fun h e he => by
   rcases List.mem_cons.1 he with rfl | he
   ·exact h.1
   exact D6.1 h.2 e he, fun h => ⟨h (j, g) List.mem_cons_self, D6.2 fun e he => h e (List.mem_cons_of_mem _ he)⟩⟩
def Dz (P : Program) (G : World → CS → Prop) (n : Nat) (ops : Array Oper) (U : List (Nat × Nat)) : List Nat → List (Nat × List Nat) → ASt → (ASt → Prop) → (Value → ASt → Prop) → Prop
 | [], _, s, K, _ => K s
 | i :: r, acc, s, K, Qp => match ops[i]? with
  | some o => OJ U i (BC P o.op o.dst s) acc ∧ Fc P G n ops o s (fun s' => Dz P G n ops U r ((i, BC P o.op o.dst s) :: acc) s' K Qp) Qp
  | none => False
theorem NS {U : List (Nat × Nat)} : ∀ (l : List Nat) {acc acc' : List (Nat × List Nat)} {s : ASt}, (∀ e ∈ acc', e ∈ acc) → Dz P G n ops U l acc s K Qp → Dz P G n ops U l acc' s K Qp
 | [], _, _, _, _, h => h
 | i :: r, acc, acc', s, hs, h => by
  simp only [Dz] at h ⊢; cases ho : ops[i]? with
  | none => rw [ho] at h; exact h
  | some o =>
   rw [ho] at h; exact ⟨D6.2 fun e he => D6.1 h.1 e (hs e he), NA (fun s' h' => NS r (fun e he => (List.mem_cons.1 he).elim (fun e => e ▸ List.mem_cons_self) (fun he => List.mem_cons_of_mem _ (hs e he))) h') h.2⟩
def PT (a : Oper) : Bool := !EC a.op || (match a.op with | .alloc _ => a.dst != some 1000 | _ => false)
def Ic (ops : Array Oper) (U : List (Nat × Nat)) (x y : Nat) : Bool := match ops[x]?, ops[y]? with
 | some a, some b => a.apart ops b && E1 a.op && (E1 b.op || PT a) && !U.contains (y, x) && (U.contains (x, y) || !(M7 a.op && M7 b.op && (EC a.op || EC b.op)))
 | _, _ => false
theorem LT {op : Op} {d : Option Nat} (h : M7 op = false) (s : ASt) : BC P op d s = [] := by
 cases op <;> first | rfl | cases h
def LL (Qp : Value → ASt → Prop) : Prop := ∀ x (s s' : ASt), s'.st 1000 = s.st 1000 → Qp x s → Qp x s'
theorem Ir {st : Nat → AObj} {ch : Option (Nat × AObj)} {k : Nat} (h : ∀ j x, ch = some (j, x) → k ≠ j) : app st ch k = st k := by
 cases ch with
 | none => rfl
 | some e => obtain ⟨j, x⟩ := e; exact Ce _ _ (h j x rfl)
theorem VW {st : Nat → AObj} {c1 c2 : Option (Nat × AObj)} (h : ∀ j x k y, c1 = some (j, x) → c2 = some (k, y) → j ≠ k) : app (app st c1) c2 = app (app st c2) c1 := by
 cases c1 with
 | none => rfl
 | some e1 =>
  cases c2 with
  | none => rfl
  | some e2 =>
   obtain ⟨j, x⟩ := e1; obtain ⟨k, y⟩ := e2; exact PZ st x y (h j x k y rfl rfl)
theorem M6 {dd : Option Nat} {c : FV} {ch : Option (Nat × AObj)} {s : ASt} : fin n s dd K Qp (.val c ch) ↔ (∀ t, dd = some t → t < n) ∧ K (Jg s dd c (app s.st ch)) := Wg
theorem RI {U : List (Nat × Nat)} (hQ : LL Qp) {x y : Nat} {r : List Nat} {acc : List (Nat × List Nat)} (hp : Ic ops U x y = true) (h : Dz P G n ops U (x :: y :: r) acc s K Qp) : Dz P G n ops U (y :: x :: r) acc s K Qp := by
 unfold Ic at hp; split at hp
 ·rename_i a b ha hb
  simp only [Bool.and_eq_true, Bool.not_eq_true'] at hp; obtain ⟨⟨⟨⟨hap, hq⟩, hsoft⟩, hyx⟩, hxy⟩ := hp; obtain ⟨p1, p2, p3⟩ := Oper.apart_spec hap; simp only [Dz, ha, hb] at h ⊢; obtain ⟨hc, hst⟩ := h; obtain ⟨rx, hfx, lx⟩ := MS hst; obtain ⟨cx, chx, rfl⟩ := lx.q hq; rw [M6] at hfx; obtain ⟨hnx, hcy, hsy⟩ := hfx; obtain ⟨ry, hfy, ly⟩ := MS hsy; generalize hs1 : Jg s a.dst cx (app s.st chx) = s1 at *; have hst1 : s1.st = app s.st chx := by rw [← hs1]; cases a.dst <;> rfl
  -- the feet are apart
  have hdis : chx ≠ none ∨ ry.ch ≠ none → ∀ k, k ∈ BC P a.op a.dst s → k ∉ BC P b.op b.dst s1 := by
   intro hor k hk; have hwr : EC a.op = true ∨ EC b.op = true := by
    rcases hor with h1 | h1
    ·exact Or.inl (by cases hw : EC a.op with
      | true => rfl
      | false => exact absurd (lx.wr hw) h1)
    exact Or.inr (by cases hw : EC b.op with
     | true => rfl
     | false => exact absurd (ly.wr hw) h1)
   rw [Bool.or_eq_true] at hxy; rcases hxy with h2 | h2
   ·exact Yn ((D6.1 hcy) _ List.mem_cons_self h2) hk
   simp only [Bool.not_eq_true', Bool.and_eq_false_iff] at h2; rcases h2 with (h2 | h2) | h2
   ·rw [LT h2] at hk; cases hk
   ·rw [LT h2]; simp
   simp only [Bool.or_eq_false_iff] at h2; rcases hwr with h3 | h3
   ·rw [h2.1] at h3; cases h3
   rw [h2.2] at h3; cases h3
  -- y, without x
  have hly := Nu (ops := ops) (s := s) (a := b) (dd := a.dst) p1 cx (app s.st chx) (s2 := s1) hs1.symm; have hsy0 : SameOn P b.op b.dst s1 s := ⟨fun z hz => (hly.1 z hz).symm, fun k hk => by
   rw [hst1]; refine (Ir fun j z e hkj => ?_).symm; subst hkj; exact hdis (Or.inl (by rw [e]; simp)) k (lx.ft k z e) hk⟩
  have hfy0 := NT hsy0; refine ⟨?_, ?_⟩
  ·rw [hfy0]
   exact D6.2 fun e he => D6.1 hcy e (List.mem_cons_of_mem _ he)
  refine ly.go s hsy0 hly.2.symm _ _ ?_; cases ry with
  | pan z chy =>
   have hsf : PT a = true := by
    rw [Bool.or_eq_true] at hsoft; rcases hsoft with h9 | h9
    ·obtain ⟨_, _, h9⟩ := ly.q h9; cases h9
    exact h9
   have hloc : ∀ j w, chx = some (j, w) → 1000 ≠ j := by
    intro j w e hj; subst hj; have hw : EC a.op = true := by
     cases hw : EC a.op with
     | true => rfl
     | false => have h9 := lx.wr hw; rw [show chx = none from h9] at e; cases e
    have hft := lx.ft _ w e; unfold PT at hsf; rw [hw] at hsf; simp only [Bool.not_true, Bool.false_or] at hsf; split at hsf
    ·rename_i t hop
     rw [hop] at hft; simp only [BC, Option.mem_toList] at hft; rw [hft] at hsf; simp at hsf
    cases hsf
   cases chy with
   | none =>
    refine hQ z s1 s ?_ hfy; rw [hst1]; exact (Ir hloc).symm
   | some j =>
    intro L; refine hQ z _ _ ?_ (hfy L); show upd s.st j _ 1000 = upd s1.st j _ 1000
    by_cases hj : 1000 = j
    ·subst hj; rw [AX, AX]
    rw [Ce _ _ hj, Ce _ _ hj, hst1]; exact (Ir hloc).symm
  | val cy chy =>
   rw [M6] at hfy ⊢; refine ⟨hfy.1, ?_⟩; generalize hs2 : Jg s b.dst cy (app s.st chy) = s2; have hst2 : s2.st = app s.st chy := by rw [← hs2]; cases b.dst <;> rfl
   have hlx := Nu (ops := ops) (s := s) (a := a) (dd := b.dst) p3 cy (app s.st chy) (s2 := s2) hs2.symm; have hsx : SameOn P a.op a.dst s s2 := ⟨hlx.1, fun k hk => by
    rw [hst2]; refine Ir fun j z e hkj => ?_
    subst hkj; exact hdis (Or.inr (by show chy ≠ none; rw [e]; simp)) k hk (ly.ft k z e)⟩
   have hfx0 := NT hsx; refine ⟨?_, ?_⟩
   ·rw [hfx0]
    exact D6.2 fun e he => by
     rcases List.mem_cons.1 he with rfl | he
     ·intro h9; rw [hyx] at h9; cases h9
     exact D6.1 hc e he
   refine lx.go s2 hsx hlx.2 _ _ ?_; rw [M6]; refine ⟨hnx, ?_⟩; have hcomm : Jg s2 a.dst cx (app s2.st chx) = Jg s1 b.dst cy (app s1.st chy) := by
    rw [hst2, hst1, VW (c1 := chy) (c2 := chx) (fun j u k v e1 e2 hjk => by
     subst hjk; exact hdis (Or.inl (by rw [e2]; simp)) j (lx.ft j v e2) (ly.ft j u e1)), ← hs1, ← hs2]
    cases hda : a.dst with
    | none => cases b.dst <;> rfl
    | some t =>
     cases hdb : b.dst with
     | none => rfl
     | some u =>
      simp only [Jg]; rw [PZ _ _ _ (fun e => p2 t hda (by rw [hdb, e]))]
   rw [hcomm]; refine NS r (fun e he => ?_) hfy.2; rw [hfx0, hfy0] at he; rcases List.mem_cons.1 he with rfl | he
   ·exact List.mem_cons_of_mem _ List.mem_cons_self
   rcases List.mem_cons.1 he with rfl | he
   ·exact List.mem_cons_self
   exact List.mem_cons_of_mem _ (List.mem_cons_of_mem _ he)
 cases hp
theorem KJ {U : List (Nat × Nat)} (hQ : LL Qp) {y : Nat} : ∀ (pre : List Nat) {post : List Nat} {acc : List (Nat × List Nat)} {s : ASt}, (∀ x ∈ pre, Ic ops U x y = true) → Dz P G n ops U (pre ++ y :: post) acc s K Qp → Dz P G n ops U (y :: (pre ++ post)) acc s K Qp
 | [], _, _, _, _, h => h
 | x :: pre, post, acc, s, hp, h => by
  refine RI hQ (hp x List.mem_cons_self) ?_; rw [List.cons_append, Dz] at h; rw [Dz]; split at h
  ·rename_i a ha
   exact ⟨h.1, NA (fun s' hs => KJ hQ pre (fun z hz => hp z (List.mem_cons_of_mem _ hz)) hs) h.2⟩
  exact h.elim
end
/-! what comes before what -/
def Fz (o : Oper) : List Nat := (o.after.toList.filter (Region.binds .any ·)).map (·.on)
def Hk (x : Nat) : List Oper → List Bool → List Bool
 | [], acc => acc
 | o :: r, acc => Hk x r (acc ++ [(Fz o).any fun z => z == x || acc.getD z false])
theorem NO (x : Nat) : ∀ (l : List Oper) (acc : List Bool), ∃ t, Hk x l acc = acc ++ t ∧ t.length = l.length
 | [], acc => ⟨[], by simp [Hk], rfl⟩
 | o :: r, acc => by
  obtain ⟨t, h1, h2⟩ := NO x r (acc ++ [(Fz o).any fun z => z == x || acc.getD z false]); exact ⟨((Fz o).any fun z => z == x || acc.getD z false) :: t, by rw [Hk, h1]; simp, by simp [h2]⟩
theorem Wj (x : Nat) (l : List Oper) : ∀ (acc : List Bool) (j : Nat) (o : Oper), l[j]? = some o → (Hk x l acc)[acc.length + j]? = some ((Fz o).any fun z => z == x || ((Hk x l acc).take (acc.length + j)).getD z false) := by
 induction l with
 | nil => intro acc j o h; simp at h
 | cons o r ih =>
  intro acc j o' h; cases j with
  | zero =>
   simp only [List.getElem?_cons_zero, Option.some.injEq] at h; subst h; obtain ⟨t, h1, h2⟩ := NO x r (acc ++ [(Fz o).any fun z => z == x || acc.getD z false]); rw [Hk, h1, Nat.add_zero, List.append_assoc, List.getElem?_append_right (Nat.le_refl _), Nat.sub_self, List.take_left]; rfl
  | succ j =>
   have := ih (acc ++ [(Fz o).any fun z => z == x || acc.getD z false]) j o' (by simpa using h); rw [List.length_append, List.length_singleton, show acc.length + 1 + j = acc.length + (j + 1) by omega] at this; exact this
def Mt (ops : Array Oper) (x : Nat) : List Bool := Hk x ops.toList []
theorem VM {ops : Array Oper} {L : Nat → Prop} (hcl : ∀ i o, ops[i]? = some o → L i → ∀ z ∈ Fz o, L z) (x : Nat) : ∀ (y : Nat) (o : Oper), ops[y]? = some o → (∀ z ∈ Fz o, L z) → (Mt ops x).getD y false = true → L x := by
 intro y; induction y using Nat.strongRecOn with
 | _ y ih =>
  intro o ho hd hr; have hsp := Wj x ops.toList [] y o (by simpa using ho); simp only [List.length_nil, Nat.zero_add] at hsp; rw [List.getD_eq_getElem?_getD, Mt, hsp] at hr; simp only [Option.getD_some, List.any_eq_true, Bool.or_eq_true, beq_iff_eq] at hr; obtain ⟨z, hz, hzx | hzr⟩ := hr
  ·exact hzx ▸ hd z hz
  have hzy : z < y := by
   rcases Nat.lt_or_ge z y with h1 | h1
   ·exact h1
   rw [List.getD_eq_getElem?_getD, List.getElem?_eq_none (by rw [List.length_take]; omega)] at hzr; cases hzr
  have hlt : z < ops.size := Nat.lt_trans hzy (Array.getElem?_eq_some_iff.1 ho).1; refine ih z hzy _ (Array.getElem?_eq_getElem hlt) (hcl z _ (Array.getElem?_eq_getElem hlt) (hd z hz)) ?_; rw [List.getD_eq_getElem?_getD, List.getElem?_take_of_lt hzy] at hzr; rw [List.getD_eq_getElem?_getD]; exact hzr
def JY (ops : Array Oper) (U : List (Nat × Nat)) : List Nat → Bool
 | [] => true
 | x :: r => (r.all fun y => (Mt ops x).getD y false || Ic ops U x y) && JY ops U r
def L2 : List Nat → Bool
 | [] => true
 | x :: r => !r.contains x && L2 r
def OG (ops : Array Oper) (π : List Nat) (U : List (Nat × Nat)) : Bool :=
 π.length == ops.size && π.all (· < ops.size) && (List.range ops.size).all (π.contains ·) && L2 π && ((List.range ops.size).all fun i => match ops[i]? with | some o => (Fz o).all (· < i) | none => true) && JY ops U π
def PW (ops : Array Oper) (U : List (Nat × Nat)) (l : List Nat) : Prop := l.Pairwise fun x y => (Mt ops x).getD y false = true ∨ Ic ops U x y = true
theorem LY {ops : Array Oper} {U : List (Nat × Nat)} : ∀ {l : List Nat}, JY ops U l = true → PW ops U l
 | [], _ => List.Pairwise.nil
 | x :: r, h => by
  simp only [JY, Bool.and_eq_true, List.all_eq_true, Bool.or_eq_true] at h; exact List.Pairwise.cons h.1 (LY h.2)
theorem Nw : ∀ {l : List Nat}, L2 l = true → l.Nodup
 | [], _ => List.nodup_nil
 | x :: r, h => by
  simp only [L2, Bool.and_eq_true, Bool.not_eq_true'] at h; exact List.nodup_cons.2 ⟨by simpa using h.1, Nw h.2⟩
section
variable {P : Program} {X : Ctx} {n : Nat} {ops : Array Oper} {U : List (Nat × Nat)} {Q : AExit → ASt → Prop}
theorem RR (hn : n ≤ X.N) (hQ : LL fun x s => Q (.panic x) s) (hback : ∀ i o, ops[i]? = some o → ∀ z ∈ Fz o, z < i) : ∀ (rem : List Nat) (fuel : Nat) (listed : Array Bool) (acc : List (Nat × List Nat)) (s : ASt) (a : Act) (W : World),
  rem.length = fuel → listed.size = ops.size → (∀ i, i < ops.size → (listed.getD i true = false ↔ i ∈ rem)) → (∀ i ∈ rem, i < ops.size) → rem.Nodup → PW ops U rem → (∀ i o, ops[i]? = some o → listed.getD i false = true → ∀ z ∈ Fz o, listed.getD z false = true) →
  Rel X s a W → Dz P X.G n ops U rem acc s (fun s' => Q .normal s') (fun x s' => Q (.panic x) s') → wpAny P .any ops (Em X Q) fuel listed a W := by
 intro rem fuel; induction fuel generalizing rem with
 | zero =>
  intro listed acc s a W hl hsz hli hlt hnd hpw hcl hR hop; obtain rfl : rem = [] := List.eq_nil_of_length_eq_zero hl; refine ⟨List.eq_nil_iff_forall_not_mem.2 fun i hi => ?_, ⟨s, hR, hop⟩⟩; obtain ⟨h1, o, ho, _⟩ := mem_ready.1 hi; exact absurd ((hli i (Array.getElem?_eq_some_iff.1 ho).1).1 h1) List.not_mem_nil
 | succ fuel ih =>
  intro listed acc s a W hl hsz hli hlt hnd hpw hcl hR hop; have hboth : ∀ i, i < ops.size → (listed.getD i false = true ↔ i ∉ rem) := fun i hi => by
   rw [← hli i hi]; simp only [Array.getD_eq_getD_getElem?, Array.getElem?_eq_getElem (show i < listed.size by omega), Option.getD_some]; cases listed[i] <;> simp
  have hdeps : ∀ (o : Oper), (∀ e ∈ o.after, Region.binds .any e = true → listed.getD e.on false = true) ↔ ∀ z ∈ Fz o, listed.getD z false = true := fun o => by
   unfold Fz; constructor
   ·intro h z hz
    obtain ⟨e, he, rfl⟩ := List.mem_map.1 hz; obtain ⟨he, hb⟩ := List.mem_filter.1 he; exact h e (by simpa using he) hb
   intro h e he hb; exact h e.on (List.mem_map.2 ⟨e, List.mem_filter.2 ⟨by simpa using he, hb⟩, rfl⟩)
  refine ⟨fun hnr => ?_, fun i hi => ?_⟩
  ·exfalso
   have hex : ∃ i, i ∈ rem := by
    cases rem with
    | nil => cases hl
    | cons x r => exact ⟨x, List.mem_cons_self⟩
   obtain ⟨i, hi⟩ := hex; induction i using Nat.strongRecOn with
   | _ i ihi =>
    by_cases hm : ∃ j, j < i ∧ j ∈ rem
    ·obtain ⟨j, hj, hjr⟩ := hm
     exact ihi j hj hjr
    have hilt := hlt i hi; have : i ∈ Region.ready .any ops listed := mem_ready.2 ⟨(hli i hilt).2 hi, _, Array.getElem?_eq_getElem hilt, (hdeps _).2 fun z hz => by
     have hzi := hback i _ (Array.getElem?_eq_getElem hilt) z hz; exact (hboth z (by omega)).2 fun hzr => hm ⟨z, hzi, hzr⟩⟩
    rw [hnr] at this; cases this
  obtain ⟨h1, o, ho, hall⟩ := mem_ready.1 hi; have hilt := (Array.getElem?_eq_some_iff.1 ho).1; have him := (hli i hilt).1 h1; obtain ⟨pre, post, rfl⟩ := List.append_of_mem him; have hdo := (hdeps o).1 hall; have hpre : ∀ x ∈ pre, Ic ops U x i = true := fun x hx => by
   have := (List.pairwise_append.1 hpw).2.2 x hx i List.mem_cons_self; refine this.resolve_left fun hord => ?_
   have hxd := VM (L := fun z => listed.getD z false = true) hcl x i o ho hdo hord; exact (hboth x (hlt x (List.mem_append_left _ hx))).1 hxd (List.mem_append_left _ hx)
  have hfr := KJ hQ pre hpre hop; rw [Dz, ho] at hfr; obtain ⟨_, hst⟩ := hfr; have hnext : ∀ s' a' W', Rel X s' a' W' → Dz P X.G n ops U (pre ++ post) ((i, BC P o.op o.dst s) :: acc) s' (fun s' => Q .normal s') (fun x s' => Q (.panic x) s') → wpAny P .any ops (Em X Q) fuel (listed.setIfInBounds i true) a' W' := by
   intro s' a' W' hR' hop'; have hmem : ∀ j, j ∈ pre ++ post ↔ (j ∈ pre ++ i :: post ∧ j ≠ i) := fun j => by
    have hnd' : i ∉ pre ∧ i ∉ post := by
     have := List.nodup_append.1 hnd; exact ⟨fun h => this.2.2 i h i List.mem_cons_self rfl, (List.nodup_cons.1 this.2.1).1⟩
    simp only [List.mem_append, List.mem_cons]; constructor
    ·intro h
     exact ⟨h.imp id Or.inr, fun e => by subst e; exact h.elim hnd'.1 hnd'.2⟩
    rintro ⟨h | h | h, hne⟩
    ·exact Or.inl h
    ·exact absurd h hne
    exact Or.inr h
   have hget : ∀ j d, (listed.setIfInBounds i true).getD j d = if j = i then true else listed.getD j d := fun j d => by
    simp only [Array.getD_eq_getD_getElem?, Array.getElem?_setIfInBounds]; by_cases hj : j = i
    ·subst hj; rw [if_pos rfl, if_pos rfl, if_pos (by omega)]; rfl
    rw [if_neg (Ne.symm hj), if_neg hj]
   have hsub : (pre ++ post).Sublist (pre ++ i :: post) := List.Sublist.append_left (List.sublist_cons_self i post) pre; refine ih (pre ++ post) (listed.setIfInBounds i true) _ s' a' W' (by simp at hl ⊢; omega) (by simpa using hsz) (fun j hj => ?_) (fun j hj => hlt j ((hmem j).1 hj).1) (hnd.sublist hsub) (hpw.sublist hsub) (fun j o' ho' hj z hz => ?_) hR' hop'
   ·rw [hget, hmem]
    by_cases hji : j = i
    ·subst hji; simp
    rw [if_neg hji, hli j hj]; exact ⟨fun h => ⟨h, hji⟩, fun h => h.1⟩
   rw [hget] at hj ⊢; by_cases hzi : z = i
   ·rw [if_pos hzi]
   rw [if_neg hzi]; by_cases hji : j = i
   ·subst hji
    rw [ho] at ho'; injection ho' with ho'; subst ho'; exact hdo z hz
   rw [if_neg hji] at hj; exact hcl j o' ho' hj z hz
  unfold wpOp; rw [ho]; obtain ⟨E, S, hRE⟩ := hR; unfold Fc at hst; split at hst
  ·rename_i hg
   simp only; rw [if_pos (Ef hRE hg rfl)]; exact Or.inl (Oper.wp_mono (fun a' W' ⟨s', hR', hK⟩ => hnext s' a' W' hR' hK) (JD hn hRE hst))
  ·rename_i hg
   simp only; rw [if_neg (by rw [Ef hRE hg rfl]; simp)]; obtain ⟨s', hR', hK⟩ := FB (c := .im (.v undef)) (u := undef) hn hRE (Rep.v undef) hst; exact hnext s' _ _ hR' hK
  exact hst.elim
theorem Rel.drawn {s : ASt} {a : Act} {W : World} (h : Rel X s a W) : Rel X s a { W with drawn := W.drawn + 1 } := by
 obtain ⟨E, S, h⟩ := h; exact ⟨E, S, h.core (fun _ => False) s.st E S _ (fun _ _ => ⟨rfl, rfl, rfl⟩) rfl (fun _ hj => hj.elim) rfl rfl rfl (Nat.le_refl _) (fun _ _ _ => rfl) (fun _ _ _ => rfl) (fun _ _ h => h) (fun _ _ h => Or.inl h) h.Sb (fun _ hj => hj.elim) (fun _ _ hj => hj.elim) (fun _ _ _ hj => hj.elim)⟩
class PanicOK (Q : AExit → ASt → Prop) : Prop where
 ins : LL fun x s => Q (.panic x) s
instance {K : ASt → Prop} {Q : AExit → ASt → Prop} [h : PanicOK Q] : PanicOK (G9 K Q) := ⟨h.ins⟩
instance {id : Nat} {Q : AExit → ASt → Prop} [h : PanicOK Q] : PanicOK (Jb id Q) := ⟨h.ins⟩
theorem YM {id : Nat} {s : ASt} (n : Nat) (hn : n ≤ X.N) (π : List Nat) (U : List (Nat × Nat)) [hQ : PanicOK Q] (hm : P.follows .mixedOrders = true) (hd : OG ops π U = true) (h : Dz P X.G n ops U π [] s (fun s' => Q .normal s') (fun x s' => Q (.panic x) s')) : AW P X (.region id ops true) Q s := fun a W hR => by
 simp only [OG, Bool.and_eq_true, beq_iff_eq, List.all_eq_true, decide_eq_true_eq] at hd; obtain ⟨⟨⟨⟨⟨h1, h2⟩, h3⟩, h4⟩, h5⟩, h6⟩ := hd; refine wp_region_any hm ?_; refine RR hn hQ.ins (fun i o ho z hz => ?_) π ops.size _ [] s a _ h1 (by simp) (fun i hi => ?_) h2 (Nw h4) (LY h6) (fun i o _ hj => ?_) hR.drawn h
 ·have := h5 i (List.mem_range.2 (Array.getElem?_eq_some_iff.1 ho).1)
  rw [ho] at this; simpa using List.all_eq_true.1 this z hz
 ·have : (Array.replicate ops.size false).getD i true = false := by simp [Array.getD, hi]
  rw [this]; exact ⟨fun _ => by simpa using h3 i (List.mem_range.2 hi), fun _ => rfl⟩
 by_cases hi : i < ops.size <;> simp [Array.getD, hi] at hj
end
open Go Go.RowKit Go.Proofs Th
variable {g : NJ → NJ} {c : TK → TK}
/-! parameters -/
def Eh (s : ByteArray) : TK := if B7 s = true then (1, s) else (2, ⟨((tl s).tail).toArray⟩)
theorem PE {a b : ByteArray} (h : tl a = tl b) : a = b := by
 obtain ⟨a⟩ := a; obtain ⟨b⟩ := b; exact congrArg ByteArray.mk (Array.toList_inj.1 h)
theorem JN {s : ByteArray} (h : BO s = true) : (B7 s = true ∧ Eh s = (1, s)) ∨ (∃ t : ByteArray, Eh s = (2, t) ∧ s = ⟨#[36]⟩ ++ t ∧ Bc (tl t) = true ∧ tl s = 36 :: tl t) := by
 unfold BO at h; unfold Eh; cases hf : B7 s with
 | true => exact .inl ⟨rfl, if_pos rfl⟩
 | false =>
  rw [hf, Bool.false_or, Bool.and_eq_true, decide_eq_true_eq] at h; have e : tl s = 36 :: (tl s).tail := by
   show s.data.toList = 36 :: s.data.toList.tail
   cases hl : s.data.toList with
   | nil => rw [hl] at h; cases h.1
   | cons c r => rw [hl] at h; have := h.1; injection this with this; rw [this]; rfl
  refine .inr ⟨⟨((tl s).tail).toArray⟩, if_neg (by simp), ?_, h.2, e⟩; exact PE (by rw [Bw]; exact e)
theorem Zt {d : Nat} {s : ByteArray} (h : BO s = true) (R : List UInt8) (hR : El R = true) : RD d (tl s) [Eh s] R := by
 rcases JN h with ⟨h1, e⟩ | ⟨t, e, h1, h2, h3⟩
 ·rw [e]; exact CC (Hl h1).1 (G0 hR)
 rw [e, h3]; exact GW h2 (G0 hR)
theorem XI {s : ByteArray} (h : BO s = true) : Bal [Eh s] := by
 rcases JN h with ⟨_, e⟩ | ⟨t, e, _⟩ <;> rw [e] <;> exact FH (by simp) (by simp)
def DA (a : List ByteArray) : List TK := Fe (a.map fun s => [Eh s])
theorem PY : ∀ a : List ByteArray, a.length ≤ (DA a).length
 | [] => Nat.zero_le _
 | [_] => Nat.le_refl _
 | b :: c :: r => by
  have := PY (c :: r); simp only [DA, List.map_cons, Fe, List.length_append, List.length_cons, List.length_nil] at this ⊢; omega
theorem Wa {a : List ByteArray} (h : ∀ s ∈ a, BO s = true) : Bal (DA a) := MD _ fun x hx => by
 obtain ⟨y, hy, rfl⟩ := List.mem_map.1 hx; exact XI (h y hy)
theorem Yu {a : List ByteArray} (h : ∀ s ∈ a, BO s = true) (h0 : a ≠ []) (d : Nat) (R : List UInt8) (hR : El R = true) : RD d (tl (Ba ⟨#[59, 32]⟩ a)) (DA a) R := by
 refine Pm _ _ (by rw [List.length_map]) h0 (fun i x y R hR => ?_) R hR; rw [List.getElem_map]; exact Zt (h _ (List.getElem_mem x)) R hR
theorem Rv {β : Type} {E : Env} {k : List ByteArray → Nat → Option (PR β)} : ∀ (a acc : List ByteArray) (n i : Nat), a ≠ [] → (∀ s ∈ a, BO s = true) → AtK E i (DA a ++ [(6, ⟨#[41]⟩)]) → a.length ≤ n → Db E k n acc i = k (acc ++ a) (i + (DA a).length)
 | [], _, _, _, h, _, _, _ => absurd rfl h
 | s :: r, acc, n, i, _, h, hat, hn => by
  obtain ⟨n, rfl⟩ : ∃ m, n = m + 1 := ⟨n - 1, by simp at hn; omega⟩
  have hp := JN (h s (by simp)); have key : (r = [] ∧ AtK E (i + 1) [(6, ⟨#[41]⟩)] ∧ DA (s :: r) = [Eh s]) ∨ (∃ y r', r = y :: r' ∧ tk (Aa E (i + 1)) = (6, ⟨#[59]⟩) ∧ AtK E (i + 1 + 1) (DA r ++ [(6, ⟨#[41]⟩)]) ∧ DA (s :: r) = Eh s :: (6, ⟨#[59]⟩) :: DA r) := by
   cases r with
   | nil => exact .inl ⟨rfl, hat.cons.2, rfl⟩
   | cons y r' =>
    obtain ⟨_, hat⟩ := (show AtK E i (Eh s :: (6, ⟨#[59]⟩) :: (DA (y :: r') ++ [(6, ⟨#[41]⟩)])) from hat).cons; obtain ⟨t1, hat⟩ := hat.cons; exact .inr ⟨y, r', rfl, t1, hat, rfl⟩
  have t0 : tk (Aa E i) = Eh s := by
   cases r with
   | nil => exact hat.cons.1
   | cons y r' => exact (show AtK E i (Eh s :: (6, ⟨#[59]⟩) :: (DA (y :: r') ++ [(6, ⟨#[41]⟩)])) from hat).cons.1
  have ih : ∀ y r', r = y :: r' → AtK E (i + 1 + 1) (DA r ++ [(6, ⟨#[41]⟩)]) → Db E k n (acc ++ [s]) (i + 1 + 1) = k (acc ++ [s] ++ r) (i + 1 + 1 + (DA r).length) := fun y r' e hh =>
   Rv r (acc ++ [s]) n (i + 1 + 1) (by rw [e]; simp) (fun z hz => h z (by simp [hz])) hh (by simp at hn; omega)
  rcases hp with ⟨h1, e⟩ | ⟨t, e, h1, _⟩
  ·rw [e] at t0
   have k0 : (Aa E i).kind = 1 := congrArg Prod.fst t0; simp only [Db]; rw [if_neg (by omega), MI t0 (Hl h1).2]; rcases key with ⟨rfl, hh, e2⟩ | ⟨y, r', e1, t1, hh, e2⟩
   ·rw [if_neg (FQ hh.cons.1 (by decide)), e2]; rfl
   rw [if_pos (AV.2 t1), ih y r' e1 hh, e2, List.append_assoc, List.length_cons, List.length_cons]; congr 1; omega
  rw [e] at t0; have k0 : (Aa E i).kind = 2 := congrArg Prod.fst t0; have x0 : (Aa E i).text = t := congrArg Prod.snd t0; simp only [Db]; rw [if_pos k0, x0, ← h1]; rcases key with ⟨rfl, hh, e2⟩ | ⟨y, r', e1, t1, hh, e2⟩
  ·rw [if_neg (FQ hh.cons.1 (by decide)), e2]; rfl
  rw [if_pos (AV.2 t1), ih y r' e1 hh, e2, List.append_assoc, List.length_cons, List.length_cons]; congr 1; omega
theorem aX (s : ByteArray) (x y : NJ) (a : List ByteArray) : tl (spJ (.mk 24 s 0 0 [x, y] a)) = 40 :: 100 :: 101 :: 102 :: 32 :: (tl s ++ ((if a.length = 0 then [] else 40 :: (tl (Ba ⟨#[59, 32]⟩ a) ++ [41])) ++ 58 :: 32 :: (tl (spJ x) ++ 59 :: 32 :: (tl (spJ y) ++ [41])))) := by
 rw [spJ]; simp only [Int.reduceEq, if_true, if_false, or_false, spL, List.getD_cons_zero, List.getD_cons_succ]; split <;> simp only [Bw, C8, List.append_assoc, List.cons_append, List.nil_append]
def D1 (a : List ByteArray) : List TK := if a.length = 0 then [] else (6, ⟨#[40]⟩) :: (DA a ++ [(6, ⟨#[41]⟩)])
def IX (a : List ByteArray) : List UInt8 := if a.length = 0 then [] else 40 :: (tl (Ba ⟨#[59, 32]⟩ a) ++ [41])
theorem WK {a : List ByteArray} (h : ∀ s ∈ a, BO s = true) : Bal (D1 a) := by
 unfold D1; split
 ·exact Kf
 exact (Wa h).par
theorem XG {a : List ByteArray} (h : ∀ s ∈ a, BO s = true) (d : Nat) (R : List UInt8) : RD d (IX a) (D1 a) R := by
 unfold D1 IX; split
 ·exact Lv d R
 rename_i h0
 have := (A1 (c := 40) rfl d (tl (Ba ⟨#[59, 32]⟩ a) ++ [41] ++ R)).app ((Yu h (fun h => h0 (by rw [h]; rfl)) d ([41] ++ R) rfl).app (A1 (c := 41) rfl d R)); exact this
theorem Xg (hG : Gc g c) : ∀ a : List ByteArray, (DA a).map c = DA a := by
 have one : ∀ s, c (Eh s) = Eh s := fun s => by
  unfold Eh; split
  ·exact hG.t1 _
  exact hG.t2 _
 intro a; induction a with
 | nil => rfl
 | cons s r ih =>
  cases r with
  | nil => show [c (Eh s)] = [Eh s]; rw [one]
  | cons t r =>
   show c (Eh s) :: c (6, ⟨#[59]⟩) :: (DA (t :: r)).map c = Eh s :: (6, ⟨#[59]⟩) :: DA (t :: r)
   rw [one, hG.t6, ih]
theorem U5 (hG : Gc g c) (a : List ByteArray) : (D1 a).map c = D1 a := by
 unfold D1; split
 ·rfl
 rw [List.map_cons, List.map_append, Xg hG, List.map_cons, List.map_nil, hG.t6, hG.t6]
theorem aD (hG : Gc g c) {s : ByteArray} {x y : NJ} {a : List ByteArray} {Tx Ty : List TK} (hs : B7 s = true) (ha : ∀ s ∈ a, BO s = true) (rx : Rd g c x Tx) (ry : Rd g c y Ty) : ∃ T, Rd g c (.mk 24 s 0 0 [x, y] a) T := by
 obtain ⟨hn, hw⟩ := Hl hs; have ht : tl (spJ (.mk 24 s 0 0 [x, y] a)) = CD [⟨[40], [(6, ⟨#[40]⟩)]⟩, ⟨[100, 101, 102], [(1, ⟨#[100, 101, 102]⟩)]⟩, ⟨[32], []⟩, ⟨tl s, [(1, s)]⟩, ⟨IX a, D1 a⟩, ⟨[58], [(6, ⟨#[58]⟩)]⟩, ⟨[32], []⟩, ⟨tl (spJ x), Tx⟩, ⟨[59], [(6, ⟨#[59]⟩)]⟩, ⟨[32], []⟩, ⟨tl (spJ y), Ty⟩, ⟨[41], [(6, ⟨#[41]⟩)]⟩] := by
  rw [aX]; simp only [CD, IX, List.append_nil, List.cons_append, List.nil_append]
 have hsep : ∀ R, Bi Bz (IX a ++ 58 :: R) = 0 := fun R => by
  unfold IX; split <;> simp [Bi, Bz, Bl, Bs]
 refine ⟨BH [⟨[40], [(6, ⟨#[40]⟩)]⟩, ⟨[100, 101, 102], [(1, ⟨#[100, 101, 102]⟩)]⟩, ⟨[32], []⟩, ⟨tl s, [(1, s)]⟩, ⟨IX a, D1 a⟩, ⟨[58], [(6, ⟨#[58]⟩)]⟩, ⟨[32], []⟩, ⟨tl (spJ x), Tx⟩, ⟨[59], [(6, ⟨#[59]⟩)]⟩, ⟨[32], []⟩, ⟨tl (spJ y), Ty⟩, ⟨[41], [(6, ⟨#[41]⟩)]⟩], fun d hd R hR => ?_, ?_, ⟨_, _, rfl, by decide⟩, ⟨_, _, by rw [ht]; rfl, by decide⟩, fun E i j hat hj hq => ?_⟩
 ·rw [ht]
  simp only [AB, Bt] at hd; exact L1 ⟨A1 rfl d _, CC rfl rfl, Bb d _, CC hn (by simp only [CD, List.cons_append, List.append_assoc]; exact hsep _), XG ha d _, A1 rfl d _, Bb d _, rx.sc d (by omega) _ rfl, A1 rfl d _, Bb d _, ry.sc d (by omega) _ rfl, A1 rfl d _, trivial⟩
 ·intro s'
  simp only [BH, List.cons_append, List.nil_append, DR, Ec (k := 1) (by decide), AZ (WK ha), BL (x := ⟨#[58]⟩) (by decide) (by decide), BL (x := ⟨#[59]⟩) (by decide) (by decide), AZ rx.bal, AZ ry.bal, DT, Cc]
 simp only [BH, List.cons_append, List.nil_append, List.append_nil, List.map_cons, List.map_append, List.map_nil, hG.t1, hG.t6, U5 hG] at hat hj; rw [show g (.mk 24 s 0 0 [x, y] a) = .mk 24 s 0 0 [g x, g y] a from hG.m _ _ _ _ _ _ (by decide) (by decide)]; have hlen := hat.len; obtain ⟨t0, hat⟩ := hat.cons; obtain ⟨t1, hat⟩ := hat.cons; obtain ⟨t2, hat⟩ := hat.cons; obtain ⟨h3, hat⟩ := hat.app; obtain ⟨t4, hat⟩ := hat.cons; obtain ⟨h5, hat⟩ := hat.appM; obtain ⟨t6, hat⟩ := hat.cons; obtain ⟨h7, hat⟩ := hat.appM; obtain ⟨t8, _⟩ := hat.cons; obtain rfl : j = i + 1 + 1 + 1 + (D1 a).length + 1 + Tx.length + 1 + Ty.length + 1 := by rw [hj]; simp; omega
 have hf : evP E .filter (i + 1) = some (.ok (.mk 24 s 0 0 [g x, g y] a) (i + 1 + 1 + 1 + (D1 a).length + 1 + Tx.length + 1 + Ty.length)) := by
  rw [AD]; simp only [Ak]; rw [if_pos (AV.2 t1), AD]; simp only [Ak]; rw [MI t2 hw]; by_cases h0 : a.length = 0
  ·obtain rfl : a = [] := List.eq_nil_of_length_eq_zero h0
   have e0 : (D1 []).length = 0 := rfl; rw [e0, Nat.add_zero] at h5 t4 t6 h7 t8 ⊢; rw [if_neg (FQ t4 (by decide)), Ch t4, rx.flt hG h5 (by rw [t6]; decide), BE, Ch t6, ry.flt hG h7 (by rw [t8]; decide), BE]; rfl
  have e0 : D1 a = (6, ⟨#[40]⟩) :: (DA a ++ [(6, ⟨#[41]⟩)]) := if_neg h0; have el : (D1 a).length = 1 + (DA a).length + 1 := by rw [e0]; simp; omega
  rw [e0] at h3; obtain ⟨t3, h3⟩ := h3.cons; have ta := h3.app.2.cons.1; have ha2 : a.length ≤ E.l.length + 1 := by
   have := PY a; simp only [List.length_cons, List.length_append, el] at hlen; omega
  rw [if_pos (AV.2 t3), Rv a [] _ _ (fun h => h0 (by rw [h]; rfl)) ha h3 ha2]; rw [show i + 1 + 1 + 1 + (D1 a).length = i + 1 + 1 + 1 + 1 + (DA a).length + 1 by omega] at h5 t4 t6 h7 t8 ⊢; rw [Ch ta, Ch t4, rx.flt hG h5 (by rw [t6]; decide), BE, Ch t6, ry.flt hG h7 (by rw [t8]; decide), BE]; rfl
 exact Bx (Es t0 hf t8)
/-! signs -/
theorem I3 {k : Int} {p s : ByteArray} (hk : k = 8 ∨ k = 9 ∨ k = 10 ∨ k = 11 ∨ k = 12 ∨ k = 13 ∨ k = 25) (hs : BZ k p = s) (x y : NJ) : spJ (Ax k p x y) = ⟨#[40]⟩ ++ spJ x ++ ⟨#[32]⟩ ++ s ++ ⟨#[32]⟩ ++ spJ y ++ ⟨#[41]⟩ := by
 unfold Ax; rw [spJ, hs]; rcases hk with rfl | rfl | rfl | rfl | rfl | rfl | rfl <;> rfl
theorem Ro {k : Int} {s : List UInt8} (hk : k = 11 ∨ k = 12) (hs : BZ k ⟨#[]⟩ = ⟨s.toArray⟩) (hn : Bc s = true) (he : IK (1, ⟨s.toArray⟩)) (ha : ((1, ⟨s.toArray⟩) : TK) ≠ (1, ⟨#[97, 115]⟩)) (hq : JM (1, ⟨s.toArray⟩) ≠ 0) (hj : ∀ x y, Ka (1, ⟨s.toArray⟩) x y = Ax k ⟨#[]⟩ x y) : OpOk k ⟨#[]⟩ ⟨s.toArray⟩ (1, ⟨s.toArray⟩) :=
 ⟨by omega, show (1 : Nat) ≠ 5 by decide, I3 (by omega) hs, fun d R => CC hn rfl, fun r s => Ec (by decide) _ r s, he, ha, .inr hq, hj⟩
theorem Ii {k : Int} {p : ByteArray} {s : List UInt8} (hk : k = 8 ∨ k = 9 ∨ k = 10 ∨ k = 13 ∨ k = 25) (hs : BZ k p = ⟨s.toArray⟩) (hn : Xd s = true) (he : IK (6, ⟨s.toArray⟩)) (h1 : (⟨s.toArray⟩ : ByteArray) ≠ ⟨#[40]⟩) (h2 : (⟨s.toArray⟩ : ByteArray) ≠ ⟨#[41]⟩) (hq : ((6, ⟨s.toArray⟩) : TK) = (6, ⟨#[124]⟩) ∨ JM (6, ⟨s.toArray⟩) ≠ 0) (hj : ∀ x y, Ka (6, ⟨s.toArray⟩) x y = Ax k p x y) : OpOk k p ⟨s.toArray⟩ (6, ⟨s.toArray⟩) :=
 ⟨by omega, show (6 : Nat) ≠ 5 by decide, I3 (by omega) hs, fun d R => Xp hn d R, fun r s => BL h1 h2 r s, he, by simp, hq, hj⟩
theorem bc : OpOk 8 ⟨#[]⟩ ⟨#[124]⟩ (6, ⟨#[124]⟩) := Ii (s := [124]) (.inl rfl) rfl rfl (by decide) (by decide) (by decide) (.inl rfl) fun _ _ => rfl
theorem aQ : OpOk 9 ⟨#[]⟩ ⟨#[44]⟩ (6, ⟨#[44]⟩) := Ii (s := [44]) (by omega) rfl rfl (by decide) (by decide) (by decide) (by decide) fun _ _ => rfl
theorem ax : OpOk 13 ⟨#[]⟩ ⟨#[47, 47]⟩ (6, ⟨#[47, 47]⟩) := Ii (s := [47, 47]) (by omega) rfl rfl (by decide) (by decide) (by decide) (by decide) fun _ _ => rfl
theorem Z8 : OpOk 11 ⟨#[]⟩ ⟨#[97, 110, 100]⟩ (1, ⟨#[97, 110, 100]⟩) := Ro (s := [97, 110, 100]) (.inl rfl) rfl rfl (by decide) (by decide) (by decide) fun _ _ => rfl
theorem aq : OpOk 12 ⟨#[]⟩ ⟨#[111, 114]⟩ (1, ⟨#[111, 114]⟩) := Ro (s := [111, 114]) (.inr rfl) rfl rfl (by decide) (by decide) (by decide) fun _ _ => rfl
theorem az {s : ByteArray} (h : inB C6 s = true) : OpOk 10 s s (6, s) := by
 unfold inB C6 at h; simp only [List.any_cons, List.any_nil, Bool.or_false, Bool.or_eq_true, decide_eq_true_eq] at h; rcases h with rfl | rfl | rfl | rfl | rfl | rfl | rfl | rfl | rfl | rfl | rfl <;> exact Ii (by omega) rfl rfl (by decide) (by decide) (by decide) (by decide) fun _ _ => rfl
theorem Z6 {s : ByteArray} (h : inB Ez s = true) : OpOk 25 s s (6, s) := by
 unfold inB Ez at h; simp only [List.any_cons, List.any_nil, Bool.or_false, Bool.or_eq_true, decide_eq_true_eq] at h; rcases h with rfl | rfl | rfl | rfl | rfl | rfl | rfl <;> exact Ii (by omega) rfl rfl (by decide) (by decide) (by decide) (by decide) fun _ _ => rfl
end Go.Proofs.YtakncilicoefdaaGreatDoor
