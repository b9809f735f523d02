/- Lemmas and contracts. Conditions: those that each lemma names. -/
import Derived.Test.YtakncilicoefdaaGreatDoorPt18
set_option maxRecDepth 100000
set_option maxHeartbeats 4000000
namespace Go.Proofs.YtakncilicoefdaaGreatDoor
open Go Go.RowKit Go.Proofs Th
inductive ORes where
 | val (c : FV) (ch : Option (Nat × AObj))
 | pan (x : Value) (b : Option Nat)
def ORes.ch : ORes → Option (Nat × AObj)
 | .val _ ch => ch
 | .pan _ b => b.map fun b => (b, AObj.none)
def fin (n : Nat) (s : ASt) (d : Option Nat) (K : ASt → Prop) (Qp : Value → ASt → Prop) : ORes → Prop
 | .val c ch => El n s d c (app s.st ch) K
 | .pan x none => Qp x s
 | .pan x (some b) => ∀ L : Nat, Qp x ⟨s.fr, upd s.st b (.box (List.replicate L .junk))⟩
def Ee : Op → Bool
 | .call c => (match c.callee with
  | .builtin _ => true
  | _ => false)
 | .panic _ => false
 | _ => true
structure LoA (P : Program) (G : World → CS → Prop) (n : Nat) (o : Oper) (s : ASt) (r : ORes) : Prop where
 wr : DL o.op = false → r.ch = none
 ft : ∀ k x, r.ch = some (k, x) → k ∈ Bk P o.op o.dst s
 q : Ee o.op = true → ∃ c ch, r = .val c ch
 go : ∀ s2, SameOn P o.op o.dst s s2 → ∀ K Qp, fin n s2 o.dst K Qp r → aop P G n o s2 K Qp
theorem Tm {n : Nat} {s : ASt} {d : Option Nat} {K K' : ASt → Prop} {Qp : Value → ASt → Prop} (hK : ∀ s', K s' → K' s') {r : ORes} (h : fin n s d K Qp r) : fin n s d K' Qp r := by
 cases r with
 | val c ch =>
  cases d with
  | none => exact hK _ h
  | some d => exact ⟨h.1, hK _ h.2⟩
 | pan x b => cases b <;> exact h
theorem EI {s s2 : ASt} : ∀ {l : List Operand}, (∀ x ∈ l, Aw s2 x = Aw s x) → (∀ k n, FV.own k n ∈ l.map (Aw s) → s2.st k = s.st k) → Cp s2 l = Cp s l
 | [], _, _ => rfl
 | x :: r, h1, h2 => by
  have e2 : CX s2.st (Aw s x) = CX s.st (Aw s x) := Ed (fun k n e => h2 k n (by rw [← e]; exact List.mem_cons_self)); simp only [Cp, h1 x List.mem_cons_self, e2, EI (l := r) (fun x hx => h1 x (List.mem_cons_of_mem _ hx)) (fun k n h => h2 k n (List.mem_cons_of_mem _ h))]
section
variable {P : Program} {G : World → CS → Prop} {n : Nat} {o : Oper} {s : ASt} {K : ASt → Prop} {Qp : Value → ASt → Prop}
theorem VW (h : aop P G n o s K Qp) : ∃ r, fin n s o.dst K Qp r ∧ LoA P G n o s r := by
 have hval : (∀ s2 K2 Qp2, Az P o.op o.dst s2 (fun x st' => El n s2 o.dst x st' K2) → aop P G n o s2 K2 Qp2) → Az P o.op o.dst s (fun x st' => El n s o.dst x st' K) → ∃ r, fin n s o.dst K Qp r ∧ LoA P G n o s r := by
  intro hback hv; obtain ⟨c, ch, hK, hl⟩ := UR hv; exact ⟨.val c ch, hK, hl.wr, hl.ft, fun _ => ⟨c, ch, rfl⟩, fun s2 hs K2 Qp2 hf => hback s2 K2 Qp2 (hl.go s2 hs _ hf)⟩
 unfold aop at h; split at h
 ·rename_i c ho
  split at h
  ·rename_i f hcal
   have hback : ∀ s2 K2 Qp2, EO P G f c.args.toList o.dst n s2 K2 Qp2 → aop P G n o s2 K2 Qp2 := fun s2 K2 Qp2 hh => by unfold aop; simp only [ho, hcal]; exact hh
   have hwr : DL o.op = true := by rw [ho]; simp [DL, hcal]
   have hq : Ee o.op = false := by rw [ho]; simp [Ee, hcal]
   have hops : ∀ x ∈ c.args.toList, x ∈ o.op.operands := fun x hx => by rw [ho]; simp [Op.operands, Call.operands]; exact Or.inr (by simpa using hx)
   have hfo : ∀ k n, FV.own k n ∈ c.args.toList.map (Aw s) → k ∈ Bk P o.op o.dst s := fun k n hm => by
    rw [ho]; simp only [Bk, hcal]; exact List.mem_append_left _ (B7 hm)
   have plain : ∀ xa, Cp s c.args.toList = some xa → CG P G f (some xa) o.dst n s K Qp → (∀ s2 K2 Qp2, SameOn P o.op o.dst s s2 → CG P G f (Cp s2 c.args.toList) o.dst n s2 K2 Qp2 → EO P G f c.args.toList o.dst n s2 K2 Qp2) → ∃ r, fin n s o.dst K Qp r ∧ LoA P G n o s r := by
    intro xa hxa hc hb2; obtain ⟨res, hC, hres⟩ := hc; have hsame : ∀ s2, SameOn P o.op o.dst s s2 → Cp s2 c.args.toList = some xa := fun s2 hs => by
     rw [← hxa]; exact EI (fun x hx => hs.v x (hops x hx)) (fun k n hm => hs.o k (hfo k n hm))
    cases res with
    | ret v rc' => exact ⟨.val (.im v) none, hres, fun e => (by rw [hwr] at e; cases e), fun k x e => (by cases e), fun e => (by rw [hq] at e; cases e), fun s2 hs K2 Qp2 hf => hback s2 K2 Qp2 (hb2 s2 K2 Qp2 hs (by rw [hsame s2 hs]; exact ⟨_, hC, hf⟩))⟩
    | pan x => exact ⟨.pan x none, hres, fun e => (by rw [hwr] at e; cases e), fun k x e => (by cases e), fun e => (by rw [hq] at e; cases e), fun s2 hs K2 Qp2 hf => hback s2 K2 Qp2 (hb2 s2 K2 Qp2 hs (by rw [hsame s2 hs]; exact ⟨_, hC, hf⟩))⟩
   unfold EO at h; split at h
   ·rename_i hxs
    exact plain [] (by rw [hxs]; rfl) h (fun s2 K2 Qp2 _ hh => by rw [hxs] at hh ⊢; exact hh)
   rename_i x r hxs
   split at h
   ·rename_i b hx
    split at h
    ·rename_i cs hb
     unfold Gg at h; split at h
     ·rename_i rc xa hrc hxa
      obtain ⟨res, hC, hres⟩ := h; have hfb : b ∈ Bk P o.op o.dst s := by rw [ho]; simp only [Bk, hcal, hxs, hx]; exact List.mem_append_right _ List.mem_cons_self
      have hfc : ∀ k n, FV.own k n ∈ cs → k ∈ Bk P o.op o.dst s := fun k n hm => by rw [ho]; simp only [Bk, hcal, hxs, hx, hb]; exact List.mem_append_right _ (List.mem_cons_of_mem _ (B7 hm))
      have hgo : ∀ s2 K2 Qp2, SameOn P o.op o.dst s s2 → Gg P G f b (some rc) (some xa) o.dst n s2 K2 Qp2 → EO P G f c.args.toList o.dst n s2 K2 Qp2 := fun s2 K2 Qp2 hs hh => by
       have e1 : DG s2.st cs = some rc := by rw [← hrc]; exact Gy (fun k n hm => hs.o k (hfc k n hm))
       have e2 : Cp s2 r = some xa := by rw [← hxa]; exact EI (fun y hy => hs.v y (hops y (by rw [hxs]; exact List.mem_cons_of_mem _ hy))) (fun k n hm => hs.o k (hfo k n (by rw [hxs]; exact List.mem_cons_of_mem _ hm)))
       unfold EO; simp only [hxs, hs.v x (hops x (by rw [hxs]; exact List.mem_cons_self)), hx, hs.o b hfb, hb, e1, e2]; exact hh
      cases res with
      | ret v rc' => exact ⟨.val (.im v) (some (b, _)), hres, fun e => (by rw [hwr] at e; cases e), fun k x e => (by injection e with e; injection e with e1 e2; subst e1; exact hfb), fun e => (by rw [hq] at e; cases e), fun s2 hs K2 Qp2 hf => hback s2 K2 Qp2 (hgo s2 K2 Qp2 hs ⟨_, hC, hf⟩)⟩
      | pan x => exact ⟨.pan x (some b), hres, fun e => (by rw [hwr] at e; cases e), fun k x e => (by simp only [ORes.ch, Option.map_some] at e; injection e with e; injection e with e1 e2; subst e1; exact hfb), fun e => (by rw [hq] at e; cases e), fun s2 hs K2 Qp2 hf => hback s2 K2 Qp2 (hgo s2 K2 Qp2 hs ⟨_, hC, hf⟩)⟩
     exact h.elim
    exact h.elim
   rename_i hnp
   unfold CG at h; split at h
   ·rename_i xa hxa
    refine plain xa (by rw [hxs]; exact hxa) (by unfold CG; exact h) (fun s2 K2 Qp2 hs hh => ?_); rw [hxs] at hh ⊢; unfold EO; simp only; split
    ·rename_i b hx2
     rw [hs.v x (hops x (by rw [hxs]; exact List.mem_cons_self))] at hx2; exact absurd hx2 (hnp b)
    exact hh
   exact h.elim
  ·rename_i t hcal
   have hwr : DL o.op = true := by rw [ho]; simp [DL, hcal]
   have hq : Ee o.op = false := by rw [ho]; simp [Ee, hcal]
   have hops : ∀ x ∈ c.args.toList, x ∈ o.op.operands := fun x hx => by rw [ho]; simp [Op.operands, Call.operands]; exact Or.inr (by simpa using hx)
   have hot : Operand.tmp t ∈ o.op.operands := by rw [ho]; simp [Op.operands, Call.operands, hcal]
   have hfo : ∀ k n, FV.own k n ∈ c.args.toList.map (Aw s) → k ∈ Bk P o.op o.dst s := fun k n hm => by
    rw [ho]; simp only [Bk, hcal]; exact List.mem_append_left _ (B7 hm)
   split at h
   ·rename_i f first caps hx
    obtain ⟨h0, h⟩ := h; unfold CG at h; split at h
    ·rename_i xa has
     obtain ⟨res, hC, hres⟩ := h; have hsame : ∀ s2, SameOn P o.op o.dst s s2 → (Cp s2 c.args.toList).map (fun xa => xa ++ caps.toList.map IV.v) = some xa := fun s2 hs => by
      rw [← has]; congr 1; exact EI (fun x hx => hs.v x (hops x hx)) (fun k n hm => hs.o k (hfo k n hm))
     have hgo : ∀ s2 K2 Qp2, SameOn P o.op o.dst s s2 → CG P G f (some xa) o.dst n s2 K2 Qp2 → aop P G n o s2 K2 Qp2 := fun s2 K2 Qp2 hs hh => by
      have hv : s2.fr t = .im (.v (.func (.func f) first caps)) := (hs.v _ hot).trans hx; unfold aop; simp only [ho, hcal, hv]; exact ⟨h0, by rw [hsame s2 hs]; exact hh⟩
     cases res with
     | ret v rc' => exact ⟨.val (.im v) none, hres, fun e => (by rw [hwr] at e; cases e), fun k x e => (by cases e), fun e => (by rw [hq] at e; cases e), fun s2 hs K2 Qp2 hf => hgo s2 K2 Qp2 hs ⟨_, hC, hf⟩⟩
     | pan x => exact ⟨.pan x none, hres, fun e => (by rw [hwr] at e; cases e), fun k x e => (by cases e), fun e => (by rw [hq] at e; cases e), fun s2 hs K2 Qp2 hf => hgo s2 K2 Qp2 hs ⟨_, hC, hf⟩⟩
    exact h.elim
   exact h.elim
  exact hval (fun s2 K2 Qp2 hv => by
   unfold aop; simp only [ho]; rw [ho] at hv; exact hv) (by rw [ho]; exact h)
 ·rename_i x ho
  split at h
  ·rename_i t u hx
   refine ⟨.pan (.iface t u) none, h, fun _ => rfl, fun k x e => (by cases e), fun e => (by rw [ho] at e; cases e), fun s2 hs K2 Qp2 hf => ?_⟩; unfold aop; simp only [ho, hs.v x (by rw [ho]; simp [Op.operands]), hx]; exact hf
  exact h.elim
 rename_i hnc hnp
 refine hval (fun s2 K2 Qp2 hv => ?_) h; unfold aop; split
 ·rename_i c e; exact (hnc c e).elim
 ·rename_i x e; exact (hnp x e).elim
 exact hv
end
/-! steps, in any order -/
def D0 (P : Program) (G : World → CS → Prop) (n : Nat) (ops : Array Oper) (o : Oper) (s : ASt) (K : ASt → Prop) (Qp : Value → ASt → Prop) : Prop := match C2 ops s o.guard with
 | some true => aop P G n o s K Qp
 | some false => El n s o.dst (.im (.v undef)) s.st K
 | none => False
structure LoS (P : Program) (G : World → CS → Prop) (n : Nat) (ops : Array Oper) (o : Oper) (s : ASt) (r : ORes) : Prop where
 wr : DL o.op = false → r.ch = none
 ft : ∀ k x, r.ch = some (k, x) → k ∈ Bk P o.op o.dst s
 q : Ee o.op = true → ∃ c ch, r = .val c ch
 go : ∀ s2, SameOn P o.op o.dst s s2 → C2 ops s2 o.guard = C2 ops s o.guard → ∀ K Qp, fin n s2 o.dst K Qp r → D0 P G n ops o s2 K Qp
section
variable {P : Program} {G : World → CS → Prop} {n : Nat} {ops : Array Oper} {o : Oper} {s : ASt} {K K' : ASt → Prop} {Qp : Value → ASt → Prop}
theorem K6 (h : D0 P G n ops o s K Qp) : ∃ r, fin n s o.dst K Qp r ∧ LoS P G n ops o s r := by
 unfold D0 at h; split at h
 ·rename_i hg
  obtain ⟨r, hf, hl⟩ := VW h; exact ⟨r, hf, hl.wr, hl.ft, hl.q, fun s2 hs hg2 K Qp hf2 => by unfold D0; rw [hg2, hg]; exact hl.go s2 hs K Qp hf2⟩
 ·rename_i hg
  exact ⟨.val (.im (.v undef)) none, h, fun _ => rfl, fun k x e => (by cases e), fun _ => ⟨_, _, rfl⟩, fun s2 hs hg2 K Qp hf2 => by unfold D0; rw [hg2, hg]; exact hf2⟩
 exact h.elim
theorem Oy {op : Op} {d : Option Nat} (s : ASt) : SameOn P op d s s := ⟨fun _ _ => rfl, fun _ _ => rfl⟩
theorem FP (hK : ∀ s', K s' → K' s') (h : D0 P G n ops o s K Qp) : D0 P G n ops o s K' Qp := by
 obtain ⟨r, hf, hl⟩ := K6 h; exact hl.go s (Oy s) rfl K' Qp (Tm hK hf)
theorem Lr {op : Op} {d : Option Nat} {s s2 : ASt} (h : SameOn P op d s s2) : Bk P op d s2 = Bk P op d s := by
 have hv := h.v; have hps : ∀ ps : Array (Nat × Operand), (∀ x ∈ (ps.toList.map (·.2)).toArray, Aw s2 x = Aw s x) → (ps.toList.map fun p => Aw s2 p.2) = ps.toList.map fun p => Aw s p.2 := fun ps hh =>
  List.map_congr_left fun p hp => hh p.2 (by simp; exact ⟨p.1, by simpa using hp⟩)
 have ho := h.o; cases op with
 | box t x => simp only [Bk, hv x (by simp [Op.operands])]
 | load t x =>
  have e1 := hv x (by simp [Op.operands]); simp only [Bk] at ho ⊢; rw [e1]; split
  ·rename_i b o hx
   rw [ho b (by rw [hx]; exact List.mem_cons_self)]
  rfl
 | store t x y => simp only [Bk, hv x (by simp [Op.operands]), hv y (by simp [Op.operands])]
 | build t ps => simp only [Bk, hps ps hv]
 | buildSlice t n ps => simp only [Bk, hps ps hv]
 | indexAddr t x i => simp only [Bk, hv x (by simp [Op.operands])]
 | call c =>
  have e1 : c.args.toList.map (Aw s2) = c.args.toList.map (Aw s) := List.map_congr_left fun x hx => hv x (by simp [Op.operands, Call.operands]; exact Or.inr (by simpa using hx))
  simp only [Bk] at ho ⊢; rw [e1]; split
  ·rfl
  rename_i hcal
  have hne : ∀ x r, c.args.toList = x :: r → Aw s2 x = Aw s x := by
   intro x r hxr; apply hv; have h1 : x ∈ c.args.toList := by rw [hxr]; exact List.mem_cons_self
   simp [Op.operands, Call.operands]; exact Or.inr (by simpa using h1)
  have ho2 : ∀ k ∈ (match c.args.toList with
   | x :: _ => (match Aw s x with
    | .ptr b _ => b :: (match s.st b with
     | .box cs => C1 cs
     | _ => [])
    | _ => [])
   | [] => []), s2.st k = s.st k := by
   intro k hk; apply ho; split
   ·rename_i b e; exact (hcal b e).elim
   exact List.mem_append_right _ hk
  congr 1
  revert ho2 hne
  cases c.args.toList with
  | nil => intro _ _; rfl
  | cons x r =>
   intro hne ho2; simp only at ho2 ⊢; rw [hne x r rfl]; split
   ·rename_i b oo hx
    rw [ho2 b (by rw [hx]; exact List.mem_cons_self)]
   rfl
 | _ => rfl
theorem S1 {a : Oper} {t : Nat} (h : t ∉ a.looksAt ops) (c : FV) (st' : Nat → AObj) : (∀ x ∈ a.op.operands, Aw ⟨upd s.fr t c, st'⟩ x = Aw s x) ∧ C2 ops ⟨upd s.fr t c, st'⟩ a.guard = C2 ops s a.guard := by
 unfold Oper.looksAt at h; rw [List.mem_append, not_or] at h; refine ⟨fun x hx => ?_, ?_⟩
 ·cases x with
  | tmp u =>
   have : u ≠ t := fun e => h.1 (List.mem_filterMap.2 ⟨.tmp u, by simpa using hx, by rw [e]⟩)
   exact BD _ _ this
  | _ => rfl
 unfold C2; cases hg : a.guard with
 | none => rfl
 | some gw =>
  obtain ⟨g, want⟩ := gw; simp only; cases hd : (ops[g]?).bind (·.dst) with
  | none => rfl
  | some u =>
   have : u ≠ t := fun e => h.2 (by rw [hg]; simp only [hd]; simp [e])
   simp only [BD _ _ this]
def Hn (s : ASt) (dd : Option Nat) (c : FV) (st' : Nat → AObj) : ASt := match dd with
 | some t => ⟨upd s.fr t c, st'⟩
 | none => ⟨s.fr, st'⟩
theorem LM {a : Oper} {dd : Option Nat} (h : ∀ t, dd = some t → t ∉ a.looksAt ops) (c : FV) (st' : Nat → AObj) {s2 : ASt} (hs2 : s2 = Hn s dd c st') :
  (∀ x ∈ a.op.operands, Aw s2 x = Aw s x) ∧ C2 ops s2 a.guard = C2 ops s a.guard := by
 subst hs2; cases dd with
 | none => exact ⟨fun x _ => by cases x <;> rfl, rfl⟩
 | some t => exact S1 (h t rfl) c st'
theorem S7 {dd : Option Nat} {c : FV} {st' : Nat → AObj} : El n s dd c st' K ↔ (∀ t, dd = some t → t < n) ∧ K (Hn s dd c st') := by
 cases dd with
 | none => exact ⟨fun h => ⟨fun t e => (by cases e), h⟩, fun h => h.2⟩
 | some t => exact ⟨fun h => ⟨fun t' e => (by injection e with e; subst e; exact h.1), h.2⟩, fun h => ⟨h.1 t rfl, h.2⟩⟩
def Nq (f g : List Nat) : Bool := f.all fun k => !g.contains k
theorem UZ {f g : List Nat} (h : Nq f g = true) {k : Nat} (hk : k ∈ f) : k ∉ g := by
 have := List.all_eq_true.1 h k hk; simpa using this
def Kz (U : List (Nat × Nat)) (i : Nat) (f : List Nat) : List (Nat × List Nat) → Prop
 | [] => True
 | (j, g) :: r => (U.contains (j, i) = true → Nq g f = true) ∧ Kz U i f r
theorem CV {U : List (Nat × Nat)} {i : Nat} {f : List Nat} : ∀ {acc : List (Nat × List Nat)}, Kz U i f acc ↔ ∀ e ∈ acc, U.contains (e.1, i) = true → Nq e.2 f = true
 | [] => ⟨fun _ e h => (by cases h), fun _ => trivial⟩
 | (j, g) :: r => ⟨fun h e he => by
   rcases List.mem_cons.1 he with rfl | he
   ·exact h.1
   exact CV.1 h.2 e he, fun h => ⟨h (j, g) List.mem_cons_self, CV.2 fun e he => h e (List.mem_cons_of_mem _ he)⟩⟩
def B3 (P : Program) (G : World → CS → Prop) (n : Nat) (ops : Array Oper) (U : List (Nat × Nat)) : List Nat → List (Nat × List Nat) → ASt → (ASt → Prop) → (Value → ASt → Prop) → Prop
 | [], _, s, K, _ => K s
 | i :: r, acc, s, K, Qp => match ops[i]? with
  | some o => Kz U i (Bk P o.op o.dst s) acc ∧ D0 P G n ops o s (fun s' => B3 P G n ops U r ((i, Bk P o.op o.dst s) :: acc) s' K Qp) Qp
  | none => False
theorem LZ {U : List (Nat × Nat)} : ∀ (l : List Nat) {acc acc' : List (Nat × List Nat)} {s : ASt}, (∀ e ∈ acc', e ∈ acc) → B3 P G n ops U l acc s K Qp → B3 P G n ops U l acc' s K Qp
 | [], _, _, _, _, h => h
 | i :: r, acc, acc', s, hs, h => by
  simp only [B3] at h ⊢; cases ho : ops[i]? with
  | none => rw [ho] at h; exact h
  | some o =>
   rw [ho] at h; exact ⟨CV.2 fun e he => CV.1 h.1 e (hs e he), FP (fun s' h' => LZ r (fun e he => (List.mem_cons.1 he).elim (fun e => e ▸ List.mem_cons_self) (fun he => List.mem_cons_of_mem _ (hs e he))) h') h.2⟩
def MD (a : Oper) : Bool := !DL a.op || (match a.op with | .alloc _ => a.dst != some 1000 | _ => false)
def F6 (ops : Array Oper) (U : List (Nat × Nat)) (x y : Nat) : Bool := match ops[x]?, ops[y]? with
 | some a, some b => a.apart ops b && Ee a.op && (Ee b.op || MD a) && !U.contains (y, x) && (U.contains (x, y) || !(KP a.op && KP b.op && (DL a.op || DL b.op)))
 | _, _ => false
theorem J0 {op : Op} {d : Option Nat} (h : KP op = false) (s : ASt) : Bk P op d s = [] := by
 cases op <;> first | rfl | cases h
def JQ (Qp : Value → ASt → Prop) : Prop := ∀ x (s s' : ASt), s'.st 1000 = s.st 1000 → Qp x s → Qp x s'
theorem Gs {st : Nat → AObj} {ch : Option (Nat × AObj)} {k : Nat} (h : ∀ j x, ch = some (j, x) → k ≠ j) : app st ch k = st k := by
 cases ch with
 | none => rfl
 | some e => obtain ⟨j, x⟩ := e; exact BD _ _ (h j x rfl)
theorem Sh {st : Nat → AObj} {c1 c2 : Option (Nat × AObj)} (h : ∀ j x k y, c1 = some (j, x) → c2 = some (k, y) → j ≠ k) : app (app st c1) c2 = app (app st c2) c1 := by
 cases c1 with
 | none => rfl
 | some e1 =>
  cases c2 with
  | none => rfl
  | some e2 =>
   obtain ⟨j, x⟩ := e1; obtain ⟨k, y⟩ := e2; exact NQ st x y (h j x k y rfl rfl)
theorem Lh {dd : Option Nat} {c : FV} {ch : Option (Nat × AObj)} {s : ASt} : fin n s dd K Qp (.val c ch) ↔ (∀ t, dd = some t → t < n) ∧ K (Hn s dd c (app s.st ch)) := S7
theorem Qh {U : List (Nat × Nat)} (hQ : JQ Qp) {x y : Nat} {r : List Nat} {acc : List (Nat × List Nat)} (hp : F6 ops U x y = true) (h : B3 P G n ops U (x :: y :: r) acc s K Qp) : B3 P G n ops U (y :: x :: r) acc s K Qp := by
 unfold F6 at hp; split at hp
 ·rename_i a b ha hb
  simp only [Bool.and_eq_true, Bool.not_eq_true'] at hp; obtain ⟨⟨⟨⟨hap, hq⟩, hsoft⟩, hyx⟩, hxy⟩ := hp; obtain ⟨p1, p2, p3⟩ := Oper.apart_spec hap; simp only [B3, ha, hb] at h ⊢; obtain ⟨hc, hst⟩ := h; obtain ⟨rx, hfx, lx⟩ := K6 hst; obtain ⟨cx, chx, rfl⟩ := lx.q hq; rw [Lh] at hfx; obtain ⟨hnx, hcy, hsy⟩ := hfx; obtain ⟨ry, hfy, ly⟩ := K6 hsy; generalize hs1 : Hn s a.dst cx (app s.st chx) = s1 at *; have hst1 : s1.st = app s.st chx := by rw [← hs1]; cases a.dst <;> rfl
  -- the feet are apart
  have hdis : chx ≠ none ∨ ry.ch ≠ none → ∀ k, k ∈ Bk P a.op a.dst s → k ∉ Bk P b.op b.dst s1 := by
   intro hor k hk; have hwr : DL a.op = true ∨ DL b.op = true := by
    rcases hor with h1 | h1
    ·exact Or.inl (by cases hw : DL a.op with
      | true => rfl
      | false => exact absurd (lx.wr hw) h1)
    exact Or.inr (by cases hw : DL b.op with
     | true => rfl
     | false => exact absurd (ly.wr hw) h1)
   rw [Bool.or_eq_true] at hxy; rcases hxy with h2 | h2
   ·exact UZ ((CV.1 hcy) _ List.mem_cons_self h2) hk
   simp only [Bool.not_eq_true', Bool.and_eq_false_iff] at h2; rcases h2 with (h2 | h2) | h2
   ·rw [J0 h2] at hk; cases hk
   ·rw [J0 h2]; simp
   simp only [Bool.or_eq_false_iff] at h2; rcases hwr with h3 | h3
   ·rw [h2.1] at h3; cases h3
   rw [h2.2] at h3; cases h3
  -- y, without x
  have hly := LM (ops := ops) (s := s) (a := b) (dd := a.dst) p1 cx (app s.st chx) (s2 := s1) hs1.symm; have hsy0 : SameOn P b.op b.dst s1 s := ⟨fun z hz => (hly.1 z hz).symm, fun k hk => by
   rw [hst1]; refine (Gs fun j z e hkj => ?_).symm; subst hkj; exact hdis (Or.inl (by rw [e]; simp)) k (lx.ft k z e) hk⟩
  have hfy0 := Lr hsy0; refine ⟨?_, ?_⟩
  ·rw [hfy0]
   exact CV.2 fun e he => CV.1 hcy e (List.mem_cons_of_mem _ he)
  refine ly.go s hsy0 hly.2.symm _ _ ?_; cases ry with
  | pan z chy =>
   have hsf : MD a = true := by
    rw [Bool.or_eq_true] at hsoft; rcases hsoft with h9 | h9
    ·obtain ⟨_, _, h9⟩ := ly.q h9; cases h9
    exact h9
   have hloc : ∀ j w, chx = some (j, w) → 1000 ≠ j := by
    intro j w e hj; subst hj; have hw : DL a.op = true := by
     cases hw : DL a.op with
     | true => rfl
     | false => have h9 := lx.wr hw; rw [show chx = none from h9] at e; cases e
    have hft := lx.ft _ w e; unfold MD at hsf; rw [hw] at hsf; simp only [Bool.not_true, Bool.false_or] at hsf; split at hsf
    ·rename_i t hop
     rw [hop] at hft; simp only [Bk, Option.mem_toList] at hft; rw [hft] at hsf; simp at hsf
    cases hsf
   cases chy with
   | none =>
    refine hQ z s1 s ?_ hfy; rw [hst1]; exact (Gs hloc).symm
   | some j =>
    intro L; refine hQ z _ _ ?_ (hfy L); show upd s.st j _ 1000 = upd s1.st j _ 1000
    by_cases hj : 1000 = j
    ·subst hj; rw [AK, AK]
    rw [BD _ _ hj, BD _ _ hj, hst1]; exact (Gs hloc).symm
  | val cy chy =>
   rw [Lh] at hfy ⊢; refine ⟨hfy.1, ?_⟩; generalize hs2 : Hn s b.dst cy (app s.st chy) = s2; have hst2 : s2.st = app s.st chy := by rw [← hs2]; cases b.dst <;> rfl
   have hlx := LM (ops := ops) (s := s) (a := a) (dd := b.dst) p3 cy (app s.st chy) (s2 := s2) hs2.symm; have hsx : SameOn P a.op a.dst s s2 := ⟨hlx.1, fun k hk => by
    rw [hst2]; refine Gs fun j z e hkj => ?_
    subst hkj; exact hdis (Or.inr (by show chy ≠ none; rw [e]; simp)) k hk (ly.ft k z e)⟩
   have hfx0 := Lr hsx; refine ⟨?_, ?_⟩
   ·rw [hfx0]
    exact CV.2 fun e he => by
     rcases List.mem_cons.1 he with rfl | he
     ·intro h9; rw [hyx] at h9; cases h9
     exact CV.1 hc e he
   refine lx.go s2 hsx hlx.2 _ _ ?_; rw [Lh]; refine ⟨hnx, ?_⟩; have hcomm : Hn s2 a.dst cx (app s2.st chx) = Hn s1 b.dst cy (app s1.st chy) := by
    rw [hst2, hst1, Sh (c1 := chy) (c2 := chx) (fun j u k v e1 e2 hjk => by
     subst hjk; exact hdis (Or.inl (by rw [e2]; simp)) j (lx.ft j v e2) (ly.ft j u e1)), ← hs1, ← hs2]
    cases hda : a.dst with
    | none => cases b.dst <;> rfl
    | some t =>
     cases hdb : b.dst with
     | none => rfl
     | some u =>
      simp only [Hn]; rw [NQ _ _ _ (fun e => p2 t hda (by rw [hdb, e]))]
   rw [hcomm]; refine LZ r (fun e he => ?_) hfy.2; rw [hfx0, hfy0] at he; rcases List.mem_cons.1 he with rfl | he
   ·exact List.mem_cons_of_mem _ List.mem_cons_self
   rcases List.mem_cons.1 he with rfl | he
   ·exact List.mem_cons_self
   exact List.mem_cons_of_mem _ (List.mem_cons_of_mem _ he)
 cases hp
theorem IU {U : List (Nat × Nat)} (hQ : JQ Qp) {y : Nat} : ∀ (pre : List Nat) {post : List Nat} {acc : List (Nat × List Nat)} {s : ASt}, (∀ x ∈ pre, F6 ops U x y = true) → B3 P G n ops U (pre ++ y :: post) acc s K Qp → B3 P G n ops U (y :: (pre ++ post)) acc s K Qp
 | [], _, _, _, _, h => h
 | x :: pre, post, acc, s, hp, h => by
  refine Qh hQ (hp x List.mem_cons_self) ?_; rw [List.cons_append, B3] at h; rw [B3]; split at h
  ·rename_i a ha
   exact ⟨h.1, FP (fun s' hs => IU hQ pre (fun z hz => hp z (List.mem_cons_of_mem _ hz)) hs) h.2⟩
  exact h.elim
end
/-! what comes before what -/
def Ew (o : Oper) : List Nat := (o.after.toList.filter (Region.binds .any ·)).map (·.on)
def FO (x : Nat) : List Oper → List Bool → List Bool
 | [], acc => acc
 | o :: r, acc => FO x r (acc ++ [(Ew o).any fun z => z == x || acc.getD z false])
theorem LU (x : Nat) : ∀ (l : List Oper) (acc : List Bool), ∃ t, FO x l acc = acc ++ t ∧ t.length = l.length
 | [], acc => ⟨[], by simp [FO], rfl⟩
 | o :: r, acc => by
  obtain ⟨t, h1, h2⟩ := LU x r (acc ++ [(Ew o).any fun z => z == x || acc.getD z false]); exact ⟨((Ew o).any fun z => z == x || acc.getD z false) :: t, by rw [FO, h1]; simp, by simp [h2]⟩
theorem SV (x : Nat) (l : List Oper) : ∀ (acc : List Bool) (j : Nat) (o : Oper), l[j]? = some o → (FO x l acc)[acc.length + j]? = some ((Ew o).any fun z => z == x || ((FO x l acc).take (acc.length + j)).getD z false) := by
 induction l with
 | nil => intro acc j o h; simp at h
 | cons o r ih =>
  intro acc j o' h; cases j with
  | zero =>
   simp only [List.getElem?_cons_zero, Option.some.injEq] at h; subst h; obtain ⟨t, h1, h2⟩ := LU x r (acc ++ [(Ew o).any fun z => z == x || acc.getD z false]); rw [FO, h1, Nat.add_zero, List.append_assoc, List.getElem?_append_right (Nat.le_refl _), Nat.sub_self, List.take_left]; rfl
  | succ j =>
   have := ih (acc ++ [(Ew o).any fun z => z == x || acc.getD z false]) j o' (by simpa using h); rw [List.length_append, List.length_singleton, show acc.length + 1 + j = acc.length + (j + 1) by omega] at this; exact this
def J6 (ops : Array Oper) (x : Nat) : List Bool := FO x ops.toList []
theorem TZ {ops : Array Oper} {L : Nat → Prop} (hcl : ∀ i o, ops[i]? = some o → L i → ∀ z ∈ Ew o, L z) (x : Nat) : ∀ (y : Nat) (o : Oper), ops[y]? = some o → (∀ z ∈ Ew o, L z) → (J6 ops x).getD y false = true → L x := by
 intro y; induction y using Nat.strongRecOn with
 | _ y ih =>
  intro o ho hd hr; have hsp := SV x ops.toList [] y o (by simpa using ho); simp only [List.length_nil, Nat.zero_add] at hsp; rw [List.getD_eq_getElem?_getD, J6, hsp] at hr; simp only [Option.getD_some, List.any_eq_true, Bool.or_eq_true, beq_iff_eq] at hr; obtain ⟨z, hz, hzx | hzr⟩ := hr
  ·exact hzx ▸ hd z hz
  have hzy : z < y := by
   rcases Nat.lt_or_ge z y with h1 | h1
   ·exact h1
   rw [List.getD_eq_getElem?_getD, List.getElem?_eq_none (by rw [List.length_take]; omega)] at hzr; cases hzr
  have hlt : z < ops.size := Nat.lt_trans hzy (Array.getElem?_eq_some_iff.1 ho).1; refine ih z hzy _ (Array.getElem?_eq_getElem hlt) (hcl z _ (Array.getElem?_eq_getElem hlt) (hd z hz)) ?_; rw [List.getD_eq_getElem?_getD, List.getElem?_take_of_lt hzy] at hzr; rw [List.getD_eq_getElem?_getD]; exact hzr
def Iz (ops : Array Oper) (U : List (Nat × Nat)) : List Nat → Bool
 | [] => true
 | x :: r => (r.all fun y => (J6 ops x).getD y false || F6 ops U x y) && Iz ops U r
def JK : List Nat → Bool
 | [] => true
 | x :: r => !r.contains x && JK r
def H7 (ops : Array Oper) (π : List Nat) (U : List (Nat × Nat)) : Bool :=
 π.length == ops.size && π.all (· < ops.size) && (List.range ops.size).all (π.contains ·) && JK π && ((List.range ops.size).all fun i => match ops[i]? with | some o => (Ew o).all (· < i) | none => true) && Iz ops U π
def PW (ops : Array Oper) (U : List (Nat × Nat)) (l : List Nat) : Prop := l.Pairwise fun x y => (J6 ops x).getD y false = true ∨ F6 ops U x y = true
theorem Kc {ops : Array Oper} {U : List (Nat × Nat)} : ∀ {l : List Nat}, Iz ops U l = true → PW ops U l
 | [], _ => List.Pairwise.nil
 | x :: r, h => by
  simp only [Iz, Bool.and_eq_true, List.all_eq_true, Bool.or_eq_true] at h; exact List.Pairwise.cons h.1 (Kc h.2)
theorem LJ : ∀ {l : List Nat}, JK l = true → l.Nodup
 | [], _ => List.nodup_nil
 | x :: r, h => by
  simp only [JK, Bool.and_eq_true, Bool.not_eq_true'] at h; exact List.nodup_cons.2 ⟨by simpa using h.1, LJ h.2⟩
section
variable {P : Program} {X : Ctx} {n : Nat} {ops : Array Oper} {U : List (Nat × Nat)} {Q : AExit → ASt → Prop}
theorem P2 (hn : n ≤ X.N) (hQ : JQ fun x s => Q (.panic x) s) (hback : ∀ i o, ops[i]? = some o → ∀ z ∈ Ew o, z < i) : ∀ (rem : List Nat) (fuel : Nat) (listed : Array Bool) (acc : List (Nat × List Nat)) (s : ASt) (a : Act) (W : World),
  rem.length = fuel → listed.size = ops.size → (∀ i, i < ops.size → (listed.getD i true = false ↔ i ∈ rem)) → (∀ i ∈ rem, i < ops.size) → rem.Nodup → PW ops U rem → (∀ i o, ops[i]? = some o → listed.getD i false = true → ∀ z ∈ Ew o, listed.getD z false = true) →
  Rel X s a W → B3 P X.G n ops U rem acc s (fun s' => Q .normal s') (fun x s' => Q (.panic x) s') → wpAny P .any ops (Dq X Q) fuel listed a W := by
 intro rem fuel; induction fuel generalizing rem with
 | zero =>
  intro listed acc s a W hl hsz hli hlt hnd hpw hcl hR hop; obtain rfl : rem = [] := List.eq_nil_of_length_eq_zero hl; refine ⟨List.eq_nil_iff_forall_not_mem.2 fun i hi => ?_, ⟨s, hR, hop⟩⟩; obtain ⟨h1, o, ho, _⟩ := mem_ready.1 hi; exact absurd ((hli i (Array.getElem?_eq_some_iff.1 ho).1).1 h1) List.not_mem_nil
 | succ fuel ih =>
  intro listed acc s a W hl hsz hli hlt hnd hpw hcl hR hop; have hboth : ∀ i, i < ops.size → (listed.getD i false = true ↔ i ∉ rem) := fun i hi => by
   rw [← hli i hi]; simp only [Array.getD_eq_getD_getElem?, Array.getElem?_eq_getElem (show i < listed.size by omega), Option.getD_some]; cases listed[i] <;> simp
  have hdeps : ∀ (o : Oper), (∀ e ∈ o.after, Region.binds .any e = true → listed.getD e.on false = true) ↔ ∀ z ∈ Ew o, listed.getD z false = true := fun o => by
   unfold Ew; constructor
   ·intro h z hz
    obtain ⟨e, he, rfl⟩ := List.mem_map.1 hz; obtain ⟨he, hb⟩ := List.mem_filter.1 he; exact h e (by simpa using he) hb
   intro h e he hb; exact h e.on (List.mem_map.2 ⟨e, List.mem_filter.2 ⟨by simpa using he, hb⟩, rfl⟩)
  refine ⟨fun hnr => ?_, fun i hi => ?_⟩
  ·exfalso
   have hex : ∃ i, i ∈ rem := by
    cases rem with
    | nil => cases hl
    | cons x r => exact ⟨x, List.mem_cons_self⟩
   obtain ⟨i, hi⟩ := hex; induction i using Nat.strongRecOn with
   | _ i ihi =>
    by_cases hm : ∃ j, j < i ∧ j ∈ rem
    ·obtain ⟨j, hj, hjr⟩ := hm
     exact ihi j hj hjr
    have hilt := hlt i hi; have : i ∈ Region.ready .any ops listed := mem_ready.2 ⟨(hli i hilt).2 hi, _, Array.getElem?_eq_getElem hilt, (hdeps _).2 fun z hz => by
     have hzi := hback i _ (Array.getElem?_eq_getElem hilt) z hz; exact (hboth z (by omega)).2 fun hzr => hm ⟨z, hzi, hzr⟩⟩
    rw [hnr] at this; cases this
  obtain ⟨h1, o, ho, hall⟩ := mem_ready.1 hi; have hilt := (Array.getElem?_eq_some_iff.1 ho).1; have him := (hli i hilt).1 h1; obtain ⟨pre, post, rfl⟩ := List.append_of_mem him; have hdo := (hdeps o).1 hall; have hpre : ∀ x ∈ pre, F6 ops U x i = true := fun x hx => by
   have := (List.pairwise_append.1 hpw).2.2 x hx i List.mem_cons_self; refine this.resolve_left fun hord => ?_
   have hxd := TZ (L := fun z => listed.getD z false = true) hcl x i o ho hdo hord; exact (hboth x (hlt x (List.mem_append_left _ hx))).1 hxd (List.mem_append_left _ hx)
  have hfr := IU hQ pre hpre hop; rw [B3, ho] at hfr; obtain ⟨_, hst⟩ := hfr; have hnext : ∀ s' a' W', Rel X s' a' W' → B3 P X.G n ops U (pre ++ post) ((i, Bk P o.op o.dst s) :: acc) s' (fun s' => Q .normal s') (fun x s' => Q (.panic x) s') → wpAny P .any ops (Dq X Q) fuel (listed.setIfInBounds i true) a' W' := by
   intro s' a' W' hR' hop'; have hmem : ∀ j, j ∈ pre ++ post ↔ (j ∈ pre ++ i :: post ∧ j ≠ i) := fun j => by
    have hnd' : i ∉ pre ∧ i ∉ post := by
     have := List.nodup_append.1 hnd; exact ⟨fun h => this.2.2 i h i List.mem_cons_self rfl, (List.nodup_cons.1 this.2.1).1⟩
    simp only [List.mem_append, List.mem_cons]; constructor
    ·intro h
     exact ⟨h.imp id Or.inr, fun e => by subst e; exact h.elim hnd'.1 hnd'.2⟩
    rintro ⟨h | h | h, hne⟩
    ·exact Or.inl h
    ·exact absurd h hne
    exact Or.inr h
   have hget : ∀ j d, (listed.setIfInBounds i true).getD j d = if j = i then true else listed.getD j d := fun j d => by
    simp only [Array.getD_eq_getD_getElem?, Array.getElem?_setIfInBounds]; by_cases hj : j = i
    ·subst hj; rw [if_pos rfl, if_pos rfl, if_pos (by omega)]; rfl
    rw [if_neg (Ne.symm hj), if_neg hj]
   have hsub : (pre ++ post).Sublist (pre ++ i :: post) := List.Sublist.append_left (List.sublist_cons_self i post) pre; refine ih (pre ++ post) (listed.setIfInBounds i true) _ s' a' W' (by simp at hl ⊢; omega) (by simpa using hsz) (fun j hj => ?_) (fun j hj => hlt j ((hmem j).1 hj).1) (hnd.sublist hsub) (hpw.sublist hsub) (fun j o' ho' hj z hz => ?_) hR' hop'
   ·rw [hget, hmem]
    by_cases hji : j = i
    ·subst hji; simp
    rw [if_neg hji, hli j hj]; exact ⟨fun h => ⟨h, hji⟩, fun h => h.1⟩
   rw [hget] at hj ⊢; by_cases hzi : z = i
   ·rw [if_pos hzi]
   rw [if_neg hzi]; by_cases hji : j = i
   ·subst hji
    rw [ho] at ho'; injection ho' with ho'; subst ho'; exact hdo z hz
   rw [if_neg hji] at hj; exact hcl j o' ho' hj z hz
  unfold wpOp; rw [ho]; obtain ⟨E, S, hRE⟩ := hR; unfold D0 at hst; split at hst
  ·rename_i hg
   simp only; rw [if_pos (Do hRE hg rfl)]; exact Or.inl (Oper.wp_mono (fun a' W' ⟨s', hR', hK⟩ => hnext s' a' W' hR' hK) (Hv hn hRE hst))
  ·rename_i hg
   simp only; rw [if_neg (by rw [Do hRE hg rfl]; simp)]; obtain ⟨s', hR', hK⟩ := Ey (c := .im (.v undef)) (u := undef) hn hRE (Rep.v undef) hst; exact hnext s' _ _ hR' hK
  exact hst.elim
theorem Rel.drawn {s : ASt} {a : Act} {W : World} (h : Rel X s a W) : Rel X s a { W with drawn := W.drawn + 1 } := by
 obtain ⟨E, S, h⟩ := h; exact ⟨E, S, h.core (fun _ => False) s.st E S _ (fun _ _ => ⟨rfl, rfl, rfl⟩) rfl (fun _ hj => hj.elim) rfl rfl rfl (Nat.le_refl _) (fun _ _ _ => rfl) (fun _ _ _ => rfl) (fun _ _ h => h) (fun _ _ h => Or.inl h) h.Sb (fun _ hj => hj.elim) (fun _ _ hj => hj.elim) (fun _ _ _ hj => hj.elim)⟩
class PanicOK (Q : AExit → ASt → Prop) : Prop where
 ins : JQ fun x s => Q (.panic x) s
instance {K : ASt → Prop} {Q : AExit → ASt → Prop} [h : PanicOK Q] : PanicOK (FH K Q) := ⟨h.ins⟩
instance {id : Nat} {Q : AExit → ASt → Prop} [h : PanicOK Q] : PanicOK (Hy id Q) := ⟨h.ins⟩
theorem Ut {id : Nat} {s : ASt} (n : Nat) (hn : n ≤ X.N) (π : List Nat) (U : List (Nat × Nat)) [hQ : PanicOK Q] (hm : P.follows .mixedOrders = true) (hd : H7 ops π U = true) (h : B3 P X.G n ops U π [] s (fun s' => Q .normal s') (fun x s' => Q (.panic x) s')) : AW P X (.region id ops true) Q s := fun a W hR => by
 simp only [H7, Bool.and_eq_true, beq_iff_eq, List.all_eq_true, decide_eq_true_eq] at hd; obtain ⟨⟨⟨⟨⟨h1, h2⟩, h3⟩, h4⟩, h5⟩, h6⟩ := hd; refine wp_region_any hm ?_; refine P2 hn hQ.ins (fun i o ho z hz => ?_) π ops.size _ [] s a _ h1 (by simp) (fun i hi => ?_) h2 (LJ h4) (Kc h6) (fun i o _ hj => ?_) hR.drawn h
 ·have := h5 i (List.mem_range.2 (Array.getElem?_eq_some_iff.1 ho).1)
  rw [ho] at this; simpa using List.all_eq_true.1 this z hz
 ·have : (Array.replicate ops.size false).getD i true = false := by simp [Array.getD, hi]
  rw [this]; exact ⟨fun _ => by simpa using h3 i (List.mem_range.2 hi), fun _ => rfl⟩
 by_cases hi : i < ops.size <;> simp [Array.getD, hi] at hj
end
end Go.Proofs.YtakncilicoefdaaGreatDoor
