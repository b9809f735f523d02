/- Lemmas and contracts. Conditions: those that each lemma names. -/
import Derived.Test.YtakncilicoefdaaGreatDoorPz17
import Derived.Test.YtakncilicoefdaaGreatDoorPz18
set_option maxRecDepth 100000
set_option maxHeartbeats 64000000
namespace Go.Proofs.YtakncilicoefdaaGreatDoor
open Go Go.RowKit Go.Proofs Th
def DV : List FV → List Nat
 | [] => []
 | .own k _ :: r => k :: DV r
 | _ :: r => DV r
theorem CO : ∀ {cs : List FV} {k n : Nat}, FV.own k n ∈ cs → k ∈ DV cs
 | .own k' n' :: r, k, n, h => by
  rcases List.mem_cons.1 h with h | h
  ·injection h with h; subst h; exact List.mem_cons_self
  exact List.mem_cons_of_mem _ (CO h)
 | .junk :: r, k, n, h => CO (cs := r) ((List.mem_cons.1 h).resolve_left (fun e => by cases e))
 | .im _ :: r, k, n, h => CO (cs := r) ((List.mem_cons.1 h).resolve_left (fun e => by cases e))
 | .ptr _ _ :: r, k, n, h => CO (cs := r) ((List.mem_cons.1 h).resolve_left (fun e => by cases e))
 | .pin _ _ :: r, k, n, h => CO (cs := r) ((List.mem_cons.1 h).resolve_left (fun e => by cases e))
theorem E7 {st st2 : Nat → AObj} {c : FV} (h : ∀ k n, c = .own k n → st2 k = st k) : DK st2 c = DK st c := by
 cases c with
 | own k n => simp only [DK, h k n rfl]
 | _ => rfl
theorem II {st st2 : Nat → AObj} : ∀ {cs : List FV}, (∀ k n, FV.own k n ∈ cs → st2 k = st k) → Ev st2 cs = Ev st cs
 | [], _ => rfl
 | c :: r, h => by
  simp only [Ev, E7 (c := c) (fun k n e => h k n (e ▸ List.mem_cons_self)), II (cs := r) (fun k n e => h k n (List.mem_cons_of_mem _ e))]
def BC (P : Program) (op : Op) (d : Option Nat) (s : ASt) : List Nat := match op with
 | .alloc _ => d.toList
 | .box _ x => d.toList ++ DV [Aw s x]
 | .load t x => (match Aw s x with
  | .ptr b _ => b :: (match s.st b with
   | .box cs => (match Cg P t with
    | some (.struct _ _) => DV cs
    | _ => [])
   | _ => [])
  | _ => [])
 | .store _ x y => (match Aw s x with
  | .ptr b _ => [b]
  | _ => []) ++ DV [Aw s y]
 | .build _ ps => DV (ps.toList.map fun p => Aw s p.2)
 | .buildSlice _ _ ps => DV (ps.toList.map fun p => Aw s p.2)
 | .indexAddr _ x _ => DV [Aw s x]
 | .call c => (match c.callee with
  | .builtin _ => d.toList ++ DV (c.args.toList.map (Aw s))
  | _ => DV (c.args.toList.map (Aw s)) ++ (match c.args.toList with
   | x :: _ => (match Aw s x with
    | .ptr b _ => b :: (match s.st b with
     | .box cs => DV cs
     | _ => [])
    | _ => [])
   | [] => []))
 | _ => []
def EC : Op → Bool
 | .alloc _ => true
 | .box _ _ => true
 | .store _ _ _ => true
 | .call c => (match c.callee with
  | .builtin .len => false
  | .builtin .min => false
  | _ => true)
 | _ => false
def M7 : Op → Bool
 | .move _ => false
 | .assign _ => false
 | .pick _ _ _ => false
 | .nilCheck _ => false
 | .fieldAddr _ _ _ => false
 | .field _ _ _ => false
 | .binOp _ _ _ _ _ => false
 | .unOp _ _ _ => false
 | .convert _ _ _ => false
 | .index _ _ _ => false
 | .slice _ _ _ _ _ => false
 | .extract _ _ => false
 | .makeInterface _ _ => false
 | _ => true
def app (st : Nat → AObj) : Option (Nat × AObj) → Nat → AObj
 | none => st
 | some (k, x) => upd st k x
structure SameOn (P : Program) (op : Op) (d : Option Nat) (s s2 : ASt) : Prop where
 v : ∀ x ∈ op.operands, Aw s2 x = Aw s x
 o : ∀ k ∈ BC P op d s, s2.st k = s.st k
structure Lo (P : Program) (op : Op) (d : Option Nat) (s : ASt) (c : FV) (ch : Option (Nat × AObj)) : Prop where
 wr : EC op = false → ch = none
 ft : ∀ k x, ch = some (k, x) → k ∈ BC P op d s
 go : ∀ s2, SameOn P op d s s2 → ∀ K : FV → (Nat → AObj) → Prop, K c (app s2.st ch) → AH P op d s2 K
section
variable {P : Program} {d : Option Nat} {s : ASt} {K : FV → (Nat → AObj) → Prop}
theorem Bv {op : Op} {c : FV} (h : ∀ s2, SameOn P op d s s2 → ∀ K : FV → (Nat → AObj) → Prop, K c s2.st → AH P op d s2 K) : Lo P op d s c none := ⟨fun _ => rfl, fun _ _ h => (by cases h), h⟩
theorem Vv {s : ASt} {x : Operand} {k n : Nat} (h : Aw s x = .own k n) : k ∈ DV [Aw s x] := CO (n := n) (by rw [h]; exact List.mem_cons_self)
theorem I1 {s s2 : ASt} (fs : List FI) : ∀ (ps : List (Nat × Operand)) (cells : List IV), (∀ p ∈ ps, Aw s2 p.2 = Aw s p.2) → (∀ k n, FV.own k n ∈ ps.map (fun p => Aw s p.2) → s2.st k = s.st k) → EM s2 fs cells ps = EM s fs cells ps
 | [], _, _, _ => rfl
 | (i, x) :: r, cells, h1, h2 => by
  have e1 := h1 (i, x) List.mem_cons_self; have e2 : DK s2.st (Aw s x) = DK s.st (Aw s x) := E7 (fun k n e => h2 k n (by rw [← e]; exact List.mem_cons_self)); have ih := fun cells => I1 fs r cells (fun p hp => h1 p (List.mem_cons_of_mem _ hp)) (fun k n h => h2 k n (List.mem_cons_of_mem _ h))
  simp only at e1; simp only [EM, e1, e2, ih]
theorem Kq {s s2 : ASt} (esz : Nat) : ∀ (ps : List (Nat × Operand)) (k : Nat), (∀ p ∈ ps, Aw s2 p.2 = Aw s p.2) → (∀ k n, FV.own k n ∈ ps.map (fun p => Aw s p.2) → s2.st k = s.st k) → EG s2 esz k ps = EG s esz k ps
 | [], _, _, _ => rfl
 | (i, x) :: r, k, h1, h2 => by
  have e1 := h1 (i, x) List.mem_cons_self; have e2 : DK s2.st (Aw s x) = DK s.st (Aw s x) := E7 (fun k n e => h2 k n (by rw [← e]; exact List.mem_cons_self)); have ih := Kq esz r (k + 1) (fun p hp => h1 p (List.mem_cons_of_mem _ hp)) (fun k n h => h2 k n (List.mem_cons_of_mem _ h)); simp only at e1; simp only [EG, e1, e2, ih]
theorem NX {st : Nat → AObj} {ti : Option TI} {cs : List FV} {o : Nat} {K : FV → Prop} (h : Ej st ti cs o K) : ∃ c, K c ∧ ∀ st2 : Nat → AObj, (∀ fs z, ti = some (.struct fs z) → ∀ k n, FV.own k n ∈ cs → st2 k = st k) → ∀ K2 : FV → Prop, K2 c → Ej st2 ti cs o K2 := by
 unfold Ej at h; split at h
 ·rename_i fs z
  split at h
  ·rename_i xs hxs
   refine ⟨_, h.2, fun st2 hs K2 hK => ?_⟩; unfold Ej; have : Ev st2 ((cs.drop o).take z.length) = some xs := by rw [← hxs]; exact II (fun k n hm => hs fs z rfl k n (List.mem_of_mem_drop (List.mem_of_mem_take hm)))
   simp only [this]; exact ⟨h.1, hK⟩
  exact h.elim
 ·rename_i ti' hns
  split at h
  ·rename_i c hc
   refine ⟨c, h, fun st2 _ K2 hK => ?_⟩; unfold Ej; split
   ·rename_i he; exact absurd (Option.some.inj he) (by intro e; exact hns _ _ e)
   ·simp only [hc]; exact hK
   rename_i he; cases he
  exact h.elim
 exact h.elim
theorem IZ {s : ASt} {dd : Nat} {y : Option Operand} {K : Int → Prop} (h : Fu s dd y K) : ∃ n, K n ∧ ∀ s2 : ASt, (∀ x, y = some x → Aw s2 x = Aw s x) → ∀ K2 : Int → Prop, K2 n → Fu s2 dd y K2 := by
 cases y with
 | none => exact ⟨_, h, fun _ _ _ h => h⟩
 | some y =>
  simp only [Fu] at h; split at h
  ·rename_i k n hv
   exact ⟨n, h, fun s2 hs K2 hK => by simp only [Fu, hs y rfl, hv]; exact hK⟩
  exact h.elim
theorem Vb {B : Prop} {op : BinOp} {u v : Value} {K : Value → Prop} (h : JK B op u v K) : ∃ r, K r ∧ ∀ K2 : Value → Prop, K2 r → JK B op u v K2 := by
 have hin : ∀ (k : IntKind) (n : Int) (K : Value → Prop), F7 k n K → ∃ r, K r ∧ ∀ K2 : Value → Prop, K2 r → F7 k n K2 := by
  intro k n K h; unfold F7 at h; split at h
  ·rename_i hk
   exact ⟨_, h.2, fun K2 hK => by unfold F7; rw [if_pos hk]; exact ⟨h.1, hK⟩⟩
  rename_i hk
  exact ⟨_, h, fun K2 hK => by unfold F7; rw [if_neg hk]; exact hK⟩
 unfold JK at h; split at h
 ·obtain ⟨rfl, h⟩ := h
  cases op <;> first
   | exact h.elim
   | (obtain ⟨r, h1, h2⟩ := hin _ _ _ h; exact ⟨r, h1, fun K2 hK => ⟨rfl, h2 K2 hK⟩⟩)
   | exact ⟨_, h.2, fun K2 hK => ⟨rfl, h.1, hK⟩⟩
   | exact ⟨_, h, fun K2 hK => ⟨rfl, hK⟩⟩
 ·cases op <;> first
   | exact h.elim
   | exact ⟨_, h.2, fun K2 hK => ⟨h.1, hK⟩⟩
   | exact ⟨_, h, fun K2 hK => hK⟩
 ·obtain ⟨hb, h⟩ := h
  cases op <;> first
   | exact h.elim
   | exact ⟨_, h, fun K2 hK => ⟨hb, hK⟩⟩
 exact h.elim
theorem YB {op : Op} (h : AH P op d s K) : ∃ c ch, K c (app s.st ch) ∧ Lo P op d s c ch := by
  cases op with
  | move x => exact ⟨_, none, h, Bv fun s2 hs K hK => by simp only [AH, hs.v x (by simp [Op.operands])]; exact hK⟩
  | assign x => exact ⟨_, none, h, Bv fun s2 hs K hK => by simp only [AH, hs.v x (by simp [Op.operands])]; exact hK⟩
  | pick c x y =>
    simp only [AH] at h; split at h
    · rename_i t ht
      exact ⟨_, none, h, Bv fun s2 hs K hK => by simp only [AH, hs.v c (by simp [Op.operands]), hs.v x (by simp [Op.operands]), hs.v y (by simp [Op.operands]), ht]; exact hK⟩
    exact h.elim
  | nilCheck x =>
    simp only [AH] at h; split at h
    · rename_i b o hx; exact ⟨_, none, h, Bv fun s2 hs K hK => by simp only [AH, hs.v x (by simp [Op.operands]), hx]; exact hK⟩
    · rename_i b o hx; exact ⟨_, none, h, Bv fun s2 hs K hK => by simp only [AH, hs.v x (by simp [Op.operands]), hx]; exact hK⟩
    exact h.elim
  | alloc t =>
    simp only [AH] at h; split at h
    · rename_i dd
      obtain ⟨hne, h⟩ := h; split at h
      · rename_i ti hd hti
        refine ⟨_, some (dd, _), h, ⟨fun e => (by cases e), fun k x e => ?_, fun s2 hs K hK => ?_⟩⟩
        · injection e with e; injection e with e1 e2; subst e1; simp [BC]
        simp only [AH, hs.o dd (by simp [BC]), hd, hti]; exact ⟨hne, hK⟩
      · rename_i hd hti
        split at h
        · rename_i ar har
          refine ⟨_, some (dd, _), h, ⟨fun e => (by cases e), fun k x e => ?_, fun s2 hs K hK => ?_⟩⟩
          · injection e with e; injection e with e1 e2; subst e1; simp [BC]
          simp only [AH, hs.o dd (by simp [BC]), hd, hti, har]; exact ⟨hne, hK⟩
        exact h.elim
      exact h.elim
    exact h.elim
  | box t x =>
    simp only [AH] at h; split at h
    · rename_i dd
      obtain ⟨hne, h⟩ := h; split at h
      · rename_i cs hd hx
        refine ⟨_, some (dd, _), h.2, ⟨fun e => (by cases e), fun k x e => ?_, fun s2 hs K hK => ?_⟩⟩
        · injection e with e; injection e with e1 e2; subst e1; simp [BC]
        simp only [AH, hs.o dd (by simp [BC]), hd, hs.v x (by simp [Op.operands]), hx]; exact ⟨hne, h.1, hK⟩
      · rename_i c hd hc
        refine ⟨_, some (dd, _), h.2, ⟨fun e => (by cases e), fun k x e => ?_, fun s2 hs K hK => ?_⟩⟩
        · injection e with e; injection e with e1 e2; subst e1; simp [BC]
        simp only [AH, hs.o dd (by simp [BC]), hd, hs.v x (by simp [Op.operands])]; have hok : (Aw s x).ok s2.st := by
          have h1 := h.1; have hf : ∀ k ∈ DV [Aw s x], s2.st k = s.st k := fun k hk => hs.o k (by simp [BC, hk])
          revert h1 hf
          cases Aw s x with
          | own k n => intro h1 hf; simp only [FV.ok] at h1 ⊢; rw [hf k (by simp [DV])]; exact h1
          | _ => intro h1 _; exact h1
        exact ⟨hne, hok, hK⟩
      exact h.elim
    exact h.elim
  | build t ps =>
    simp only [AH] at h; split at h
    · rename_i fs z hti
      split at h
      · rename_i cs hcs
        refine ⟨_, none, h, Bv fun s2 hs K hK => ?_⟩; have : EM s2 fs (z.map lift) ps.toList = some cs := by
          rw [← hcs]; exact I1 fs _ _ (fun p hp => hs.v _ (by simp only [Op.operands]; simp; exact ⟨p.1, by simpa using hp⟩)) (fun k n hm => hs.o k (CO hm))
        simp only [AH, hti, this]; exact hK
      exact h.elim
    · rename_i hti
      split at h
      · rename_i ar har
        split at h
        · rename_i cs hcs
          refine ⟨_, none, h, Bv fun s2 hs K hK => ?_⟩; have : EM s2 (L4 ar.1 ar.2.1) (ar.2.2.map lift) ps.toList = some cs := by
            rw [← hcs]; exact I1 _ _ _ (fun p hp => hs.v _ (by simp only [Op.operands]; simp; exact ⟨p.1, by simpa using hp⟩)) (fun k n hm => hs.o k (CO hm))
          simp only [AH, hti, har, this]; exact hK
        exact h.elim
      exact h.elim
    exact h.elim
  | buildSlice t n ps =>
    simp only [AH] at h; split at h
    · rename_i el esz hti
      split at h
      · rename_i es hes
        refine ⟨_, none, h.2, Bv fun s2 hs K hK => ?_⟩; have : EG s2 esz 0 ps.toList = some es := by
          rw [← hes]; exact Kq esz _ _ (fun p hp => hs.v _ (by simp only [Op.operands]; simp; exact ⟨p.1, by simpa using hp⟩)) (fun k n hm => hs.o k (CO hm))
        simp only [AH, hti, this]; exact ⟨h.1, hK⟩
      exact h.elim
    exact h.elim
  | load t x =>
    simp only [AH] at h; split at h
    · rename_i b o hx
      split at h
      · rename_i cs hb
        obtain ⟨c, hK, hl⟩ := NX h; refine ⟨c, none, hK, Bv fun s2 hs K hK => ?_⟩; simp only [AH, hs.v x (by simp [Op.operands]), hx, hs.o b (by simp [BC, hx]), hb]; exact hl s2.st (fun fs z e k n hm => hs.o k (by simp only [BC, hx, hb, e]; exact List.mem_cons_of_mem _ (CO hm))) _ hK
      exact h.elim
    · rename_i cs o hx
      obtain ⟨c, hK, hl⟩ := NX h; refine ⟨c, none, hK, Bv fun s2 hs K hK => ?_⟩; simp only [AH, hs.v x (by simp [Op.operands]), hx]; exact hl s2.st (fun fs z e k n hm => by
        obtain ⟨y, _, hy⟩ := List.mem_map.1 hm; cases hy) _ hK
    exact h.elim
  | store t x y =>
    simp only [AH] at h; split at h
    · rename_i b o hx
      have hfb : b ∈ BC P (.store t x y) d s := by simp [BC, hx]
      split at h
      · rename_i cs hb
        split at h
        · rename_i fs z hti
          split at h
          · rename_i xs hy
            refine ⟨_, some (b, _), h.2, ⟨fun e => (by cases e), fun k x e => ?_, fun s2 hs K hK => ?_⟩⟩
            · injection e with e; injection e with e1 e2; subst e1; exact hfb
            simp only [AH, hs.v x (by simp [Op.operands]), hx, hs.o b hfb, hb, hti, hs.v y (by simp [Op.operands]), hy]; exact ⟨h.1, hK⟩
          exact h.elim
        · rename_i ti hns hti
          refine ⟨_, some (b, _), h.2, ⟨fun e => (by cases e), fun k x e => ?_, fun s2 hs K hK => ?_⟩⟩
          · injection e with e; injection e with e1 e2; subst e1; exact hfb
          simp only [AH, hs.v x (by simp [Op.operands]), hx, hs.o b hfb, hb, hs.v y (by simp [Op.operands])]; have hok : (Aw s y).ok s2.st := by
            have h1 := h.1.2; have hf : ∀ k ∈ DV [Aw s y], s2.st k = s.st k := fun k hk => hs.o k (by simp only [BC]; exact List.mem_append_right _ hk)
            revert h1 hf
            cases Aw s y with
            | own k n => intro h1 hf; simp only [FV.ok] at h1 ⊢; rw [hf k (by simp [DV])]; exact h1
            | _ => intro h1 _; exact h1
          split
          · rename_i fs z he; exact absurd (hti.symm.trans he) (by intro e; injection e with e; exact hns _ _ e)
          · exact ⟨⟨h.1.1, hok⟩, hK⟩
          rename_i he; exact absurd (hti.symm.trans he) (by intro e; cases e)
        rename_i hti
        split at h
        · rename_i ar xs har hy
          refine ⟨_, some (b, _), h.2, ⟨fun e => (by cases e), fun k x e => ?_, fun s2 hs K hK => ?_⟩⟩
          · injection e with e; injection e with e1 e2; subst e1; exact hfb
          simp only [AH, hs.v x (by simp [Op.operands]), hx, hs.o b hfb, hb, hti, har, hs.v y (by simp [Op.operands]), hy]; exact ⟨h.1, hK⟩
        exact h.elim
      exact h.elim
    exact h.elim
  | fieldAddr t x f =>
    simp only [AH] at h; split at h
    · rename_i fs z hti
      split at h
      · rename_i fi b o hfi hx; exact ⟨_, none, h, Bv fun s2 hs K hK => by simp only [AH, hti, hs.v x (by simp [Op.operands]), hx, hfi]; exact hK⟩
      · rename_i fi b o hfi hx; exact ⟨_, none, h, Bv fun s2 hs K hK => by simp only [AH, hti, hs.v x (by simp [Op.operands]), hx, hfi]; exact hK⟩
      exact h.elim
    exact h.elim
  | field t x f =>
    simp only [AH] at h; split at h
    · rename_i fs z hti
      split at h
      · rename_i fi cs hfi hx
        obtain ⟨hag, h⟩ := h; split at h
        · rename_i y hy
          exact ⟨_, none, h, Bv fun s2 hs K hK => by simp only [AH, hti, hs.v x (by simp [Op.operands]), hx, hfi, hy]; exact ⟨hag, hK⟩⟩
        exact h.elim
      exact h.elim
    exact h.elim
  | indexAddr t x i =>
    simp only [AH] at h; split at h
    · rename_i el esz hti
      split at h
      · rename_i es k n hx hi
        obtain ⟨h0, e, he, hel, hK⟩ := h; refine ⟨_, none, hK, Bv fun s2 hs K hK => ?_⟩; have : F9 s2.st (Aw s x) = some es := by
          rw [← hx]; unfold F9; rw [E7 (fun k n e => hs.o k (Vv e))]
        simp only [AH, hti, hs.v x (by simp [Op.operands]), this, hs.v i (by simp [Op.operands]), hi]; exact ⟨h0, e, he, hel, hK⟩
      exact h.elim
    · rename_i hti
      split at h
      · rename_i ar b o k n har hx hi
        exact ⟨_, none, h.2, Bv fun s2 hs K hK => by simp only [AH, hti, har, hs.v x (by simp [Op.operands]), hx, hs.v i (by simp [Op.operands]), hi]; exact ⟨h.1, hK⟩⟩
      exact h.elim
    exact h.elim
  | index t x i =>
    simp only [AH] at h; split at h
    · rename_i b k n ht hx hi
      obtain ⟨h0, c, hc, hK⟩ := h; exact ⟨_, none, hK, Bv fun s2 hs K hK => by simp only [AH, ht, hs.v x (by simp [Op.operands]), hx, hs.v i (by simp [Op.operands]), hi]; exact ⟨h0, c, hc, hK⟩⟩
    exact h.elim
  | slice t x lo hi mx =>
    cases mx with
    | some m => exact h.elim
    | none =>
      simp only [AH] at h; split at h
      · rename_i b ht hx
        obtain ⟨l, hl, hl2⟩ := IZ h; obtain ⟨hh, ⟨hb, hK⟩, hh2⟩ := IZ hl; refine ⟨_, none, hK, Bv fun s2 hs K hK => ?_⟩; simp only [AH, ht, hs.v x (by simp [Op.operands]), hx]; exact hl2 s2 (fun y e => hs.v y (by subst e; simp [Op.operands])) _ (hh2 s2 (fun y e => hs.v y (by subst e; simp [Op.operands])) _ ⟨hb, hK⟩)
      · rename_i el es fl ht hx
        split at h
        · rename_i el2 esz hti
          obtain ⟨l, hl, hl2⟩ := IZ h; obtain ⟨hh, ⟨hb, hK⟩, hh2⟩ := IZ hl; refine ⟨_, none, hK, Bv fun s2 hs K hK => ?_⟩; simp only [AH, ht, hti, hs.v x (by simp [Op.operands]), hx]; exact hl2 s2 (fun y e => hs.v y (by subst e; simp [Op.operands])) _ (hh2 s2 (fun y e => hs.v y (by subst e; simp [Op.operands])) _ ⟨hb, hK⟩)
        exact h.elim
      exact h.elim
  | binOp op t x y t' =>
    simp only [AH] at h; split at h
    · rename_i u v hx hy
      obtain ⟨r, hK, hr⟩ := Vb h; exact ⟨_, none, hK, Bv fun s2 hs K hK => by simp only [AH, hs.v x (by simp [Op.operands]), hx, hs.v y (by simp [Op.operands]), hy]; exact hr _ hK⟩
    · rename_i p q p' q' hx hy
      obtain ⟨hE, h⟩ := h; split at h
      · exact ⟨_, none, h, Bv fun s2 hs K hK => by simp only [AH, hs.v x (by simp [Op.operands]), hx, hs.v y (by simp [Op.operands]), hy]; exact ⟨hE, hK⟩⟩
      · exact ⟨_, none, h, Bv fun s2 hs K hK => by simp only [AH, hs.v x (by simp [Op.operands]), hx, hs.v y (by simp [Op.operands]), hy]; exact ⟨hE, hK⟩⟩
      exact h.elim
    exact h.elim
  | unOp op t x =>
    cases op <;> first
      | exact h.elim
      | (simp only [AH] at h
         split at h
         · rename_i b hx; exact ⟨_, none, h, Bv fun s2 hs K hK => by simp only [AH, hs.v x (by simp [Op.operands]), hx]; exact hK⟩
         exact h.elim)
  | convert t t' x =>
    simp only [AH] at h; split at h
    · rename_i d k k' n h1 h2 hx; exact ⟨_, none, h, Bv fun s2 hs K hK => by simp only [AH, h1, h2, hs.v x (by simp [Op.operands]), hx]; exact hK⟩
    exact h.elim
  | extract t i =>
    simp only [AH] at h; split at h
    · rename_i vs hx
      split at h
      · rename_i x hi; exact ⟨_, none, h, Bv fun s2 hs K hK => by simp only [AH, hs.v t (by simp [Op.operands]), hx, hi]; exact hK⟩
      exact h.elim
    exact h.elim
  | typeAssert x xT t ok =>
    cases ok
    · exact h.elim
    simp only [AH] at h; split at h
    · rename_i fs z t' u hti hx
      obtain ⟨ht, h⟩ := h; exact ⟨_, none, h, Bv fun s2 hs K hK => by simp only [AH, hs.v x (by simp [Op.operands]), hx, hti]; exact ⟨ht, hK⟩⟩
    exact h.elim
  | makeInterface t x =>
    simp only [AH] at h; split at h
    · exact h.elim
    · rename_i dd u hni ht hx
      refine ⟨_, none, h, Bv fun s2 hs K hK => ?_⟩; simp only [AH, hs.v x (by simp [Op.operands]), hx]; split
      · rename_i he; exact absurd (ht.symm.trans he) (by intro e; injection e with e; exact hni _ e)
      · rename_i he; injection he with he; subst he; exact hK
      rename_i he; exact (he _ _ ht rfl).elim
    exact h.elim
  | call c =>
    obtain ⟨callee, ⟨xs⟩, ⟨ts⟩⟩ := c; simp only [AH] at h; split at h
    · rename_i b
      unfold Dm at h; have hf : ∀ y ∈ xs, ∀ k n, Aw s y = .own k n → k ∈ BC P (.call ⟨.builtin b, ⟨xs⟩, ⟨ts⟩⟩) d s := fun y hy k n e => by
        simp only [BC]; exact List.mem_append_right _ (CO (n := n) (by rw [← e]; exact List.mem_map_of_mem hy))
      have hv : ∀ s2, SameOn P (.call ⟨.builtin b, ⟨xs⟩, ⟨ts⟩⟩) d s s2 → ∀ y ∈ xs, Aw s2 y = Aw s y := fun s2 hs y hy => hs.v y (by simp [Op.operands, Call.operands, hy])
      have hsl : ∀ s2, SameOn P (.call ⟨.builtin b, ⟨xs⟩, ⟨ts⟩⟩) d s s2 → ∀ y ∈ xs, F9 s2.st (Aw s y) = F9 s.st (Aw s y) := fun s2 hs y hy => by
        unfold F9; rw [E7 (fun k n e => hs.o k (hf y hy k n e))]
      split at h
      · rename_i x t
        split at h
        · rename_i bb ht hx
          exact ⟨_, none, h, Bv fun s2 hs K hK => by simp only [AH, Dm, hv s2 hs x (by simp), hx, ht]; exact hK⟩
        · rename_i el ht
          split at h
          · rename_i es hes
            exact ⟨_, none, h, Bv fun s2 hs K hK => by simp only [AH, Dm, hv s2 hs x (by simp), ht, hsl s2 hs x (by simp), hes]; exact hK⟩
          exact h.elim
        exact h.elim
      · rename_i x y t t'
        obtain ⟨rfl, h⟩ := h; split at h
        · rename_i e esz new dd hti hy
          split at h
          · rename_i k n hx
            have hk := hf x (by simp) k n hx; split at h
            · rename_i ty' z' es hst
              refine ⟨_, some (k, _), h.2, ⟨fun e => (by cases e), fun k' x' e => ?_, fun s2 hs K hK => ?_⟩⟩
              · injection e with e; injection e with e1 e2; subst e1; exact hk
              simp only [AH, Dm, hv s2 hs x (by simp), hv s2 hs y (by simp), hsl s2 hs y (by simp), hti, hy, hx, hs.o k hk, hst]; exact ⟨trivial, h.1, hK⟩
            exact h.elim
          · rename_i es hx
            split at h
            · rename_i hst
              refine ⟨_, some (dd, _), h.2, ⟨fun e => (by cases e), fun k' x' e => ?_, fun s2 hs K hK => ?_⟩⟩
              · injection e with e; injection e with e1 e2; subst e1; simp [BC]
              simp only [AH, Dm, hv s2 hs x (by simp), hv s2 hs y (by simp), hsl s2 hs y (by simp), hti, hy, hx, hs.o dd (by simp [BC]), hst]; exact ⟨trivial, h.1, hK⟩
            exact h.elim
          exact h.elim
        exact h.elim
      · rename_i x y
        split at h
        · rename_i k n k' m hx hy
          exact ⟨_, none, h, Bv fun s2 hs K hK => by simp only [AH, Dm, hv s2 hs x (by simp), hx, hv s2 hs y (by simp), hy]; exact hK⟩
        exact h.elim
      exact h.elim
    exact h.elim
  | _ => exact h.elim
end
open Go Go.RowKit Go.Proofs Th
attribute [local go_sem] Above.cell
theorem RL (p : Nat) (s : ByteArray) (hs : s.size ≤ 1000000) (d : Nat) (k : Int)
  (hQ : ∀ (W : World) (b : Nat), b < s.size → Box W p [.string s, .int .i64 b] → GlobX W → Calls Tryz.prog 72 #[.pointer (some ⟨p, 0, none⟩), .int .i64 k] W fun r w' => E4 W p s (BK s.data.toList d b) r w')
  (a : Nat) (hw : way s.data.toList (AL s.data.toList a) = 0) (ha : a ≤ s.size) (w : World) (hB : Box w p [.string s, .int .i64 a]) (hG : GlobX w) :
  Calls Tryz.prog 47 #[.pointer (some ⟨p, 0, none⟩), .int .i64 k] w fun r w' => DM w p s (AF s.data.toList d a) r w' := by
 have HL := Keep.mk (Ai s); have hpl := hB.lt; have HQ := Keep.mk hQ; obtain ⟨b, hb⟩ : ∃ b, AL s.data.toList a = b := ⟨_, rfl⟩
 have hbs : b ≤ s.size := by rw [← hb, ← HL.out]; exact (C4 _ _ (by rw [HL.out]; exact ha)).2
 have HO := Keep.mk (show AF s.data.toList d a = BG s.data.toList (BK s.data.toList d) b by rw [B9, hb]); have HK := Keep.mk (fun W hB => IC p s a hs ha W hB); rw [hb] at HK; have HSK := Keep.mk (fun c (h : s.data.toList[b]? = some c) => (J4 hb h).1); rw [hb] at hw; have HW := Keep.mk hw; clear hw; have HB := Keep.mk hB; have HG := Keep.mk hG; clear hQ hb ha hB hG; go_enter Tryz.func47, Tryz.ntmps47
 go_wp2_with fail
 refine (HK.out _ (HB.out.alloc _)).mono ?_; rintro r w1 ⟨rfl, hsc⟩; have HS := Keep.mk (show NextA w w1 p s b w.heap.size from ⟨⟨hsc.b, (Upd.of (al1 w _)).trans hsc.u⟩, (Box.new (w := w) (n := w.heap.size) [.int .i64 0, .string ⟨#[]⟩, .int .i64 0] 66 rfl).upd hsc.u (by omega), by omega, Nat.le_refl _, (HG.out.below (al1 w _)).upd (HB.out.alloc _) hsc.u, (by obtain ⟨m, hm⟩ := HG.out; exact BX hm)⟩); clear hsc HK HB HG; obtain ⟨p0, p1⟩ := HS.out.sc.b.p2; have pf := HS.out.sc.b.froz 1; have pl := HS.out.sc.b.lt; obtain ⟨r0, rf0, r1, rf1, r2, rf2, rl⟩ := HS.out.b4.q3l; go_wp2_with fail
 refine A9 (by kernel_rfl) (by kernel_rfl) ?_; repeat (go_big_quiet_step (fail))
 refine wpQuiet_nil ?_; rintro W2 ⟨z, hz⟩; replace HS := Keep.mk (hz ▸ HS.out.below z.property); clear p0 p1 pf pl r0 r1 r2 rf0 rf1 rf2 rl; clear hz z; obtain ⟨p0, p1⟩ := HS.out.sc.b.p2; have pf := HS.out.sc.b.froz 1; have pl := HS.out.sc.b.lt; obtain ⟨r0, rf0, r1, rf1, r2, rf2, rl⟩ := HS.out.b4.q3l; by_cases hend : b = s.size
 ·have hbe : ((b : Int) == (s.size : Int)) = true := by rw [beq_iff_eq]; omega
  have HE := Keep.mk (show AF s.data.toList d a = (noTf, s.size, 0) by
   rw [HO.out]; unfold BG; rw [List.drop_eq_nil_of_le (by rw [HL.out]; omega), hend])
  subst hend; clear HO HQ; go_wp2
  refine bodyPost_ret (v := .tuple #[.agg #[.int .i64 0, .string ⟨#[]⟩, .int .i64 0], .int .i64 0, .int .i64 0]) ?_ rfl ?_
  ·simp [results, Tryz.results47, go_sem, r0, r1, r2]
  rw [HE.out]; exact ⟨rfl, s.size, ((HS.out.sc.cell HS.out.n4 HS.out.z4 0 _).cell HS.out.n4 HS.out.z4 1 _).cell HS.out.n4 HS.out.z4 2 _, Nat.le_refl _, fun _ => rfl⟩
 exfalso; obtain ⟨c, r, hcr⟩ : ∃ c r, s.data.toList.drop b = c :: r := by
  cases hd : s.data.toList.drop b with
  | nil => have := List.drop_eq_nil_iff.1 hd; rw [HL.out] at this; omega
  | cons c r => exact ⟨c, r, rfl⟩
 have h1 := HW.out; have h2 := (Wx c r).1; rw [Iq hcr] at h1; omega
open Go Go.RowKit Go.Proofs Th
theorem Ss (p : Nat) (s : ByteArray) (hs : s.size ≤ 1000000) (d : Nat) (k : Int)
  (hQ : ∀ (W : World) (b : Nat), b < s.size → Box W p [.string s, .int .i64 b] → GlobX W → Calls Tryz.prog 72 #[.pointer (some ⟨p, 0, none⟩), .int .i64 k] W fun r w' => E4 W p s (BK s.data.toList d b) r w')
  (a : Nat) (hw : way s.data.toList (AL s.data.toList a) = 1) (ha : a ≤ s.size) (w : World) (hB : Box w p [.string s, .int .i64 a]) (hG : GlobX w) :
  Calls Tryz.prog 47 #[.pointer (some ⟨p, 0, none⟩), .int .i64 k] w fun r w' => DM w p s (AF s.data.toList d a) r w' := by
 have HL := Keep.mk (Ai s); have hpl := hB.lt; have HQ := Keep.mk hQ; obtain ⟨b, hb⟩ : ∃ b, AL s.data.toList a = b := ⟨_, rfl⟩
 have hbs : b ≤ s.size := by rw [← hb, ← HL.out]; exact (C4 _ _ (by rw [HL.out]; exact ha)).2
 have HO := Keep.mk (show AF s.data.toList d a = BG s.data.toList (BK s.data.toList d) b by rw [B9, hb]); have HK := Keep.mk (fun W hB => IC p s a hs ha W hB); rw [hb] at HK; have HSK := Keep.mk (fun c (h : s.data.toList[b]? = some c) => (J4 hb h).1); rw [hb] at hw; have HW := Keep.mk hw; clear hw; have HB := Keep.mk hB; have HG := Keep.mk hG; clear hQ hb ha hB hG; go_enter Tryz.func47, Tryz.ntmps47
 go_wp2_with fail
 refine (HK.out _ (HB.out.alloc _)).mono ?_; rintro r w1 ⟨rfl, hsc⟩; have HS := Keep.mk (show NextA w w1 p s b w.heap.size from ⟨⟨hsc.b, (Upd.of (al1 w _)).trans hsc.u⟩, (Box.new (w := w) (n := w.heap.size) [.int .i64 0, .string ⟨#[]⟩, .int .i64 0] 66 rfl).upd hsc.u (by omega), by omega, Nat.le_refl _, (HG.out.below (al1 w _)).upd (HB.out.alloc _) hsc.u, (by obtain ⟨m, hm⟩ := HG.out; exact BX hm)⟩); clear hsc HK HB HG; obtain ⟨p0, p1⟩ := HS.out.sc.b.p2; have pf := HS.out.sc.b.froz 1; have pl := HS.out.sc.b.lt; obtain ⟨r0, rf0, r1, rf1, r2, rf2, rl⟩ := HS.out.b4.q3l; go_wp2_with fail
 refine A9 (by kernel_rfl) (by kernel_rfl) ?_; repeat (go_big_quiet_step (fail))
 refine wpQuiet_nil ?_; rintro W2 ⟨z, hz⟩; replace HS := Keep.mk (hz ▸ HS.out.below z.property); clear p0 p1 pf pl r0 r1 r2 rf0 rf1 rf2 rl; clear hz z; obtain ⟨p0, p1⟩ := HS.out.sc.b.p2; have pf := HS.out.sc.b.froz 1; have pl := HS.out.sc.b.lt; obtain ⟨r0, rf0, r1, rf1, r2, rf2, rl⟩ := HS.out.b4.q3l; by_cases hend : b = s.size
 ·exact absurd (HW.out.symm.trans (Q0 (by rw [HL.out]; omega))) (by decide)
 have hlt : b < s.size := by omega
 have hbe : ((b : Int) == (s.size : Int)) = false := by rw [beq_eq_false_iff_ne]; omega
 go_wp2_with fail
 refine A9 (by kernel_rfl) (by kernel_rfl) ?_; repeat (go_big_quiet_step (fail))
 refine wpQuiet_nil ?_; rintro W2 ⟨z, hz⟩; replace HS := Keep.mk (hz ▸ HS.out.below z.property); clear p0 p1 pf pl r0 r1 r2 rf0 rf1 rf2 rl; clear hz z; obtain ⟨p0, p1⟩ := HS.out.sc.b.p2; have pf := HS.out.sc.b.froz 1; have pl := HS.out.sc.b.lt; obtain ⟨r0, rf0, r1, rf1, r2, rf2, rl⟩ := HS.out.b4.q3l; go_upto_region 7 with fail
 generalize hx : s.extract b s.size = x; have hxl : x.data.toList = s.data.toList.drop b := by rw [← hx, EK]
 have hxz : x.size = s.size - b := by rw [← hx]; exact Iw s b hbs
 have hx0 : 0 < x.size := by omega
 obtain ⟨xr, hxr⟩ := Fy hx0; refine GV (fun W => NextB w W p s b w.heap.size W2.heap.size 0 ⟨#[]⟩ b) (Mi HS.out hpl (al1 _ _) (Box.new [.int .i64 0, .string ⟨#[]⟩, .int .i64 b] _ rfl)) ?_; clear p0 p1 pf pl r0 r1 r2 rf0 rf1 rf2 rl; clear HS; rintro W3 HS; replace HS := Keep.mk HS; have hn8 := HS.out.n8; have hz8 := HS.out.z8; generalize W2.heap.size = t8 at *; have hn4 := HS.out.n4; have hn48 := HS.out.n48; generalize hw4 : w.heap.size = t4 at *; obtain ⟨p0, p1⟩ := HS.out.sc.b.p2; have pf := HS.out.sc.b.froz 1; have pl := HS.out.sc.b.lt; obtain ⟨r0, rf0, r1, rf1, r2, rf2, rl⟩ := HS.out.b4.q3l; obtain ⟨t0, tf0, t1, tf1, t2, tf2, tl⟩ := HS.out.b8.q3l; replace HW := Keep.mk ((Iq (hxl.symm.trans hxr)).symm.trans HW.out); by_cases h34 : x[0] = 34
 ·have f34 : (x[0].toNat : Int) = 34 := by rw [h34]; rfl
  obtain ⟨⟨q1, q2⟩, hq⟩ : ∃ q, BK s.data.toList d b = q := ⟨_, rfl⟩
  have HC := Keep.mk (HQ.out W3 b hlt HS.out.sc.b HS.out.glob); have HE := Keep.mk (show AF s.data.toList d a = if q2 ≠ 0 then (noTf, q1, q2) else (⟨5, ⟨((s.data.toList.drop b).take (q1 - b)).toArray⟩, b⟩, q1, 0) by
   rw [HO.out]; unfold BG; rw [← hxl, hxr, h34, hq]; rfl)
  have hqk := (EX s.data.toList d b (by rw [HL.out]; exact hlt)).2; rw [hq] at HC hqk; dsimp only at hqk; clear hq HO HQ h34 hxr hxl hx; go_wp2_with fail
  refine HC.out.mono ?_; rintro r w4 ⟨rfl, j, hsc, hj, hje⟩; replace HS := Keep.mk (HS.out.scan hsc); clear p0 p1 pf pl r0 r1 r2 rf0 rf1 rf2 rl t0 t1 t2 tf0 tf1 tf2 tl; clear hsc HC; obtain ⟨p0, p1⟩ := HS.out.sc.b.p2; have pf := HS.out.sc.b.froz 1; have pl := HS.out.sc.b.lt; obtain ⟨r0, rf0, r1, rf1, r2, rf2, rl⟩ := HS.out.b4.q3l; obtain ⟨t0, tf0, t1, tf1, t2, tf2, tl⟩ := HS.out.b8.q3l; dsimp only at hje; by_cases hq2 : q2 = 0
  ·subst hq2
   have hbq := hqk rfl; clear hqk; obtain rfl : q1 = j := (hje rfl).symm; go_wp2_with fail
   go_cut [] (fun wx => Keep (NextB w wx p s q1 t4 t8 5 (s.extract b q1) b))
   case first =>
    go_region_with (fail)
    all_goals (
     go_wp2_with fail
     go_meet
     exact ⟨HS.out.two 5 (s.extract b q1)⟩)
   case rest =>
    clear HS; clear p0 p1 pf pl r0 r1 r2 rf0 rf1 rf2 rl t0 t1 t2 tf0 tf1 tf2 tl; have HS := hcut; clear hcut; obtain ⟨p0, p1⟩ := HS.out.sc.b.p2; have pf := HS.out.sc.b.froz 1; have pl := HS.out.sc.b.lt; obtain ⟨r0, rf0, r1, rf1, r2, rf2, rl⟩ := HS.out.b4.q3l; obtain ⟨t0, tf0, t1, tf1, t2, tf2, tl⟩ := HS.out.b8.q3l; go_wp2
    refine bodyPost_ret (v := .tuple #[.agg #[.int .i64 5, .string (s.extract b q1), .int .i64 b], .int .i64 0, .int .i64 0]) ?_ rfl ?_
    ·simp [results, Tryz.results47, go_sem, r0, r1, r2]
    rw [HE.out, if_neg (fun h => h rfl)]; exact ⟨by rw [← GS s b q1]; rfl, q1, ((HS.out.sc.cell HS.out.n4 HS.out.z4 0 _).cell HS.out.n4 HS.out.z4 1 _).cell HS.out.n4 HS.out.z4 2 _, hj, fun _ => rfl⟩
  have hne : ¬ (q2 : Int) = 0 := by omega
  go_wp2
  refine bodyPost_ret (v := .tuple #[.agg #[.int .i64 0, .string ⟨#[]⟩, .int .i64 0], .int .i64 (q1 : Int), .int .i64 (q2 : Int)]) ?_ rfl ?_
  ·simp [results, Tryz.results47, go_sem, r0, r1, r2]
  rw [HE.out, if_pos hq2]; exact ⟨by rw [if_neg hq2]; rfl, j, ((HS.out.sc.cell HS.out.n4 HS.out.z4 0 _).cell HS.out.n4 HS.out.z4 1 _).cell HS.out.n4 HS.out.z4 2 _, hj, fun h => absurd h hq2⟩
 exfalso; have hw := HW.out; unfold IJ at hw; rw [if_neg h34] at hw; (repeat' split at hw) <;> cases hw
open Go Go.RowKit Go.Proofs Th
theorem St (p : Nat) (s : ByteArray) (hs : s.size ≤ 1000000) (d : Nat) (k : Int)
  (hQ : ∀ (W : World) (b : Nat), b < s.size → Box W p [.string s, .int .i64 b] → GlobX W → Calls Tryz.prog 72 #[.pointer (some ⟨p, 0, none⟩), .int .i64 k] W fun r w' => E4 W p s (BK s.data.toList d b) r w')
  (a : Nat) (hw : way s.data.toList (AL s.data.toList a) = 2) (ha : a ≤ s.size) (w : World) (hB : Box w p [.string s, .int .i64 a]) (hG : GlobX w) :
  Calls Tryz.prog 47 #[.pointer (some ⟨p, 0, none⟩), .int .i64 k] w fun r w' => DM w p s (AF s.data.toList d a) r w' := by
 have HL := Keep.mk (Ai s); have hpl := hB.lt; have HQ := Keep.mk hQ; obtain ⟨b, hb⟩ : ∃ b, AL s.data.toList a = b := ⟨_, rfl⟩
 have hbs : b ≤ s.size := by rw [← hb, ← HL.out]; exact (C4 _ _ (by rw [HL.out]; exact ha)).2
 have HO := Keep.mk (show AF s.data.toList d a = BG s.data.toList (BK s.data.toList d) b by rw [B9, hb]); have HK := Keep.mk (fun W hB => IC p s a hs ha W hB); rw [hb] at HK; have HSK := Keep.mk (fun c (h : s.data.toList[b]? = some c) => (J4 hb h).1); rw [hb] at hw; have HW := Keep.mk hw; clear hw; have HB := Keep.mk hB; have HG := Keep.mk hG; clear hQ hb ha hB hG; go_enter Tryz.func47, Tryz.ntmps47
 go_wp2_with fail
 refine (HK.out _ (HB.out.alloc _)).mono ?_; rintro r w1 ⟨rfl, hsc⟩; have HS := Keep.mk (show NextA w w1 p s b w.heap.size from ⟨⟨hsc.b, (Upd.of (al1 w _)).trans hsc.u⟩, (Box.new (w := w) (n := w.heap.size) [.int .i64 0, .string ⟨#[]⟩, .int .i64 0] 66 rfl).upd hsc.u (by omega), by omega, Nat.le_refl _, (HG.out.below (al1 w _)).upd (HB.out.alloc _) hsc.u, (by obtain ⟨m, hm⟩ := HG.out; exact BX hm)⟩); clear hsc HK HB HG; obtain ⟨p0, p1⟩ := HS.out.sc.b.p2; have pf := HS.out.sc.b.froz 1; have pl := HS.out.sc.b.lt; obtain ⟨r0, rf0, r1, rf1, r2, rf2, rl⟩ := HS.out.b4.q3l; go_wp2_with fail
 refine A9 (by kernel_rfl) (by kernel_rfl) ?_; repeat (go_big_quiet_step (fail))
 refine wpQuiet_nil ?_; rintro W2 ⟨z, hz⟩; replace HS := Keep.mk (hz ▸ HS.out.below z.property); clear p0 p1 pf pl r0 r1 r2 rf0 rf1 rf2 rl; clear hz z; obtain ⟨p0, p1⟩ := HS.out.sc.b.p2; have pf := HS.out.sc.b.froz 1; have pl := HS.out.sc.b.lt; obtain ⟨r0, rf0, r1, rf1, r2, rf2, rl⟩ := HS.out.b4.q3l; by_cases hend : b = s.size
 ·exact absurd (HW.out.symm.trans (Q0 (by rw [HL.out]; omega))) (by decide)
 have hlt : b < s.size := by omega
 have hbe : ((b : Int) == (s.size : Int)) = false := by rw [beq_eq_false_iff_ne]; omega
 go_wp2_with fail
 refine A9 (by kernel_rfl) (by kernel_rfl) ?_; repeat (go_big_quiet_step (fail))
 refine wpQuiet_nil ?_; rintro W2 ⟨z, hz⟩; replace HS := Keep.mk (hz ▸ HS.out.below z.property); clear p0 p1 pf pl r0 r1 r2 rf0 rf1 rf2 rl; clear hz z; obtain ⟨p0, p1⟩ := HS.out.sc.b.p2; have pf := HS.out.sc.b.froz 1; have pl := HS.out.sc.b.lt; obtain ⟨r0, rf0, r1, rf1, r2, rf2, rl⟩ := HS.out.b4.q3l; go_upto_region 7 with fail
 generalize hx : s.extract b s.size = x; have hxl : x.data.toList = s.data.toList.drop b := by rw [← hx, EK]
 have hxz : x.size = s.size - b := by rw [← hx]; exact Iw s b hbs
 have hx0 : 0 < x.size := by omega
 obtain ⟨xr, hxr⟩ := Fy hx0; refine GV (fun W => NextB w W p s b w.heap.size W2.heap.size 0 ⟨#[]⟩ b) (Mi HS.out hpl (al1 _ _) (Box.new [.int .i64 0, .string ⟨#[]⟩, .int .i64 b] _ rfl)) ?_; clear p0 p1 pf pl r0 r1 r2 rf0 rf1 rf2 rl; clear HS; rintro W3 HS; replace HS := Keep.mk HS; have hn8 := HS.out.n8; have hz8 := HS.out.z8; generalize W2.heap.size = t8 at *; have hn4 := HS.out.n4; have hn48 := HS.out.n48; generalize hw4 : w.heap.size = t4 at *; obtain ⟨p0, p1⟩ := HS.out.sc.b.p2; have pf := HS.out.sc.b.froz 1; have pl := HS.out.sc.b.lt; obtain ⟨r0, rf0, r1, rf1, r2, rf2, rl⟩ := HS.out.b4.q3l; obtain ⟨t0, tf0, t1, tf1, t2, tf2, tl⟩ := HS.out.b8.q3l; replace HW := Keep.mk ((Iq (hxl.symm.trans hxr)).symm.trans HW.out); by_cases h34 : x[0] = 34
 ·exfalso
  have hw := HW.out; unfold IJ at hw; rw [if_pos h34] at hw; cases hw
 have f34 : ¬ (x[0].toNat : Int) = 34 := fun h => h34 (UInt8.toNat_inj.1 (by show x[0].toNat = 34; omega))
 have g34 : ((x[0].toNat : Int) == 34) = false := by rw [beq_eq_false_iff_ne]; exact f34
 have hdl : s.data.toList.drop b = x[0] :: xr := by rw [← hxl, hxr]
 have hat : s.data.toList[b]? = some x[0] := by
  have := congrArg List.head? hdl; rw [List.head?_drop] at this; exact this
 have h32 : x[0] ≠ 32 := fun h => by
  have := HSK.out x[0] hat; rw [h] at this; cases this
 have HE := Keep.mk (fun (kk o n : Nat) (ht : Bj (x[0] :: xr) = (kk, o, n)) => show AF s.data.toList d a = if kk = 0 then (noTf, b, 60) else (⟨kk, ⟨(((x[0] :: xr).take n).drop o).toArray⟩, b⟩, b + n, 0) by
  rw [HO.out]; unfold BG; rw [hdl]; dsimp only; rw [if_neg h34, ht])
 have hxtl : ∀ n, x.extract 0 n = ⟨(((x[0] :: xr).take n).drop 0).toArray⟩ := fun n => by rw [← hxr, GS x 0 n, List.drop_zero, List.drop_zero, Nat.sub_zero]
 have hxt1 : ∀ n, x.extract 1 n = ⟨(((x[0] :: xr).take n).drop 1).toArray⟩ := fun n => by rw [← hxr, GS x 1 n, List.drop_take]
 have hx1l : (x.extract 1 x.size).data.toList = xr := by rw [EK, hxr]; rfl
 have hx1z : (x.extract 1 x.size).size = x.size - 1 := Iw x 1 hx0; have hnle := DL x.data.toList; rw [Ai] at hnle; have hn1le := DL xr; have hxrl : xr.length = x.size - 1 := by rw [← hx1l, Ai, hx1z]
 have HNX := Keep.mk (fun W => Ld x (by omega) W); have HN1 := Keep.mk (fun W => Ld (x.extract 1 x.size) (by rw [hx1z]; omega) W); rw [hx1l] at HN1; have HTE := Keep.mk (fun n => hxtl n); have HTF := Keep.mk (fun n => hxt1 n); have HLT := Keep.mk (fun W => Gm x[0] W); have HDG := Keep.mk (fun W => G7 x[0] W); have HNM := Keep.mk (fun W => LW x (by omega) W); have HSG := Keep.mk (fun W m hm => Qb x hx0 h32 W m hm); have HSN := Keep.mk (fun (h : 0 < Be x.data.toList) => (QR x.data.toList h).2.1); have HNN := Keep.mk (fun (h : 0 < Bq x.data.toList) => (PI x.data.toList h).2); rw [hxr] at HNX HNM HSG hnle; have HSN := Keep.mk (fun (h : 0 < Be (x[0] :: xr)) => show Be (x[0] :: xr) ≤ x.data.toList.length by rw [← hxr] at h ⊢; exact HSN.out h); have HNN := Keep.mk (fun (h : 0 < Bq (x[0] :: xr)) => show Dc (x[0] :: xr) ≤ x.data.toList.length by rw [← hxr] at h ⊢; exact HNN.out h); clear hxtl hxt1 hx1l hx1z HQ HO hdl hat HSK hxr hxl hx h32; go_upto_block 0 with fail
 go_cut [9] (fun v9 wx => ∃ (n kk : Nat) (tx : ByteArray), v9 = .int .i64 n ∧ Keep (AF s.data.toList d a = (⟨kk, tx, b⟩, b + n, 0) ∧ b + n ≤ s.size) ∧ Keep (NextB w wx p s b t4 t8 kk tx b))
 case first =>
  go_wp2_with fail
  refine (HLT.out _).mono ?_; rintro r w4 ⟨rfl, rfl⟩; clear HLT; cases hlf : Bl x[0]
  ·exfalso
   have hw := HW.out; unfold IJ at hw; rw [if_neg h34, if_neg (show ¬ Bl x[0] = true by rw [hlf]; decide)] at hw; (repeat' split at hw) <;> cases hw
  have ht : Bj (x[0] :: xr) = (1, 0, AM (x[0] :: xr)) := by simp only [Bj]; rw [if_pos hlf]
  obtain ⟨n, hn⟩ : ∃ n, AM (x[0] :: xr) = n := ⟨_, rfl⟩
  rw [hn] at ht HNX hnle; have HR := Keep.mk ((HE.out _ _ _ ht).trans (if_neg (by decide))); rw [← HTE.out n] at HR; clear ht hn HE hlf HTE HTF HDG HNM HSG HSN HNN HN1 hn1le hxrl; go_wp2_with fail
  refine (HNX.out _).mono ?_; rintro r w5 ⟨rfl, rfl⟩; clear HNX; go_upto_region 20 with fail
  go_region_with (fail)
  all_goals (
   go_wp2_with fail
   go_meet
   exact ⟨n, 1, x.extract 0 n, by go_num, ⟨HR.out, by omega⟩, ⟨HS.out.two 1 (x.extract 0 n)⟩⟩)
 case rest =>
  obtain ⟨n, kk, tx, rfl, HR, HS2⟩ := hcut; clear HS HE HTE HTF HLT HDG HNM HSG HSN HNN HN1 HNX; clear p0 p1 pf pl r0 r1 r2 rf0 rf1 rf2 rl t0 t1 t2 tf0 tf1 tf2 tl; have HS := HS2; clear HS2; have hbn := HR.out.2; obtain ⟨p0, p1⟩ := HS.out.sc.b.p2; have pf := HS.out.sc.b.froz 1; have pl := HS.out.sc.b.lt; obtain ⟨r0, rf0, r1, rf1, r2, rf2, rl⟩ := HS.out.b4.q3l; obtain ⟨t0, tf0, t1, tf1, t2, tf2, tl⟩ := HS.out.b8.q3l; go_wp2
  refine bodyPost_ret (v := .tuple #[.agg #[.int .i64 (kk : Int), .string tx, .int .i64 b], .int .i64 0, .int .i64 0]) ?_ rfl ?_
  ·simp [results, Tryz.results47, go_sem, r0, r1, r2]
  rw [HR.out.1]; exact ⟨rfl, b + n, (((HS.out.sc.set (b + n) _ (by omega)).cell HS.out.n4 HS.out.z4 0 _).cell HS.out.n4 HS.out.z4 1 _).cell HS.out.n4 HS.out.z4 2 _, hbn, fun _ => rfl⟩
open Go Go.RowKit Go.Proofs Th
/-! rows of filters with semicolons -/
def Fe : List (List TK) → List TK
 | [] => []
 | [x] => x
 | x :: y :: r => x ++ (6, ⟨#[59]⟩) :: Fe (y :: r)
theorem MD : ∀ l : List (List TK), (∀ x ∈ l, Bal x) → Bal (Fe l)
 | [], _ => Kf
 | [x], h => h x List.mem_cons_self
 | x :: y :: r, h => by
  have h1 := h x List.mem_cons_self; have h2 := MD (y :: r) fun z hz => h z (List.mem_cons_of_mem _ hz)
  intro s; simp only [Fe, AZ h1, BL (x := ⟨#[59]⟩) (by decide) (by decide), Jm h2]
theorem Pm {d : Nat} : ∀ (l : List ByteArray) (ks : List (List TK)), l.length = ks.length → l ≠ [] → (∀ i (h : i < l.length) (h2 : i < ks.length) R, El R = true → RD d (tl l[i]) ks[i] R) → ∀ R, El R = true → RD d (tl (Ba ⟨#[59, 32]⟩ l)) (Fe ks) R
 | [], _, _, h, _, _, _ => absurd rfl h
 | [x], [k], _, _, h, R, hR => h 0 (by simp) (by simp) R hR
 | x :: y :: r, k :: k2 :: ks, hl, _, h, R, hR => by
  have h1 := Pm (d := d) (y :: r) (k2 :: ks) (by simpa using hl) (by simp) (fun i a b R hR => h (i + 1) (by simpa using a) (by simpa using b) R hR) R hR; have e : tl (Ba ⟨#[59, 32]⟩ (x :: y :: r)) = tl x ++ ([59] ++ ([32] ++ tl (Ba ⟨#[59, 32]⟩ (y :: r)))) := by
   show tl (x ++ _ ++ Ba _ (y :: r)) = _
   rw [Bw, Bw, List.append_assoc]; rfl
  rw [e]; exact (h 0 (by simp) (by simp) _ rfl).app ((A1 (c := 59) rfl d _).app ((Bb d _).app h1))
def Rds (g : NJ → NJ) (c : TK → TK) (l : List NJ) : Prop := ∀ x ∈ l, Rd g c x (CH g c x)
variable {g : NJ → NJ} {c : TK → TK}
theorem Rds.sep {l : List NJ} (h : Rds g c l) (h0 : l ≠ []) {d : Nat} (hd : Bt l ≤ d) (R : List UInt8) (hR : El R = true) : RD d (tl (Ba ⟨#[59, 32]⟩ (spL l))) (Fe (l.map (CH g c))) R := by
 refine Pm _ _ (by rw [FA, List.length_map, List.length_map]) (by rw [FA]; simpa using h0) (fun i a b R hR => ?_) R hR; have hi : i < l.length := by rw [FA, List.length_map] at a; exact a
 have hm : l[i] ∈ l := List.getElem_mem hi; have := (h _ hm).sc d (Nat.le_trans (Cz.1 (Nat.le_refl _) _ hm) hd) R hR; simpa only [FA, List.getElem_map] using this
theorem Rds.bal {l : List NJ} (h : Rds g c l) : Bal (Fe (l.map (CH g c))) := MD _ fun x hx => by
 obtain ⟨y, hy, rfl⟩ := List.mem_map.1 hx; exact (h y hy).bal
theorem QT (hG : Gc g c) {E : Env} {name : ByteArray} : ∀ (l : List NJ) (kids : List NJ) (i : Nat), l ≠ [] → Rds g c l → AtK E i ((Fe (l.map (CH g c))).map c ++ [(6, ⟨#[41]⟩)]) → evP E (.callLoop name kids) i = some (.ok (.mk 23 name 0 0 (kids ++ l.map g) []) (i + (Fe (l.map (CH g c))).length + 1))
 | [], _, _, h, _, _ => absurd rfl h
 | [x], kids, i, _, h, hat => by
  obtain ⟨h0, hat⟩ := hat.appM; obtain ⟨t1, _⟩ := hat.cons; rw [AD]; simp only [Ak]; replace t1 : tk (Aa E (i + (CH g c x).length)) = _ := t1; rw [(h x List.mem_cons_self).flt hG h0 (by rw [t1]; decide), BE]; rw [if_neg (FQ t1 (by decide)), Ch t1]; rfl
 | x :: y :: r, kids, i, _, h, hat => by
  simp only [List.map_cons, Fe, List.map_append, hG.t6, List.append_assoc, List.cons_append] at hat; obtain ⟨h0, hat⟩ := hat.appM; obtain ⟨t1, hat⟩ := hat.cons; have ih := QT hG (name := name) (y :: r) (kids ++ [g x]) _ (by simp) (fun z hz => h z (List.mem_cons_of_mem _ hz)) hat; rw [AD]; simp only [Ak]; rw [(h x List.mem_cons_self).flt hG h0 (by rw [t1]; decide), BE, if_pos (AV.2 t1), ih]; simp only [List.map_cons, Fe, List.append_assoc, List.cons_append, List.nil_append, List.length_append, List.length_cons]; congr 2; omega
theorem Hl {s : ByteArray} (h : B7 s = true) : Bf s = true ∧ inB Ca s = false := by
 unfold B7 at h; rw [Bool.and_eq_true, Bool.not_eq_true'] at h; exact h
theorem GA {s w : ByteArray} (h : inB Ca s = false) (hw : w ∈ Ca) : ¬ s = w := by
 rintro rfl; unfold inB at h; rw [List.any_eq_false] at h; exact h s hw (decide_eq_true rfl)
theorem Lb : (⟨#[105, 102]⟩ : ByteArray) ∈ Ca ∧ (⟨#[116, 114, 121]⟩ : ByteArray) ∈ Ca ∧ (⟨#[114, 101, 100, 117, 99, 101]⟩ : ByteArray) ∈ Ca ∧ (⟨#[102, 111, 114, 101, 97, 99, 104]⟩ : ByteArray) ∈ Ca ∧ (⟨#[100, 101, 102]⟩ : ByteArray) ∈ Ca ∧ (⟨#[97, 115]⟩ : ByteArray) ∈ Ca := by simp [Ca]
theorem L7 {E : Env} {i : Nat} {s : ByteArray} (t0 : tk (Aa E i) = (1, s)) (hs : inB Ca s = false) : evP E .first i = (if isT E (i + 1) 6 ⟨#[40]⟩ then evP E (.callLoop s []) (i + 1 + 1) else okP (.mk 23 s 0 0 [] []) (i + 1)) := by
 have hk : (Aa E i).kind = 1 := congrArg Prod.fst t0; have hx : (Aa E i).text = s := congrArg Prod.snd t0; obtain ⟨w1, w2, w3, w4, _⟩ := Lb; rw [AD]; simp only [Ak]; rw [if_neg (by omega), if_neg (by omega), if_neg (by omega), if_neg (by omega), if_pos hk, hx, AD]; simp only [Ak]; rw [if_neg (GA hs w1), if_neg (GA hs w2), if_neg (GA hs w3), if_neg (GA hs w4), MI t0 hs]
theorem JG {s : ByteArray} (h : Bf s = true) : ∃ c r, tl s = c :: r ∧ Bl c = true := by
 unfold Bf at h; show ∃ c r, s.data.toList = c :: r ∧ _
 cases hs : s.data.toList with
 | nil => rw [hs] at h; cases h
 | cons c r => rw [hs] at h; simp only [Bc, Bool.and_eq_true] at h; exact ⟨c, r, rfl, h.1⟩
theorem Uz {c : UInt8} (h : Bl c = true) : c ≠ 61 ∧ c ≠ 36 := by
 constructor <;> (rintro rfl; cases h)
theorem aU (s : ByteArray) (l : List NJ) : tl (spJ (.mk 23 s 0 0 l [])) = if l.length = 0 then tl s else tl s ++ 40 :: (tl (Ba ⟨#[59, 32]⟩ (spL l)) ++ [41]) := by
 rw [spJ]; simp only [Int.reduceEq, if_true, if_false, or_false]; split
 ·rfl
 simp only [Bw, C8, List.append_assoc, List.cons_append, List.nil_append]
theorem aB (hG : Gc g c) {s : ByteArray} {l : List NJ} (hs : B7 s = true) (h : Rds g c l) : ∃ T, Rd g c (.mk 23 s 0 0 l []) T := by
 obtain ⟨hn, hw⟩ := Hl hs; obtain ⟨cc, v, e, hc⟩ := JG hn; have ht := aU s l; by_cases h0 : l = []
 ·subst h0
  rw [if_pos (show ([] : List NJ).length = 0 from rfl)] at ht; refine ⟨[(1, s)], fun d hd R hR => ?_, FH (by simp) (by simp), ⟨_, _, rfl, ?_⟩, ⟨cc, v, by rw [ht, e], (Uz hc).1⟩, fun E i j hat hj hq => ?_⟩
  ·rw [ht]; exact CC hn (G0 hR)
  ·exact ⟨by simp, fun h => by injection h with _ h; exact GA hw Lb.2.2.2.2.1 h⟩
  simp only [List.map_cons, List.map_nil, hG.t1] at hat; obtain ⟨t0, _⟩ := hat.cons; obtain rfl : j = i + 1 := hj; rw [show g (.mk 23 s 0 0 [] []) = .mk 23 s 0 0 [] [] from hG.m _ _ _ _ _ _ (by decide) (by decide)]; refine Bx ?_; rw [L7 t0 hw, if_neg (fun hh => hq.2 (AV.1 hh))]; rfl
 rw [if_neg (fun h => h0 (List.eq_nil_of_length_eq_zero h))] at ht; refine ⟨(1, s) :: (6, ⟨#[40]⟩) :: (Fe (l.map (CH g c)) ++ [(6, ⟨#[41]⟩)]), fun d hd R hR => ?_, ?_, ⟨_, _, rfl, ?_⟩, ⟨cc, v ++ _, by rw [ht, e]; rfl, (Uz hc).1⟩, fun E i j hat hj hq => ?_⟩
 ·rw [ht]
  simp only [AB] at hd; have := (CC (d := d) (R := 40 :: (tl (Ba ⟨#[59, 32]⟩ (spL l)) ++ [41]) ++ R) hn rfl).app ((A1 (c := 40) rfl d (tl (Ba ⟨#[59, 32]⟩ (spL l)) ++ [41] ++ R)).app (P2 := tl (Ba ⟨#[59, 32]⟩ (spL l)) ++ [41]) ((h.sep h0 (d := d) (by omega) ([41] ++ R) rfl).app (A1 (c := 41) rfl d R))); exact this
 ·intro s'
  simp only [Ec (k := 1) (by decide), DR, AZ h.bal, DT, Cc]
 ·exact ⟨by simp, fun h => by injection h with _ h; exact GA hw Lb.2.2.2.2.1 h⟩
 simp only [List.map_cons, List.map_append, List.map_nil, hG.t1, hG.t6] at hat; obtain ⟨t0, hat⟩ := hat.cons; obtain ⟨t1, hat⟩ := hat.cons; have hc := QT hG (name := s) l [] _ h0 h hat; rw [hG.m 23 s 0 0 l [] (by decide) (by decide)]; obtain rfl : j = i + 1 + 1 + (Fe (l.map (CH g c))).length + 1 := by rw [hj]; simp; omega
 refine Bx ?_; rw [L7 t0 hw, if_pos (AV.2 t1), hc]; rfl
/-! objects -/
noncomputable def Er (g : NJ → NJ) (c : TK → TK) : Bool → List NJ → List TK
 | f, k :: v :: r => (if f = true then [] else [(6, ⟨#[44]⟩)]) ++ ((6, ⟨#[40]⟩) :: (CH g c k ++ (6, ⟨#[41]⟩) :: (6, ⟨#[58]⟩) :: (CH g c v ++ Er g c false r)))
 | _, _ => []
theorem Q9 : ∀ (f : Bool) (l : List NJ), Rds g c l → Bal (Er g c f l)
 | _, [], _ => Kf
 | _, [_], _ => Kf
 | f, k :: v :: r, h => by
  have h1 := (h k (by simp)).bal; have h2 := (h v (by simp)).bal; have h3 := Q9 false r fun z hz => h z (by simp [hz])
  intro s; cases f
  ·simp only [Er, Bool.false_eq_true, if_false, List.cons_append, List.nil_append, BL (x := ⟨#[44]⟩) (by decide) (by decide), DR, AZ h1, DT, BL (x := ⟨#[58]⟩) (by decide) (by decide), AZ h2, Jm h3]
  simp only [Er, if_true, List.nil_append, DR, AZ h1, DT, BL (x := ⟨#[58]⟩) (by decide) (by decide), AZ h2, Jm h3]
theorem Yk (r : List NJ) (R : List UInt8) (hR : El R = true) : El (tl (Cs false (spL r)) ++ R) = true := by
 match r with
 | [] => simpa [spL, Cs, tl] using hR
 | [x] => simpa [spL, Cs, tl] using hR
 | x :: y :: r =>
  simp only [spL, Cs, Bw, List.append_assoc]; rfl
theorem Tt {d : Nat} : ∀ (f : Bool) (l : List NJ), Rds g c l → Bt l ≤ d → ∀ R, El R = true → RD d (tl (Cs f (spL l))) (Er g c f l) R
 | f, [], _, _, R, _ => by cases f <;> simpa [spL, Cs, Er, tl] using Lv d R
 | f, [x], _, _, R, _ => by cases f <;> simpa [spL, Cs, Er, tl] using Lv d R
 | f, k :: v :: r, h, hd, R, hR => by
  have hk : AB k ≤ d := Nat.le_trans (Cz.1 (Nat.le_refl _) _ (by simp)) hd; have hv : AB v ≤ d := Nat.le_trans (Cz.1 (Nat.le_refl _) _ (by simp)) hd; have hr : Bt r ≤ d := Cz.2 fun y hy => Nat.le_trans (Cz.1 (Nat.le_refl _) _ (by simp [hy])) hd
  have h3 := Tt (d := d) false r (fun z hz => h z (by simp [hz])) hr R hR; have hsr := Yk r R hR; have hb : RD d (40 :: (tl (spJ k) ++ 41 :: 58 :: 32 :: (tl (spJ v) ++ tl (Cs false (spL r))))) ((6, ⟨#[40]⟩) :: (CH g c k ++ (6, ⟨#[41]⟩) :: (6, ⟨#[58]⟩) :: (CH g c v ++ Er g c false r))) R := by
   have := L1 (d := d) (ps := [⟨[40], [(6, ⟨#[40]⟩)]⟩, ⟨tl (spJ k), CH g c k⟩, ⟨[41], [(6, ⟨#[41]⟩)]⟩, ⟨[58], [(6, ⟨#[58]⟩)]⟩, ⟨[32], []⟩, ⟨tl (spJ v), CH g c v⟩, ⟨tl (Cs false (spL r)), Er g c false r⟩]) (R := R)
    ⟨A1 rfl d _, (h k (by simp)).sc d hk _ rfl, A1 rfl d _, A1 rfl d _, Bb d _, (h v (by simp)).sc d hv _ (by simp only [CD, List.append_nil]; exact hsr), by simp only [CD, List.nil_append]; exact h3, trivial⟩
   simpa only [CD, BH, List.append_nil, List.nil_append, List.cons_append, List.append_assoc] using this
  cases f
  ·have e : tl (Cs false (spL (k :: v :: r))) = [44] ++ ([32] ++ (40 :: (tl (spJ k) ++ 41 :: 58 :: 32 :: (tl (spJ v) ++ tl (Cs false (spL r)))))) := by
    simp only [spL, Cs, Bw, Cm, C8, List.append_assoc, List.cons_append, List.nil_append, Bool.false_eq_true, if_false]
   rw [e]; exact (A1 (c := 44) rfl d _).app ((Bb d _).app hb)
  have e : tl (Cs true (spL (k :: v :: r))) = 40 :: (tl (spJ k) ++ 41 :: 58 :: 32 :: (tl (spJ v) ++ tl (Cs false (spL r)))) := by
   simp only [spL, Cs, Bw, Cm, C8, List.append_assoc, List.cons_append, List.nil_append, if_true]
  rw [e]; exact hb
theorem Po (hG : Gc g c) {E : Env} {i : Nat} {k v : NJ} {K V : List TK} (hk : Rd g c k K) (hv : Rd g c v V) (hat : AtK E i ((6, ⟨#[40]⟩) :: (K.map c ++ (6, ⟨#[41]⟩) :: (6, ⟨#[58]⟩) :: V.map c))) (hq : tk (Aa E (i + 1 + K.length + 1 + 1 + V.length)) = (6, ⟨#[44]⟩) ∨ tk (Aa E (i + 1 + K.length + 1 + 1 + V.length)) = (6, ⟨#[125]⟩)) :
  evP E .entry i = some (.ok (Ag 0 [g k, g v]) (i + 1 + K.length + 1 + 1 + V.length)) := by
 obtain ⟨t0, hat⟩ := hat.cons; obtain ⟨h1, hat⟩ := hat.appM; obtain ⟨t2, hat⟩ := hat.cons; obtain ⟨t3, h4⟩ := hat.cons; have ha : Atom E (i + 1 + K.length + 1 + 1) (g v) (i + 1 + K.length + 1 + 1 + V.length) := hv.atom hG h4 (by rcases hq with h | h <;> rw [h] <;> decide) (by rcases hq with h | h <;> rw [h] <;> decide); have hb := J8 (k := 2) ha.m (by rcases hq with h | h <;> rw [Jy h] <;> decide); have k0 : (Aa E i).kind = 6 := congrArg Prod.fst t0; rw [AD]; simp only [Ak]; rw [if_neg (by omega), if_neg (by omega), if_neg (by omega), if_pos (AV.2 t0), hk.flt hG h1 (by rw [t2]; decide), BE, Ch t2, Ch t3, hb]; rfl
theorem Uy (hG : Gc g c) {E : Env} : ∀ (l : List NJ) (kids : List NJ) (i : Nat), l ≠ [] → l.length % 2 = 0 → Rds g c l → AtK E i ((Er g c true l).map c ++ [(6, ⟨#[125]⟩)]) → evP E (.objLoop kids) i = some (.ok (Ag 16 (kids ++ l.map g)) (i + (Er g c true l).length + 1))
 | [], _, _, h, _, _, _ => absurd rfl h
 | [_], _, _, _, h, _, _ => by simp at h
 | [k, v], kids, i, _, _, h, hat => by
  simp only [Er, if_true, List.nil_append, List.append_nil] at hat ⊢; obtain ⟨ha, hat⟩ := hat.appM; simp only [List.map_cons, List.map_append, hG.t6] at ha; obtain ⟨t1, _⟩ := hat.cons; have hp : i + ((6, (⟨#[40]⟩ : ByteArray)) :: (CH g c k ++ (6, ⟨#[41]⟩) :: (6, ⟨#[58]⟩) :: CH g c v)).length = i + 1 + (CH g c k).length + 1 + 1 + (CH g c v).length := by simp only [List.length_cons, List.length_append]; omega
  rw [hp] at t1 ⊢; have he := Po hG (h k (by simp)) (h v (by simp)) ha (.inr t1); rw [AD]; simp only [Ak]; rw [he, BE, if_neg (FQ t1 (by decide)), Ch t1]; rfl
 | [_, _, _], _, _, _, h, _, _ => by simp at h
 | k :: v :: k2 :: v2 :: r, kids, i, _, hl, h, hat => by
  have e : Er g c true (k :: v :: k2 :: v2 :: r) = ((6, ⟨#[40]⟩) :: (CH g c k ++ (6, ⟨#[41]⟩) :: (6, ⟨#[58]⟩) :: CH g c v)) ++ (6, ⟨#[44]⟩) :: Er g c true (k2 :: v2 :: r) := by
   simp [Er]
  rw [e] at hat ⊢; rw [List.map_append, List.append_assoc] at hat; obtain ⟨ha, hat⟩ := hat.appM; simp only [List.map_cons, List.map_append, hG.t6, List.cons_append] at ha hat; have hp : i + ((6, (⟨#[40]⟩ : ByteArray)) :: (CH g c k ++ (6, ⟨#[41]⟩) :: (6, ⟨#[58]⟩) :: CH g c v)).length = i + 1 + (CH g c k).length + 1 + 1 + (CH g c v).length := by simp only [List.length_cons, List.length_append]; omega
  rw [hp] at hat; rw [List.length_append, ← Nat.add_assoc, hp]; obtain ⟨t1, hat⟩ := hat.cons; have he := Po hG (h k (by simp)) (h v (by simp)) ha (.inl t1); have ih := Uy hG (k2 :: v2 :: r) (kids ++ [g k, g v]) _ (by simp) (by simp only [List.length_cons] at hl ⊢; omega) (fun z hz => h z (List.mem_cons_of_mem _ (List.mem_cons_of_mem _ hz))) hat; rw [AD]; simp only [Ak]; rw [he, BE, if_pos (AV.2 t1)]; show evP E (.objLoop (kids ++ [g k, g v])) _ = _
  rw [ih]; simp only [List.append_assoc, List.cons_append, List.nil_append, List.length_cons, List.map_cons]; congr 2; omega
theorem bh (l : List NJ) : tl (spJ (Ag 16 l)) = 123 :: (tl (Cs true (spL l)) ++ [125]) := by
 unfold Ag; rw [spJ]; simp only [Int.reduceEq, if_true, if_false, or_false, Bw, C8, List.cons_append, List.nil_append]
theorem aP (hG : Gc g c) {l : List NJ} (h2 : l.length % 2 = 0) (h : Rds g c l) : ∃ T, Rd g c (Ag 16 l) T := by
 have ht := bh l; refine ⟨(6, ⟨#[123]⟩) :: (Er g c true l ++ [(6, ⟨#[125]⟩)]), fun d hd R hR => ?_, ?_, ⟨_, _, rfl, by decide⟩, ⟨123, _, by rw [ht], by decide⟩, fun E i j hat hj hq => ?_⟩
 ·rw [ht]
  simp only [Ag, AB] at hd; have := (A1 (c := 123) rfl d (tl (Cs true (spL l)) ++ [125] ++ R)).app ((Tt (d := d) true l h (by omega) ([125] ++ R) rfl).app (A1 (c := 125) rfl d R)); exact this
 ·intro s
  simp only [BL (x := ⟨#[123]⟩) (by decide) (by decide), AZ (Q9 true l h), BL (x := ⟨#[125]⟩) (by decide) (by decide), Cc]
 simp only [List.map_cons, List.map_append, List.map_nil, hG.t6] at hat; rw [show g (Ag 16 l) = Ag 16 (l.map g) from hG.m _ _ _ _ _ _ (by decide) (by decide)]; obtain ⟨t0, hat⟩ := hat.cons; obtain rfl : j = i + 1 + (Er g c true l).length + 1 := by rw [hj]; simp; omega
 refine Bx ?_; rw [Gt t0, AD]; simp only [Ak]; rw [if_neg (by decide), if_neg (by decide), if_neg (by decide), if_neg (by decide), if_pos trivial, AD]; simp only [Ak]; by_cases h0 : l = []
 ·subst h0
  obtain ⟨t1, _⟩ := hat.cons; rw [if_pos (AV.2 t1)]; rfl
 have ho := Uy hG l [] (i + 1) h0 h2 h hat; match l, h0, h2 with
 | k :: v :: r, _, _ =>
  obtain ⟨t1, _⟩ := (show AtK E (i + 1) (c (6, ⟨#[40]⟩) :: _) from hat).cons; rw [hG.t6] at t1; rw [if_neg (FQ t1 (by decide)), ho]; rfl
 | [_], _, h2 => simp at h2
end Go.Proofs.YtakncilicoefdaaGreatDoor
