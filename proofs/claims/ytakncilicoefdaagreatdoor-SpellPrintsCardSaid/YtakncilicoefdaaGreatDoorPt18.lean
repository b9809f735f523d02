/- Lemmas and contracts. Conditions: those that each lemma names. -/
import Derived.Test.YtakncilicoefdaaGreatDoorPt17
set_option maxRecDepth 100000
set_option maxHeartbeats 64000000
namespace Go.Proofs.YtakncilicoefdaaGreatDoor
open Go Go.RowKit Go.Proofs Th
def C1 : List FV → List Nat
 | [] => []
 | .own k _ :: r => k :: C1 r
 | _ :: r => C1 r
theorem B7 : ∀ {cs : List FV} {k n : Nat}, FV.own k n ∈ cs → k ∈ C1 cs
 | .own k' n' :: r, k, n, h => by
  rcases List.mem_cons.1 h with h | h
  ·injection h with h; subst h; exact List.mem_cons_self
  exact List.mem_cons_of_mem _ (B7 h)
 | .junk :: r, k, n, h => B7 (cs := r) ((List.mem_cons.1 h).resolve_left (fun e => by cases e))
 | .im _ :: r, k, n, h => B7 (cs := r) ((List.mem_cons.1 h).resolve_left (fun e => by cases e))
 | .ptr _ _ :: r, k, n, h => B7 (cs := r) ((List.mem_cons.1 h).resolve_left (fun e => by cases e))
 | .pin _ _ :: r, k, n, h => B7 (cs := r) ((List.mem_cons.1 h).resolve_left (fun e => by cases e))
theorem Ed {st st2 : Nat → AObj} {c : FV} (h : ∀ k n, c = .own k n → st2 k = st k) : CX st2 c = CX st c := by
 cases c with
 | own k n => simp only [CX, h k n rfl]
 | _ => rfl
theorem Gy {st st2 : Nat → AObj} : ∀ {cs : List FV}, (∀ k n, FV.own k n ∈ cs → st2 k = st k) → DG st2 cs = DG st cs
 | [], _ => rfl
 | c :: r, h => by
  simp only [DG, Ed (c := c) (fun k n e => h k n (e ▸ List.mem_cons_self)), Gy (cs := r) (fun k n e => h k n (List.mem_cons_of_mem _ e))]
def Bk (P : Program) (op : Op) (d : Option Nat) (s : ASt) : List Nat := match op with
 | .alloc _ => d.toList
 | .box _ x => d.toList ++ C1 [Aw s x]
 | .load t x => (match Aw s x with
  | .ptr b _ => b :: (match s.st b with
   | .box cs => (match Bx P t with
    | some (.struct _ _) => C1 cs
    | _ => [])
   | _ => [])
  | _ => [])
 | .store _ x y => (match Aw s x with
  | .ptr b _ => [b]
  | _ => []) ++ C1 [Aw s y]
 | .build _ ps => C1 (ps.toList.map fun p => Aw s p.2)
 | .buildSlice _ _ ps => C1 (ps.toList.map fun p => Aw s p.2)
 | .indexAddr _ x _ => C1 [Aw s x]
 | .call c => (match c.callee with
  | .builtin _ => d.toList ++ C1 (c.args.toList.map (Aw s))
  | _ => C1 (c.args.toList.map (Aw s)) ++ (match c.args.toList with
   | x :: _ => (match Aw s x with
    | .ptr b _ => b :: (match s.st b with
     | .box cs => C1 cs
     | _ => [])
    | _ => [])
   | [] => []))
 | _ => []
def DL : Op → Bool
 | .alloc _ => true
 | .box _ _ => true
 | .store _ _ _ => true
 | .call c => (match c.callee with
  | .builtin .len => false
  | .builtin .min => false
  | _ => true)
 | _ => false
def KP : Op → Bool
 | .move _ => false
 | .assign _ => false
 | .pick _ _ _ => false
 | .nilCheck _ => false
 | .fieldAddr _ _ _ => false
 | .field _ _ _ => false
 | .binOp _ _ _ _ _ => false
 | .unOp _ _ _ => false
 | .convert _ _ _ => false
 | .index _ _ _ => false
 | .slice _ _ _ _ _ => false
 | .extract _ _ => false
 | .makeInterface _ _ => false
 | _ => true
def app (st : Nat → AObj) : Option (Nat × AObj) → Nat → AObj
 | none => st
 | some (k, x) => upd st k x
structure SameOn (P : Program) (op : Op) (d : Option Nat) (s s2 : ASt) : Prop where
 v : ∀ x ∈ op.operands, Aw s2 x = Aw s x
 o : ∀ k ∈ Bk P op d s, s2.st k = s.st k
structure Lo (P : Program) (op : Op) (d : Option Nat) (s : ASt) (c : FV) (ch : Option (Nat × AObj)) : Prop where
 wr : DL op = false → ch = none
 ft : ∀ k x, ch = some (k, x) → k ∈ Bk P op d s
 go : ∀ s2, SameOn P op d s s2 → ∀ K : FV → (Nat → AObj) → Prop, K c (app s2.st ch) → Az P op d s2 K
section
variable {P : Program} {d : Option Nat} {s : ASt} {K : FV → (Nat → AObj) → Prop}
theorem Bb {op : Op} {c : FV} (h : ∀ s2, SameOn P op d s s2 → ∀ K : FV → (Nat → AObj) → Prop, K c s2.st → Az P op d s2 K) : Lo P op d s c none := ⟨fun _ => rfl, fun _ _ h => (by cases h), h⟩
theorem TL {s : ASt} {x : Operand} {k n : Nat} (h : Aw s x = .own k n) : k ∈ C1 [Aw s x] := B7 (n := n) (by rw [h]; exact List.mem_cons_self)
theorem Gq {s s2 : ASt} (fs : List FI) : ∀ (ps : List (Nat × Operand)) (cells : List IV), (∀ p ∈ ps, Aw s2 p.2 = Aw s p.2) → (∀ k n, FV.own k n ∈ ps.map (fun p => Aw s p.2) → s2.st k = s.st k) → DX s2 fs cells ps = DX s fs cells ps
 | [], _, _, _ => rfl
 | (i, x) :: r, cells, h1, h2 => by
  have e1 := h1 (i, x) List.mem_cons_self; have e2 : CX s2.st (Aw s x) = CX s.st (Aw s x) := Ed (fun k n e => h2 k n (by rw [← e]; exact List.mem_cons_self)); have ih := fun cells => Gq fs r cells (fun p hp => h1 p (List.mem_cons_of_mem _ hp)) (fun k n h => h2 k n (List.mem_cons_of_mem _ h))
  simp only at e1; simp only [DX, e1, e2, ih]
theorem IR {s s2 : ASt} (esz : Nat) : ∀ (ps : List (Nat × Operand)) (k : Nat), (∀ p ∈ ps, Aw s2 p.2 = Aw s p.2) → (∀ k n, FV.own k n ∈ ps.map (fun p => Aw s p.2) → s2.st k = s.st k) → DS s2 esz k ps = DS s esz k ps
 | [], _, _, _ => rfl
 | (i, x) :: r, k, h1, h2 => by
  have e1 := h1 (i, x) List.mem_cons_self; have e2 : CX s2.st (Aw s x) = CX s.st (Aw s x) := Ed (fun k n e => h2 k n (by rw [← e]; exact List.mem_cons_self)); have ih := IR esz r (k + 1) (fun p hp => h1 p (List.mem_cons_of_mem _ hp)) (fun k n h => h2 k n (List.mem_cons_of_mem _ h)); simp only at e1; simp only [DS, e1, e2, ih]
theorem Lz {st : Nat → AObj} {ti : Option TI} {cs : List FV} {o : Nat} {K : FV → Prop} (h : Dr st ti cs o K) : ∃ c, K c ∧ ∀ st2 : Nat → AObj, (∀ fs z, ti = some (.struct fs z) → ∀ k n, FV.own k n ∈ cs → st2 k = st k) → ∀ K2 : FV → Prop, K2 c → Dr st2 ti cs o K2 := by
 unfold Dr at h; split at h
 ·rename_i fs z
  split at h
  ·rename_i xs hxs
   refine ⟨_, h.2, fun st2 hs K2 hK => ?_⟩; unfold Dr; have : DG st2 ((cs.drop o).take z.length) = some xs := by rw [← hxs]; exact Gy (fun k n hm => hs fs z rfl k n (List.mem_of_mem_drop (List.mem_of_mem_take hm)))
   simp only [this]; exact ⟨h.1, hK⟩
  exact h.elim
 ·rename_i ti' hns
  split at h
  ·rename_i c hc
   refine ⟨c, h, fun st2 _ K2 hK => ?_⟩; unfold Dr; split
   ·rename_i he; exact absurd (Option.some.inj he) (by intro e; exact hns _ _ e)
   ·simp only [hc]; exact hK
   rename_i he; cases he
  exact h.elim
 exact h.elim
theorem GO {s : ASt} {dd : Nat} {y : Option Operand} {K : Int → Prop} (h : Ek s dd y K) : ∃ n, K n ∧ ∀ s2 : ASt, (∀ x, y = some x → Aw s2 x = Aw s x) → ∀ K2 : Int → Prop, K2 n → Ek s2 dd y K2 := by
 cases y with
 | none => exact ⟨_, h, fun _ _ _ h => h⟩
 | some y =>
  simp only [Ek] at h; split at h
  ·rename_i k n hv
   exact ⟨n, h, fun s2 hs K2 hK => by simp only [Ek, hs y rfl, hv]; exact hK⟩
  exact h.elim
theorem TO {B : Prop} {op : BinOp} {u v : Value} {K : Value → Prop} (h : Hl B op u v K) : ∃ r, K r ∧ ∀ K2 : Value → Prop, K2 r → Hl B op u v K2 := by
 have hin : ∀ (k : IntKind) (n : Int) (K : Value → Prop), EY k n K → ∃ r, K r ∧ ∀ K2 : Value → Prop, K2 r → EY k n K2 := by
  intro k n K h; unfold EY at h; split at h
  ·rename_i hk
   exact ⟨_, h.2, fun K2 hK => by unfold EY; rw [if_pos hk]; exact ⟨h.1, hK⟩⟩
  rename_i hk
  exact ⟨_, h, fun K2 hK => by unfold EY; rw [if_neg hk]; exact hK⟩
 unfold Hl at h; split at h
 ·obtain ⟨rfl, h⟩ := h
  cases op <;> first
   | exact h.elim
   | (obtain ⟨r, h1, h2⟩ := hin _ _ _ h; exact ⟨r, h1, fun K2 hK => ⟨rfl, h2 K2 hK⟩⟩)
   | exact ⟨_, h.2, fun K2 hK => ⟨rfl, h.1, hK⟩⟩
   | exact ⟨_, h, fun K2 hK => ⟨rfl, hK⟩⟩
 ·cases op <;> first
   | exact h.elim
   | exact ⟨_, h.2, fun K2 hK => ⟨h.1, hK⟩⟩
   | exact ⟨_, h, fun K2 hK => hK⟩
 ·obtain ⟨hb, h⟩ := h
  cases op <;> first
   | exact h.elim
   | exact ⟨_, h, fun K2 hK => ⟨hb, hK⟩⟩
 exact h.elim
theorem UR {op : Op} (h : Az P op d s K) : ∃ c ch, K c (app s.st ch) ∧ Lo P op d s c ch := by
  cases op with
  | move x => exact ⟨_, none, h, Bb fun s2 hs K hK => by simp only [Az, hs.v x (by simp [Op.operands])]; exact hK⟩
  | assign x => exact ⟨_, none, h, Bb fun s2 hs K hK => by simp only [Az, hs.v x (by simp [Op.operands])]; exact hK⟩
  | pick c x y =>
    simp only [Az] at h; split at h
    · rename_i t ht
      exact ⟨_, none, h, Bb fun s2 hs K hK => by simp only [Az, hs.v c (by simp [Op.operands]), hs.v x (by simp [Op.operands]), hs.v y (by simp [Op.operands]), ht]; exact hK⟩
    exact h.elim
  | nilCheck x =>
    simp only [Az] at h; split at h
    · rename_i b o hx; exact ⟨_, none, h, Bb fun s2 hs K hK => by simp only [Az, hs.v x (by simp [Op.operands]), hx]; exact hK⟩
    · rename_i b o hx; exact ⟨_, none, h, Bb fun s2 hs K hK => by simp only [Az, hs.v x (by simp [Op.operands]), hx]; exact hK⟩
    exact h.elim
  | alloc t =>
    simp only [Az] at h; split at h
    · rename_i dd
      obtain ⟨hne, h⟩ := h; split at h
      · rename_i ti hd hti
        refine ⟨_, some (dd, _), h, ⟨fun e => (by cases e), fun k x e => ?_, fun s2 hs K hK => ?_⟩⟩
        · injection e with e; injection e with e1 e2; subst e1; simp [Bk]
        simp only [Az, hs.o dd (by simp [Bk]), hd, hti]; exact ⟨hne, hK⟩
      · rename_i hd hti
        split at h
        · rename_i ar har
          refine ⟨_, some (dd, _), h, ⟨fun e => (by cases e), fun k x e => ?_, fun s2 hs K hK => ?_⟩⟩
          · injection e with e; injection e with e1 e2; subst e1; simp [Bk]
          simp only [Az, hs.o dd (by simp [Bk]), hd, hti, har]; exact ⟨hne, hK⟩
        exact h.elim
      exact h.elim
    exact h.elim
  | box t x =>
    simp only [Az] at h; split at h
    · rename_i dd
      obtain ⟨hne, h⟩ := h; split at h
      · rename_i cs hd hx
        refine ⟨_, some (dd, _), h.2, ⟨fun e => (by cases e), fun k x e => ?_, fun s2 hs K hK => ?_⟩⟩
        · injection e with e; injection e with e1 e2; subst e1; simp [Bk]
        simp only [Az, hs.o dd (by simp [Bk]), hd, hs.v x (by simp [Op.operands]), hx]; exact ⟨hne, h.1, hK⟩
      · rename_i c hd hc
        refine ⟨_, some (dd, _), h.2, ⟨fun e => (by cases e), fun k x e => ?_, fun s2 hs K hK => ?_⟩⟩
        · injection e with e; injection e with e1 e2; subst e1; simp [Bk]
        simp only [Az, hs.o dd (by simp [Bk]), hd, hs.v x (by simp [Op.operands])]; have hok : (Aw s x).ok s2.st := by
          have h1 := h.1; have hf : ∀ k ∈ C1 [Aw s x], s2.st k = s.st k := fun k hk => hs.o k (by simp [Bk, hk])
          revert h1 hf
          cases Aw s x with
          | own k n => intro h1 hf; simp only [FV.ok] at h1 ⊢; rw [hf k (by simp [C1])]; exact h1
          | _ => intro h1 _; exact h1
        exact ⟨hne, hok, hK⟩
      exact h.elim
    exact h.elim
  | build t ps =>
    simp only [Az] at h; split at h
    · rename_i fs z hti
      split at h
      · rename_i cs hcs
        refine ⟨_, none, h, Bb fun s2 hs K hK => ?_⟩; have : DX s2 fs (z.map lift) ps.toList = some cs := by
          rw [← hcs]; exact Gq fs _ _ (fun p hp => hs.v _ (by simp only [Op.operands]; simp; exact ⟨p.1, by simpa using hp⟩)) (fun k n hm => hs.o k (B7 hm))
        simp only [Az, hti, this]; exact hK
      exact h.elim
    · rename_i hti
      split at h
      · rename_i ar har
        split at h
        · rename_i cs hcs
          refine ⟨_, none, h, Bb fun s2 hs K hK => ?_⟩; have : DX s2 (GD ar.1 ar.2.1) (ar.2.2.map lift) ps.toList = some cs := by
            rw [← hcs]; exact Gq _ _ _ (fun p hp => hs.v _ (by simp only [Op.operands]; simp; exact ⟨p.1, by simpa using hp⟩)) (fun k n hm => hs.o k (B7 hm))
          simp only [Az, hti, har, this]; exact hK
        exact h.elim
      exact h.elim
    exact h.elim
  | buildSlice t n ps =>
    simp only [Az] at h; split at h
    · rename_i el esz hti
      split at h
      · rename_i es hes
        refine ⟨_, none, h.2, Bb fun s2 hs K hK => ?_⟩; have : DS s2 esz 0 ps.toList = some es := by
          rw [← hes]; exact IR esz _ _ (fun p hp => hs.v _ (by simp only [Op.operands]; simp; exact ⟨p.1, by simpa using hp⟩)) (fun k n hm => hs.o k (B7 hm))
        simp only [Az, hti, this]; exact ⟨h.1, hK⟩
      exact h.elim
    exact h.elim
  | load t x =>
    simp only [Az] at h; split at h
    · rename_i b o hx
      split at h
      · rename_i cs hb
        obtain ⟨c, hK, hl⟩ := Lz h; refine ⟨c, none, hK, Bb fun s2 hs K hK => ?_⟩; simp only [Az, hs.v x (by simp [Op.operands]), hx, hs.o b (by simp [Bk, hx]), hb]; exact hl s2.st (fun fs z e k n hm => hs.o k (by simp only [Bk, hx, hb, e]; exact List.mem_cons_of_mem _ (B7 hm))) _ hK
      exact h.elim
    · rename_i cs o hx
      obtain ⟨c, hK, hl⟩ := Lz h; refine ⟨c, none, hK, Bb fun s2 hs K hK => ?_⟩; simp only [Az, hs.v x (by simp [Op.operands]), hx]; exact hl s2.st (fun fs z e k n hm => by
        obtain ⟨y, _, hy⟩ := List.mem_map.1 hm; cases hy) _ hK
    exact h.elim
  | store t x y =>
    simp only [Az] at h; split at h
    · rename_i b o hx
      have hfb : b ∈ Bk P (.store t x y) d s := by simp [Bk, hx]
      split at h
      · rename_i cs hb
        split at h
        · rename_i fs z hti
          split at h
          · rename_i xs hy
            refine ⟨_, some (b, _), h.2, ⟨fun e => (by cases e), fun k x e => ?_, fun s2 hs K hK => ?_⟩⟩
            · injection e with e; injection e with e1 e2; subst e1; exact hfb
            simp only [Az, hs.v x (by simp [Op.operands]), hx, hs.o b hfb, hb, hti, hs.v y (by simp [Op.operands]), hy]; exact ⟨h.1, hK⟩
          exact h.elim
        · rename_i ti hns hti
          refine ⟨_, some (b, _), h.2, ⟨fun e => (by cases e), fun k x e => ?_, fun s2 hs K hK => ?_⟩⟩
          · injection e with e; injection e with e1 e2; subst e1; exact hfb
          simp only [Az, hs.v x (by simp [Op.operands]), hx, hs.o b hfb, hb, hs.v y (by simp [Op.operands])]; have hok : (Aw s y).ok s2.st := by
            have h1 := h.1.2; have hf : ∀ k ∈ C1 [Aw s y], s2.st k = s.st k := fun k hk => hs.o k (by simp only [Bk]; exact List.mem_append_right _ hk)
            revert h1 hf
            cases Aw s y with
            | own k n => intro h1 hf; simp only [FV.ok] at h1 ⊢; rw [hf k (by simp [C1])]; exact h1
            | _ => intro h1 _; exact h1
          split
          · rename_i fs z he; exact absurd (hti.symm.trans he) (by intro e; injection e with e; exact hns _ _ e)
          · exact ⟨⟨h.1.1, hok⟩, hK⟩
          rename_i he; exact absurd (hti.symm.trans he) (by intro e; cases e)
        rename_i hti
        split at h
        · rename_i ar xs har hy
          refine ⟨_, some (b, _), h.2, ⟨fun e => (by cases e), fun k x e => ?_, fun s2 hs K hK => ?_⟩⟩
          · injection e with e; injection e with e1 e2; subst e1; exact hfb
          simp only [Az, hs.v x (by simp [Op.operands]), hx, hs.o b hfb, hb, hti, har, hs.v y (by simp [Op.operands]), hy]; exact ⟨h.1, hK⟩
        exact h.elim
      exact h.elim
    exact h.elim
  | fieldAddr t x f =>
    simp only [Az] at h; split at h
    · rename_i fs z hti
      split at h
      · rename_i fi b o hfi hx; exact ⟨_, none, h, Bb fun s2 hs K hK => by simp only [Az, hti, hs.v x (by simp [Op.operands]), hx, hfi]; exact hK⟩
      · rename_i fi b o hfi hx; exact ⟨_, none, h, Bb fun s2 hs K hK => by simp only [Az, hti, hs.v x (by simp [Op.operands]), hx, hfi]; exact hK⟩
      exact h.elim
    exact h.elim
  | field t x f =>
    simp only [Az] at h; split at h
    · rename_i fs z hti
      split at h
      · rename_i fi cs hfi hx
        obtain ⟨hag, h⟩ := h; split at h
        · rename_i y hy
          exact ⟨_, none, h, Bb fun s2 hs K hK => by simp only [Az, hti, hs.v x (by simp [Op.operands]), hx, hfi, hy]; exact ⟨hag, hK⟩⟩
        exact h.elim
      exact h.elim
    exact h.elim
  | indexAddr t x i =>
    simp only [Az] at h; split at h
    · rename_i el esz hti
      split at h
      · rename_i es k n hx hi
        obtain ⟨h0, e, he, hel, hK⟩ := h; refine ⟨_, none, hK, Bb fun s2 hs K hK => ?_⟩; have : EX s2.st (Aw s x) = some es := by
          rw [← hx]; unfold EX; rw [Ed (fun k n e => hs.o k (TL e))]
        simp only [Az, hti, hs.v x (by simp [Op.operands]), this, hs.v i (by simp [Op.operands]), hi]; exact ⟨h0, e, he, hel, hK⟩
      exact h.elim
    · rename_i hti
      split at h
      · rename_i ar b o k n har hx hi
        exact ⟨_, none, h.2, Bb fun s2 hs K hK => by simp only [Az, hti, har, hs.v x (by simp [Op.operands]), hx, hs.v i (by simp [Op.operands]), hi]; exact ⟨h.1, hK⟩⟩
      exact h.elim
    exact h.elim
  | index t x i =>
    simp only [Az] at h; split at h
    · rename_i b k n ht hx hi
      obtain ⟨h0, c, hc, hK⟩ := h; exact ⟨_, none, hK, Bb fun s2 hs K hK => by simp only [Az, ht, hs.v x (by simp [Op.operands]), hx, hs.v i (by simp [Op.operands]), hi]; exact ⟨h0, c, hc, hK⟩⟩
    exact h.elim
  | slice t x lo hi mx =>
    cases mx with
    | some m => exact h.elim
    | none =>
      simp only [Az] at h; split at h
      · rename_i b ht hx
        obtain ⟨l, hl, hl2⟩ := GO h; obtain ⟨hh, ⟨hb, hK⟩, hh2⟩ := GO hl; refine ⟨_, none, hK, Bb fun s2 hs K hK => ?_⟩; simp only [Az, ht, hs.v x (by simp [Op.operands]), hx]; exact hl2 s2 (fun y e => hs.v y (by subst e; simp [Op.operands])) _ (hh2 s2 (fun y e => hs.v y (by subst e; simp [Op.operands])) _ ⟨hb, hK⟩)
      · rename_i el es fl ht hx
        split at h
        · rename_i el2 esz hti
          obtain ⟨l, hl, hl2⟩ := GO h; obtain ⟨hh, ⟨hb, hK⟩, hh2⟩ := GO hl; refine ⟨_, none, hK, Bb fun s2 hs K hK => ?_⟩; simp only [Az, ht, hti, hs.v x (by simp [Op.operands]), hx]; exact hl2 s2 (fun y e => hs.v y (by subst e; simp [Op.operands])) _ (hh2 s2 (fun y e => hs.v y (by subst e; simp [Op.operands])) _ ⟨hb, hK⟩)
        exact h.elim
      exact h.elim
  | binOp op t x y t' =>
    simp only [Az] at h; split at h
    · rename_i u v hx hy
      obtain ⟨r, hK, hr⟩ := TO h; exact ⟨_, none, hK, Bb fun s2 hs K hK => by simp only [Az, hs.v x (by simp [Op.operands]), hx, hs.v y (by simp [Op.operands]), hy]; exact hr _ hK⟩
    · rename_i p q p' q' hx hy
      obtain ⟨hE, h⟩ := h; split at h
      · exact ⟨_, none, h, Bb fun s2 hs K hK => by simp only [Az, hs.v x (by simp [Op.operands]), hx, hs.v y (by simp [Op.operands]), hy]; exact ⟨hE, hK⟩⟩
      · exact ⟨_, none, h, Bb fun s2 hs K hK => by simp only [Az, hs.v x (by simp [Op.operands]), hx, hs.v y (by simp [Op.operands]), hy]; exact ⟨hE, hK⟩⟩
      exact h.elim
    exact h.elim
  | unOp op t x =>
    cases op <;> first
      | exact h.elim
      | (simp only [Az] at h
         split at h
         · rename_i b hx; exact ⟨_, none, h, Bb fun s2 hs K hK => by simp only [Az, hs.v x (by simp [Op.operands]), hx]; exact hK⟩
         exact h.elim)
  | convert t t' x =>
    simp only [Az] at h; split at h
    · rename_i d k k' n h1 h2 hx; exact ⟨_, none, h, Bb fun s2 hs K hK => by simp only [Az, h1, h2, hs.v x (by simp [Op.operands]), hx]; exact hK⟩
    exact h.elim
  | extract t i =>
    simp only [Az] at h; split at h
    · rename_i vs hx
      split at h
      · rename_i x hi; exact ⟨_, none, h, Bb fun s2 hs K hK => by simp only [Az, hs.v t (by simp [Op.operands]), hx, hi]; exact hK⟩
      exact h.elim
    exact h.elim
  | typeAssert x xT t ok =>
    cases ok
    · exact h.elim
    simp only [Az] at h; split at h
    · rename_i fs z t' u hti hx
      obtain ⟨ht, h⟩ := h; exact ⟨_, none, h, Bb fun s2 hs K hK => by simp only [Az, hs.v x (by simp [Op.operands]), hx, hti]; exact ⟨ht, hK⟩⟩
    exact h.elim
  | makeInterface t x =>
    simp only [Az] at h; split at h
    · exact h.elim
    · rename_i dd u hni ht hx
      refine ⟨_, none, h, Bb fun s2 hs K hK => ?_⟩; simp only [Az, hs.v x (by simp [Op.operands]), hx]; split
      · rename_i he; exact absurd (ht.symm.trans he) (by intro e; injection e with e; exact hni _ e)
      · rename_i he; injection he with he; subst he; exact hK
      rename_i he; exact (he _ _ ht rfl).elim
    exact h.elim
  | call c =>
    obtain ⟨callee, ⟨xs⟩, ⟨ts⟩⟩ := c; simp only [Az] at h; split at h
    · rename_i b
      unfold Cw at h; have hf : ∀ y ∈ xs, ∀ k n, Aw s y = .own k n → k ∈ Bk P (.call ⟨.builtin b, ⟨xs⟩, ⟨ts⟩⟩) d s := fun y hy k n e => by
        simp only [Bk]; exact List.mem_append_right _ (B7 (n := n) (by rw [← e]; exact List.mem_map_of_mem hy))
      have hv : ∀ s2, SameOn P (.call ⟨.builtin b, ⟨xs⟩, ⟨ts⟩⟩) d s s2 → ∀ y ∈ xs, Aw s2 y = Aw s y := fun s2 hs y hy => hs.v y (by simp [Op.operands, Call.operands, hy])
      have hsl : ∀ s2, SameOn P (.call ⟨.builtin b, ⟨xs⟩, ⟨ts⟩⟩) d s s2 → ∀ y ∈ xs, EX s2.st (Aw s y) = EX s.st (Aw s y) := fun s2 hs y hy => by
        unfold EX; rw [Ed (fun k n e => hs.o k (hf y hy k n e))]
      split at h
      · rename_i x t
        split at h
        · rename_i bb ht hx
          exact ⟨_, none, h, Bb fun s2 hs K hK => by simp only [Az, Cw, hv s2 hs x (by simp), hx, ht]; exact hK⟩
        · rename_i el ht
          split at h
          · rename_i es hes
            exact ⟨_, none, h, Bb fun s2 hs K hK => by simp only [Az, Cw, hv s2 hs x (by simp), ht, hsl s2 hs x (by simp), hes]; exact hK⟩
          exact h.elim
        exact h.elim
      · rename_i x y t t'
        obtain ⟨rfl, h⟩ := h; split at h
        · rename_i e esz new dd hti hy
          split at h
          · rename_i k n hx
            have hk := hf x (by simp) k n hx; split at h
            · rename_i ty' z' es hst
              refine ⟨_, some (k, _), h.2, ⟨fun e => (by cases e), fun k' x' e => ?_, fun s2 hs K hK => ?_⟩⟩
              · injection e with e; injection e with e1 e2; subst e1; exact hk
              simp only [Az, Cw, hv s2 hs x (by simp), hv s2 hs y (by simp), hsl s2 hs y (by simp), hti, hy, hx, hs.o k hk, hst]; exact ⟨trivial, h.1, hK⟩
            exact h.elim
          · rename_i es hx
            split at h
            · rename_i hst
              refine ⟨_, some (dd, _), h.2, ⟨fun e => (by cases e), fun k' x' e => ?_, fun s2 hs K hK => ?_⟩⟩
              · injection e with e; injection e with e1 e2; subst e1; simp [Bk]
              simp only [Az, Cw, hv s2 hs x (by simp), hv s2 hs y (by simp), hsl s2 hs y (by simp), hti, hy, hx, hs.o dd (by simp [Bk]), hst]; exact ⟨trivial, h.1, hK⟩
            exact h.elim
          exact h.elim
        exact h.elim
      · rename_i x y
        split at h
        · rename_i k n k' m hx hy
          exact ⟨_, none, h, Bb fun s2 hs K hK => by simp only [Az, Cw, hv s2 hs x (by simp), hx, hv s2 hs y (by simp), hy]; exact hK⟩
        exact h.elim
      exact h.elim
    exact h.elim
  | _ => exact h.elim
end
open Go Go.RowKit Go.Proofs Th
attribute [local go_sem] Above.cell Above.frozen
theorem Qj (p : Nat) (s : ByteArray) (hs : s.size ≤ 1000000) (d : Nat) (k : Int)
  (hQ : ∀ (W : World) (b : Nat), b < s.size → Box W p [.string s, .int .i64 b] → GlobX W → Calls Tryz.prog 72 #[.pointer (some ⟨p, 0, none⟩), .int .i64 k] W fun r w' => Eg W p s (Cu s.data.toList d b) r w')
  (a : Nat) (hw : way s.data.toList (Bf s.data.toList a) = 0) (ha : a ≤ s.size) (w : World) (hB : Box w p [.string s, .int .i64 a]) (hG : GlobX w) :
  Calls Tryz.prog 47 #[.pointer (some ⟨p, 0, none⟩), .int .i64 k] w fun r w' => CW w p s (AQ s.data.toList d a) r w' := by
 have HL := Keep.mk (Al s); have hpl := hB.lt; have HQ := Keep.mk hQ; obtain ⟨b, hb⟩ : ∃ b, Bf s.data.toList a = b := ⟨_, rfl⟩
 have hbs : b ≤ s.size := by rw [← hb, ← HL.out]; exact (D4 _ _ (by rw [HL.out]; exact ha)).2
 have HO := Keep.mk (show AQ s.data.toList d a = Cf s.data.toList (Cu s.data.toList d) b by rw [ED, hb]); have HK := Keep.mk (fun W hB => GG p s a hs ha W hB); rw [hb] at HK; have HSK := Keep.mk (fun c (h : s.data.toList[b]? = some c) => (Iy hb h).1); rw [hb] at hw; have HW := Keep.mk hw; clear hw; have HB := Keep.mk hB; have HG := Keep.mk hG; clear hQ hb ha hB hG; go_enter Tryz.func47, Tryz.ntmps47
 go_wp2_with fail
 refine (HK.out _ (HB.out.alloc _)).mono ?_; rintro r w1 ⟨rfl, hsc⟩; have HS := Keep.mk (show NextA w w1 p s b w.heap.size from ⟨⟨hsc.b, (Upd.of (al1 w _)).trans hsc.u⟩, (Box.new (w := w) (n := w.heap.size) [.int .i64 0, .string ⟨#[]⟩, .int .i64 0] 66 rfl).upd hsc.u (by omega), by omega, Nat.le_refl _, (HG.out.below (al1 w _)).upd (HB.out.alloc _) hsc.u, (by obtain ⟨m, hm⟩ := HG.out; exact Bm hm)⟩); clear hsc HK HB HG; obtain ⟨p0, p1⟩ := HS.out.sc.b.p2; have pf := HS.out.sc.b.froz 1; have pl := HS.out.sc.b.lt; obtain ⟨r0, rf0, r1, rf1, r2, rf2, rl⟩ := HS.out.b4.q3l; go_wp2_with fail
 refine Ay (by kernel_rfl) (by kernel_rfl) ?_; repeat (go_big_quiet_step (fail))
 refine wpQuiet_nil ?_; rintro W2 ⟨z, hz⟩; replace HS := Keep.mk (hz ▸ HS.out.below z.property); clear p0 p1 pf pl r0 r1 r2 rf0 rf1 rf2 rl; clear hz z; obtain ⟨p0, p1⟩ := HS.out.sc.b.p2; have pf := HS.out.sc.b.froz 1; have pl := HS.out.sc.b.lt; obtain ⟨r0, rf0, r1, rf1, r2, rf2, rl⟩ := HS.out.b4.q3l; by_cases hend : b = s.size
 ·have hbe : ((b : Int) == (s.size : Int)) = true := by rw [beq_iff_eq]; omega
  have HE := Keep.mk (show AQ s.data.toList d a = (Ft, s.size, 0) by
   rw [HO.out]; unfold Cf; rw [List.drop_eq_nil_of_le (by rw [HL.out]; omega), hend])
  subst hend; clear HO HQ; go_wp2
  refine bodyPost_ret (v := .tuple #[.agg #[.int .i64 0, .string ⟨#[]⟩, .int .i64 0], .int .i64 0, .int .i64 0]) ?_ rfl ?_
  ·simp [results, Tryz.results47, go_sem, r0, r1, r2]
  rw [HE.out]; exact ⟨rfl, s.size, ((HS.out.sc.cell HS.out.n4 HS.out.z4 0 _).cell HS.out.n4 HS.out.z4 1 _).cell HS.out.n4 HS.out.z4 2 _, Nat.le_refl _, fun _ => rfl⟩
 exfalso; obtain ⟨c, r, hcr⟩ : ∃ c r, s.data.toList.drop b = c :: r := by
  cases hd : s.data.toList.drop b with
  | nil => have := List.drop_eq_nil_iff.1 hd; rw [HL.out] at this; omega
  | cons c r => exact ⟨c, r, rfl⟩
 have h1 := HW.out; have h2 := (Ty c r).1; rw [GV hcr] at h1; omega
open Go Go.RowKit Go.Proofs Th
theorem PM (p : Nat) (s : ByteArray) (hs : s.size ≤ 1000000) (d : Nat) (k : Int)
  (hQ : ∀ (W : World) (b : Nat), b < s.size → Box W p [.string s, .int .i64 b] → GlobX W → Calls Tryz.prog 72 #[.pointer (some ⟨p, 0, none⟩), .int .i64 k] W fun r w' => Eg W p s (Cu s.data.toList d b) r w')
  (a : Nat) (hw : way s.data.toList (Bf s.data.toList a) = 1) (ha : a ≤ s.size) (w : World) (hB : Box w p [.string s, .int .i64 a]) (hG : GlobX w) :
  Calls Tryz.prog 47 #[.pointer (some ⟨p, 0, none⟩), .int .i64 k] w fun r w' => CW w p s (AQ s.data.toList d a) r w' := by
 have HL := Keep.mk (Al s); have hpl := hB.lt; have HQ := Keep.mk hQ; obtain ⟨b, hb⟩ : ∃ b, Bf s.data.toList a = b := ⟨_, rfl⟩
 have hbs : b ≤ s.size := by rw [← hb, ← HL.out]; exact (D4 _ _ (by rw [HL.out]; exact ha)).2
 have HO := Keep.mk (show AQ s.data.toList d a = Cf s.data.toList (Cu s.data.toList d) b by rw [ED, hb]); have HK := Keep.mk (fun W hB => GG p s a hs ha W hB); rw [hb] at HK; have HSK := Keep.mk (fun c (h : s.data.toList[b]? = some c) => (Iy hb h).1); rw [hb] at hw; have HW := Keep.mk hw; clear hw; have HB := Keep.mk hB; have HG := Keep.mk hG; clear hQ hb ha hB hG; go_enter Tryz.func47, Tryz.ntmps47
 go_wp2_with fail
 refine (HK.out _ (HB.out.alloc _)).mono ?_; rintro r w1 ⟨rfl, hsc⟩; have HS := Keep.mk (show NextA w w1 p s b w.heap.size from ⟨⟨hsc.b, (Upd.of (al1 w _)).trans hsc.u⟩, (Box.new (w := w) (n := w.heap.size) [.int .i64 0, .string ⟨#[]⟩, .int .i64 0] 66 rfl).upd hsc.u (by omega), by omega, Nat.le_refl _, (HG.out.below (al1 w _)).upd (HB.out.alloc _) hsc.u, (by obtain ⟨m, hm⟩ := HG.out; exact Bm hm)⟩); clear hsc HK HB HG; obtain ⟨p0, p1⟩ := HS.out.sc.b.p2; have pf := HS.out.sc.b.froz 1; have pl := HS.out.sc.b.lt; obtain ⟨r0, rf0, r1, rf1, r2, rf2, rl⟩ := HS.out.b4.q3l; go_wp2_with fail
 refine Ay (by kernel_rfl) (by kernel_rfl) ?_; repeat (go_big_quiet_step (fail))
 refine wpQuiet_nil ?_; rintro W2 ⟨z, hz⟩; replace HS := Keep.mk (hz ▸ HS.out.below z.property); clear p0 p1 pf pl r0 r1 r2 rf0 rf1 rf2 rl; clear hz z; obtain ⟨p0, p1⟩ := HS.out.sc.b.p2; have pf := HS.out.sc.b.froz 1; have pl := HS.out.sc.b.lt; obtain ⟨r0, rf0, r1, rf1, r2, rf2, rl⟩ := HS.out.b4.q3l; by_cases hend : b = s.size
 ·exact absurd (HW.out.symm.trans (O0 (by rw [HL.out]; omega))) (by decide)
 have hlt : b < s.size := by omega
 have hbe : ((b : Int) == (s.size : Int)) = false := by rw [beq_eq_false_iff_ne]; omega
 go_wp2_with fail
 refine Ay (by kernel_rfl) (by kernel_rfl) ?_; repeat (go_big_quiet_step (fail))
 refine wpQuiet_nil ?_; rintro W2 ⟨z, hz⟩; replace HS := Keep.mk (hz ▸ HS.out.below z.property); clear p0 p1 pf pl r0 r1 r2 rf0 rf1 rf2 rl; clear hz z; obtain ⟨p0, p1⟩ := HS.out.sc.b.p2; have pf := HS.out.sc.b.froz 1; have pl := HS.out.sc.b.lt; obtain ⟨r0, rf0, r1, rf1, r2, rf2, rl⟩ := HS.out.b4.q3l; go_upto_region 7 with fail
 generalize hx : s.extract b s.size = x; have hxl : x.data.toList = s.data.toList.drop b := by rw [← hx, EK]
 have hxz : x.size = s.size - b := by rw [← hx]; exact Gw s b hbs
 have hx0 : 0 < x.size := by omega
 obtain ⟨xr, hxr⟩ := EA hx0; refine BC (fun W => NextB w W p s b w.heap.size W2.heap.size 0 ⟨#[]⟩ b) (NextB.make HS.out hpl (al1 _ _) (Box.new [.int .i64 0, .string ⟨#[]⟩, .int .i64 b] _ rfl)) ?_; clear p0 p1 pf pl r0 r1 r2 rf0 rf1 rf2 rl; clear HS; rintro W3 HS; replace HS := Keep.mk HS; have hn8 := HS.out.n8; have hz8 := HS.out.z8; generalize W2.heap.size = t8 at *; have hn4 := HS.out.n4; have hn48 := HS.out.n48; generalize hw4 : w.heap.size = t4 at *; obtain ⟨p0, p1⟩ := HS.out.sc.b.p2; have pf := HS.out.sc.b.froz 1; have pl := HS.out.sc.b.lt; obtain ⟨r0, rf0, r1, rf1, r2, rf2, rl⟩ := HS.out.b4.q3l; obtain ⟨t0, tf0, t1, tf1, t2, tf2, tl⟩ := HS.out.b8.q3l; replace HW := Keep.mk ((GV (hxl.symm.trans hxr)).symm.trans HW.out); by_cases h34 : x[0] = 34
 ·have f34 : (x[0].toNat : Int) = 34 := by rw [h34]; rfl
  obtain ⟨⟨q1, q2⟩, hq⟩ : ∃ q, Cu s.data.toList d b = q := ⟨_, rfl⟩
  have HC := Keep.mk (HQ.out W3 b hlt HS.out.sc.b HS.out.glob); have HE := Keep.mk (show AQ s.data.toList d a = if q2 ≠ 0 then (Ft, q1, q2) else (⟨5, ⟨((s.data.toList.drop b).take (q1 - b)).toArray⟩, b⟩, q1, 0) by
   rw [HO.out]; unfold Cf; rw [← hxl, hxr, h34, hq]; rfl)
  have hqk := (L5 s.data.toList d b (by rw [HL.out]; exact hlt)).2; rw [hq] at HC hqk; dsimp only at hqk; clear hq HO HQ h34 hxr hxl hx; go_wp2_with fail
  refine HC.out.mono ?_; rintro r w4 ⟨rfl, j, hsc, hj, hje⟩; replace HS := Keep.mk (HS.out.scan hsc); clear p0 p1 pf pl r0 r1 r2 rf0 rf1 rf2 rl t0 t1 t2 tf0 tf1 tf2 tl; clear hsc HC; obtain ⟨p0, p1⟩ := HS.out.sc.b.p2; have pf := HS.out.sc.b.froz 1; have pl := HS.out.sc.b.lt; obtain ⟨r0, rf0, r1, rf1, r2, rf2, rl⟩ := HS.out.b4.q3l; obtain ⟨t0, tf0, t1, tf1, t2, tf2, tl⟩ := HS.out.b8.q3l; dsimp only at hje; by_cases hq2 : q2 = 0
  ·subst hq2
   have hbq := hqk rfl; clear hqk; obtain rfl : q1 = j := (hje rfl).symm; go_wp2_with fail
   go_cut [] (fun wx => Keep (NextB w wx p s q1 t4 t8 5 (s.extract b q1) b))
   case first =>
    go_region_with (fail)
    all_goals (
     go_wp2_with fail
     go_meet
     exact ⟨HS.out.two 5 (s.extract b q1)⟩)
   case rest =>
    clear HS; clear p0 p1 pf pl r0 r1 r2 rf0 rf1 rf2 rl t0 t1 t2 tf0 tf1 tf2 tl; have HS := hcut; clear hcut; obtain ⟨p0, p1⟩ := HS.out.sc.b.p2; have pf := HS.out.sc.b.froz 1; have pl := HS.out.sc.b.lt; obtain ⟨r0, rf0, r1, rf1, r2, rf2, rl⟩ := HS.out.b4.q3l; obtain ⟨t0, tf0, t1, tf1, t2, tf2, tl⟩ := HS.out.b8.q3l; go_wp2
    refine bodyPost_ret (v := .tuple #[.agg #[.int .i64 5, .string (s.extract b q1), .int .i64 b], .int .i64 0, .int .i64 0]) ?_ rfl ?_
    ·simp [results, Tryz.results47, go_sem, r0, r1, r2]
    rw [HE.out, if_neg (fun h => h rfl)]; exact ⟨by rw [← Fo s b q1]; rfl, q1, ((HS.out.sc.cell HS.out.n4 HS.out.z4 0 _).cell HS.out.n4 HS.out.z4 1 _).cell HS.out.n4 HS.out.z4 2 _, hj, fun _ => rfl⟩
  have hne : ¬ (q2 : Int) = 0 := by omega
  go_wp2
  refine bodyPost_ret (v := .tuple #[.agg #[.int .i64 0, .string ⟨#[]⟩, .int .i64 0], .int .i64 (q1 : Int), .int .i64 (q2 : Int)]) ?_ rfl ?_
  ·simp [results, Tryz.results47, go_sem, r0, r1, r2]
  rw [HE.out, if_pos hq2]; exact ⟨by rw [if_neg hq2]; rfl, j, ((HS.out.sc.cell HS.out.n4 HS.out.z4 0 _).cell HS.out.n4 HS.out.z4 1 _).cell HS.out.n4 HS.out.z4 2 _, hj, fun h => absurd h hq2⟩
 exfalso; have hw := HW.out; unfold Gn at hw; rw [if_neg h34] at hw; (repeat' split at hw) <;> cases hw
open Go Go.RowKit Go.Proofs Th
theorem Pq (p : Nat) (s : ByteArray) (hs : s.size ≤ 1000000) (d : Nat) (k : Int)
  (hQ : ∀ (W : World) (b : Nat), b < s.size → Box W p [.string s, .int .i64 b] → GlobX W → Calls Tryz.prog 72 #[.pointer (some ⟨p, 0, none⟩), .int .i64 k] W fun r w' => Eg W p s (Cu s.data.toList d b) r w')
  (a : Nat) (hw : way s.data.toList (Bf s.data.toList a) = 2) (ha : a ≤ s.size) (w : World) (hB : Box w p [.string s, .int .i64 a]) (hG : GlobX w) :
  Calls Tryz.prog 47 #[.pointer (some ⟨p, 0, none⟩), .int .i64 k] w fun r w' => CW w p s (AQ s.data.toList d a) r w' := by
 have HL := Keep.mk (Al s); have hpl := hB.lt; have HQ := Keep.mk hQ; obtain ⟨b, hb⟩ : ∃ b, Bf s.data.toList a = b := ⟨_, rfl⟩
 have hbs : b ≤ s.size := by rw [← hb, ← HL.out]; exact (D4 _ _ (by rw [HL.out]; exact ha)).2
 have HO := Keep.mk (show AQ s.data.toList d a = Cf s.data.toList (Cu s.data.toList d) b by rw [ED, hb]); have HK := Keep.mk (fun W hB => GG p s a hs ha W hB); rw [hb] at HK; have HSK := Keep.mk (fun c (h : s.data.toList[b]? = some c) => (Iy hb h).1); rw [hb] at hw; have HW := Keep.mk hw; clear hw; have HB := Keep.mk hB; have HG := Keep.mk hG; clear hQ hb ha hB hG; go_enter Tryz.func47, Tryz.ntmps47
 go_wp2_with fail
 refine (HK.out _ (HB.out.alloc _)).mono ?_; rintro r w1 ⟨rfl, hsc⟩; have HS := Keep.mk (show NextA w w1 p s b w.heap.size from ⟨⟨hsc.b, (Upd.of (al1 w _)).trans hsc.u⟩, (Box.new (w := w) (n := w.heap.size) [.int .i64 0, .string ⟨#[]⟩, .int .i64 0] 66 rfl).upd hsc.u (by omega), by omega, Nat.le_refl _, (HG.out.below (al1 w _)).upd (HB.out.alloc _) hsc.u, (by obtain ⟨m, hm⟩ := HG.out; exact Bm hm)⟩); clear hsc HK HB HG; obtain ⟨p0, p1⟩ := HS.out.sc.b.p2; have pf := HS.out.sc.b.froz 1; have pl := HS.out.sc.b.lt; obtain ⟨r0, rf0, r1, rf1, r2, rf2, rl⟩ := HS.out.b4.q3l; go_wp2_with fail
 refine Ay (by kernel_rfl) (by kernel_rfl) ?_; repeat (go_big_quiet_step (fail))
 refine wpQuiet_nil ?_; rintro W2 ⟨z, hz⟩; replace HS := Keep.mk (hz ▸ HS.out.below z.property); clear p0 p1 pf pl r0 r1 r2 rf0 rf1 rf2 rl; clear hz z; obtain ⟨p0, p1⟩ := HS.out.sc.b.p2; have pf := HS.out.sc.b.froz 1; have pl := HS.out.sc.b.lt; obtain ⟨r0, rf0, r1, rf1, r2, rf2, rl⟩ := HS.out.b4.q3l; by_cases hend : b = s.size
 ·exact absurd (HW.out.symm.trans (O0 (by rw [HL.out]; omega))) (by decide)
 have hlt : b < s.size := by omega
 have hbe : ((b : Int) == (s.size : Int)) = false := by rw [beq_eq_false_iff_ne]; omega
 go_wp2_with fail
 refine Ay (by kernel_rfl) (by kernel_rfl) ?_; repeat (go_big_quiet_step (fail))
 refine wpQuiet_nil ?_; rintro W2 ⟨z, hz⟩; replace HS := Keep.mk (hz ▸ HS.out.below z.property); clear p0 p1 pf pl r0 r1 r2 rf0 rf1 rf2 rl; clear hz z; obtain ⟨p0, p1⟩ := HS.out.sc.b.p2; have pf := HS.out.sc.b.froz 1; have pl := HS.out.sc.b.lt; obtain ⟨r0, rf0, r1, rf1, r2, rf2, rl⟩ := HS.out.b4.q3l; go_upto_region 7 with fail
 generalize hx : s.extract b s.size = x; have hxl : x.data.toList = s.data.toList.drop b := by rw [← hx, EK]
 have hxz : x.size = s.size - b := by rw [← hx]; exact Gw s b hbs
 have hx0 : 0 < x.size := by omega
 obtain ⟨xr, hxr⟩ := EA hx0; refine BC (fun W => NextB w W p s b w.heap.size W2.heap.size 0 ⟨#[]⟩ b) (NextB.make HS.out hpl (al1 _ _) (Box.new [.int .i64 0, .string ⟨#[]⟩, .int .i64 b] _ rfl)) ?_; clear p0 p1 pf pl r0 r1 r2 rf0 rf1 rf2 rl; clear HS; rintro W3 HS; replace HS := Keep.mk HS; have hn8 := HS.out.n8; have hz8 := HS.out.z8; generalize W2.heap.size = t8 at *; have hn4 := HS.out.n4; have hn48 := HS.out.n48; generalize hw4 : w.heap.size = t4 at *; obtain ⟨p0, p1⟩ := HS.out.sc.b.p2; have pf := HS.out.sc.b.froz 1; have pl := HS.out.sc.b.lt; obtain ⟨r0, rf0, r1, rf1, r2, rf2, rl⟩ := HS.out.b4.q3l; obtain ⟨t0, tf0, t1, tf1, t2, tf2, tl⟩ := HS.out.b8.q3l; replace HW := Keep.mk ((GV (hxl.symm.trans hxr)).symm.trans HW.out); by_cases h34 : x[0] = 34
 ·exfalso
  have hw := HW.out; unfold Gn at hw; rw [if_pos h34] at hw; cases hw
 have f34 : ¬ (x[0].toNat : Int) = 34 := fun h => h34 (UInt8.toNat_inj.1 (by show x[0].toNat = 34; omega))
 have g34 : ((x[0].toNat : Int) == 34) = false := by rw [beq_eq_false_iff_ne]; exact f34
 have hdl : s.data.toList.drop b = x[0] :: xr := by rw [← hxl, hxr]
 have hat : s.data.toList[b]? = some x[0] := by
  have := congrArg List.head? hdl; rw [List.head?_drop] at this; exact this
 have h32 : x[0] ≠ 32 := fun h => by
  have := HSK.out x[0] hat; rw [h] at this; cases this
 have HE := Keep.mk (fun (kk o n : Nat) (ht : BA (x[0] :: xr) = (kk, o, n)) => show AQ s.data.toList d a = if kk = 0 then (Ft, b, 60) else (⟨kk, ⟨(((x[0] :: xr).take n).drop o).toArray⟩, b⟩, b + n, 0) by
  rw [HO.out]; unfold Cf; rw [hdl]; dsimp only; rw [if_neg h34, ht])
 have hxtl : ∀ n, x.extract 0 n = ⟨(((x[0] :: xr).take n).drop 0).toArray⟩ := fun n => by rw [← hxr, Fo x 0 n, List.drop_zero, List.drop_zero, Nat.sub_zero]
 have hxt1 : ∀ n, x.extract 1 n = ⟨(((x[0] :: xr).take n).drop 1).toArray⟩ := fun n => by rw [← hxr, Fo x 1 n, List.drop_take]
 have hx1l : (x.extract 1 x.size).data.toList = xr := by rw [EK, hxr]; rfl
 have hx1z : (x.extract 1 x.size).size = x.size - 1 := Gw x 1 hx0; have hnle := CZ x.data.toList; rw [Al] at hnle; have hn1le := CZ xr; have hxrl : xr.length = x.size - 1 := by rw [← hx1l, Al, hx1z]
 have HNX := Keep.mk (fun W => I7 x (by omega) W); have HN1 := Keep.mk (fun W => I7 (x.extract 1 x.size) (by rw [hx1z]; omega) W); rw [hx1l] at HN1; have HTE := Keep.mk (fun n => hxtl n); have HTF := Keep.mk (fun n => hxt1 n); have HLT := Keep.mk (fun W => E5 x[0] W); have HDG := Keep.mk (fun W => FR x[0] W); have HNM := Keep.mk (fun W => Kb x (by omega) W); have HSG := Keep.mk (fun W m hm => MY x hx0 h32 W m hm); have HSN := Keep.mk (fun (h : 0 < AY x.data.toList) => (OO x.data.toList h).2.1); have HNN := Keep.mk (fun (h : 0 < A7 x.data.toList) => (QX x.data.toList h).2); rw [hxr] at HNX HNM HSG hnle; have HSN := Keep.mk (fun (h : 0 < AY (x[0] :: xr)) => show AY (x[0] :: xr) ≤ x.data.toList.length by rw [← hxr] at h ⊢; exact HSN.out h); have HNN := Keep.mk (fun (h : 0 < A7 (x[0] :: xr)) => show CT (x[0] :: xr) ≤ x.data.toList.length by rw [← hxr] at h ⊢; exact HNN.out h); clear hxtl hxt1 hx1l hx1z HQ HO hdl hat HSK hxr hxl hx h32; go_upto_block 0 with fail
 go_cut [9] (fun v9 wx => ∃ (n kk : Nat) (tx : ByteArray), v9 = .int .i64 n ∧ Keep (AQ s.data.toList d a = (⟨kk, tx, b⟩, b + n, 0) ∧ b + n ≤ s.size) ∧ Keep (NextB w wx p s b t4 t8 kk tx b))
 case first =>
  go_wp2_with fail
  refine (HLT.out _).mono ?_; rintro r w4 ⟨rfl, rfl⟩; clear HLT; cases hlf : Ba x[0]
  ·exfalso
   have hw := HW.out; unfold Gn at hw; rw [if_neg h34, if_neg (show ¬ Ba x[0] = true by rw [hlf]; decide)] at hw; (repeat' split at hw) <;> cases hw
  have ht : BA (x[0] :: xr) = (1, 0, AH (x[0] :: xr)) := by simp only [BA]; rw [if_pos hlf]
  obtain ⟨n, hn⟩ : ∃ n, AH (x[0] :: xr) = n := ⟨_, rfl⟩
  rw [hn] at ht HNX hnle; have HR := Keep.mk ((HE.out _ _ _ ht).trans (if_neg (by decide))); rw [← HTE.out n] at HR; clear ht hn HE hlf HTE HTF HDG HNM HSG HSN HNN HN1 hn1le hxrl; go_wp2_with fail
  refine (HNX.out _).mono ?_; rintro r w5 ⟨rfl, rfl⟩; clear HNX; go_upto_region 20 with fail
  go_region_with (fail)
  all_goals (
   go_wp2_with fail
   go_meet
   exact ⟨n, 1, x.extract 0 n, by go_num, ⟨HR.out, by omega⟩, ⟨HS.out.two 1 (x.extract 0 n)⟩⟩)
 case rest =>
  obtain ⟨n, kk, tx, rfl, HR, HS2⟩ := hcut; clear HS HE HTE HTF HLT HDG HNM HSG HSN HNN HN1 HNX; clear p0 p1 pf pl r0 r1 r2 rf0 rf1 rf2 rl t0 t1 t2 tf0 tf1 tf2 tl; have HS := HS2; clear HS2; have hbn := HR.out.2; obtain ⟨p0, p1⟩ := HS.out.sc.b.p2; have pf := HS.out.sc.b.froz 1; have pl := HS.out.sc.b.lt; obtain ⟨r0, rf0, r1, rf1, r2, rf2, rl⟩ := HS.out.b4.q3l; obtain ⟨t0, tf0, t1, tf1, t2, tf2, tl⟩ := HS.out.b8.q3l; go_wp2
  refine bodyPost_ret (v := .tuple #[.agg #[.int .i64 (kk : Int), .string tx, .int .i64 b], .int .i64 0, .int .i64 0]) ?_ rfl ?_
  ·simp [results, Tryz.results47, go_sem, r0, r1, r2]
  rw [HR.out.1]; exact ⟨rfl, b + n, (((HS.out.sc.set (b + n) _ (by omega)).cell HS.out.n4 HS.out.z4 0 _).cell HS.out.n4 HS.out.z4 1 _).cell HS.out.n4 HS.out.z4 2 _, hbn, fun _ => rfl⟩
end Go.Proofs.YtakncilicoefdaaGreatDoor
