/- Lemmas and contracts. Conditions: those that each lemma names. -/
import Derived.Test.YtakncilicoefdaaGreatDoorPc17
set_option maxRecDepth 100000
set_option maxHeartbeats 4000000
namespace Go.Proofs.YtakncilicoefdaaGreatDoor
open Go Go.RowKit Go.Proofs Th
def owns : List FV → List Nat
 | [] => []
 | .own k _ :: r => k :: owns r
 | _ :: r => owns r
theorem owns_mem : ∀ {cs : List FV} {k n : Nat}, FV.own k n ∈ cs → k ∈ owns cs
 | .own k' n' :: r, k, n, h => by
  rcases List.mem_cons.1 h with h | h
  ·injection h with h; subst h; exact List.mem_cons_self
  exact List.mem_cons_of_mem _ (owns_mem h)
 | .junk :: r, k, n, h => owns_mem (cs := r) ((List.mem_cons.1 h).resolve_left (fun e => by cases e))
 | .im _ :: r, k, n, h => owns_mem (cs := r) ((List.mem_cons.1 h).resolve_left (fun e => by cases e))
 | .ptr _ _ :: r, k, n, h => owns_mem (cs := r) ((List.mem_cons.1 h).resolve_left (fun e => by cases e))
 | .pin _ _ :: r, k, n, h => owns_mem (cs := r) ((List.mem_cons.1 h).resolve_left (fun e => by cases e))
theorem toIV_same {st st2 : Nat → AObj} {c : FV} (h : ∀ k n, c = .own k n → st2 k = st k) : toIV st2 c = toIV st c := by
 cases c with
 | own k n => simp only [toIV, h k n rfl]
 | _ => rfl
theorem allIV_same {st st2 : Nat → AObj} : ∀ {cs : List FV}, (∀ k n, FV.own k n ∈ cs → st2 k = st k) → allIV st2 cs = allIV st cs
 | [], _ => rfl
 | c :: r, h => by
  simp only [allIV, toIV_same (c := c) (fun k n e => h k n (e ▸ List.mem_cons_self)), allIV_same (cs := r) (fun k n e => h k n (List.mem_cons_of_mem _ e))]
def foot (P : Program) (op : Op) (d : Option Nat) (s : ASt) : List Nat := match op with
 | .alloc _ => d.toList
 | .box _ x => d.toList ++ owns [valOf s x]
 | .load t x => (match valOf s x with
  | .ptr b _ => b :: (match s.st b with
   | .box cs => (match tiOf P t with
    | some (.struct _ _) => owns cs
    | _ => [])
   | _ => [])
  | _ => [])
 | .store _ x y => (match valOf s x with
  | .ptr b _ => [b]
  | _ => []) ++ owns [valOf s y]
 | .build _ ps => owns (ps.toList.map fun p => valOf s p.2)
 | .buildSlice _ _ ps => owns (ps.toList.map fun p => valOf s p.2)
 | .indexAddr _ x _ => owns [valOf s x]
 | .call c => (match c.callee with
  | .builtin _ => d.toList ++ owns (c.args.toList.map (valOf s))
  | _ => owns (c.args.toList.map (valOf s)) ++ (match c.args.toList with
   | x :: _ => (match valOf s x with
    | .ptr b _ => b :: (match s.st b with
     | .box cs => owns cs
     | _ => [])
    | _ => [])
   | [] => []))
 | _ => []
def wrOp : Op → Bool
 | .alloc _ => true
 | .box _ _ => true
 | .store _ _ _ => true
 | .call c => (match c.callee with
  | .builtin .len => false
  | .builtin .min => false
  | _ => true)
 | _ => false
def touchOp : Op → Bool
 | .move _ => false
 | .assign _ => false
 | .pick _ _ _ => false
 | .nilCheck _ => false
 | .fieldAddr _ _ _ => false
 | .field _ _ _ => false
 | .binOp _ _ _ _ _ => false
 | .unOp _ _ _ => false
 | .convert _ _ _ => false
 | .index _ _ _ => false
 | .slice _ _ _ _ _ => false
 | .extract _ _ => false
 | .makeInterface _ _ => false
 | _ => true
def app (st : Nat → AObj) : Option (Nat × AObj) → Nat → AObj
 | none => st
 | some (k, x) => upd st k x
structure SameOn (P : Program) (op : Op) (d : Option Nat) (s s2 : ASt) : Prop where
 v : ∀ x ∈ op.operands, valOf s2 x = valOf s x
 o : ∀ k ∈ foot P op d s, s2.st k = s.st k
structure Lo (P : Program) (op : Op) (d : Option Nat) (s : ASt) (c : FV) (ch : Option (Nat × AObj)) : Prop where
 wr : wrOp op = false → ch = none
 ft : ∀ k x, ch = some (k, x) → k ∈ foot P op d s
 go : ∀ s2, SameOn P op d s s2 → ∀ K : FV → (Nat → AObj) → Prop, K c (app s2.st ch) → aval P op d s2 K
section
variable {P : Program} {d : Option Nat} {s : ASt} {K : FV → (Nat → AObj) → Prop}
theorem lo_pure {op : Op} {c : FV} (h : ∀ s2, SameOn P op d s s2 → ∀ K : FV → (Nat → AObj) → Prop, K c s2.st → aval P op d s2 K) : Lo P op d s c none := ⟨fun _ => rfl, fun _ _ h => (by cases h), h⟩
theorem owns_one {s : ASt} {x : Operand} {k n : Nat} (h : valOf s x = .own k n) : k ∈ owns [valOf s x] := owns_mem (n := n) (by rw [h]; exact List.mem_cons_self)
theorem afill_same {s s2 : ASt} (fs : List FI) : ∀ (ps : List (Nat × Operand)) (cells : List IV), (∀ p ∈ ps, valOf s2 p.2 = valOf s p.2) → (∀ k n, FV.own k n ∈ ps.map (fun p => valOf s p.2) → s2.st k = s.st k) → afill s2 fs cells ps = afill s fs cells ps
 | [], _, _, _ => rfl
 | (i, x) :: r, cells, h1, h2 => by
  have e1 := h1 (i, x) List.mem_cons_self; have e2 : toIV s2.st (valOf s x) = toIV s.st (valOf s x) := toIV_same (fun k n e => h2 k n (by rw [← e]; exact List.mem_cons_self)); have ih := fun cells => afill_same fs r cells (fun p hp => h1 p (List.mem_cons_of_mem _ hp)) (fun k n h => h2 k n (List.mem_cons_of_mem _ h))
  simp only at e1; simp only [afill, e1, e2, ih]
theorem aelems_same {s s2 : ASt} (esz : Nat) : ∀ (ps : List (Nat × Operand)) (k : Nat), (∀ p ∈ ps, valOf s2 p.2 = valOf s p.2) → (∀ k n, FV.own k n ∈ ps.map (fun p => valOf s p.2) → s2.st k = s.st k) → aelems s2 esz k ps = aelems s esz k ps
 | [], _, _, _ => rfl
 | (i, x) :: r, k, h1, h2 => by
  have e1 := h1 (i, x) List.mem_cons_self; have e2 : toIV s2.st (valOf s x) = toIV s.st (valOf s x) := toIV_same (fun k n e => h2 k n (by rw [← e]; exact List.mem_cons_self)); have ih := aelems_same esz r (k + 1) (fun p hp => h1 p (List.mem_cons_of_mem _ hp)) (fun k n h => h2 k n (List.mem_cons_of_mem _ h)); simp only at e1; simp only [aelems, e1, e2, ih]
theorem aload_loc {st : Nat → AObj} {ti : Option TI} {cs : List FV} {o : Nat} {K : FV → Prop} (h : aload st ti cs o K) : ∃ c, K c ∧ ∀ st2 : Nat → AObj, (∀ fs z, ti = some (.struct fs z) → ∀ k n, FV.own k n ∈ cs → st2 k = st k) → ∀ K2 : FV → Prop, K2 c → aload st2 ti cs o K2 := by
 unfold aload at h; split at h
 ·rename_i fs z
  split at h
  ·rename_i xs hxs
   refine ⟨_, h.2, fun st2 hs K2 hK => ?_⟩; unfold aload; have : allIV st2 ((cs.drop o).take z.length) = some xs := by rw [← hxs]; exact allIV_same (fun k n hm => hs fs z rfl k n (List.mem_of_mem_drop (List.mem_of_mem_take hm)))
   simp only [this]; exact ⟨h.1, hK⟩
  exact h.elim
 ·rename_i ti' hns
  split at h
  ·rename_i c hc
   refine ⟨c, h, fun st2 _ K2 hK => ?_⟩; unfold aload; split
   ·rename_i he; exact absurd (Option.some.inj he) (by intro e; exact hns _ _ e)
   ·simp only [hc]; exact hK
   rename_i he; cases he
  exact h.elim
 exact h.elim
theorem aidx_loc {s : ASt} {dd : Nat} {y : Option Operand} {K : Int → Prop} (h : aidx s dd y K) : ∃ n, K n ∧ ∀ s2 : ASt, (∀ x, y = some x → valOf s2 x = valOf s x) → ∀ K2 : Int → Prop, K2 n → aidx s2 dd y K2 := by
 cases y with
 | none => exact ⟨_, h, fun _ _ _ h => h⟩
 | some y =>
  simp only [aidx] at h; split at h
  ·rename_i k n hv
   exact ⟨n, h, fun s2 hs K2 hK => by simp only [aidx, hs y rfl, hv]; exact hK⟩
  exact h.elim
theorem abin_loc {B : Prop} {op : BinOp} {u v : Value} {K : Value → Prop} (h : abin B op u v K) : ∃ r, K r ∧ ∀ K2 : Value → Prop, K2 r → abin B op u v K2 := by
 have hin : ∀ (k : IntKind) (n : Int) (K : Value → Prop), ainR k n K → ∃ r, K r ∧ ∀ K2 : Value → Prop, K2 r → ainR k n K2 := by
  intro k n K h; unfold ainR at h; split at h
  ·rename_i hk
   exact ⟨_, h.2, fun K2 hK => by unfold ainR; rw [if_pos hk]; exact ⟨h.1, hK⟩⟩
  rename_i hk
  exact ⟨_, h, fun K2 hK => by unfold ainR; rw [if_neg hk]; exact hK⟩
 unfold abin at h; split at h
 ·obtain ⟨rfl, h⟩ := h
  cases op <;> first
   | exact h.elim
   | (obtain ⟨r, h1, h2⟩ := hin _ _ _ h; exact ⟨r, h1, fun K2 hK => ⟨rfl, h2 K2 hK⟩⟩)
   | exact ⟨_, h.2, fun K2 hK => ⟨rfl, h.1, hK⟩⟩
   | exact ⟨_, h, fun K2 hK => ⟨rfl, hK⟩⟩
 ·cases op <;> first
   | exact h.elim
   | exact ⟨_, h.2, fun K2 hK => ⟨h.1, hK⟩⟩
   | exact ⟨_, h, fun K2 hK => hK⟩
 ·obtain ⟨hb, h⟩ := h
  cases op <;> first
   | exact h.elim
   | exact ⟨_, h, fun K2 hK => ⟨hb, hK⟩⟩
 exact h.elim
theorem aval_lo {op : Op} (h : aval P op d s K) : ∃ c ch, K c (app s.st ch) ∧ Lo P op d s c ch := by
  cases op with
  | move x => exact ⟨_, none, h, lo_pure fun s2 hs K hK => by simp only [aval, hs.v x (by simp [Op.operands])]; exact hK⟩
  | assign x => exact ⟨_, none, h, lo_pure fun s2 hs K hK => by simp only [aval, hs.v x (by simp [Op.operands])]; exact hK⟩
  | pick c x y =>
    simp only [aval] at h; split at h
    · rename_i t ht
      exact ⟨_, none, h, lo_pure fun s2 hs K hK => by simp only [aval, hs.v c (by simp [Op.operands]), hs.v x (by simp [Op.operands]), hs.v y (by simp [Op.operands]), ht]; exact hK⟩
    exact h.elim
  | nilCheck x =>
    simp only [aval] at h; split at h
    · rename_i b o hx; exact ⟨_, none, h, lo_pure fun s2 hs K hK => by simp only [aval, hs.v x (by simp [Op.operands]), hx]; exact hK⟩
    · rename_i b o hx; exact ⟨_, none, h, lo_pure fun s2 hs K hK => by simp only [aval, hs.v x (by simp [Op.operands]), hx]; exact hK⟩
    exact h.elim
  | alloc t =>
    simp only [aval] at h; split at h
    · rename_i dd
      obtain ⟨hne, h⟩ := h; split at h
      · rename_i ti hd hti
        refine ⟨_, some (dd, _), h, ⟨fun e => (by cases e), fun k x e => ?_, fun s2 hs K hK => ?_⟩⟩
        · injection e with e; injection e with e1 e2; subst e1; simp [foot]
        simp only [aval, hs.o dd (by simp [foot]), hd, hti]; exact ⟨hne, hK⟩
      · rename_i hd hti
        split at h
        · rename_i ar har
          refine ⟨_, some (dd, _), h, ⟨fun e => (by cases e), fun k x e => ?_, fun s2 hs K hK => ?_⟩⟩
          · injection e with e; injection e with e1 e2; subst e1; simp [foot]
          simp only [aval, hs.o dd (by simp [foot]), hd, hti, har]; exact ⟨hne, hK⟩
        exact h.elim
      exact h.elim
    exact h.elim
  | box t x =>
    simp only [aval] at h; split at h
    · rename_i dd
      obtain ⟨hne, h⟩ := h; split at h
      · rename_i cs hd hx
        refine ⟨_, some (dd, _), h.2, ⟨fun e => (by cases e), fun k x e => ?_, fun s2 hs K hK => ?_⟩⟩
        · injection e with e; injection e with e1 e2; subst e1; simp [foot]
        simp only [aval, hs.o dd (by simp [foot]), hd, hs.v x (by simp [Op.operands]), hx]; exact ⟨hne, h.1, hK⟩
      · rename_i c hd hc
        refine ⟨_, some (dd, _), h.2, ⟨fun e => (by cases e), fun k x e => ?_, fun s2 hs K hK => ?_⟩⟩
        · injection e with e; injection e with e1 e2; subst e1; simp [foot]
        simp only [aval, hs.o dd (by simp [foot]), hd, hs.v x (by simp [Op.operands])]; have hok : (valOf s x).ok s2.st := by
          have h1 := h.1; have hf : ∀ k ∈ owns [valOf s x], s2.st k = s.st k := fun k hk => hs.o k (by simp [foot, hk])
          revert h1 hf
          cases valOf s x with
          | own k n => intro h1 hf; simp only [FV.ok] at h1 ⊢; rw [hf k (by simp [owns])]; exact h1
          | _ => intro h1 _; exact h1
        exact ⟨hne, hok, hK⟩
      exact h.elim
    exact h.elim
  | build t ps =>
    simp only [aval] at h; split at h
    · rename_i fs z hti
      split at h
      · rename_i cs hcs
        refine ⟨_, none, h, lo_pure fun s2 hs K hK => ?_⟩; have : afill s2 fs (z.map lift) ps.toList = some cs := by
          rw [← hcs]; exact afill_same fs _ _ (fun p hp => hs.v _ (by simp only [Op.operands]; simp; exact ⟨p.1, by simpa using hp⟩)) (fun k n hm => hs.o k (owns_mem hm))
        simp only [aval, hti, this]; exact hK
      exact h.elim
    · rename_i hti
      split at h
      · rename_i ar har
        split at h
        · rename_i cs hcs
          refine ⟨_, none, h, lo_pure fun s2 hs K hK => ?_⟩; have : afill s2 (arrFI ar.1 ar.2.1) (ar.2.2.map lift) ps.toList = some cs := by
            rw [← hcs]; exact afill_same _ _ _ (fun p hp => hs.v _ (by simp only [Op.operands]; simp; exact ⟨p.1, by simpa using hp⟩)) (fun k n hm => hs.o k (owns_mem hm))
          simp only [aval, hti, har, this]; exact hK
        exact h.elim
      exact h.elim
    exact h.elim
  | buildSlice t n ps =>
    simp only [aval] at h; split at h
    · rename_i el esz hti
      split at h
      · rename_i es hes
        refine ⟨_, none, h.2, lo_pure fun s2 hs K hK => ?_⟩; have : aelems s2 esz 0 ps.toList = some es := by
          rw [← hes]; exact aelems_same esz _ _ (fun p hp => hs.v _ (by simp only [Op.operands]; simp; exact ⟨p.1, by simpa using hp⟩)) (fun k n hm => hs.o k (owns_mem hm))
        simp only [aval, hti, this]; exact ⟨h.1, hK⟩
      exact h.elim
    exact h.elim
  | load t x =>
    simp only [aval] at h; split at h
    · rename_i b o hx
      split at h
      · rename_i cs hb
        obtain ⟨c, hK, hl⟩ := aload_loc h; refine ⟨c, none, hK, lo_pure fun s2 hs K hK => ?_⟩; simp only [aval, hs.v x (by simp [Op.operands]), hx, hs.o b (by simp [foot, hx]), hb]; exact hl s2.st (fun fs z e k n hm => hs.o k (by simp only [foot, hx, hb, e]; exact List.mem_cons_of_mem _ (owns_mem hm))) _ hK
      exact h.elim
    · rename_i cs o hx
      obtain ⟨c, hK, hl⟩ := aload_loc h; refine ⟨c, none, hK, lo_pure fun s2 hs K hK => ?_⟩; simp only [aval, hs.v x (by simp [Op.operands]), hx]; exact hl s2.st (fun fs z e k n hm => by
        obtain ⟨y, _, hy⟩ := List.mem_map.1 hm; cases hy) _ hK
    exact h.elim
  | store t x y =>
    simp only [aval] at h; split at h
    · rename_i b o hx
      have hfb : b ∈ foot P (.store t x y) d s := by simp [foot, hx]
      split at h
      · rename_i cs hb
        split at h
        · rename_i fs z hti
          split at h
          · rename_i xs hy
            refine ⟨_, some (b, _), h.2, ⟨fun e => (by cases e), fun k x e => ?_, fun s2 hs K hK => ?_⟩⟩
            · injection e with e; injection e with e1 e2; subst e1; exact hfb
            simp only [aval, hs.v x (by simp [Op.operands]), hx, hs.o b hfb, hb, hti, hs.v y (by simp [Op.operands]), hy]; exact ⟨h.1, hK⟩
          exact h.elim
        · rename_i ti hns hti
          refine ⟨_, some (b, _), h.2, ⟨fun e => (by cases e), fun k x e => ?_, fun s2 hs K hK => ?_⟩⟩
          · injection e with e; injection e with e1 e2; subst e1; exact hfb
          simp only [aval, hs.v x (by simp [Op.operands]), hx, hs.o b hfb, hb, hs.v y (by simp [Op.operands])]; have hok : (valOf s y).ok s2.st := by
            have h1 := h.1.2; have hf : ∀ k ∈ owns [valOf s y], s2.st k = s.st k := fun k hk => hs.o k (by simp only [foot]; exact List.mem_append_right _ hk)
            revert h1 hf
            cases valOf s y with
            | own k n => intro h1 hf; simp only [FV.ok] at h1 ⊢; rw [hf k (by simp [owns])]; exact h1
            | _ => intro h1 _; exact h1
          split
          · rename_i fs z he; exact absurd (hti.symm.trans he) (by intro e; injection e with e; exact hns _ _ e)
          · exact ⟨⟨h.1.1, hok⟩, hK⟩
          rename_i he; exact absurd (hti.symm.trans he) (by intro e; cases e)
        rename_i hti
        split at h
        · rename_i ar xs har hy
          refine ⟨_, some (b, _), h.2, ⟨fun e => (by cases e), fun k x e => ?_, fun s2 hs K hK => ?_⟩⟩
          · injection e with e; injection e with e1 e2; subst e1; exact hfb
          simp only [aval, hs.v x (by simp [Op.operands]), hx, hs.o b hfb, hb, hti, har, hs.v y (by simp [Op.operands]), hy]; exact ⟨h.1, hK⟩
        exact h.elim
      exact h.elim
    exact h.elim
  | fieldAddr t x f =>
    simp only [aval] at h; split at h
    · rename_i fs z hti
      split at h
      · rename_i fi b o hfi hx; exact ⟨_, none, h, lo_pure fun s2 hs K hK => by simp only [aval, hti, hs.v x (by simp [Op.operands]), hx, hfi]; exact hK⟩
      · rename_i fi b o hfi hx; exact ⟨_, none, h, lo_pure fun s2 hs K hK => by simp only [aval, hti, hs.v x (by simp [Op.operands]), hx, hfi]; exact hK⟩
      exact h.elim
    exact h.elim
  | field t x f =>
    simp only [aval] at h; split at h
    · rename_i fs z hti
      split at h
      · rename_i fi cs hfi hx
        obtain ⟨hag, h⟩ := h; split at h
        · rename_i y hy
          exact ⟨_, none, h, lo_pure fun s2 hs K hK => by simp only [aval, hti, hs.v x (by simp [Op.operands]), hx, hfi, hy]; exact ⟨hag, hK⟩⟩
        exact h.elim
      exact h.elim
    exact h.elim
  | indexAddr t x i =>
    simp only [aval] at h; split at h
    · rename_i el esz hti
      split at h
      · rename_i es k n hx hi
        obtain ⟨h0, e, he, hel, hK⟩ := h; refine ⟨_, none, hK, lo_pure fun s2 hs K hK => ?_⟩; have : toSl s2.st (valOf s x) = some es := by
          rw [← hx]; unfold toSl; rw [toIV_same (fun k n e => hs.o k (owns_one e))]
        simp only [aval, hti, hs.v x (by simp [Op.operands]), this, hs.v i (by simp [Op.operands]), hi]; exact ⟨h0, e, he, hel, hK⟩
      exact h.elim
    · rename_i hti
      split at h
      · rename_i ar b o k n har hx hi
        exact ⟨_, none, h.2, lo_pure fun s2 hs K hK => by simp only [aval, hti, har, hs.v x (by simp [Op.operands]), hx, hs.v i (by simp [Op.operands]), hi]; exact ⟨h.1, hK⟩⟩
      exact h.elim
    exact h.elim
  | index t x i =>
    simp only [aval] at h; split at h
    · rename_i b k n ht hx hi
      obtain ⟨h0, c, hc, hK⟩ := h; exact ⟨_, none, hK, lo_pure fun s2 hs K hK => by simp only [aval, ht, hs.v x (by simp [Op.operands]), hx, hs.v i (by simp [Op.operands]), hi]; exact ⟨h0, c, hc, hK⟩⟩
    exact h.elim
  | slice t x lo hi mx =>
    cases mx with
    | some m => exact h.elim
    | none =>
      simp only [aval] at h; split at h
      · rename_i b ht hx
        obtain ⟨l, hl, hl2⟩ := aidx_loc h; obtain ⟨hh, ⟨hb, hK⟩, hh2⟩ := aidx_loc hl; refine ⟨_, none, hK, lo_pure fun s2 hs K hK => ?_⟩; simp only [aval, ht, hs.v x (by simp [Op.operands]), hx]; exact hl2 s2 (fun y e => hs.v y (by subst e; simp [Op.operands])) _ (hh2 s2 (fun y e => hs.v y (by subst e; simp [Op.operands])) _ ⟨hb, hK⟩)
      · rename_i el es fl ht hx
        split at h
        · rename_i el2 esz hti
          obtain ⟨l, hl, hl2⟩ := aidx_loc h; obtain ⟨hh, ⟨hb, hK⟩, hh2⟩ := aidx_loc hl; refine ⟨_, none, hK, lo_pure fun s2 hs K hK => ?_⟩; simp only [aval, ht, hti, hs.v x (by simp [Op.operands]), hx]; exact hl2 s2 (fun y e => hs.v y (by subst e; simp [Op.operands])) _ (hh2 s2 (fun y e => hs.v y (by subst e; simp [Op.operands])) _ ⟨hb, hK⟩)
        exact h.elim
      exact h.elim
  | binOp op t x y t' =>
    simp only [aval] at h; split at h
    · rename_i u v hx hy
      obtain ⟨r, hK, hr⟩ := abin_loc h; exact ⟨_, none, hK, lo_pure fun s2 hs K hK => by simp only [aval, hs.v x (by simp [Op.operands]), hx, hs.v y (by simp [Op.operands]), hy]; exact hr _ hK⟩
    · rename_i p q p' q' hx hy
      obtain ⟨hE, h⟩ := h; split at h
      · exact ⟨_, none, h, lo_pure fun s2 hs K hK => by simp only [aval, hs.v x (by simp [Op.operands]), hx, hs.v y (by simp [Op.operands]), hy]; exact ⟨hE, hK⟩⟩
      · exact ⟨_, none, h, lo_pure fun s2 hs K hK => by simp only [aval, hs.v x (by simp [Op.operands]), hx, hs.v y (by simp [Op.operands]), hy]; exact ⟨hE, hK⟩⟩
      exact h.elim
    exact h.elim
  | unOp op t x =>
    cases op <;> first
      | exact h.elim
      | (simp only [aval] at h
         split at h
         · rename_i b hx; exact ⟨_, none, h, lo_pure fun s2 hs K hK => by simp only [aval, hs.v x (by simp [Op.operands]), hx]; exact hK⟩
         exact h.elim)
  | convert t t' x =>
    simp only [aval] at h; split at h
    · rename_i d k k' n h1 h2 hx; exact ⟨_, none, h, lo_pure fun s2 hs K hK => by simp only [aval, h1, h2, hs.v x (by simp [Op.operands]), hx]; exact hK⟩
    exact h.elim
  | extract t i =>
    simp only [aval] at h; split at h
    · rename_i vs hx
      split at h
      · rename_i x hi; exact ⟨_, none, h, lo_pure fun s2 hs K hK => by simp only [aval, hs.v t (by simp [Op.operands]), hx, hi]; exact hK⟩
      exact h.elim
    exact h.elim
  | typeAssert x xT t ok =>
    cases ok
    · exact h.elim
    simp only [aval] at h; split at h
    · rename_i fs z t' u hti hx
      obtain ⟨ht, h⟩ := h; exact ⟨_, none, h, lo_pure fun s2 hs K hK => by simp only [aval, hs.v x (by simp [Op.operands]), hx, hti]; exact ⟨ht, hK⟩⟩
    exact h.elim
  | makeInterface t x =>
    simp only [aval] at h; split at h
    · exact h.elim
    · rename_i dd u hni ht hx
      refine ⟨_, none, h, lo_pure fun s2 hs K hK => ?_⟩; simp only [aval, hs.v x (by simp [Op.operands]), hx]; split
      · rename_i he; exact absurd (ht.symm.trans he) (by intro e; injection e with e; exact hni _ e)
      · rename_i he; injection he with he; subst he; exact hK
      rename_i he; exact (he _ _ ht rfl).elim
    exact h.elim
  | call c =>
    obtain ⟨callee, ⟨xs⟩, ⟨ts⟩⟩ := c; simp only [aval] at h; split at h
    · rename_i b
      unfold abuil at h; have hf : ∀ y ∈ xs, ∀ k n, valOf s y = .own k n → k ∈ foot P (.call ⟨.builtin b, ⟨xs⟩, ⟨ts⟩⟩) d s := fun y hy k n e => by
        simp only [foot]; exact List.mem_append_right _ (owns_mem (n := n) (by rw [← e]; exact List.mem_map_of_mem hy))
      have hv : ∀ s2, SameOn P (.call ⟨.builtin b, ⟨xs⟩, ⟨ts⟩⟩) d s s2 → ∀ y ∈ xs, valOf s2 y = valOf s y := fun s2 hs y hy => hs.v y (by simp [Op.operands, Call.operands, hy])
      have hsl : ∀ s2, SameOn P (.call ⟨.builtin b, ⟨xs⟩, ⟨ts⟩⟩) d s s2 → ∀ y ∈ xs, toSl s2.st (valOf s y) = toSl s.st (valOf s y) := fun s2 hs y hy => by
        unfold toSl; rw [toIV_same (fun k n e => hs.o k (hf y hy k n e))]
      split at h
      · rename_i x t
        split at h
        · rename_i bb ht hx
          exact ⟨_, none, h, lo_pure fun s2 hs K hK => by simp only [aval, abuil, hv s2 hs x (by simp), hx, ht]; exact hK⟩
        · rename_i el ht
          split at h
          · rename_i es hes
            exact ⟨_, none, h, lo_pure fun s2 hs K hK => by simp only [aval, abuil, hv s2 hs x (by simp), ht, hsl s2 hs x (by simp), hes]; exact hK⟩
          exact h.elim
        exact h.elim
      · rename_i x y t t'
        obtain ⟨rfl, h⟩ := h; split at h
        · rename_i e esz new dd hti hy
          split at h
          · rename_i k n hx
            have hk := hf x (by simp) k n hx; split at h
            · rename_i ty' z' es hst
              refine ⟨_, some (k, _), h.2, ⟨fun e => (by cases e), fun k' x' e => ?_, fun s2 hs K hK => ?_⟩⟩
              · injection e with e; injection e with e1 e2; subst e1; exact hk
              simp only [aval, abuil, hv s2 hs x (by simp), hv s2 hs y (by simp), hsl s2 hs y (by simp), hti, hy, hx, hs.o k hk, hst]; exact ⟨trivial, h.1, hK⟩
            exact h.elim
          · rename_i es hx
            split at h
            · rename_i hst
              refine ⟨_, some (dd, _), h.2, ⟨fun e => (by cases e), fun k' x' e => ?_, fun s2 hs K hK => ?_⟩⟩
              · injection e with e; injection e with e1 e2; subst e1; simp [foot]
              simp only [aval, abuil, hv s2 hs x (by simp), hv s2 hs y (by simp), hsl s2 hs y (by simp), hti, hy, hx, hs.o dd (by simp [foot]), hst]; exact ⟨trivial, h.1, hK⟩
            exact h.elim
          exact h.elim
        exact h.elim
      · rename_i x y
        split at h
        · rename_i k n k' m hx hy
          exact ⟨_, none, h, lo_pure fun s2 hs K hK => by simp only [aval, abuil, hv s2 hs x (by simp), hx, hv s2 hs y (by simp), hy]; exact hK⟩
        exact h.elim
      exact h.elim
    exact h.elim
  | _ => exact h.elim
end
open Go Go.RowKit Go.Proofs Th
/-! parameters -/
def parK (s : ByteArray) : TK := if freeB s = true then (1, s) else (2, ⟨((tl s).tail).toArray⟩)
theorem tl_inj {a b : ByteArray} (h : tl a = tl b) : a = b := by
 obtain ⟨a⟩ := a; obtain ⟨b⟩ := b; exact congrArg ByteArray.mk (Array.toList_inj.1 h)
theorem par_cases {s : ByteArray} (h : paramB s = true) : (freeB s = true ∧ parK s = (1, s)) ∨ (∃ t : ByteArray, parK s = (2, t) ∧ s = ⟨#[36]⟩ ++ t ∧ isName (tl t) = true ∧ tl s = 36 :: tl t) := by
 unfold paramB at h; unfold parK; cases hf : freeB s with
 | true => exact .inl ⟨rfl, if_pos rfl⟩
 | false =>
  rw [hf, Bool.false_or, Bool.and_eq_true, decide_eq_true_eq] at h; have e : tl s = 36 :: (tl s).tail := by
   show s.data.toList = 36 :: s.data.toList.tail
   cases hl : s.data.toList with
   | nil => rw [hl] at h; cases h.1
   | cons c r => rw [hl] at h; have := h.1; injection this with this; rw [this]; rfl
  refine .inr ⟨⟨((tl s).tail).toArray⟩, if_neg (by simp), ?_, h.2, e⟩; exact tl_inj (by rw [tl_app]; exact e)
theorem par_rd {d : Nat} {s : ByteArray} (h : paramB s = true) (R : List UInt8) (hR : sepC R = true) : RD d (tl s) [parK s] R := by
 rcases par_cases h with ⟨h1, e⟩ | ⟨t, e, h1, h2, h3⟩
 ·rw [e]; exact rd_name (free_name h1).1 (sep_name hR)
 rw [e, h3]; exact rd_known h2 (sep_name hR)
theorem par_bal {s : ByteArray} (h : paramB s = true) : Bal [parK s] := by
 rcases par_cases h with ⟨_, e⟩ | ⟨t, e, _⟩ <;> rw [e] <;> exact bal_one (by simp) (by simp)
def argK (a : List ByteArray) : List TK := sepK (a.map fun s => [parK s])
theorem argK_len : ∀ a : List ByteArray, a.length ≤ (argK a).length
 | [] => Nat.zero_le _
 | [_] => Nat.le_refl _
 | b :: c :: r => by
  have := argK_len (c :: r); simp only [argK, List.map_cons, sepK, List.length_append, List.length_cons, List.length_nil] at this ⊢; omega
theorem args_bal {a : List ByteArray} (h : ∀ s ∈ a, paramB s = true) : Bal (argK a) := sep_bal _ fun x hx => by
 obtain ⟨y, hy, rfl⟩ := List.mem_map.1 hx; exact par_bal (h y hy)
theorem args_rd {a : List ByteArray} (h : ∀ s ∈ a, paramB s = true) (h0 : a ≠ []) (d : Nat) (R : List UInt8) (hR : sepC R = true) : RD d (tl (sepB ⟨#[59, 32]⟩ a)) (argK a) R := by
 refine sep_rd _ _ (by rw [List.length_map]) h0 (fun i x y R hR => ?_) R hR; rw [List.getElem_map]; exact par_rd (h _ (List.getElem_mem x)) R hR
theorem args_ev {β : Type} {E : Env} {k : List ByteArray → Nat → Option (PR β)} : ∀ (a acc : List ByteArray) (n i : Nat), a ≠ [] → (∀ s ∈ a, paramB s = true) → AtK E i (argK a ++ [(6, ⟨#[41]⟩)]) → a.length ≤ n → argsP E k n acc i = k (acc ++ a) (i + (argK a).length)
 | [], _, _, _, h, _, _, _ => absurd rfl h
 | s :: r, acc, n, i, _, h, hat, hn => by
  obtain ⟨n, rfl⟩ : ∃ m, n = m + 1 := ⟨n - 1, by simp at hn; omega⟩
  have hp := par_cases (h s (by simp)); have key : (r = [] ∧ AtK E (i + 1) [(6, ⟨#[41]⟩)] ∧ argK (s :: r) = [parK s]) ∨ (∃ y r', r = y :: r' ∧ tk (tokAt E (i + 1)) = (6, ⟨#[59]⟩) ∧ AtK E (i + 1 + 1) (argK r ++ [(6, ⟨#[41]⟩)]) ∧ argK (s :: r) = parK s :: (6, ⟨#[59]⟩) :: argK r) := by
   cases r with
   | nil => exact .inl ⟨rfl, hat.cons.2, rfl⟩
   | cons y r' =>
    obtain ⟨_, hat⟩ := (show AtK E i (parK s :: (6, ⟨#[59]⟩) :: (argK (y :: r') ++ [(6, ⟨#[41]⟩)])) from hat).cons; obtain ⟨t1, hat⟩ := hat.cons; exact .inr ⟨y, r', rfl, t1, hat, rfl⟩
  have t0 : tk (tokAt E i) = parK s := by
   cases r with
   | nil => exact hat.cons.1
   | cons y r' => exact (show AtK E i (parK s :: (6, ⟨#[59]⟩) :: (argK (y :: r') ++ [(6, ⟨#[41]⟩)])) from hat).cons.1
  have ih : ∀ y r', r = y :: r' → AtK E (i + 1 + 1) (argK r ++ [(6, ⟨#[41]⟩)]) → argsP E k n (acc ++ [s]) (i + 1 + 1) = k (acc ++ [s] ++ r) (i + 1 + 1 + (argK r).length) := fun y r' e hh =>
   args_ev r (acc ++ [s]) n (i + 1 + 1) (by rw [e]; simp) (fun z hz => h z (by simp [hz])) hh (by simp at hn; omega)
  rcases hp with ⟨h1, e⟩ | ⟨t, e, h1, _⟩
  ·rw [e] at t0
   have k0 : (tokAt E i).kind = 1 := congrArg Prod.fst t0; simp only [argsP]; rw [if_neg (by omega), name_ok t0 (free_name h1).2]; rcases key with ⟨rfl, hh, e2⟩ | ⟨y, r', e1, t1, hh, e2⟩
   ·rw [if_neg (not_tk hh.cons.1 (by decide)), e2]; rfl
   rw [if_pos (isT_tk.2 t1), ih y r' e1 hh, e2, List.append_assoc, List.length_cons, List.length_cons]; congr 1; omega
  rw [e] at t0; have k0 : (tokAt E i).kind = 2 := congrArg Prod.fst t0; have x0 : (tokAt E i).text = t := congrArg Prod.snd t0; simp only [argsP]; rw [if_pos k0, x0, ← h1]; rcases key with ⟨rfl, hh, e2⟩ | ⟨y, r', e1, t1, hh, e2⟩
  ·rw [if_neg (not_tk hh.cons.1 (by decide)), e2]; rfl
  rw [if_pos (isT_tk.2 t1), ih y r' e1 hh, e2, List.append_assoc, List.length_cons, List.length_cons]; congr 1; omega
theorem tl24 (s : ByteArray) (x y : NJ) (a : List ByteArray) : tl (spJ (.mk 24 s 0 0 [x, y] a)) = 40 :: 100 :: 101 :: 102 :: 32 :: (tl s ++ ((if a.length = 0 then [] else 40 :: (tl (sepB ⟨#[59, 32]⟩ a) ++ [41])) ++ 58 :: 32 :: (tl (spJ x) ++ 59 :: 32 :: (tl (spJ y) ++ [41])))) := by
 rw [spJ]; simp only [Int.reduceEq, if_true, if_false, or_false, spL, List.getD_cons_zero, List.getD_cons_succ]; split <;> simp only [tl_app, tl_mk, List.append_assoc, List.cons_append, List.nil_append]
def headK (a : List ByteArray) : List TK := if a.length = 0 then [] else (6, ⟨#[40]⟩) :: (argK a ++ [(6, ⟨#[41]⟩)])
def headP (a : List ByteArray) : List UInt8 := if a.length = 0 then [] else 40 :: (tl (sepB ⟨#[59, 32]⟩ a) ++ [41])
theorem head_bal {a : List ByteArray} (h : ∀ s ∈ a, paramB s = true) : Bal (headK a) := by
 unfold headK; split
 ·exact bal_nil
 exact (args_bal h).par
theorem head_rd {a : List ByteArray} (h : ∀ s ∈ a, paramB s = true) (d : Nat) (R : List UInt8) : RD d (headP a) (headK a) R := by
 unfold headK headP; split
 ·exact rd_nil d R
 rename_i h0
 have := (rd_one (c := 40) rfl d (tl (sepB ⟨#[59, 32]⟩ a) ++ [41] ++ R)).app ((args_rd h (fun h => h0 (by rw [h]; rfl)) d ([41] ++ R) rfl).app (rd_one (c := 41) rfl d R)); exact this
theorem rd24 {s : ByteArray} {x y : NJ} {a : List ByteArray} {Tx Ty : List TK} (hs : freeB s = true) (ha : ∀ s ∈ a, paramB s = true) (rx : Rd x Tx) (ry : Rd y Ty) : ∃ T, Rd (.mk 24 s 0 0 [x, y] a) T := by
 obtain ⟨hn, hw⟩ := free_name hs; have ht : tl (spJ (.mk 24 s 0 0 [x, y] a)) = catP [⟨[40], [(6, ⟨#[40]⟩)]⟩, ⟨[100, 101, 102], [(1, ⟨#[100, 101, 102]⟩)]⟩, ⟨[32], []⟩, ⟨tl s, [(1, s)]⟩, ⟨headP a, headK a⟩, ⟨[58], [(6, ⟨#[58]⟩)]⟩, ⟨[32], []⟩, ⟨tl (spJ x), Tx⟩, ⟨[59], [(6, ⟨#[59]⟩)]⟩, ⟨[32], []⟩, ⟨tl (spJ y), Ty⟩, ⟨[41], [(6, ⟨#[41]⟩)]⟩] := by
  rw [tl24]; simp only [catP, headP, List.append_nil, List.cons_append, List.nil_append]
 have hsep : ∀ R, runB nameC (headP a ++ 58 :: R) = 0 := fun R => by
  unfold headP; split <;> simp [runB, nameC, letF, isDg]
 refine ⟨catK [⟨[40], [(6, ⟨#[40]⟩)]⟩, ⟨[100, 101, 102], [(1, ⟨#[100, 101, 102]⟩)]⟩, ⟨[32], []⟩, ⟨tl s, [(1, s)]⟩, ⟨headP a, headK a⟩, ⟨[58], [(6, ⟨#[58]⟩)]⟩, ⟨[32], []⟩, ⟨tl (spJ x), Tx⟩, ⟨[59], [(6, ⟨#[59]⟩)]⟩, ⟨[32], []⟩, ⟨tl (spJ y), Ty⟩, ⟨[41], [(6, ⟨#[41]⟩)]⟩], fun d hd R hR => ?_, ?_, ⟨_, _, rfl, by decide⟩, ⟨_, _, by rw [ht]; rfl, by decide⟩, fun E i j hat hj hq => ?_⟩
 ·rw [ht]
  simp only [depJ, depsJ] at hd; exact all_rd ⟨rd_one rfl d _, rd_name rfl rfl, rd_blank d _, rd_name hn (by simp only [catP, List.cons_append, List.append_assoc]; exact hsep _), head_rd ha d _, rd_one rfl d _, rd_blank d _, rx.sc d (by omega) _ rfl, rd_one rfl d _, rd_blank d _, ry.sc d (by omega) _ rfl, rd_one rfl d _, trivial⟩
 ·intro s'
  simp only [catK, List.cons_append, List.nil_append, walk_op, walk_k (k := 1) (by decide), walk_bal (head_bal ha), walk_6 (x := ⟨#[58]⟩) (by decide) (by decide), walk_6 (x := ⟨#[59]⟩) (by decide) (by decide), walk_bal rx.bal, walk_bal ry.bal, walk_cl, walk_nil]
 simp only [catK, List.cons_append, List.nil_append] at hat hj; have hlen := hat.len; obtain ⟨t0, hat⟩ := hat.cons; obtain ⟨t1, hat⟩ := hat.cons; obtain ⟨t2, hat⟩ := hat.cons; obtain ⟨h3, hat⟩ := hat.app; obtain ⟨t4, hat⟩ := hat.cons; obtain ⟨h5, hat⟩ := hat.app; obtain ⟨t6, hat⟩ := hat.cons; obtain ⟨h7, hat⟩ := hat.app; obtain ⟨t8, _⟩ := hat.cons; obtain rfl : j = i + 1 + 1 + 1 + (headK a).length + 1 + Tx.length + 1 + Ty.length + 1 := by rw [hj]; simp; omega
 have hf : evP E .filter (i + 1) = some (.ok (.mk 24 s 0 0 [x, y] a) (i + 1 + 1 + 1 + (headK a).length + 1 + Tx.length + 1 + Ty.length)) := by
  rw [evP_step]; simp only [stepP]; rw [if_pos (isT_tk.2 t1), evP_step]; simp only [stepP]; rw [name_ok t2 hw]; by_cases h0 : a.length = 0
  ·obtain rfl : a = [] := List.eq_nil_of_length_eq_zero h0
   have e0 : (headK []).length = 0 := rfl; rw [e0, Nat.add_zero] at h5 t4 t6 h7 t8 ⊢; rw [if_neg (not_tk t4 (by decide)), want_ok t4, rx.flt h5 (by rw [t6]; decide), bindP_ok, want_ok t6, ry.flt h7 (by rw [t8]; decide), bindP_ok]; rfl
  have e0 : headK a = (6, ⟨#[40]⟩) :: (argK a ++ [(6, ⟨#[41]⟩)]) := if_neg h0; have el : (headK a).length = 1 + (argK a).length + 1 := by rw [e0]; simp; omega
  rw [e0] at h3; obtain ⟨t3, h3⟩ := h3.cons; have ta := h3.app.2.cons.1; have ha2 : a.length ≤ E.l.length + 1 := by
   have := argK_len a; simp only [List.length_cons, List.length_append, el] at hlen; omega
  rw [if_pos (isT_tk.2 t3), args_ev a [] _ _ (fun h => h0 (by rw [h]; rfl)) ha h3 ha2]; rw [show i + 1 + 1 + 1 + (headK a).length = i + 1 + 1 + 1 + 1 + (argK a).length + 1 by omega] at h5 t4 t6 h7 t8 ⊢; rw [want_ok ta, want_ok t4, rx.flt h5 (by rw [t6]; decide), bindP_ok, want_ok t6, ry.flt h7 (by rw [t8]; decide), bindP_ok]; rfl
 exact term_first (par_first t0 hf t8)
/-! signs -/
theorem op_t {k : Int} {p s : ByteArray} (hk : k = 8 ∨ k = 9 ∨ k = 10 ∨ k = 11 ∨ k = 12 ∨ k = 13 ∨ k = 25) (hs : signB k p = s) (x y : NJ) : spJ (nodeJ k p x y) = ⟨#[40]⟩ ++ spJ x ++ ⟨#[32]⟩ ++ s ++ ⟨#[32]⟩ ++ spJ y ++ ⟨#[41]⟩ := by
 unfold nodeJ; rw [spJ, hs]; rcases hk with rfl | rfl | rfl | rfl | rfl | rfl | rfl <;> rfl
theorem op_word {k : Int} {s : List UInt8} (hk : k = 11 ∨ k = 12) (hs : signB k ⟨#[]⟩ = ⟨s.toArray⟩) (hn : isName s = true) (he : EndT (1, ⟨s.toArray⟩)) (ha : ((1, ⟨s.toArray⟩) : TK) ≠ (1, ⟨#[97, 115]⟩)) (hq : strK (1, ⟨s.toArray⟩) ≠ 0) (hj : ∀ x y, joinK (1, ⟨s.toArray⟩) x y = nodeJ k ⟨#[]⟩ x y) : OpOk k ⟨#[]⟩ ⟨s.toArray⟩ (1, ⟨s.toArray⟩) :=
 ⟨op_t (by omega) hs, fun d R => rd_name hn rfl, fun r s => walk_k (by decide) _ r s, he, ha, .inr hq, hj⟩
theorem op_sign {k : Int} {p : ByteArray} {s : List UInt8} (hk : k = 8 ∨ k = 9 ∨ k = 10 ∨ k = 13 ∨ k = 25) (hs : signB k p = ⟨s.toArray⟩) (hn : isSg s = true) (he : EndT (6, ⟨s.toArray⟩)) (h1 : (⟨s.toArray⟩ : ByteArray) ≠ ⟨#[40]⟩) (h2 : (⟨s.toArray⟩ : ByteArray) ≠ ⟨#[41]⟩) (hq : ((6, ⟨s.toArray⟩) : TK) = (6, ⟨#[124]⟩) ∨ strK (6, ⟨s.toArray⟩) ≠ 0) (hj : ∀ x y, joinK (6, ⟨s.toArray⟩) x y = nodeJ k p x y) : OpOk k p ⟨s.toArray⟩ (6, ⟨s.toArray⟩) :=
 ⟨op_t (by omega) hs, fun d R => rd_sg hn d R, fun r s => walk_6 h1 h2 r s, he, by simp, hq, hj⟩
theorem op_8 : OpOk 8 ⟨#[]⟩ ⟨#[124]⟩ (6, ⟨#[124]⟩) := op_sign (s := [124]) (.inl rfl) rfl rfl (by decide) (by decide) (by decide) (.inl rfl) fun _ _ => rfl
theorem op_9 : OpOk 9 ⟨#[]⟩ ⟨#[44]⟩ (6, ⟨#[44]⟩) := op_sign (s := [44]) (by omega) rfl rfl (by decide) (by decide) (by decide) (by decide) fun _ _ => rfl
theorem op_13 : OpOk 13 ⟨#[]⟩ ⟨#[47, 47]⟩ (6, ⟨#[47, 47]⟩) := op_sign (s := [47, 47]) (by omega) rfl rfl (by decide) (by decide) (by decide) (by decide) fun _ _ => rfl
theorem op_11 : OpOk 11 ⟨#[]⟩ ⟨#[97, 110, 100]⟩ (1, ⟨#[97, 110, 100]⟩) := op_word (s := [97, 110, 100]) (.inl rfl) rfl rfl (by decide) (by decide) (by decide) fun _ _ => rfl
theorem op_12 : OpOk 12 ⟨#[]⟩ ⟨#[111, 114]⟩ (1, ⟨#[111, 114]⟩) := op_word (s := [111, 114]) (.inr rfl) rfl rfl (by decide) (by decide) (by decide) fun _ _ => rfl
theorem op_10 {s : ByteArray} (h : inB opers11 s = true) : OpOk 10 s s (6, s) := by
 unfold inB opers11 at h; simp only [List.any_cons, List.any_nil, Bool.or_false, Bool.or_eq_true, decide_eq_true_eq] at h; rcases h with rfl | rfl | rfl | rfl | rfl | rfl | rfl | rfl | rfl | rfl | rfl <;> exact op_sign (by omega) rfl rfl (by decide) (by decide) (by decide) (by decide) fun _ _ => rfl
theorem op_25 {s : ByteArray} (h : inB sets7 s = true) : OpOk 25 s s (6, s) := by
 unfold inB sets7 at h; simp only [List.any_cons, List.any_nil, Bool.or_false, Bool.or_eq_true, decide_eq_true_eq] at h; rcases h with rfl | rfl | rfl | rfl | rfl | rfl | rfl <;> exact op_sign (by omega) rfl rfl (by decide) (by decide) (by decide) (by decide) fun _ _ => rfl
end Go.Proofs.YtakncilicoefdaaGreatDoor
