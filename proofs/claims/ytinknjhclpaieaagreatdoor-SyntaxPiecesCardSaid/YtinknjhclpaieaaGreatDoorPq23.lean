/- Lemmas and contracts for the laws SyntaxPieces, part 23 of 48: AbG, R9H. Conditions: those that each lemma names. -/
import Derived.Test.YtinknjhclpaieaaGreatDoorPq22
import Derived.Test.YtinknjhclpaieaaGreatDoorPq21
set_option maxRecDepth 100000
set_option maxHeartbeats 4000000
namespace Go.Proofs.YtinknjhclpaieaaGreatDoor
open Go Go.RowKit Go.Proofs Th
def owns : List FV → List Nat
  | [] => []
  | .own k _ :: r => k :: owns r
  | _ :: r => owns r
theorem owns_mem : ∀ {cs : List FV} {k n : Nat}, FV.own k n ∈ cs → k ∈ owns cs
  | .own k' n' :: r, k, n, h => by
    rcases List.mem_cons.1 h with h | h
    · injection h with h; subst h; exact List.mem_cons_self
    exact List.mem_cons_of_mem _ (owns_mem h)
  | .junk :: r, k, n, h => owns_mem (cs := r) ((List.mem_cons.1 h).resolve_left (fun e => by cases e))
  | .im _ :: r, k, n, h => owns_mem (cs := r) ((List.mem_cons.1 h).resolve_left (fun e => by cases e))
  | .ptr _ _ :: r, k, n, h => owns_mem (cs := r) ((List.mem_cons.1 h).resolve_left (fun e => by cases e))
  | .pin _ _ :: r, k, n, h => owns_mem (cs := r) ((List.mem_cons.1 h).resolve_left (fun e => by cases e))
theorem toIV_same {st st2 : Nat → AObj} {c : FV} (h : ∀ k n, c = .own k n → st2 k = st k) : toIV st2 c = toIV st c := by
  cases c with
  | own k n => simp only [toIV, h k n rfl]
  | _ => rfl
theorem allIV_same {st st2 : Nat → AObj} : ∀ {cs : List FV}, (∀ k n, FV.own k n ∈ cs → st2 k = st k) → allIV st2 cs = allIV st cs
  | [], _ => rfl
  | c :: r, h => by
    simp only [allIV, toIV_same (c := c) (fun k n e => h k n (e ▸ List.mem_cons_self)), allIV_same (cs := r) (fun k n e => h k n (List.mem_cons_of_mem _ e))]
def foot (P : Program) (op : Op) (d : Option Nat) (s : ASt) : List Nat := match op with
  | .alloc _ => d.toList
  | .box _ x => d.toList ++ owns [valOf s x]
  | .load t x => (match valOf s x with
    | .ptr b _ => b :: (match s.st b with
      | .box cs => (match tiOf P t with
        | some (.struct _ _) => owns cs
        | _ => [])
      | _ => [])
    | _ => [])
  | .store _ x y => (match valOf s x with
    | .ptr b _ => [b]
    | _ => []) ++ owns [valOf s y]
  | .build _ ps => owns (ps.toList.map fun p => valOf s p.2)
  | .buildSlice _ _ ps => owns (ps.toList.map fun p => valOf s p.2)
  | .indexAddr _ x _ => owns [valOf s x]
  | .call c => (match c.callee with
    | .builtin _ => d.toList ++ owns (c.args.toList.map (valOf s))
    | _ => owns (c.args.toList.map (valOf s)) ++ (match c.args.toList with
      | x :: _ => (match valOf s x with
        | .ptr b _ => b :: (match s.st b with
          | .box cs => owns cs
          | _ => [])
        | _ => [])
      | [] => []))
  | _ => []
def wrOp : Op → Bool
  | .alloc _ => true
  | .box _ _ => true
  | .store _ _ _ => true
  | .call c => (match c.callee with
    | .builtin .len => false
    | .builtin .min => false
    | _ => true)
  | _ => false
def touchOp : Op → Bool
  | .move _ => false
  | .assign _ => false
  | .pick _ _ _ => false
  | .nilCheck _ => false
  | .fieldAddr _ _ _ => false
  | .field _ _ _ => false
  | .binOp _ _ _ _ _ => false
  | .unOp _ _ _ => false
  | .index _ _ _ => false
  | .slice _ _ _ _ _ => false
  | .extract _ _ => false
  | .makeInterface _ _ => false
  | _ => true
def app (st : Nat → AObj) : Option (Nat × AObj) → Nat → AObj
  | none => st
  | some (k, x) => upd st k x
structure SameOn (P : Program) (op : Op) (d : Option Nat) (s s2 : ASt) : Prop where
  v : ∀ x ∈ op.operands, valOf s2 x = valOf s x
  o : ∀ k ∈ foot P op d s, s2.st k = s.st k
structure Lo (P : Program) (op : Op) (d : Option Nat) (s : ASt) (c : FV) (ch : Option (Nat × AObj)) : Prop where
  wr : wrOp op = false → ch = none
  ft : ∀ k x, ch = some (k, x) → k ∈ foot P op d s
  go : ∀ s2, SameOn P op d s s2 → ∀ K : FV → (Nat → AObj) → Prop, K c (app s2.st ch) → aval P op d s2 K
section
variable {P : Program} {d : Option Nat} {s : ASt} {K : FV → (Nat → AObj) → Prop}
theorem lo_pure {op : Op} {c : FV} (h : ∀ s2, SameOn P op d s s2 → ∀ K : FV → (Nat → AObj) → Prop, K c s2.st → aval P op d s2 K) : Lo P op d s c none := ⟨fun _ => rfl, fun _ _ h => (by cases h), h⟩
theorem owns_one {s : ASt} {x : Operand} {k n : Nat} (h : valOf s x = .own k n) : k ∈ owns [valOf s x] := owns_mem (n := n) (by rw [h]; exact List.mem_cons_self)
theorem afill_same {s s2 : ASt} (fs : List FI) : ∀ (ps : List (Nat × Operand)) (cells : List IV), (∀ p ∈ ps, valOf s2 p.2 = valOf s p.2) → (∀ k n, FV.own k n ∈ ps.map (fun p => valOf s p.2) → s2.st k = s.st k) → afill s2 fs cells ps = afill s fs cells ps
  | [], _, _, _ => rfl
  | (i, x) :: r, cells, h1, h2 => by
    have e1 := h1 (i, x) List.mem_cons_self; have e2 : toIV s2.st (valOf s x) = toIV s.st (valOf s x) := toIV_same (fun k n e => h2 k n (by rw [← e]; exact List.mem_cons_self)); have ih := fun cells => afill_same fs r cells (fun p hp => h1 p (List.mem_cons_of_mem _ hp)) (fun k n h => h2 k n (List.mem_cons_of_mem _ h))
    simp only at e1; simp only [afill, e1, e2, ih]
theorem aelems_same {s s2 : ASt} (esz : Nat) : ∀ (ps : List (Nat × Operand)) (k : Nat), (∀ p ∈ ps, valOf s2 p.2 = valOf s p.2) → (∀ k n, FV.own k n ∈ ps.map (fun p => valOf s p.2) → s2.st k = s.st k) → aelems s2 esz k ps = aelems s esz k ps
  | [], _, _, _ => rfl
  | (i, x) :: r, k, h1, h2 => by
    have e1 := h1 (i, x) List.mem_cons_self; have e2 : toIV s2.st (valOf s x) = toIV s.st (valOf s x) := toIV_same (fun k n e => h2 k n (by rw [← e]; exact List.mem_cons_self)); have ih := aelems_same esz r (k + 1) (fun p hp => h1 p (List.mem_cons_of_mem _ hp)) (fun k n h => h2 k n (List.mem_cons_of_mem _ h)); simp only at e1; simp only [aelems, e1, e2, ih]
theorem aload_loc {st : Nat → AObj} {ti : Option TI} {cs : List FV} {o : Nat} {K : FV → Prop} (h : aload st ti cs o K) : ∃ c, K c ∧ ∀ st2 : Nat → AObj, (∀ fs z, ti = some (.struct fs z) → ∀ k n, FV.own k n ∈ cs → st2 k = st k) → ∀ K2 : FV → Prop, K2 c → aload st2 ti cs o K2 := by
  unfold aload at h; split at h
  · rename_i fs z
    split at h
    · rename_i xs hxs
      refine ⟨_, h.2, fun st2 hs K2 hK => ?_⟩; unfold aload; have : allIV st2 ((cs.drop o).take z.length) = some xs := by rw [← hxs]; exact allIV_same (fun k n hm => hs fs z rfl k n (List.mem_of_mem_drop (List.mem_of_mem_take hm)))
      simp only [this]; exact ⟨h.1, hK⟩
    exact h.elim
  · rename_i ti' hns
    split at h
    · rename_i c hc
      refine ⟨c, h, fun st2 _ K2 hK => ?_⟩; unfold aload; split
      · rename_i he; exact absurd (Option.some.inj he) (by intro e; exact hns _ _ e)
      · simp only [hc]; exact hK
      rename_i he; cases he
    exact h.elim
  exact h.elim
theorem aidx_loc {s : ASt} {dd : Nat} {y : Option Operand} {K : Int → Prop} (h : aidx s dd y K) : ∃ n, K n ∧ ∀ s2 : ASt, (∀ x, y = some x → valOf s2 x = valOf s x) → ∀ K2 : Int → Prop, K2 n → aidx s2 dd y K2 := by
  cases y with
  | none => exact ⟨_, h, fun _ _ _ h => h⟩
  | some y =>
    simp only [aidx] at h; split at h
    · rename_i k n hv
      exact ⟨n, h, fun s2 hs K2 hK => by simp only [aidx, hs y rfl, hv]; exact hK⟩
    exact h.elim
theorem abin_loc {op : BinOp} {u v : Value} {K : Value → Prop} (h : abin op u v K) : ∃ r, K r ∧ ∀ K2 : Value → Prop, K2 r → abin op u v K2 := by
  have hin : ∀ (k : IntKind) (n : Int) (K : Value → Prop), ainR k n K → ∃ r, K r ∧ ∀ K2 : Value → Prop, K2 r → ainR k n K2 := by
    intro k n K h; unfold ainR at h; split at h
    · rename_i hk
      exact ⟨_, h.2, fun K2 hK => by unfold ainR; rw [if_pos hk]; exact ⟨h.1, hK⟩⟩
    rename_i hk
    exact ⟨_, h, fun K2 hK => by unfold ainR; rw [if_neg hk]; exact hK⟩
  unfold abin at h; split at h
  · obtain ⟨rfl, h⟩ := h
    cases op <;> first
      | exact h.elim
      | (obtain ⟨r, h1, h2⟩ := hin _ _ _ h; exact ⟨r, h1, fun K2 hK => ⟨rfl, h2 K2 hK⟩⟩)
      | exact ⟨_, h, fun K2 hK => ⟨rfl, hK⟩⟩
  · cases op <;> first
      | exact h.elim
      | exact ⟨_, h.2, fun K2 hK => ⟨h.1, hK⟩⟩
      | exact ⟨_, h, fun K2 hK => hK⟩
  exact h.elim
theorem aval_lo {op : Op} (h : aval P op d s K) : ∃ c ch, K c (app s.st ch) ∧ Lo P op d s c ch := by
  cases op with
  | move x => exact ⟨_, none, h, lo_pure fun s2 hs K hK => by simp only [aval, hs.v x (by simp [Op.operands])]; exact hK⟩
  | assign x => exact ⟨_, none, h, lo_pure fun s2 hs K hK => by simp only [aval, hs.v x (by simp [Op.operands])]; exact hK⟩
  | pick c x y =>
    simp only [aval] at h; split at h
    · rename_i t ht
      exact ⟨_, none, h, lo_pure fun s2 hs K hK => by simp only [aval, hs.v c (by simp [Op.operands]), hs.v x (by simp [Op.operands]), hs.v y (by simp [Op.operands]), ht]; exact hK⟩
    exact h.elim
  | nilCheck x =>
    simp only [aval] at h; split at h
    · rename_i b o hx; exact ⟨_, none, h, lo_pure fun s2 hs K hK => by simp only [aval, hs.v x (by simp [Op.operands]), hx]; exact hK⟩
    · rename_i b o hx; exact ⟨_, none, h, lo_pure fun s2 hs K hK => by simp only [aval, hs.v x (by simp [Op.operands]), hx]; exact hK⟩
    exact h.elim
  | alloc t =>
    simp only [aval] at h; split at h
    · rename_i dd
      obtain ⟨hne, h⟩ := h; split at h
      · rename_i ti hd hti
        refine ⟨_, some (dd, _), h, ⟨fun e => (by cases e), fun k x e => ?_, fun s2 hs K hK => ?_⟩⟩
        · injection e with e; injection e with e1 e2; subst e1; simp [foot]
        simp only [aval, hs.o dd (by simp [foot]), hd, hti]; exact ⟨hne, hK⟩
      exact h.elim
    exact h.elim
  | box t x =>
    simp only [aval] at h; split at h
    · rename_i dd
      obtain ⟨hne, h⟩ := h; split at h
      · rename_i cs hd hx
        refine ⟨_, some (dd, _), h.2, ⟨fun e => (by cases e), fun k x e => ?_, fun s2 hs K hK => ?_⟩⟩
        · injection e with e; injection e with e1 e2; subst e1; simp [foot]
        simp only [aval, hs.o dd (by simp [foot]), hd, hs.v x (by simp [Op.operands]), hx]; exact ⟨hne, h.1, hK⟩
      · rename_i c hd hc
        refine ⟨_, some (dd, _), h.2, ⟨fun e => (by cases e), fun k x e => ?_, fun s2 hs K hK => ?_⟩⟩
        · injection e with e; injection e with e1 e2; subst e1; simp [foot]
        simp only [aval, hs.o dd (by simp [foot]), hd, hs.v x (by simp [Op.operands])]; have hok : (valOf s x).ok s2.st := by
          have h1 := h.1; have hf : ∀ k ∈ owns [valOf s x], s2.st k = s.st k := fun k hk => hs.o k (by simp [foot, hk])
          revert h1 hf
          cases valOf s x with
          | own k n => intro h1 hf; simp only [FV.ok] at h1 ⊢; rw [hf k (by simp [owns])]; exact h1
          | _ => intro h1 _; exact h1
        exact ⟨hne, hok, hK⟩
      exact h.elim
    exact h.elim
  | build t ps =>
    simp only [aval] at h; split at h
    · rename_i fs z hti
      split at h
      · rename_i cs hcs
        refine ⟨_, none, h, lo_pure fun s2 hs K hK => ?_⟩; have : afill s2 fs (z.map lift) ps.toList = some cs := by
          rw [← hcs]; exact afill_same fs _ _ (fun p hp => hs.v _ (by simp only [Op.operands]; simp; exact ⟨p.1, by simpa using hp⟩)) (fun k n hm => hs.o k (owns_mem hm))
        simp only [aval, hti, this]; exact hK
      exact h.elim
    exact h.elim
  | buildSlice t n ps =>
    simp only [aval] at h; split at h
    · rename_i el esz hti
      split at h
      · rename_i es hes
        refine ⟨_, none, h.2, lo_pure fun s2 hs K hK => ?_⟩; have : aelems s2 esz 0 ps.toList = some es := by
          rw [← hes]; exact aelems_same esz _ _ (fun p hp => hs.v _ (by simp only [Op.operands]; simp; exact ⟨p.1, by simpa using hp⟩)) (fun k n hm => hs.o k (owns_mem hm))
        simp only [aval, hti, this]; exact ⟨h.1, hK⟩
      exact h.elim
    exact h.elim
  | load t x =>
    simp only [aval] at h; split at h
    · rename_i b o hx
      split at h
      · rename_i cs hb
        obtain ⟨c, hK, hl⟩ := aload_loc h; refine ⟨c, none, hK, lo_pure fun s2 hs K hK => ?_⟩; simp only [aval, hs.v x (by simp [Op.operands]), hx, hs.o b (by simp [foot, hx]), hb]; exact hl s2.st (fun fs z e k n hm => hs.o k (by simp only [foot, hx, hb, e]; exact List.mem_cons_of_mem _ (owns_mem hm))) _ hK
      exact h.elim
    · rename_i cs o hx
      obtain ⟨c, hK, hl⟩ := aload_loc h; refine ⟨c, none, hK, lo_pure fun s2 hs K hK => ?_⟩; simp only [aval, hs.v x (by simp [Op.operands]), hx]; exact hl s2.st (fun fs z e k n hm => by
        obtain ⟨y, _, hy⟩ := List.mem_map.1 hm; cases hy) _ hK
    exact h.elim
  | store t x y =>
    simp only [aval] at h; split at h
    · rename_i b o hx
      have hfb : b ∈ foot P (.store t x y) d s := by simp [foot, hx]
      split at h
      · rename_i cs hb
        split at h
        · rename_i fs z hti
          split at h
          · rename_i xs hy
            refine ⟨_, some (b, _), h.2, ⟨fun e => (by cases e), fun k x e => ?_, fun s2 hs K hK => ?_⟩⟩
            · injection e with e; injection e with e1 e2; subst e1; exact hfb
            simp only [aval, hs.v x (by simp [Op.operands]), hx, hs.o b hfb, hb, hti, hs.v y (by simp [Op.operands]), hy]; exact ⟨h.1, hK⟩
          exact h.elim
        · rename_i ti hns hti
          refine ⟨_, some (b, _), h.2, ⟨fun e => (by cases e), fun k x e => ?_, fun s2 hs K hK => ?_⟩⟩
          · injection e with e; injection e with e1 e2; subst e1; exact hfb
          simp only [aval, hs.v x (by simp [Op.operands]), hx, hs.o b hfb, hb, hs.v y (by simp [Op.operands])]; have hok : (valOf s y).ok s2.st := by
            have h1 := h.1.2; have hf : ∀ k ∈ owns [valOf s y], s2.st k = s.st k := fun k hk => hs.o k (by simp only [foot]; exact List.mem_append_right _ hk)
            revert h1 hf
            cases valOf s y with
            | own k n => intro h1 hf; simp only [FV.ok] at h1 ⊢; rw [hf k (by simp [owns])]; exact h1
            | _ => intro h1 _; exact h1
          split
          · rename_i fs z he; exact absurd (hti.symm.trans he) (by intro e; injection e with e; exact hns _ _ e)
          · exact ⟨⟨h.1.1, hok⟩, hK⟩
          rename_i he; exact absurd (hti.symm.trans he) (by intro e; cases e)
        exact h.elim
      exact h.elim
    exact h.elim
  | fieldAddr t x f =>
    simp only [aval] at h; split at h
    · rename_i fs z hti
      split at h
      · rename_i fi b o hfi hx; exact ⟨_, none, h, lo_pure fun s2 hs K hK => by simp only [aval, hti, hs.v x (by simp [Op.operands]), hx, hfi]; exact hK⟩
      · rename_i fi b o hfi hx; exact ⟨_, none, h, lo_pure fun s2 hs K hK => by simp only [aval, hti, hs.v x (by simp [Op.operands]), hx, hfi]; exact hK⟩
      exact h.elim
    exact h.elim
  | field t x f =>
    simp only [aval] at h; split at h
    · rename_i fs z hti
      split at h
      · rename_i fi cs hfi hx
        obtain ⟨hag, h⟩ := h; split at h
        · rename_i y hy
          exact ⟨_, none, h, lo_pure fun s2 hs K hK => by simp only [aval, hti, hs.v x (by simp [Op.operands]), hx, hfi, hy]; exact ⟨hag, hK⟩⟩
        exact h.elim
      exact h.elim
    exact h.elim
  | indexAddr t x i =>
    simp only [aval] at h; split at h
    · rename_i el esz hti
      split at h
      · rename_i es k n hx hi
        obtain ⟨h0, e, he, hel, hK⟩ := h; refine ⟨_, none, hK, lo_pure fun s2 hs K hK => ?_⟩; have : toSl s2.st (valOf s x) = some es := by
          rw [← hx]; unfold toSl; rw [toIV_same (fun k n e => hs.o k (owns_one e))]
        simp only [aval, hti, hs.v x (by simp [Op.operands]), this, hs.v i (by simp [Op.operands]), hi]; exact ⟨h0, e, he, hel, hK⟩
      exact h.elim
    exact h.elim
  | index t x i =>
    simp only [aval] at h; split at h
    · rename_i b k n ht hx hi
      obtain ⟨h0, c, hc, hK⟩ := h; exact ⟨_, none, hK, lo_pure fun s2 hs K hK => by simp only [aval, ht, hs.v x (by simp [Op.operands]), hx, hs.v i (by simp [Op.operands]), hi]; exact ⟨h0, c, hc, hK⟩⟩
    exact h.elim
  | slice t x lo hi mx =>
    cases mx with
    | some m => exact h.elim
    | none =>
      simp only [aval] at h; split at h
      · rename_i b ht hx
        obtain ⟨l, hl, hl2⟩ := aidx_loc h; obtain ⟨hh, ⟨hb, hK⟩, hh2⟩ := aidx_loc hl; refine ⟨_, none, hK, lo_pure fun s2 hs K hK => ?_⟩; simp only [aval, ht, hs.v x (by simp [Op.operands]), hx]; exact hl2 s2 (fun y e => hs.v y (by subst e; simp [Op.operands])) _ (hh2 s2 (fun y e => hs.v y (by subst e; simp [Op.operands])) _ ⟨hb, hK⟩)
      exact h.elim
  | binOp op t x y t' =>
    simp only [aval] at h; split at h
    · rename_i u v hx hy
      obtain ⟨r, hK, hr⟩ := abin_loc h; exact ⟨_, none, hK, lo_pure fun s2 hs K hK => by simp only [aval, hs.v x (by simp [Op.operands]), hx, hs.v y (by simp [Op.operands]), hy]; exact hr _ hK⟩
    · rename_i p q p' q' hx hy
      obtain ⟨hE, h⟩ := h; split at h
      · exact ⟨_, none, h, lo_pure fun s2 hs K hK => by simp only [aval, hs.v x (by simp [Op.operands]), hx, hs.v y (by simp [Op.operands]), hy]; exact ⟨hE, hK⟩⟩
      · exact ⟨_, none, h, lo_pure fun s2 hs K hK => by simp only [aval, hs.v x (by simp [Op.operands]), hx, hs.v y (by simp [Op.operands]), hy]; exact ⟨hE, hK⟩⟩
      exact h.elim
    exact h.elim
  | unOp op t x =>
    cases op <;> first
      | exact h.elim
      | (simp only [aval] at h
         split at h
         · rename_i b hx; exact ⟨_, none, h, lo_pure fun s2 hs K hK => by simp only [aval, hs.v x (by simp [Op.operands]), hx]; exact hK⟩
         exact h.elim)
  | extract t i =>
    simp only [aval] at h; split at h
    · rename_i vs hx
      split at h
      · rename_i x hi; exact ⟨_, none, h, lo_pure fun s2 hs K hK => by simp only [aval, hs.v t (by simp [Op.operands]), hx, hi]; exact hK⟩
      exact h.elim
    exact h.elim
  | typeAssert x xT t ok =>
    cases ok
    · exact h.elim
    simp only [aval] at h; split at h
    · rename_i fs z t' u hti hx
      obtain ⟨ht, h⟩ := h; exact ⟨_, none, h, lo_pure fun s2 hs K hK => by simp only [aval, hs.v x (by simp [Op.operands]), hx, hti]; exact ⟨ht, hK⟩⟩
    exact h.elim
  | makeInterface t x =>
    simp only [aval] at h; split at h
    · exact h.elim
    · rename_i dd u hni ht hx
      refine ⟨_, none, h, lo_pure fun s2 hs K hK => ?_⟩; simp only [aval, hs.v x (by simp [Op.operands]), hx]; split
      · rename_i he; exact absurd (ht.symm.trans he) (by intro e; injection e with e; exact hni _ e)
      · rename_i he; injection he with he; subst he; exact hK
      rename_i he; exact (he _ _ ht rfl).elim
    exact h.elim
  | call c =>
    obtain ⟨callee, ⟨xs⟩, ⟨ts⟩⟩ := c; simp only [aval] at h; split at h
    · rename_i b
      unfold abuil at h; have hf : ∀ y ∈ xs, ∀ k n, valOf s y = .own k n → k ∈ foot P (.call ⟨.builtin b, ⟨xs⟩, ⟨ts⟩⟩) d s := fun y hy k n e => by
        simp only [foot]; exact List.mem_append_right _ (owns_mem (n := n) (by rw [← e]; exact List.mem_map_of_mem hy))
      have hv : ∀ s2, SameOn P (.call ⟨.builtin b, ⟨xs⟩, ⟨ts⟩⟩) d s s2 → ∀ y ∈ xs, valOf s2 y = valOf s y := fun s2 hs y hy => hs.v y (by simp [Op.operands, Call.operands, hy])
      have hsl : ∀ s2, SameOn P (.call ⟨.builtin b, ⟨xs⟩, ⟨ts⟩⟩) d s s2 → ∀ y ∈ xs, toSl s2.st (valOf s y) = toSl s.st (valOf s y) := fun s2 hs y hy => by
        unfold toSl; rw [toIV_same (fun k n e => hs.o k (hf y hy k n e))]
      split at h
      · rename_i x t
        split at h
        · rename_i bb ht hx
          exact ⟨_, none, h, lo_pure fun s2 hs K hK => by simp only [aval, abuil, hv s2 hs x (by simp), hx, ht]; exact hK⟩
        · rename_i el ht
          split at h
          · rename_i es hes
            exact ⟨_, none, h, lo_pure fun s2 hs K hK => by simp only [aval, abuil, hv s2 hs x (by simp), ht, hsl s2 hs x (by simp), hes]; exact hK⟩
          exact h.elim
        exact h.elim
      · rename_i x y t t'
        obtain ⟨rfl, h⟩ := h; split at h
        · rename_i e esz new dd hti hy
          split at h
          · rename_i k n hx
            have hk := hf x (by simp) k n hx; split at h
            · rename_i ty' z' es hst
              refine ⟨_, some (k, _), h.2, ⟨fun e => (by cases e), fun k' x' e => ?_, fun s2 hs K hK => ?_⟩⟩
              · injection e with e; injection e with e1 e2; subst e1; exact hk
              simp only [aval, abuil, hv s2 hs x (by simp), hv s2 hs y (by simp), hsl s2 hs y (by simp), hti, hy, hx, hs.o k hk, hst]; exact ⟨trivial, h.1, hK⟩
            exact h.elim
          · rename_i es hx
            split at h
            · rename_i hst
              refine ⟨_, some (dd, _), h.2, ⟨fun e => (by cases e), fun k' x' e => ?_, fun s2 hs K hK => ?_⟩⟩
              · injection e with e; injection e with e1 e2; subst e1; simp [foot]
              simp only [aval, abuil, hv s2 hs x (by simp), hv s2 hs y (by simp), hsl s2 hs y (by simp), hti, hy, hx, hs.o dd (by simp [foot]), hst]; exact ⟨trivial, h.1, hK⟩
            exact h.elim
          exact h.elim
        exact h.elim
      · rename_i x y
        split at h
        · rename_i k n k' m hx hy
          exact ⟨_, none, h, lo_pure fun s2 hs K hK => by simp only [aval, abuil, hv s2 hs x (by simp), hx, hv s2 hs y (by simp), hy]; exact hK⟩
        exact h.elim
      exact h.elim
    exact h.elim
  | _ => exact h.elim
end
open Go Go.RowKit Go.Proofs Th
attribute [local go_sem] Above.cell
structure RScanS (w W : World) (s : ByteArray) (v : Value) (R : List Tf × Nat × Nat) (n j : Nat) (acc : List Tf) : Prop where
  u : Below w.heap.size w W
  le : j ≤ s.size
  room : s.size + 1 ≤ n + j
  row : OwnT W w.heap.size v acc
  q : scanGo s.data.toList n j acc = R
  len : acc.length ≤ j
  sm : ∀ t ∈ acc, t.text.size ≤ 100000 ∧ t.at_ ≤ 100000
theorem RScanS.finish {w W W2 : World} {s : ByteArray} {A : Option Addr} {m c : Nat} {R : List Tf × Nat × Nat} {n j : Nat} {acc : List Tf} (h : RScanS w W s (.slice A m c) R n j acc) (hs : s.size ≤ 50000) (hu : Below W.heap.size W W2) : ToksIn W2 (newIn w W2) A c acc ∧ Below w.heap.size w W2 := by
  have hr : OwnT W2 w.heap.size (.slice A m c) acc := h.row.keep (fun k hk => hu.block k (h.row.lt k hk).2); have hle := h.le; have hll := h.len; exact ⟨(hr.toks (by omega) h.sm (fun k hk => hr.lt k hk)).2, h.u.trans (hu.mono h.u.size)⟩
theorem RScanS.step {w W W3 w7 : World} {s : ByteArray} {A : Option Addr} {m c : Nat} {R : List Tf × Nat × Nat} {g j te : Nat} {acc : List Tf} {t : Tf} {v7 : Value} (h : RScanS w W s (.slice A m c) R (g + 1) j acc) (hu : Below W.heap.size W W3)
    (hO : OwnT w7 w.heap.size v7 (acc ++ [t])) (hg : W3.grownBy w7 (Value.slice A m c).ownBlock) (h1 : j < te) (h2 : te ≤ s.size) (ht : t.text.size ≤ 100000 ∧ t.at_ ≤ 100000)
    (hq : scanGo s.data.toList g te (acc ++ [t]) = R) : RScanS w w7 s v7 R g te (acc ++ [t]) := by
  have hroom := h.room; have hlen := h.len; have hb3 : Below w.heap.size W3 w7 := grown_lo hg (Nat.le_trans h.u.size hu.size) (fun k hk => (h.row.lt k hk).1); refine ⟨(h.u.trans (hu.mono h.u.size)).trans hb3, h2, by omega, hO, hq, by rw [List.length_append, List.length_singleton]; omega, fun x hx => ?_⟩; rcases List.mem_append.1 hx with hx | hx
  · exact h.sm x hx
  rw [List.mem_singleton.1 hx]; exact ht
theorem ref_Scan (s : ByteArray) (hs : s.size ≤ 50000) (w : World) : Calls Tryz.prog 13 #[.string s] w fun r w' => ScanPost w (scanF s.data.toList) r w' := by
  have HL := Keep.mk (size_listU s); by_cases hbig : 16384 < s.size
  · have HE := Keep.mk (show scanF s.data.toList = ([], 0, 3) by unfold scanF; rw [if_pos (by rw [HL.out]; exact hbig)])
    go_enter Tryz.func13, Tryz.ntmps13
    go_wp2
    refine bodyPost_ret (v := .tuple #[.slice none 0 0, .int .i64 0, .int .i64 3]) ?_ rfl ?_
    · simp [results, Tryz.results13, go_sem]
    rw [HE.out]; exact ⟨none, 0, rfl, toks_none _ _, Below.refl _ _⟩
  have hq : scanF s.data.toList = scanGo s.data.toList (s.size + 1) 0 [] := by unfold scanF; rw [if_neg (by rw [HL.out]; exact hbig), HL.out]
  rw [hq]; obtain ⟨R, hR⟩ : ∃ R, scanGo s.data.toList (s.size + 1) 0 [] = R := ⟨_, rfl⟩
  rw [hR]; have HN := Keep.mk (fun a ha W => r9_oneD s (by omega) 48 (Nat.le_refl _) 0 (by omega) a ha W); have HR := Keep.mk hR; clear hq hR; go_enter Tryz.func13, Tryz.ntmps13
  go_wp2_with fail
  go_loopg [5, 6] (s.size + 1) (fun gk v5 v6 wr => ∃ (j : Nat) (acc : List Tf), v6 = .int .i64 j ∧ Keep (RScanS w wr s v5 R gk j acc))
  case atStart => exact ⟨0, [], by go_num, ⟨⟨Below.refl _ _, Nat.zero_le _, by omega, OwnT.nil _ _, HR.out, Nat.le_refl _, fun _ h => absurd h List.not_mem_nil⟩⟩⟩
  case round =>
    rename_i v5 v6
    obtain ⟨j, acc, rfl, HS⟩ := hrel; obtain ⟨A, c, hv2, hc1, hc2⟩ := HS.out.row.form; subst hv2; have hroom := HS.out.room; have hle := HS.out.le; obtain ⟨g, rfl⟩ : ∃ g, gk = g + 1 := ⟨gk - 1, by omega⟩
    obtain ⟨t, ht⟩ : ∃ t, oneF s.data.toList 48 j = t := ⟨_, rfl⟩
    have HC := Keep.mk (HN.out j HS.out.le wr); have hok := oneF_ok s.data.toList 48 j (by rw [HL.out]; exact hle); have hlen := oneF_len s.data.toList 48 j (by rw [HL.out]; exact hle); have hq := HS.out.q; rw [scanGo_step, ht] at hq; rw [ht] at HC hok hlen; obtain ⟨⟨tk, tx, ta⟩, te, er⟩ := t; dsimp only at hq hlen; by_cases her : er = 0
    · subst her
      rw [if_neg (fun h => h rfl)] at hq; by_cases hk0 : tk = 0
      · subst hk0
        have HE := Keep.mk (hq.symm.trans (if_pos rfl)); clear hq hok hlen ht hroom hle; go_wp2_with fail
        refine HC.out.mono ?_; rintro r w1 ⟨hr, hb4⟩; simp only [tokV] at hr; subst hr; have HU := Keep.mk hb4; clear hb4; go_wp2
        refine bodyPost_ret (v := .tuple #[.slice A acc.length c, .int .i64 0, .int .i64 0]) ?_ rfl ?_
        · simp [results, Tryz.results13, go_sem]
        rw [HE.out]; refine ⟨A, c, rfl, ?_⟩; exact HS.out.finish hs (HU.out.trans (Below.mono (by first | exact al1 _ _ | exact three_below _ _ _ _ _ | exact Below.refl _ _) HU.out.size))
      have HE := Keep.mk (hq.symm.trans (if_neg hk0)).symm; have hnk : ¬ (tk : Int) = 0 := by omega
      have hfw := hok.fwd rfl hk0; have htl := hok.le; have hsz := hok.sz; have hpl := hok.pl; have hle1 := hlen rfl hk0; rw [HL.out] at htl hsz hpl; dsimp only at hfw htl hsz hpl; have HT := Keep.mk (show tx.size ≤ 100000 ∧ ta ≤ 100000 from ⟨by omega, by omega⟩); have HLN := Keep.mk (show j < te ∧ te ≤ s.size from ⟨hfw, htl⟩); clear hq hok hlen ht hroom hle hfw htl hsz hpl hle1; go_wp2_with fail
      refine HC.out.mono ?_; rintro r w1 ⟨hr, hb4⟩; simp only [tokV] at hr; subst hr; have HU := Keep.mk hb4; clear hb4; go_upto_region 10 with fail
      refine wp_world (fun W => Box W w1.heap.size (cells3 ⟨tk, tx, ta⟩) ∧ Below wr.heap.size wr W) ⟨Box.new _ _ rfl, HU.out.trans ((al1 _ _).mono HU.out.size)⟩ ?_; clear HU; rintro W2 ⟨h6, hU2⟩; obtain ⟨q0, q1, q2, ql⟩ := h6.p3l; have HU2 := Keep.mk (hU2.trans ((al1 W2 (.cells #[.int .i64 (tk : Int), .string tx, .int .i64 (ta : Int)] 61)).mono hU2.size)); have HX2 := Keep.mk (show Box (W2.alloc (.cells #[.int .i64 (tk : Int), .string tx, .int .i64 (ta : Int)] 61)) W2.heap.size (cells3 ⟨tk, tx, ta⟩) from Box.new _ _ rfl); clear h6 hU2; have HO2 := Keep.mk (HS.out.row.keep (w' := W2.alloc (.cells #[.int .i64 (tk : Int), .string tx, .int .i64 (ta : Int)] 61)) (fun k hk => HU2.out.block k (HS.out.row.lt k hk).2)); go_wp2_with (at_builtin; refine wpList_app_tok rfl (.tmp 28) (.tmp 30) rfl w.heap.size _ _ rfl HO2.out W2.heap.size ⟨tk, tx, ta⟩ rfl HX2.out.cell ?_ ?_ ?_)
      · have := HS.out.len; have := HS.out.le; omega
      · exact Nat.le_trans HS.out.u.size (by have := HU2.out.size; simpa using this)
      intro v7 w7 hO7 hg7 hv7; have HS7 := Keep.mk (HS.out.step HU2.out hO7 hg7 HLN.out.1 HLN.out.2 HT.out HE.out); clear hO7 hg7 hv7 HS HO2 HX2 HU2 q0 q1 q2 ql HC HN HR; go_wp2
      go_roundg g
      case rel => exact ⟨te, _, by go_num, HS7⟩
      case measure => omega
    have HE := Keep.mk (hq.symm.trans (if_pos her)); have hne : ¬ (er : Int) = 0 := by omega
    clear hq hok hlen ht hroom hle; go_wp2_with fail
    refine HC.out.mono ?_; rintro r w1 ⟨hr, hb4⟩; simp only [tokV] at hr; subst hr; have HU := Keep.mk hb4; clear hb4; go_wp2
    refine bodyPost_ret (v := .tuple #[.slice none 0 0, .int .i64 (te : Int), .int .i64 (er : Int)]) ?_ rfl ?_
    · simp [results, Tryz.results13, go_sem]
    rw [HE.out]; refine ⟨none, 0, rfl, toks_none _ _, ?_⟩; exact (HS.out.finish hs (HU.out.trans (Below.mono (by first | exact al1 _ _ | exact three_below _ _ _ _ _ | exact Below.refl _ _) HU.out.size))).2
end Go.Proofs.YtinknjhclpaieaaGreatDoor
