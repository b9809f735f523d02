/- Lemmas and contracts for the laws SpellSames, part 18 of 47: AbG. Conditions: those that each lemma names. -/
import Derived.Test.YtakncilicoefdaaGreatDoorPa17
set_option maxRecDepth 100000
set_option maxHeartbeats 4000000
namespace Go.Proofs.YtakncilicoefdaaGreatDoor
open Go Go.RowKit Go.Proofs Th
def owns : List FV → List Nat
  | [] => []
  | .own k _ :: r => k :: owns r
  | _ :: r => owns r
theorem owns_mem : ∀ {cs : List FV} {k n : Nat}, FV.own k n ∈ cs → k ∈ owns cs
  | .own k' n' :: r, k, n, h => by
    rcases List.mem_cons.1 h with h | h
    · injection h with h; subst h; exact List.mem_cons_self
    exact List.mem_cons_of_mem _ (owns_mem h)
  | .junk :: r, k, n, h => owns_mem (cs := r) ((List.mem_cons.1 h).resolve_left (fun e => by cases e))
  | .im _ :: r, k, n, h => owns_mem (cs := r) ((List.mem_cons.1 h).resolve_left (fun e => by cases e))
  | .ptr _ _ :: r, k, n, h => owns_mem (cs := r) ((List.mem_cons.1 h).resolve_left (fun e => by cases e))
  | .pin _ _ :: r, k, n, h => owns_mem (cs := r) ((List.mem_cons.1 h).resolve_left (fun e => by cases e))
theorem toIV_same {st st2 : Nat → AObj} {c : FV} (h : ∀ k n, c = .own k n → st2 k = st k) : toIV st2 c = toIV st c := by
  cases c with
  | own k n => simp only [toIV, h k n rfl]
  | _ => rfl
theorem allIV_same {st st2 : Nat → AObj} : ∀ {cs : List FV}, (∀ k n, FV.own k n ∈ cs → st2 k = st k) → allIV st2 cs = allIV st cs
  | [], _ => rfl
  | c :: r, h => by
    simp only [allIV, toIV_same (c := c) (fun k n e => h k n (e ▸ List.mem_cons_self)), allIV_same (cs := r) (fun k n e => h k n (List.mem_cons_of_mem _ e))]
def foot (P : Program) (op : Op) (d : Option Nat) (s : ASt) : List Nat := match op with
  | .alloc _ => d.toList
  | .box _ x => d.toList ++ owns [valOf s x]
  | .load t x => (match valOf s x with
    | .ptr b _ => b :: (match s.st b with
      | .box cs => (match tiOf P t with
        | some (.struct _ _) => owns cs
        | _ => [])
      | _ => [])
    | _ => [])
  | .store _ x y => (match valOf s x with
    | .ptr b _ => [b]
    | _ => []) ++ owns [valOf s y]
  | .build _ ps => owns (ps.toList.map fun p => valOf s p.2)
  | .buildSlice _ _ ps => owns (ps.toList.map fun p => valOf s p.2)
  | .indexAddr _ x _ => owns [valOf s x]
  | .call c => (match c.callee with
    | .builtin _ => d.toList ++ owns (c.args.toList.map (valOf s))
    | _ => owns (c.args.toList.map (valOf s)) ++ (match c.args.toList with
      | x :: _ => (match valOf s x with
        | .ptr b _ => b :: (match s.st b with
          | .box cs => owns cs
          | _ => [])
        | _ => [])
      | [] => []))
  | _ => []
def wrOp : Op → Bool
  | .alloc _ => true
  | .box _ _ => true
  | .store _ _ _ => true
  | .call c => (match c.callee with
    | .builtin .len => false
    | .builtin .min => false
    | _ => true)
  | _ => false
def touchOp : Op → Bool
  | .move _ => false
  | .assign _ => false
  | .pick _ _ _ => false
  | .nilCheck _ => false
  | .fieldAddr _ _ _ => false
  | .field _ _ _ => false
  | .binOp _ _ _ _ _ => false
  | .unOp _ _ _ => false
  | .convert _ _ _ => false
  | .index _ _ _ => false
  | .slice _ _ _ _ _ => false
  | .extract _ _ => false
  | .makeInterface _ _ => false
  | _ => true
def app (st : Nat → AObj) : Option (Nat × AObj) → Nat → AObj
  | none => st
  | some (k, x) => upd st k x
structure SameOn (P : Program) (op : Op) (d : Option Nat) (s s2 : ASt) : Prop where
  v : ∀ x ∈ op.operands, valOf s2 x = valOf s x
  o : ∀ k ∈ foot P op d s, s2.st k = s.st k
structure Lo (P : Program) (op : Op) (d : Option Nat) (s : ASt) (c : FV) (ch : Option (Nat × AObj)) : Prop where
  wr : wrOp op = false → ch = none
  ft : ∀ k x, ch = some (k, x) → k ∈ foot P op d s
  go : ∀ s2, SameOn P op d s s2 → ∀ K : FV → (Nat → AObj) → Prop, K c (app s2.st ch) → aval P op d s2 K
section
variable {P : Program} {d : Option Nat} {s : ASt} {K : FV → (Nat → AObj) → Prop}
theorem lo_pure {op : Op} {c : FV} (h : ∀ s2, SameOn P op d s s2 → ∀ K : FV → (Nat → AObj) → Prop, K c s2.st → aval P op d s2 K) : Lo P op d s c none := ⟨fun _ => rfl, fun _ _ h => (by cases h), h⟩
theorem owns_one {s : ASt} {x : Operand} {k n : Nat} (h : valOf s x = .own k n) : k ∈ owns [valOf s x] := owns_mem (n := n) (by rw [h]; exact List.mem_cons_self)
theorem afill_same {s s2 : ASt} (fs : List FI) : ∀ (ps : List (Nat × Operand)) (cells : List IV), (∀ p ∈ ps, valOf s2 p.2 = valOf s p.2) → (∀ k n, FV.own k n ∈ ps.map (fun p => valOf s p.2) → s2.st k = s.st k) → afill s2 fs cells ps = afill s fs cells ps
  | [], _, _, _ => rfl
  | (i, x) :: r, cells, h1, h2 => by
    have e1 := h1 (i, x) List.mem_cons_self; have e2 : toIV s2.st (valOf s x) = toIV s.st (valOf s x) := toIV_same (fun k n e => h2 k n (by rw [← e]; exact List.mem_cons_self)); have ih := fun cells => afill_same fs r cells (fun p hp => h1 p (List.mem_cons_of_mem _ hp)) (fun k n h => h2 k n (List.mem_cons_of_mem _ h))
    simp only at e1; simp only [afill, e1, e2, ih]
theorem aelems_same {s s2 : ASt} (esz : Nat) : ∀ (ps : List (Nat × Operand)) (k : Nat), (∀ p ∈ ps, valOf s2 p.2 = valOf s p.2) → (∀ k n, FV.own k n ∈ ps.map (fun p => valOf s p.2) → s2.st k = s.st k) → aelems s2 esz k ps = aelems s esz k ps
  | [], _, _, _ => rfl
  | (i, x) :: r, k, h1, h2 => by
    have e1 := h1 (i, x) List.mem_cons_self; have e2 : toIV s2.st (valOf s x) = toIV s.st (valOf s x) := toIV_same (fun k n e => h2 k n (by rw [← e]; exact List.mem_cons_self)); have ih := aelems_same esz r (k + 1) (fun p hp => h1 p (List.mem_cons_of_mem _ hp)) (fun k n h => h2 k n (List.mem_cons_of_mem _ h)); simp only at e1; simp only [aelems, e1, e2, ih]
theorem aload_loc {st : Nat → AObj} {ti : Option TI} {cs : List FV} {o : Nat} {K : FV → Prop} (h : aload st ti cs o K) : ∃ c, K c ∧ ∀ st2 : Nat → AObj, (∀ fs z, ti = some (.struct fs z) → ∀ k n, FV.own k n ∈ cs → st2 k = st k) → ∀ K2 : FV → Prop, K2 c → aload st2 ti cs o K2 := by
  unfold aload at h; split at h
  · rename_i fs z
    split at h
    · rename_i xs hxs
      refine ⟨_, h.2, fun st2 hs K2 hK => ?_⟩; unfold aload; have : allIV st2 ((cs.drop o).take z.length) = some xs := by rw [← hxs]; exact allIV_same (fun k n hm => hs fs z rfl k n (List.mem_of_mem_drop (List.mem_of_mem_take hm)))
      simp only [this]; exact ⟨h.1, hK⟩
    exact h.elim
  · rename_i ti' hns
    split at h
    · rename_i c hc
      refine ⟨c, h, fun st2 _ K2 hK => ?_⟩; unfold aload; split
      · rename_i he; exact absurd (Option.some.inj he) (by intro e; exact hns _ _ e)
      · simp only [hc]; exact hK
      rename_i he; cases he
    exact h.elim
  exact h.elim
theorem aidx_loc {s : ASt} {dd : Nat} {y : Option Operand} {K : Int → Prop} (h : aidx s dd y K) : ∃ n, K n ∧ ∀ s2 : ASt, (∀ x, y = some x → valOf s2 x = valOf s x) → ∀ K2 : Int → Prop, K2 n → aidx s2 dd y K2 := by
  cases y with
  | none => exact ⟨_, h, fun _ _ _ h => h⟩
  | some y =>
    simp only [aidx] at h; split at h
    · rename_i k n hv
      exact ⟨n, h, fun s2 hs K2 hK => by simp only [aidx, hs y rfl, hv]; exact hK⟩
    exact h.elim
theorem abin_loc {B : Prop} {op : BinOp} {u v : Value} {K : Value → Prop} (h : abin B op u v K) : ∃ r, K r ∧ ∀ K2 : Value → Prop, K2 r → abin B op u v K2 := by
  have hin : ∀ (k : IntKind) (n : Int) (K : Value → Prop), ainR k n K → ∃ r, K r ∧ ∀ K2 : Value → Prop, K2 r → ainR k n K2 := by
    intro k n K h; unfold ainR at h; split at h
    · rename_i hk
      exact ⟨_, h.2, fun K2 hK => by unfold ainR; rw [if_pos hk]; exact ⟨h.1, hK⟩⟩
    rename_i hk
    exact ⟨_, h, fun K2 hK => by unfold ainR; rw [if_neg hk]; exact hK⟩
  unfold abin at h; split at h
  · obtain ⟨rfl, h⟩ := h
    cases op <;> first
      | exact h.elim
      | (obtain ⟨r, h1, h2⟩ := hin _ _ _ h; exact ⟨r, h1, fun K2 hK => ⟨rfl, h2 K2 hK⟩⟩)
      | exact ⟨_, h.2, fun K2 hK => ⟨rfl, h.1, hK⟩⟩
      | exact ⟨_, h, fun K2 hK => ⟨rfl, hK⟩⟩
  · cases op <;> first
      | exact h.elim
      | exact ⟨_, h.2, fun K2 hK => ⟨h.1, hK⟩⟩
      | exact ⟨_, h, fun K2 hK => hK⟩
  · obtain ⟨hb, h⟩ := h
    cases op <;> first
      | exact h.elim
      | exact ⟨_, h, fun K2 hK => ⟨hb, hK⟩⟩
  exact h.elim
theorem aval_lo {op : Op} (h : aval P op d s K) : ∃ c ch, K c (app s.st ch) ∧ Lo P op d s c ch := by
  cases op with
  | move x => exact ⟨_, none, h, lo_pure fun s2 hs K hK => by simp only [aval, hs.v x (by simp [Op.operands])]; exact hK⟩
  | assign x => exact ⟨_, none, h, lo_pure fun s2 hs K hK => by simp only [aval, hs.v x (by simp [Op.operands])]; exact hK⟩
  | pick c x y =>
    simp only [aval] at h; split at h
    · rename_i t ht
      exact ⟨_, none, h, lo_pure fun s2 hs K hK => by simp only [aval, hs.v c (by simp [Op.operands]), hs.v x (by simp [Op.operands]), hs.v y (by simp [Op.operands]), ht]; exact hK⟩
    exact h.elim
  | nilCheck x =>
    simp only [aval] at h; split at h
    · rename_i b o hx; exact ⟨_, none, h, lo_pure fun s2 hs K hK => by simp only [aval, hs.v x (by simp [Op.operands]), hx]; exact hK⟩
    · rename_i b o hx; exact ⟨_, none, h, lo_pure fun s2 hs K hK => by simp only [aval, hs.v x (by simp [Op.operands]), hx]; exact hK⟩
    exact h.elim
  | alloc t =>
    simp only [aval] at h; split at h
    · rename_i dd
      obtain ⟨hne, h⟩ := h; split at h
      · rename_i ti hd hti
        refine ⟨_, some (dd, _), h, ⟨fun e => (by cases e), fun k x e => ?_, fun s2 hs K hK => ?_⟩⟩
        · injection e with e; injection e with e1 e2; subst e1; simp [foot]
        simp only [aval, hs.o dd (by simp [foot]), hd, hti]; exact ⟨hne, hK⟩
      · rename_i hd hti
        split at h
        · rename_i ar har
          refine ⟨_, some (dd, _), h, ⟨fun e => (by cases e), fun k x e => ?_, fun s2 hs K hK => ?_⟩⟩
          · injection e with e; injection e with e1 e2; subst e1; simp [foot]
          simp only [aval, hs.o dd (by simp [foot]), hd, hti, har]; exact ⟨hne, hK⟩
        exact h.elim
      exact h.elim
    exact h.elim
  | box t x =>
    simp only [aval] at h; split at h
    · rename_i dd
      obtain ⟨hne, h⟩ := h; split at h
      · rename_i cs hd hx
        refine ⟨_, some (dd, _), h.2, ⟨fun e => (by cases e), fun k x e => ?_, fun s2 hs K hK => ?_⟩⟩
        · injection e with e; injection e with e1 e2; subst e1; simp [foot]
        simp only [aval, hs.o dd (by simp [foot]), hd, hs.v x (by simp [Op.operands]), hx]; exact ⟨hne, h.1, hK⟩
      · rename_i c hd hc
        refine ⟨_, some (dd, _), h.2, ⟨fun e => (by cases e), fun k x e => ?_, fun s2 hs K hK => ?_⟩⟩
        · injection e with e; injection e with e1 e2; subst e1; simp [foot]
        simp only [aval, hs.o dd (by simp [foot]), hd, hs.v x (by simp [Op.operands])]; have hok : (valOf s x).ok s2.st := by
          have h1 := h.1; have hf : ∀ k ∈ owns [valOf s x], s2.st k = s.st k := fun k hk => hs.o k (by simp [foot, hk])
          revert h1 hf
          cases valOf s x with
          | own k n => intro h1 hf; simp only [FV.ok] at h1 ⊢; rw [hf k (by simp [owns])]; exact h1
          | _ => intro h1 _; exact h1
        exact ⟨hne, hok, hK⟩
      exact h.elim
    exact h.elim
  | build t ps =>
    simp only [aval] at h; split at h
    · rename_i fs z hti
      split at h
      · rename_i cs hcs
        refine ⟨_, none, h, lo_pure fun s2 hs K hK => ?_⟩; have : afill s2 fs (z.map lift) ps.toList = some cs := by
          rw [← hcs]; exact afill_same fs _ _ (fun p hp => hs.v _ (by simp only [Op.operands]; simp; exact ⟨p.1, by simpa using hp⟩)) (fun k n hm => hs.o k (owns_mem hm))
        simp only [aval, hti, this]; exact hK
      exact h.elim
    · rename_i hti
      split at h
      · rename_i ar har
        split at h
        · rename_i cs hcs
          refine ⟨_, none, h, lo_pure fun s2 hs K hK => ?_⟩; have : afill s2 (arrFI ar.1 ar.2.1) (ar.2.2.map lift) ps.toList = some cs := by
            rw [← hcs]; exact afill_same _ _ _ (fun p hp => hs.v _ (by simp only [Op.operands]; simp; exact ⟨p.1, by simpa using hp⟩)) (fun k n hm => hs.o k (owns_mem hm))
          simp only [aval, hti, har, this]; exact hK
        exact h.elim
      exact h.elim
    exact h.elim
  | buildSlice t n ps =>
    simp only [aval] at h; split at h
    · rename_i el esz hti
      split at h
      · rename_i es hes
        refine ⟨_, none, h.2, lo_pure fun s2 hs K hK => ?_⟩; have : aelems s2 esz 0 ps.toList = some es := by
          rw [← hes]; exact aelems_same esz _ _ (fun p hp => hs.v _ (by simp only [Op.operands]; simp; exact ⟨p.1, by simpa using hp⟩)) (fun k n hm => hs.o k (owns_mem hm))
        simp only [aval, hti, this]; exact ⟨h.1, hK⟩
      exact h.elim
    exact h.elim
  | load t x =>
    simp only [aval] at h; split at h
    · rename_i b o hx
      split at h
      · rename_i cs hb
        obtain ⟨c, hK, hl⟩ := aload_loc h; refine ⟨c, none, hK, lo_pure fun s2 hs K hK => ?_⟩; simp only [aval, hs.v x (by simp [Op.operands]), hx, hs.o b (by simp [foot, hx]), hb]; exact hl s2.st (fun fs z e k n hm => hs.o k (by simp only [foot, hx, hb, e]; exact List.mem_cons_of_mem _ (owns_mem hm))) _ hK
      exact h.elim
    · rename_i cs o hx
      obtain ⟨c, hK, hl⟩ := aload_loc h; refine ⟨c, none, hK, lo_pure fun s2 hs K hK => ?_⟩; simp only [aval, hs.v x (by simp [Op.operands]), hx]; exact hl s2.st (fun fs z e k n hm => by
        obtain ⟨y, _, hy⟩ := List.mem_map.1 hm; cases hy) _ hK
    exact h.elim
  | store t x y =>
    simp only [aval] at h; split at h
    · rename_i b o hx
      have hfb : b ∈ foot P (.store t x y) d s := by simp [foot, hx]
      split at h
      · rename_i cs hb
        split at h
        · rename_i fs z hti
          split at h
          · rename_i xs hy
            refine ⟨_, some (b, _), h.2, ⟨fun e => (by cases e), fun k x e => ?_, fun s2 hs K hK => ?_⟩⟩
            · injection e with e; injection e with e1 e2; subst e1; exact hfb
            simp only [aval, hs.v x (by simp [Op.operands]), hx, hs.o b hfb, hb, hti, hs.v y (by simp [Op.operands]), hy]; exact ⟨h.1, hK⟩
          exact h.elim
        · rename_i ti hns hti
          refine ⟨_, some (b, _), h.2, ⟨fun e => (by cases e), fun k x e => ?_, fun s2 hs K hK => ?_⟩⟩
          · injection e with e; injection e with e1 e2; subst e1; exact hfb
          simp only [aval, hs.v x (by simp [Op.operands]), hx, hs.o b hfb, hb, hs.v y (by simp [Op.operands])]; have hok : (valOf s y).ok s2.st := by
            have h1 := h.1.2; have hf : ∀ k ∈ owns [valOf s y], s2.st k = s.st k := fun k hk => hs.o k (by simp only [foot]; exact List.mem_append_right _ hk)
            revert h1 hf
            cases valOf s y with
            | own k n => intro h1 hf; simp only [FV.ok] at h1 ⊢; rw [hf k (by simp [owns])]; exact h1
            | _ => intro h1 _; exact h1
          split
          · rename_i fs z he; exact absurd (hti.symm.trans he) (by intro e; injection e with e; exact hns _ _ e)
          · exact ⟨⟨h.1.1, hok⟩, hK⟩
          rename_i he; exact absurd (hti.symm.trans he) (by intro e; cases e)
        rename_i hti
        split at h
        · rename_i ar xs har hy
          refine ⟨_, some (b, _), h.2, ⟨fun e => (by cases e), fun k x e => ?_, fun s2 hs K hK => ?_⟩⟩
          · injection e with e; injection e with e1 e2; subst e1; exact hfb
          simp only [aval, hs.v x (by simp [Op.operands]), hx, hs.o b hfb, hb, hti, har, hs.v y (by simp [Op.operands]), hy]; exact ⟨h.1, hK⟩
        exact h.elim
      exact h.elim
    exact h.elim
  | fieldAddr t x f =>
    simp only [aval] at h; split at h
    · rename_i fs z hti
      split at h
      · rename_i fi b o hfi hx; exact ⟨_, none, h, lo_pure fun s2 hs K hK => by simp only [aval, hti, hs.v x (by simp [Op.operands]), hx, hfi]; exact hK⟩
      · rename_i fi b o hfi hx; exact ⟨_, none, h, lo_pure fun s2 hs K hK => by simp only [aval, hti, hs.v x (by simp [Op.operands]), hx, hfi]; exact hK⟩
      exact h.elim
    exact h.elim
  | field t x f =>
    simp only [aval] at h; split at h
    · rename_i fs z hti
      split at h
      · rename_i fi cs hfi hx
        obtain ⟨hag, h⟩ := h; split at h
        · rename_i y hy
          exact ⟨_, none, h, lo_pure fun s2 hs K hK => by simp only [aval, hti, hs.v x (by simp [Op.operands]), hx, hfi, hy]; exact ⟨hag, hK⟩⟩
        exact h.elim
      exact h.elim
    exact h.elim
  | indexAddr t x i =>
    simp only [aval] at h; split at h
    · rename_i el esz hti
      split at h
      · rename_i es k n hx hi
        obtain ⟨h0, e, he, hel, hK⟩ := h; refine ⟨_, none, hK, lo_pure fun s2 hs K hK => ?_⟩; have : toSl s2.st (valOf s x) = some es := by
          rw [← hx]; unfold toSl; rw [toIV_same (fun k n e => hs.o k (owns_one e))]
        simp only [aval, hti, hs.v x (by simp [Op.operands]), this, hs.v i (by simp [Op.operands]), hi]; exact ⟨h0, e, he, hel, hK⟩
      exact h.elim
    · rename_i hti
      split at h
      · rename_i ar b o k n har hx hi
        exact ⟨_, none, h.2, lo_pure fun s2 hs K hK => by simp only [aval, hti, har, hs.v x (by simp [Op.operands]), hx, hs.v i (by simp [Op.operands]), hi]; exact ⟨h.1, hK⟩⟩
      exact h.elim
    exact h.elim
  | index t x i =>
    simp only [aval] at h; split at h
    · rename_i b k n ht hx hi
      obtain ⟨h0, c, hc, hK⟩ := h; exact ⟨_, none, hK, lo_pure fun s2 hs K hK => by simp only [aval, ht, hs.v x (by simp [Op.operands]), hx, hs.v i (by simp [Op.operands]), hi]; exact ⟨h0, c, hc, hK⟩⟩
    exact h.elim
  | slice t x lo hi mx =>
    cases mx with
    | some m => exact h.elim
    | none =>
      simp only [aval] at h; split at h
      · rename_i b ht hx
        obtain ⟨l, hl, hl2⟩ := aidx_loc h; obtain ⟨hh, ⟨hb, hK⟩, hh2⟩ := aidx_loc hl; refine ⟨_, none, hK, lo_pure fun s2 hs K hK => ?_⟩; simp only [aval, ht, hs.v x (by simp [Op.operands]), hx]; exact hl2 s2 (fun y e => hs.v y (by subst e; simp [Op.operands])) _ (hh2 s2 (fun y e => hs.v y (by subst e; simp [Op.operands])) _ ⟨hb, hK⟩)
      · rename_i el es fl ht hx
        split at h
        · rename_i el2 esz hti
          obtain ⟨l, hl, hl2⟩ := aidx_loc h; obtain ⟨hh, ⟨hb, hK⟩, hh2⟩ := aidx_loc hl; refine ⟨_, none, hK, lo_pure fun s2 hs K hK => ?_⟩; simp only [aval, ht, hti, hs.v x (by simp [Op.operands]), hx]; exact hl2 s2 (fun y e => hs.v y (by subst e; simp [Op.operands])) _ (hh2 s2 (fun y e => hs.v y (by subst e; simp [Op.operands])) _ ⟨hb, hK⟩)
        exact h.elim
      exact h.elim
  | binOp op t x y t' =>
    simp only [aval] at h; split at h
    · rename_i u v hx hy
      obtain ⟨r, hK, hr⟩ := abin_loc h; exact ⟨_, none, hK, lo_pure fun s2 hs K hK => by simp only [aval, hs.v x (by simp [Op.operands]), hx, hs.v y (by simp [Op.operands]), hy]; exact hr _ hK⟩
    · rename_i p q p' q' hx hy
      obtain ⟨hE, h⟩ := h; split at h
      · exact ⟨_, none, h, lo_pure fun s2 hs K hK => by simp only [aval, hs.v x (by simp [Op.operands]), hx, hs.v y (by simp [Op.operands]), hy]; exact ⟨hE, hK⟩⟩
      · exact ⟨_, none, h, lo_pure fun s2 hs K hK => by simp only [aval, hs.v x (by simp [Op.operands]), hx, hs.v y (by simp [Op.operands]), hy]; exact ⟨hE, hK⟩⟩
      exact h.elim
    exact h.elim
  | unOp op t x =>
    cases op <;> first
      | exact h.elim
      | (simp only [aval] at h
         split at h
         · rename_i b hx; exact ⟨_, none, h, lo_pure fun s2 hs K hK => by simp only [aval, hs.v x (by simp [Op.operands]), hx]; exact hK⟩
         exact h.elim)
  | convert t t' x =>
    simp only [aval] at h; split at h
    · rename_i d k k' n h1 h2 hx; exact ⟨_, none, h, lo_pure fun s2 hs K hK => by simp only [aval, h1, h2, hs.v x (by simp [Op.operands]), hx]; exact hK⟩
    exact h.elim
  | extract t i =>
    simp only [aval] at h; split at h
    · rename_i vs hx
      split at h
      · rename_i x hi; exact ⟨_, none, h, lo_pure fun s2 hs K hK => by simp only [aval, hs.v t (by simp [Op.operands]), hx, hi]; exact hK⟩
      exact h.elim
    exact h.elim
  | typeAssert x xT t ok =>
    cases ok
    · exact h.elim
    simp only [aval] at h; split at h
    · rename_i fs z t' u hti hx
      obtain ⟨ht, h⟩ := h; exact ⟨_, none, h, lo_pure fun s2 hs K hK => by simp only [aval, hs.v x (by simp [Op.operands]), hx, hti]; exact ⟨ht, hK⟩⟩
    exact h.elim
  | makeInterface t x =>
    simp only [aval] at h; split at h
    · exact h.elim
    · rename_i dd u hni ht hx
      refine ⟨_, none, h, lo_pure fun s2 hs K hK => ?_⟩; simp only [aval, hs.v x (by simp [Op.operands]), hx]; split
      · rename_i he; exact absurd (ht.symm.trans he) (by intro e; injection e with e; exact hni _ e)
      · rename_i he; injection he with he; subst he; exact hK
      rename_i he; exact (he _ _ ht rfl).elim
    exact h.elim
  | call c =>
    obtain ⟨callee, ⟨xs⟩, ⟨ts⟩⟩ := c; simp only [aval] at h; split at h
    · rename_i b
      unfold abuil at h; have hf : ∀ y ∈ xs, ∀ k n, valOf s y = .own k n → k ∈ foot P (.call ⟨.builtin b, ⟨xs⟩, ⟨ts⟩⟩) d s := fun y hy k n e => by
        simp only [foot]; exact List.mem_append_right _ (owns_mem (n := n) (by rw [← e]; exact List.mem_map_of_mem hy))
      have hv : ∀ s2, SameOn P (.call ⟨.builtin b, ⟨xs⟩, ⟨ts⟩⟩) d s s2 → ∀ y ∈ xs, valOf s2 y = valOf s y := fun s2 hs y hy => hs.v y (by simp [Op.operands, Call.operands, hy])
      have hsl : ∀ s2, SameOn P (.call ⟨.builtin b, ⟨xs⟩, ⟨ts⟩⟩) d s s2 → ∀ y ∈ xs, toSl s2.st (valOf s y) = toSl s.st (valOf s y) := fun s2 hs y hy => by
        unfold toSl; rw [toIV_same (fun k n e => hs.o k (hf y hy k n e))]
      split at h
      · rename_i x t
        split at h
        · rename_i bb ht hx
          exact ⟨_, none, h, lo_pure fun s2 hs K hK => by simp only [aval, abuil, hv s2 hs x (by simp), hx, ht]; exact hK⟩
        · rename_i el ht
          split at h
          · rename_i es hes
            exact ⟨_, none, h, lo_pure fun s2 hs K hK => by simp only [aval, abuil, hv s2 hs x (by simp), ht, hsl s2 hs x (by simp), hes]; exact hK⟩
          exact h.elim
        exact h.elim
      · rename_i x y t t'
        obtain ⟨rfl, h⟩ := h; split at h
        · rename_i e esz new dd hti hy
          split at h
          · rename_i k n hx
            have hk := hf x (by simp) k n hx; split at h
            · rename_i ty' z' es hst
              refine ⟨_, some (k, _), h.2, ⟨fun e => (by cases e), fun k' x' e => ?_, fun s2 hs K hK => ?_⟩⟩
              · injection e with e; injection e with e1 e2; subst e1; exact hk
              simp only [aval, abuil, hv s2 hs x (by simp), hv s2 hs y (by simp), hsl s2 hs y (by simp), hti, hy, hx, hs.o k hk, hst]; exact ⟨trivial, h.1, hK⟩
            exact h.elim
          · rename_i es hx
            split at h
            · rename_i hst
              refine ⟨_, some (dd, _), h.2, ⟨fun e => (by cases e), fun k' x' e => ?_, fun s2 hs K hK => ?_⟩⟩
              · injection e with e; injection e with e1 e2; subst e1; simp [foot]
              simp only [aval, abuil, hv s2 hs x (by simp), hv s2 hs y (by simp), hsl s2 hs y (by simp), hti, hy, hx, hs.o dd (by simp [foot]), hst]; exact ⟨trivial, h.1, hK⟩
            exact h.elim
          exact h.elim
        exact h.elim
      · rename_i x y
        split at h
        · rename_i k n k' m hx hy
          exact ⟨_, none, h, lo_pure fun s2 hs K hK => by simp only [aval, abuil, hv s2 hs x (by simp), hx, hv s2 hs y (by simp), hy]; exact hK⟩
        exact h.elim
      exact h.elim
    exact h.elim
  | _ => exact h.elim
end
end Go.Proofs.YtakncilicoefdaaGreatDoor
