/- Lemmas and contracts. Conditions: those that each lemma names. -/
import Derived.Test.YtakncilicoefdaaGreatDoorPc9
import Derived.Test.YtakncilicoefdaaGreatDoorPc4
import Derived.Test.YtakncilicoefdaaGreatDoorPc5
import Derived.Test.YtakncilicoefdaaGreatDoorPc1
import Derived.Test.YtakncilicoefdaaGreatDoorPc2
import Derived.Test.YtakncilicoefdaaGreatDoorPc7
import Derived.Test.YtakncilicoefdaaGreatDoorPc3
import Derived.WalkLawsBesides
import Derived.IntWalk
import Derived.Outline
import Derived.Deep.CutBlock
import Derived.Deep.DeepCutAuto
import Derived.Deep.LoopGhost
import Derived.StillTail
import Derived.Deep.RegionLawGrows
import Derived.Lib.Repeat
set_option maxRecDepth 100000
set_option maxHeartbeats 4000000
namespace Go.Proofs.YtakncilicoefdaaGreatDoor
open Go Go.RowKit Go.Proofs Th
attribute [local go_sem] Above.cell
open Go Go.RowKit Go.Proofs Th
open Go Go.RowKit Go.Proofs Th
structure GlobW (w : World) : Prop where
 num : GlobP w
 utf : Utf w
open Go Go.RowKit Go.Proofs Th
theorem cell_block {W W' : World} {g o : Nat} (h : W'.heap[g]? = W.heap[g]?) : W'.cell? ⟨g, o, none⟩ = W.cell? ⟨g, o, none⟩ := World.cell?_of_block h
/-! rows of a call's own -/
theorem own_block_lt {w : World} {base size n : Nat} {e : TypeId} {v : Value} {xs : List Value} (h : w.ownsRow base e size v n xs) : ∀ k, v.ownBlock = some k → base ≤ k ∧ k < w.heap.size := World.ownsRow.lt h
theorem row_keep {w w' : World} {base size n : Nat} {e : TypeId} {v : Value} {xs : List Value} (h : w.ownsRow base e size v n xs) (hb : ∀ k, v.ownBlock = some k → w'.heap[k]? = w.heap[k]?) : w'.ownsRow base e size v n xs := by
 refine ⟨h.1, ?_⟩; rcases h.2 with h2 | ⟨g, cap, cur, rfl, h4, h5, h6⟩
 ·exact Or.inl h2
 exact Or.inr ⟨g, cap, cur, rfl, h4, (hb g rfl).trans h5, h6⟩
open Go Go.RowKit Go.Proofs Th
def newIn (w w' : World) (g : Nat) : Prop := w.heap.size ≤ g ∧ g < w'.heap.size
end Go.Proofs.YtakncilicoefdaaGreatDoor
namespace Th
open Go Go.Lib
def Cv {α : Type} (a : Nat → Option α) (b : Option α) : Prop := ∀ x, b = some x → ∃ f0, ∀ f, f0 ≤ f → a f = some x
theorem Cv.const {α : Type} (b : Option α) : Cv (fun _ => b) b := fun _ h => ⟨0, fun _ _ => h⟩
theorem Cv.ite {α : Type} {c : Prop} [Decidable c] {a a' : Nat → Option α} {b b' : Option α} (h1 : Cv a b) (h2 : Cv a' b') : Cv (fun f => if c then a f else a' f) (if c then b else b') := by
 by_cases hc : c
 ·simp only [if_pos hc]; exact h1
 simp only [if_neg hc]; exact h2
theorem Cv.bind {α β : Type} {a : Nat → Option (PR α)} {b : Option (PR α)} {k : Nat → α → Nat → Option (PR β)} {k' : α → Nat → Option (PR β)} (h : Cv a b) (hk : ∀ n j, Cv (fun f => k f n j) (k' n j)) :
  Cv (fun f => bindP (a f) (k f)) (bindP b k') := by
 intro x hx; cases b with
 | none => cases hx
 | some p =>
  obtain ⟨f0, h0⟩ := h p rfl; cases p with
  | bad u v => exact ⟨f0, fun f hf => by simp only [h0 f hf]; exact hx⟩
  | ok n j =>
   obtain ⟨f1, h1⟩ := hk n j x hx; exact ⟨max f0 f1, fun f hf => by simp only [h0 f (by omega)]; exact h1 f (by omega)⟩
theorem Cv.want {β : Type} {E : Env} {i t : Nat} {s : ByteArray} {k : Nat → Nat → Option (PR β)} {k' : Nat → Option (PR β)} (hk : ∀ j, Cv (fun f => k f j) (k' j)) : Cv (fun f => wantP E i t s (k f)) (wantP E i t s k') := by
 unfold wantP; exact Cv.ite (hk _) (Cv.const _)
theorem Cv.kind {β : Type} {E : Env} {i t : Nat} {k : Nat → ByteArray → Nat → Option (PR β)} {k' : ByteArray → Nat → Option (PR β)} (hk : ∀ n j, Cv (fun f => k f n j) (k' n j)) : Cv (fun f => kindP E i t (k f)) (kindP E i t k') := by
 unfold kindP; exact Cv.ite (Cv.const _) (hk _ _)
theorem Cv.args {β : Type} {E : Env} {k : Nat → List ByteArray → Nat → Option (PR β)} {k' : List ByteArray → Nat → Option (PR β)} (hk : ∀ n j, Cv (fun f => k f n j) (k' n j)) : ∀ (n : Nat) (acc : List ByteArray) (i : Nat), Cv (fun f => argsP E (k f) n acc i) (argsP E k' n acc i) := by
 intro n; induction n with
 | zero => intro acc i; exact Cv.const _
 | succ n ih =>
  intro acc i; simp only [argsP]; exact Cv.ite (Cv.ite (ih _ _) (hk _ _)) (Cv.kind fun s j => Cv.ite (ih _ _) (hk _ _))
theorem step_Cv (r : Nat → Env → Job → Nat → Option (PR NJ)) (v : Env → Job → Nat → Option (PR NJ)) (h : ∀ E job i, Cv (fun f => r f E job i) (v E job i)) (E : Env) (job : Job) (i : Nat) : Cv (fun f => stepP (r f) E job i) (stepP v E job i) := by
 cases job with
 | parts texts filters places kids =>
  cases texts with
  | nil => exact Cv.const _
  | cons s texts =>
   cases filters with
   | nil => exact Cv.ite (Cv.const _) (h _ _ _)
   | cons g filters => exact Cv.ite (Cv.const _) (Cv.bind (h _ _ _) fun _ _ => h _ _ _)
 | _ =>
  simp only [stepP]; repeat' (first | exact Cv.const _ | exact h _ _ _ | refine Cv.bind ?_ ?_ | refine Cv.want ?_ | refine Cv.kind ?_ | refine Cv.args ?_ _ _ _ | refine Cv.ite ?_ ?_ | intro _)
theorem run_mono : ∀ (f : Nat) (E : Env) (job : Job) (i : Nat) (x : PR NJ), runP f E job i = some x → runP (f + 1) E job i = some x := by
 intro f; induction f with
 | zero => intro E job i x h; cases h
 | succ f ih =>
  intro E job i x h; -- a family that is runP f at first, runP (f + 1) from then on
  have key := step_Cv (fun _ => runP (f + 1)) (runP f) (fun E job i x hx => ⟨0, fun _ _ => ih E job i x hx⟩) E job i x h; obtain ⟨f0, h0⟩ := key; exact h0 f0 (Nat.le_refl _)
theorem run_le {f g : Nat} (h : f ≤ g) {E : Env} {job : Job} {i : Nat} {x : PR NJ} (hx : runP f E job i = some x) : runP g E job i = some x := by
 obtain ⟨k, rfl⟩ := Nat.exists_eq_add_of_le h; induction k with
 | zero => exact hx
 | succ k ih => exact run_mono _ _ _ _ _ (ih (by omega))
open Classical in
/-- what the parser tells with enough fuel -/
noncomputable def evP (E : Env) (job : Job) (i : Nat) : Option (PR NJ) := if h : ∃ x f, runP f E job i = some x then some h.choose else none
theorem evP_of {f : Nat} {E : Env} {job : Job} {i : Nat} {x : PR NJ} (h : runP f E job i = some x) : evP E job i = some x := by
 have he : ∃ x f, runP f E job i = some x := ⟨x, f, h⟩
 unfold evP; rw [dif_pos he]; obtain ⟨g, hg⟩ := he.choose_spec; have h1 := run_le (Nat.le_max_left f g) h; have h2 := run_le (Nat.le_max_right f g) hg; rw [h1] at h2; exact h2.symm
theorem of_evP {E : Env} {job : Job} {i : Nat} {x : PR NJ} (h : evP E job i = some x) : ∃ f, runP f E job i = some x := by
 unfold evP at h; split at h
 ·rename_i he
  injection h with h; subst h; exact he.choose_spec
 cases h
theorem evP_Cv (E : Env) (job : Job) (i : Nat) : Cv (fun f => runP f E job i) (evP E job i) := fun _ h => by
 obtain ⟨f, hf⟩ := of_evP h; exact ⟨f, fun g hg => run_le hg hf⟩
theorem evP_step (E : Env) (job : Job) (i : Nat) : evP E job i = stepP evP E job i := by
 cases h : stepP evP E job i with
 | some x =>
  obtain ⟨f0, h0⟩ := step_Cv (fun f => runP f) evP evP_Cv E job i x h; exact evP_of (f := f0 + 1) (h0 f0 (Nat.le_refl _))
 | none =>
  cases h2 : evP E job i with
  | none => rfl
  | some x =>
   obtain ⟨f, hf⟩ := of_evP h2; cases f with
   | zero => cases hf
   | succ f =>
    have key := step_Cv (fun _ => evP) (runP f) (fun E job i x hx => ⟨0, fun _ _ => evP_of hx⟩) E job i x hf; obtain ⟨f0, h0⟩ := key; have := h0 f0 (Nat.le_refl _); rw [h] at this; cases this
end Th
namespace Th
open Go Go.Lib
def wtE (E : Env) (i : Nat) : Nat := sumT (E.l.drop i)
def GoodT (E : Env) : Prop := ∀ t ∈ E.l, 1 ≤ t.text.size
theorem wt_step {E : Env} (hE : GoodT E) {i : Nat} (h : (tokAt E i).kind ≠ 0) : wtE E (i + 1) + (tokAt E i).text.size = wtE E i ∧ 1 ≤ (tokAt E i).text.size := by
 have hi : i < E.l.length := by
  rcases Nat.lt_or_ge i E.l.length with h1 | h1
  ·exact h1
  exfalso; apply h; unfold tokAt; rw [List.getD_eq_getElem?_getD, List.getElem?_eq_none h1]; rfl
 have ht : tokAt E i = E.l[i] := by unfold tokAt; rw [List.getD_eq_getElem?_getD, List.getElem?_eq_getElem hi]; rfl
 rw [ht]; refine ⟨?_, hE _ (List.getElem_mem hi)⟩; unfold wtE; rw [List.drop_eq_getElem_cons hi]; simp only [sumT, List.map_cons, List.sum_cons]; omega
theorem wt_next (E : Env) (i : Nat) : wtE E (i + 1) ≤ wtE E i := by
 unfold wtE; rcases Nat.lt_or_ge i E.l.length with h | h
 ·rw [List.drop_eq_getElem_cons h]; simp only [sumT, List.map_cons, List.sum_cons]; omega
 rw [List.drop_eq_nil_of_le h, List.drop_eq_nil_of_le (by omega)]; exact Nat.le_refl _
theorem wt_end (E : Env) {i : Nat} (h : E.l.length ≤ i) : wtE E i = 0 := by unfold wtE; rw [List.drop_eq_nil_of_le h]; rfl
theorem wt_len {E : Env} (hE : GoodT E) (i : Nat) : (E.l.drop i).length ≤ wtE E i := by
 have key : ∀ l : List Tf, (∀ t ∈ l, 1 ≤ t.text.size) → l.length ≤ sumT l := by
  intro l; induction l with
  | nil => intro _; exact Nat.le_refl _
  | cons a l ih =>
   intro h; have h1 := h a List.mem_cons_self; have h2 := ih (fun t ht => h t (List.mem_cons_of_mem _ ht)); simp only [sumT, List.map_cons, List.sum_cons, List.length_cons] at h2 ⊢; omega
 exact key _ (fun t ht => hE t (List.mem_of_mem_drop ht))
theorem tok_pos {E : Env} (h : GoodT E) (i : Nat) (hk : (tokAt E i).kind ≠ 0) : (tokAt E i).text.size ≤ wtE E i := by
 obtain ⟨h1, _⟩ := wt_step h hk; omega
theorem envOf_good (g : List UInt8) (b : Nat) : GoodT (envOf g b) ∧ wtE (envOf g b) 0 ≤ g.length := by
 obtain ⟨h1, h2⟩ := scanF_sum g; exact ⟨h2, by unfold wtE; rw [List.drop_zero]; exact h1⟩
theorem parts_len (q : List UInt8) : ((partsF q).1.texts = [] ∧ (partsF q).1.filters = []) ∨ (partsF q).1.texts.length = (partsF q).1.filters.length + 1 := by
 have key : ∀ (one : Nat → Tf × Nat × Nat) (n f a : Nat) (r : PartsR), r.texts.length = r.filters.length → (partsGo q one n f a r).texts.length = (partsGo q one n f a r).filters.length + 1 := by
  intro one n; induction n with
  | zero => intro f a r h; simp only [partsGo, List.length_append, List.length_singleton]; omega
  | succ n ih =>
   intro f a r h; simp only [partsGo]; split
   ·simp only [List.length_append, List.length_singleton]; omega
   split
   ·exact ih _ _ _ h
   split
   ·exact ih _ _ _ h
   exact ih _ _ _ (by simp only [List.length_append, List.length_singleton]; omega)
 unfold partsF; split
 ·exact Or.inr (key _ _ _ _ _ rfl)
 exact Or.inl ⟨rfl, rfl⟩
theorem parse_code (l : List UInt8) : 0 ≤ (parseN l).2 := by
 have hf : ∀ neg m e, 0 ≤ (fin neg m e).2 := fun neg m e => by unfold fin; split <;> first | exact Int.le_refl 0 | exact (show (0 : Int) ≤ 11 by decide)
 have hn : ∀ neg m e, 0 ≤ (norm neg m e).2 := fun neg m e => by
  unfold norm; split
  ·decide
  exact hf _ _ _
 have hc : ∀ neg u, 0 ≤ (coreN neg u).2 := fun neg u => by
  unfold coreN; split
  ·decide
  exact hn _ _ _
 unfold parseN; split
 ·exact hc _ _
 exact hc _ _
theorem parse_err (l : List UInt8) (h : (parseN l).2 ≠ 0) : (parseN l).2.toNat ≠ 0 := by
 have := parse_code l; omega
end Th
namespace Th
open Go Go.Lib
def Bd {α : Type} (E : Env) (i : Nat) (o : Option (PR α)) : Prop := ∀ a j, o = some (.ok a j) → i ≤ j ∧ j ≤ E.l.length
theorem Bd.fail {α : Type} {E : Env} {i k e : Nat} : Bd (α := α) E i (failP E k e) := fun a j h => by cases h
theorem Bd.ok {α : Type} {E : Env} {i k : Nat} {n : α} (h1 : i ≤ k) (h2 : k ≤ E.l.length) : Bd E i (okP n k) := fun a j h => by cases h; exact ⟨h1, h2⟩
theorem Bd.up {α : Type} {E : Env} {i k : Nat} {o : Option (PR α)} (h1 : i ≤ k) (h : Bd E k o) : Bd E i o := fun a j hj => ⟨Nat.le_trans h1 (h a j hj).1, (h a j hj).2⟩
theorem Bd.bind {α β : Type} {E : Env} {i : Nat} {x : Option (PR α)} {f : α → Nat → Option (PR β)} (h : Bd E i x) (hf : ∀ a j, i ≤ j → j ≤ E.l.length → Bd E j (f a j)) : Bd E i (bindP x f) := by
 cases x with
 | none => intro a j h; cases h
 | some y =>
  cases y with
  | bad a e => intro a j h; cases h
  | ok n j => exact (hf n j (h n j rfl).1 (h n j rfl).2).up (h n j rfl).1
theorem tok_in {E : Env} {i : Nat} (h : (tokAt E i).kind ≠ 0) : i < E.l.length := by
 rcases Nat.lt_or_ge i E.l.length with h1 | h1
 ·exact h1
 unfold tokAt at h; rw [List.getD_eq_getElem?_getD, List.getElem?_eq_none h1] at h; exact absurd rfl h
theorem isT_in {E : Env} {i k : Nat} {s : ByteArray} (hk : k ≠ 0) (h : isT E i k s) : i < E.l.length := tok_in (by rw [h.1]; exact hk)
theorem Bd.bindK {α β : Type} {E : Env} {i : Nat} {x : Option (PR α)} {f : α → Nat → Option (PR β)} (h : Bd E i x) (hf : ∀ a j, i ≤ j → j ≤ E.l.length → Bd E i (f a j)) : Bd E i (bindP x f) := by
 cases x with
 | none => intro a j h; cases h
 | some y =>
  cases y with
  | bad a e => intro a j h; cases h
  | ok n j => exact hf n j (h n j rfl).1 (h n j rfl).2
theorem Bd.want {β : Type} {E : Env} {i p k : Nat} {s : ByteArray} {f : Nat → Option (PR β)} (hk : k ≠ 0) (h : p + 1 ≤ E.l.length → Bd E i (f (p + 1))) : Bd E i (wantP E p k s f) := by
 unfold wantP; split
 ·rename_i hT; exact h (isT_in hk hT)
 exact Bd.fail
theorem Bd.kind {β : Type} {E : Env} {i p k : Nat} {f : ByteArray → Nat → Option (PR β)} (hk : k ≠ 0) (h : ∀ s, p + 1 ≤ E.l.length → Bd E i (f s (p + 1))) : Bd E i (kindP E p k f) := by
 unfold kindP; split
 ·exact Bd.fail
 rename_i hT
 exact h _ (tok_in (fun h0 => hT (Or.inl (by rw [h0]; exact Ne.symm hk))))
theorem Bd.isT {β : Type} {E : Env} {i p k : Nat} {s : ByteArray} {x y : Option (PR β)} (hk : k ≠ 0) (h : p + 1 ≤ E.l.length → Bd E i x) (h2 : Bd E i y) : Bd E i (if Th.isT E p k s then x else y) := by
 split
 ·rename_i hT; exact h (isT_in hk hT)
 exact h2
theorem Bd.tok {β : Type} {E : Env} {i p k : Nat} {x y : Option (PR β)} (hk : k ≠ 0) (h : p + 1 ≤ E.l.length → Bd E i x) (h2 : Bd E i y) : Bd E i (if (tokAt E p).kind = k then x else y) := by
 split
 ·rename_i hT; exact h (tok_in (by rw [hT]; exact hk))
 exact h2
theorem strength_in {E : Env} {i : Nat} (h : strength (tokAt E i) ≠ 0) : i < E.l.length := tok_in fun h0 => h (by unfold strength; rw [if_neg (by omega), if_pos (by omega)])
def JobIn (E : Env) (i : Nat) : Job → Prop
 | .sign _ => i < E.l.length
 | .word _ => i < E.l.length
 | .parts _ _ _ _ => i < E.l.length
 | _ => i ≤ E.l.length
theorem args_bd {β : Type} (E : Env) (b : Nat) (k : List ByteArray → Nat → Option (PR β)) (hk : ∀ a j, b ≤ j → j ≤ E.l.length → Bd E b (k a j)) : ∀ (n : Nat) (acc : List ByteArray) (i : Nat), b ≤ i → i ≤ E.l.length → Bd E b (argsP E k n acc i) := by
 intro n; induction n with
 | zero => intro acc i _ _ a j h; cases h
 | succ n ih =>
  intro acc i hb hi; simp only [argsP]; refine Bd.tok (by decide) (fun h => Bd.isT (by decide) (fun h2 => ih _ _ (by omega) h2) (hk _ _ (by omega) h)) (Bd.kind (by decide) fun s h => Bd.isT (by decide) (fun h2 => ih _ _ (by omega) h2) (hk _ _ (by omega) h))
theorem bd_all : ∀ (f : Nat) (E : Env) (job : Job) (i : Nat), JobIn E i job → Bd E i (runP f E job i) := by
 intro f; induction f with
 | zero => intro E job i _ a j h; cases h
 | succ f ih =>
  intro E job i hi; have run : ∀ job i, JobIn E i job → Bd E i (runP f E job i) := ih E
  cases job <;> simp only [JobIn] at hi <;> simp only [runP, stepP]
  case parts texts filters places kids =>
   cases texts with
   | nil => exact Bd.ok (Nat.le_succ i) hi
   | cons t texts =>
    simp only; split
    ·exact Bd.fail
    cases filters with
    | nil => exact run (.parts _ _ _ _) _ hi
    | cons g filters =>
     simp only; intro a j h; cases hx : runP f (envOf g (E.base + (tokAt E i).at_ + places.headD 0)) .whole 0 with
     | none => rw [hx] at h; cases h
     | some y =>
      rw [hx] at h; cases y with
      | bad a e => cases h
      | ok n j2 => exact run (.parts _ _ _ _) _ hi a j h
  case binLoop least top n =>
   by_cases h0 : strength (tokAt E i) < least ∨ top < strength (tokAt E i) ∨ strength (tokAt E i) = 0
   ·rw [if_pos h0]; exact Bd.ok (Nat.le_refl i) hi
   rw [if_neg h0]; have hlt := strength_in (E := E) (i := i) (fun h => h0 (Or.inr (Or.inr h))); refine Bd.up (Nat.le_succ i) ?_; repeat' split
   all_goals exact Bd.bind (run _ _ hlt) fun a j _ h => run _ _ h
  case quoted =>
   split
   ·exact Bd.fail
   rename_i hq; exact run (.parts _ _ _ _) _ (tok_in fun h0 => hq (by rw [h0]; decide))
  all_goals (repeat' first
   | with_reducible exact Bd.fail
   | (with_reducible refine Bd.ok ?_ ?_ <;> omega)
   | (with_reducible refine Bd.want (by decide) fun _ => ?_)
   | (with_reducible refine Bd.kind (by decide) fun _ _ => ?_)
   | (with_reducible refine Bd.isT (by decide) (fun _ => ?_) ?_)
   | (with_reducible refine Bd.tok (by decide) (fun _ => ?_) ?_)
   | (with_reducible refine Bd.bindK ?_ fun _ _ _ _ => ?_)
   | (with_reducible refine args_bd _ _ _ (fun _ _ _ _ => ?_) _ _ _ ?_ ?_ <;> try omega)
   | (with_reducible refine Bd.up ?_ (run _ _ ?_) <;> (try simp only [JobIn]) <;> omega)
   | split)
end Th
namespace Th
open Go Go.Lib
theorem oneG_at (L : List UInt8) (quote : Nat → Nat × Nat) (a : Nat) (ha : a ≤ L.length) : (oneG L quote a).1.at_ + (oneG L quote a).1.text.size ≤ L.length := by
 unfold oneG; cases hd : L.drop a with
 | nil => exact Nat.zero_le _
 | cons c r =>
  have hlen : (c :: r).length = L.length - a := by rw [← hd, List.length_drop]
  dsimp only; split
  ·split
   ·exact Nat.zero_le _
   show a + ByteArray.size _ ≤ _
   rw [bytes_size, List.length_take]; omega
  split
  ·exact Nat.zero_le _
  show a + ByteArray.size _ ≤ _
  rw [bytes_size, List.length_drop, List.length_take]; omega
theorem oneF_at (L : List UInt8) (d a : Nat) (ha : a ≤ L.length) : (oneF L d a).1.at_ + (oneF L d a).1.text.size ≤ L.length := by
 rw [oneF_eq]; exact oneG_at _ _ _ (skipA_le L a ha).2
theorem scanGo_at (L : List UInt8) : ∀ (n a : Nat) (acc : List Tf), a ≤ L.length → (∀ t ∈ acc, t.at_ + t.text.size ≤ L.length) → ∀ t ∈ (scanGo L n a acc).1, t.at_ + t.text.size ≤ L.length := by
 intro n; induction n with
 | zero => intro a acc _ h; exact h
 | succ n ih =>
  intro a acc ha h; simp only [scanGo]; split
  ·intro t ht; cases ht
  split
  ·exact h
  refine ih _ _ (oneF_ok L 48 a ha).le fun t ht => ?_
  rcases List.mem_append.1 ht with ht | ht
  ·exact h t ht
  rw [List.mem_singleton.1 ht]; exact oneF_at L 48 a ha
theorem scanF_at (L : List UInt8) : ∀ t ∈ (scanF L).1, t.at_ + t.text.size ≤ L.length := by
 unfold scanF; split
 ·intro t ht; cases ht
 exact scanGo_at L _ _ _ (Nat.zero_le _) (fun t ht => by cases ht)
theorem count_sum : ∀ (l : List Tf), (∀ t ∈ l, 1 ≤ t.text.size) → l.length ≤ sumT l
 | [], _ => Nat.zero_le _
 | t :: r, h => by
  have h1 := h t List.mem_cons_self; have h2 := count_sum r fun x hx => h x (List.mem_cons_of_mem _ hx)
  have h3 : sumT (t :: r) = t.text.size + sumT r := by unfold sumT; rw [List.map_cons, List.sum_cons]
  rw [List.length_cons, h3]; omega
theorem scanF_len (L : List UInt8) : (scanF L).1.length ≤ L.length := Nat.le_trans (count_sum _ (scanF_sum L).2) (scanF_sum L).1
structure PrtOk (n : Nat) (r : PartsR) : Prop where
 len : r.places.length = r.filters.length
 tx : ∀ t ∈ r.texts, t.length ≤ n
 pl : ∀ p ∈ r.places.zip r.filters, p.1 + p.2.length ≤ n
theorem partsGo_ok (L : List UInt8) (one : Nat → Tf × Nat × Nat) : ∀ (n f a : Nat) (r : PartsR), PrtOk L.length r → PrtOk L.length (partsGo L one n f a r) := by
 have hl : ∀ (r : PartsR) (x y : Nat), PrtOk L.length r → ∀ t ∈ r.texts ++ [(L.take x).drop y], t.length ≤ L.length := by
  intro r x y h t ht; rcases List.mem_append.1 ht with ht | ht
  ·exact h.tx t ht
  rw [List.mem_singleton.1 ht, List.length_drop, List.length_take]; omega
 intro n; induction n with
 | zero => intro f a r h; exact ⟨h.len, hl r _ _ h, h.pl⟩
 | succ n ih =>
  intro f a r h; simp only [partsGo]; split
  ·exact ⟨h.len, hl r _ _ h, h.pl⟩
  split
  ·exact ih _ _ _ h
  split
  ·exact ih _ _ _ h
  rename_i h1 h2 h3
  refine ih _ _ _ ⟨?_, hl r _ _ h, ?_⟩
  ·rw [List.length_append, List.length_append, h.len]; rfl
  intro p hp; have h40 : L[a + 1]? = some 40 := Decidable.of_not_not h3; have hlt := (List.getElem?_eq_some_iff.1 h40).1; rw [List.zip_append h.len] at hp; rcases List.mem_append.1 hp with hp | hp
  ·exact h.pl p hp
  rw [List.zip_cons_cons, List.zip_nil_left, List.mem_singleton] at hp; rw [hp]; show a + 2 + List.length _ ≤ _
  rw [List.length_drop, List.length_take]; omega
theorem partsF_ok (q : List UInt8) : PrtOk q.length (partsF q).1 := by
 unfold partsF; split
 ·exact partsGo_ok q _ _ _ _ _ ⟨rfl, fun t ht => (by cases ht), fun p hp => (by cases hp)⟩
 exact ⟨rfl, fun t ht => (by cases ht), fun p hp => (by cases hp)⟩
theorem PrtOk.at_ {n : Nat} {r : PartsR} (h : PrtOk n r) {k : Nat} (hf : k < r.filters.length) : ∃ hp : k < r.places.length, r.places[k] + r.filters[k].length ≤ n := by
 have hp : k < r.places.length := by rw [h.len]; exact hf
 refine ⟨hp, ?_⟩; have := h.pl (r.places[k], r.filters[k]) (by
  have hz : k < (r.places.zip r.filters).length := by rw [List.length_zip]; omega
  have := List.getElem_mem hz; rwa [List.getElem_zip] at this)
 exact this
end Th
namespace Go.Proofs.YtakncilicoefdaaGreatDoor
open Go Go.RowKit Go.Proofs Th
attribute [local go_sem] Above.cell
def signsK : List UInt8 := [32, 124, 61, 32, 43, 61, 32, 45, 61, 32, 42, 61, 32, 47, 61, 32, 61, 61, 32, 33, 61, 32, 60, 61, 32, 62, 61, 32, 47, 47, 32, 46, 46, 32]
theorem signs_has : ∀ l ∈ twoL, Lib.contains signsK (32 :: l ++ [32]) = true := by decide +kernel
def four (l : List UInt8) : Bool := match l with
 | a :: b :: c :: d :: _ => decide (a = 32 ∧ d = 32 ∧ b ≠ 32 ∧ c ≠ 32 → [b, c] ∈ twoL)
 | _ => true
theorem signs_only : ∀ i, i < 35 → four (signsK.drop i) = true := by decide +kernel
theorem signs_iff (b c : UInt8) (hb : b ≠ 32) (hc : c ≠ 32) : Lib.contains signsK [32, b, c, 32] = decide ([b, c] ∈ twoL) := by
 by_cases h : [b, c] ∈ twoL
 ·rw [decide_eq_true h]; exact signs_has _ h
 rw [decide_eq_false h]; unfold Lib.contains; rw [decide_eq_false_iff_not]; intro h0; rcases Lib.index_spec signsK [32, b, c, 32] with ⟨h1, _⟩ | ⟨i, h1, h2, h3, _⟩
 ·rw [h1] at h0; exact absurd h0 (by decide)
 have h4 := signs_only i (by have : signsK.length = 34 := rfl; omega); unfold Lib.occAt at h3; have h5 := List.isPrefixOf_iff_prefix.1 h3; obtain ⟨t, ht⟩ := h5; rw [← ht] at h4; exact h (of_decide_eq_true h4 ⟨rfl, rfl, hb, hc⟩)
theorem one_index (c : UInt8) : decide (0 ≤ Lib.indexByte oneL c) = decide (c ∈ oneL) := by
 have : ∀ n, n < 256 → decide (0 ≤ Lib.indexByte oneL (UInt8.ofNat n)) = decide (UInt8.ofNat n ∈ oneL) := by decide +kernel
 have h := this c.toNat c.toNat_lt; simpa using h
theorem sign_three (l : List UInt8) (h : Lib.hasPrefix l [47, 47, 61] = true) : signN l = 3 := by
 obtain ⟨t, ht⟩ := List.isPrefixOf_iff_prefix.1 h; unfold signN; rw [if_pos (by rw [← ht]; rfl)]
theorem sign_less (l : List UInt8) (h : Lib.hasPrefix l [47, 47, 61] = false) : ¬ l.take 3 = [47, 47, 61] := by
 intro h2; have : Lib.hasPrefix l [47, 47, 61] = true := List.isPrefixOf_iff_prefix.2 ⟨l.drop 3, by rw [← h2, List.take_append_drop]⟩; rw [h] at this; cases this
theorem sign_two {l : List UInt8} (h3 : ¬ l.take 3 = [47, 47, 61]) (h : l.take 2 ∈ twoL) : signN l = 2 := by unfold signN; rw [if_neg h3, if_pos h]
theorem sign_one {c : UInt8} {r : List UInt8} (h3 : ¬ (c :: r).take 3 = [47, 47, 61]) (h : ¬ (c :: r).take 2 ∈ twoL) : signN (c :: r) = if c ∈ oneL then 1 else 0 := by unfold signN; rw [if_neg h3, if_neg h]
theorem two_no32 : ∀ l ∈ twoL, ∀ c ∈ l, c ≠ 32 := by decide
theorem head_two {s : ByteArray} (h : 1 < s.size) : ∃ r, s.data.toList = s[0] :: s[1] :: r := by
 obtain ⟨r, hr⟩ := head_at (s := s) (by omega); have hl := size_listU s; rw [hr, List.length_cons] at hl; cases hr2 : r with
 | nil => rw [hr2] at hl; simp at hl; omega
 | cons d x =>
  refine ⟨x, ?_⟩; have : s[1] = s.data.toList[1]'(by rw [size_listU]; exact h) := rfl; rw [hr, hr2, this]; congr 2
  simp [hr, hr2]
theorem idx_byte (c : UInt8) (w : World) : Calls Tryz.prog 102 #[.string ⟨#[124, 44, 46, 91, 93, 40, 41, 123, 125, 58, 59, 61, 60, 62, 43, 45, 42, 47, 37, 63]⟩, .int .u8 c.toNat] w fun r w' => ∃ z : Int, r = .returned (.int .i64 z) ∧ w' = w ∧ (0 ≤ z ↔ c ∈ oneL) := by
 refine (Tryz.strings_IndexByte ⟨#[124, 44, 46, 91, 93, 40, 41, 123, 125, 58, 59, 61, 60, 62, 43, 45, 42, 47, 37, 63]⟩ (c.toNat : Int) w).mono ?_; rintro r w' ⟨rfl, rfl⟩; refine ⟨_, rfl, rfl, ?_⟩; have h := one_index c; have e : ((c.toNat : Int)).toNat.toUInt8 = c := by simp
 rw [e]; show 0 ≤ Lib.indexByte oneL c ↔ _
 rw [decide_eq_decide] at h; exact h
theorem cat_two {s : ByteArray} (h1 : 1 < s.size) : (⟨#[32]⟩ ++ s.extract 0 2 ++ ⟨#[32]⟩ : ByteArray).data.toList = ([32, s[0], s[1], 32] : List UInt8) := by
 obtain ⟨r1, hr1⟩ := head_two h1; rw [ba_append, ba_append, bx_from, hr1]; rfl
def sgB : ByteArray := ⟨#[32, 124, 61, 32, 43, 61, 32, 45, 61, 32, 42, 61, 32, 47, 61, 32, 61, 61, 32, 33, 61, 32, 60, 61, 32, 62, 61, 32, 47, 47, 32, 46, 46, 32]⟩
theorem sgB_size : sgB.size = 34 := rfl
theorem sgB_list : sgB.data.toList = signsK := rfl
theorem has_two {s : ByteArray} (h1 : 1 < s.size) (w : World) (m : Int) (hm : w.cell? ⟨4, 0, none⟩ = some (.int .i64 m)) :
  Calls Tryz.prog 105 #[.string sgB, .string (⟨#[32]⟩ ++ s.extract 0 2 ++ ⟨#[32]⟩)] w fun e w' => e = .returned (.bool (Lib.contains signsK ([32, s[0], s[1], 32] : List UInt8))) ∧ w' = w := by
 have hz : sgB.size < 4294967281 := by rw [sgB_size]; decide
 have hl := sgB_list; have hc := cat_two h1; generalize sgB = z at *; generalize (⟨#[32]⟩ ++ s.extract 0 2 ++ ⟨#[32]⟩ : ByteArray) = y at *; have h := Tryz.strings_Contains z y m w hz hm; rw [hl, hc] at h; exact h
theorem pre_three (s : ByteArray) (b : Bool) (hp : Lib.hasPrefix s.data.toList [47, 47, 61] = b) (w : World) : Calls Tryz.prog 84 #[.string s, .string ⟨#[47, 47, 61]⟩] w fun e w' => e = .returned (.bool b) ∧ w' = w := by
 refine (Tryz.strings_HasPrefix s ⟨#[47, 47, 61]⟩ w).mono ?_; rintro r w' ⟨rfl, rfl⟩; exact ⟨congrArg (fun x => Ending.returned (.bool x)) hp, rfl⟩
theorem ne32 {c : UInt8} (h : c ≠ 32) : ¬ (c.toNat : Int) = 32 := by
 intro h2; apply h; apply UInt8.toNat_inj.1; show c.toNat = 32; omega
theorem sign_slash (s : ByteArray) (w : World) (hp : Lib.hasPrefix s.data.toList [47, 47, 61] = true) : Calls Tryz.prog 77 #[.string s] w fun r w' => r = .returned (.int .i64 (signN s.data.toList : Int)) ∧ w' = w := by
 have HP2 := Keep.mk (pre_three s true hp w); have HN := Keep.mk (sign_three _ hp); clear hp; go_enter Tryz.func77, Tryz.ntmps77
 go_wp2_with fail
 refine HP2.out.mono ?_; rintro r w1 ⟨rfl, rfl⟩; go_wp2
 go_ret
 exact ⟨by rw [HN.out]; rfl, rfl⟩
theorem sign_short (s : ByteArray) (h0 : 0 < s.size) (w : World) (h1 : ¬ 1 < s.size) (hp : Lib.hasPrefix s.data.toList [47, 47, 61] = false)
  (hN : signN s.data.toList = if s[0] ∈ oneL then 1 else 0) : Calls Tryz.prog 77 #[.string s] w fun r w' => r = .returned (.int .i64 (signN s.data.toList : Int)) ∧ w' = w := by
 have HP2 := Keep.mk (pre_three s false hp w); have HI := Keep.mk (idx_byte s[0] w); by_cases ho : s[0] ∈ oneL
 ·have HN2 := Keep.mk (show signN s.data.toList = 1 by rw [hN, if_pos ho])
  have HI2 := Keep.mk (show Calls Tryz.prog 102 #[.string ⟨#[124, 44, 46, 91, 93, 40, 41, 123, 125, 58, 59, 61, 60, 62, 43, 45, 42, 47, 37, 63]⟩, .int .u8 s[0].toNat] w fun r w' => ∃ z : Int, r = .returned (.int .i64 z) ∧ 0 ≤ z ∧ w' = w from HI.out.mono fun r w' ⟨z, h1, h2, h3⟩ => ⟨z, h1, h3.2 ho, h2⟩); clear HI ho hN hp; go_enter Tryz.func77, Tryz.ntmps77
  go_wp2_with fail
  refine HP2.out.mono ?_; rintro r w1 ⟨rfl, rfl⟩; go_wp2_with fail
  refine HI2.out.mono ?_; rintro r w2 ⟨z, rfl, hz, rfl⟩; go_wp2
  go_ret
  exact ⟨by rw [HN2.out]; rfl, rfl⟩
 have HN2 := Keep.mk (show signN s.data.toList = 0 by rw [hN, if_neg ho]); have HI2 := Keep.mk (show Calls Tryz.prog 102 #[.string ⟨#[124, 44, 46, 91, 93, 40, 41, 123, 125, 58, 59, 61, 60, 62, 43, 45, 42, 47, 37, 63]⟩, .int .u8 s[0].toNat] w fun r w' => ∃ z : Int, r = .returned (.int .i64 z) ∧ z < 0 ∧ w' = w from HI.out.mono fun r w' ⟨z, h1, h2, h3⟩ => ⟨z, h1, by rcases Int.lt_or_le z 0 with h | h; exact h; exact absurd (h3.1 h) ho, h2⟩); clear HI ho hN hp; go_enter Tryz.func77, Tryz.ntmps77
 go_wp2_with fail
 refine HP2.out.mono ?_; rintro r w1 ⟨rfl, rfl⟩; go_wp2_with fail
 refine HI2.out.mono ?_; rintro r w2 ⟨z, rfl, hz, rfl⟩; go_wp2
 go_ret
 exact ⟨by rw [HN2.out]; rfl, rfl⟩
theorem sign_miss (s : ByteArray) (h1 : 1 < s.size) (w : World) (m : Int) (hm : w.cell? ⟨4, 0, none⟩ = some (.int .i64 m)) (hb : Lib.contains signsK ([32, s[0], s[1], 32] : List UInt8) = false) (hp : Lib.hasPrefix s.data.toList [47, 47, 61] = false)
  (hN : signN s.data.toList = if s[0] ∈ oneL then 1 else 0) : Calls Tryz.prog 77 #[.string s] w fun r w' => r = .returned (.int .i64 (signN s.data.toList : Int)) ∧ w' = w := by
 have HP2 := Keep.mk (pre_three s false hp w); have HI := Keep.mk (idx_byte s[0] w); have HC := Keep.mk (has_two h1 w m hm); rw [hb] at HC; by_cases ho : s[0] ∈ oneL
 ·have HN2 := Keep.mk (show signN s.data.toList = 1 by rw [hN, if_pos ho])
  have HI2 := Keep.mk (show Calls Tryz.prog 102 #[.string ⟨#[124, 44, 46, 91, 93, 40, 41, 123, 125, 58, 59, 61, 60, 62, 43, 45, 42, 47, 37, 63]⟩, .int .u8 s[0].toNat] w fun r w' => ∃ z : Int, r = .returned (.int .i64 z) ∧ 0 ≤ z ∧ w' = w from HI.out.mono fun r w' ⟨z, h1, h2, h3⟩ => ⟨z, h1, h3.2 ho, h2⟩); clear HI ho hN hp hb hm; go_enter Tryz.func77, Tryz.ntmps77
  go_wp2_with fail
  refine HP2.out.mono ?_; rintro r w1 ⟨rfl, rfl⟩; go_wp2_with fail
  refine HC.out.mono ?_; rintro r w3 ⟨rfl, rfl⟩; go_wp2_with fail
  refine HI2.out.mono ?_; rintro r w2 ⟨z, rfl, hz, rfl⟩; go_wp2
  go_ret
  exact ⟨by rw [HN2.out]; rfl, rfl⟩
 have HN2 := Keep.mk (show signN s.data.toList = 0 by rw [hN, if_neg ho]); have HI2 := Keep.mk (show Calls Tryz.prog 102 #[.string ⟨#[124, 44, 46, 91, 93, 40, 41, 123, 125, 58, 59, 61, 60, 62, 43, 45, 42, 47, 37, 63]⟩, .int .u8 s[0].toNat] w fun r w' => ∃ z : Int, r = .returned (.int .i64 z) ∧ z < 0 ∧ w' = w from HI.out.mono fun r w' ⟨z, h1, h2, h3⟩ => ⟨z, h1, by rcases Int.lt_or_le z 0 with h | h; exact h; exact absurd (h3.1 h) ho, h2⟩); clear HI ho hN hp hb hm; go_enter Tryz.func77, Tryz.ntmps77
 go_wp2_with fail
 refine HP2.out.mono ?_; rintro r w1 ⟨rfl, rfl⟩; go_wp2_with fail
 refine HC.out.mono ?_; rintro r w3 ⟨rfl, rfl⟩; go_wp2_with fail
 refine HI2.out.mono ?_; rintro r w2 ⟨z, rfl, hz, rfl⟩; go_wp2
 go_ret
 exact ⟨by rw [HN2.out]; rfl, rfl⟩
theorem sign_blank (s : ByteArray) (h1 : 1 < s.size) (w : World) (m : Int) (hm : w.cell? ⟨4, 0, none⟩ = some (.int .i64 m)) (hb : Lib.contains signsK ([32, s[0], s[1], 32] : List UInt8) = true) (h32 : s[0] ≠ 32) (h132 : s[1] = 32) (hp : Lib.hasPrefix s.data.toList [47, 47, 61] = false)
  (hN : signN s.data.toList = if s[0] ∈ oneL then 1 else 0) : Calls Tryz.prog 77 #[.string s] w fun r w' => r = .returned (.int .i64 (signN s.data.toList : Int)) ∧ w' = w := by
 have HP2 := Keep.mk (pre_three s false hp w); have HI := Keep.mk (idx_byte s[0] w); have HC := Keep.mk (has_two h1 w m hm); rw [hb] at HC; have b032 := ne32 h32; have b132 : (s[1].toNat : Int) = 32 := by rw [h132]; rfl
 by_cases ho : s[0] ∈ oneL
 ·have HN2 := Keep.mk (show signN s.data.toList = 1 by rw [hN, if_pos ho])
  have HI2 := Keep.mk (show Calls Tryz.prog 102 #[.string ⟨#[124, 44, 46, 91, 93, 40, 41, 123, 125, 58, 59, 61, 60, 62, 43, 45, 42, 47, 37, 63]⟩, .int .u8 s[0].toNat] w fun r w' => ∃ z : Int, r = .returned (.int .i64 z) ∧ 0 ≤ z ∧ w' = w from HI.out.mono fun r w' ⟨z, h1, h2, h3⟩ => ⟨z, h1, h3.2 ho, h2⟩); clear HI ho hN hp hb hm h32 h132; go_enter Tryz.func77, Tryz.ntmps77
  go_wp2_with fail
  refine HP2.out.mono ?_; rintro r w1 ⟨rfl, rfl⟩; go_wp2_with fail
  refine HC.out.mono ?_; rintro r w3 ⟨rfl, rfl⟩; go_wp2_with fail
  refine HI2.out.mono ?_; rintro r w2 ⟨z, rfl, hz, rfl⟩; go_wp2
  go_ret
  exact ⟨by rw [HN2.out]; rfl, rfl⟩
 have HN2 := Keep.mk (show signN s.data.toList = 0 by rw [hN, if_neg ho]); have HI2 := Keep.mk (show Calls Tryz.prog 102 #[.string ⟨#[124, 44, 46, 91, 93, 40, 41, 123, 125, 58, 59, 61, 60, 62, 43, 45, 42, 47, 37, 63]⟩, .int .u8 s[0].toNat] w fun r w' => ∃ z : Int, r = .returned (.int .i64 z) ∧ z < 0 ∧ w' = w from HI.out.mono fun r w' ⟨z, h1, h2, h3⟩ => ⟨z, h1, by rcases Int.lt_or_le z 0 with h | h; exact h; exact absurd (h3.1 h) ho, h2⟩); clear HI ho hN hp hb hm h32 h132; go_enter Tryz.func77, Tryz.ntmps77
 go_wp2_with fail
 refine HP2.out.mono ?_; rintro r w1 ⟨rfl, rfl⟩; go_wp2_with fail
 refine HC.out.mono ?_; rintro r w3 ⟨rfl, rfl⟩; go_wp2_with fail
 refine HI2.out.mono ?_; rintro r w2 ⟨z, rfl, hz, rfl⟩; go_wp2
 go_ret
 exact ⟨by rw [HN2.out]; rfl, rfl⟩
theorem sign_both (s : ByteArray) (h1 : 1 < s.size) (w : World) (m : Int) (hm : w.cell? ⟨4, 0, none⟩ = some (.int .i64 m)) (hb : Lib.contains signsK ([32, s[0], s[1], 32] : List UInt8) = true) (h32 : s[0] ≠ 32) (h132 : s[1] ≠ 32) (hp : Lib.hasPrefix s.data.toList [47, 47, 61] = false)
  (hN : signN s.data.toList = 2) : Calls Tryz.prog 77 #[.string s] w fun r w' => r = .returned (.int .i64 (signN s.data.toList : Int)) ∧ w' = w := by
 have HP2 := Keep.mk (pre_three s false hp w); have HC := Keep.mk (has_two h1 w m hm); rw [hb] at HC; have b032 := ne32 h32; have b132 := ne32 h132; have c032 : ((s[0].toNat : Int) != 32) = true := by rw [bne_iff_ne]; exact b032
 have c132 : ((s[1].toNat : Int) != 32) = true := by rw [bne_iff_ne]; exact b132
 have HN := Keep.mk hN; clear hb hm h32 h132 hp hN; go_enter Tryz.func77, Tryz.ntmps77
 go_wp2_with fail
 refine HP2.out.mono ?_; rintro r w1 ⟨rfl, rfl⟩; go_wp2_with fail
 refine HC.out.mono ?_; rintro r w3 ⟨rfl, rfl⟩; go_wp2
 go_ret
 exact ⟨by rw [HN.out]; rfl, rfl⟩
theorem tok_sign (s : ByteArray) (h0 : 0 < s.size) (h32 : s[0] ≠ 32) (w : World) (m : Int) (hm : w.cell? ⟨4, 0, none⟩ = some (.int .i64 m)) : Calls Tryz.prog 77 #[.string s] w fun r w' => r = .returned (.int .i64 (signN s.data.toList : Int)) ∧ w' = w := by
 cases hp : Lib.hasPrefix s.data.toList [47, 47, 61]
 ·have h3 := sign_less _ hp
  obtain ⟨r0, hr0⟩ := head_at h0; have H1 : ¬ s.data.toList.take 2 ∈ twoL → signN s.data.toList = if s[0] ∈ oneL then 1 else 0 := fun h2 => by rw [hr0] at h3 h2 ⊢; exact sign_one h3 h2
  by_cases h1 : 1 < s.size
  ·obtain ⟨r1, hr1⟩ := head_two h1
   have htk : s.data.toList.take 2 = [s[0], s[1]] := by rw [hr1]; rfl
   cases hb : Lib.contains signsK ([32, s[0], s[1], 32] : List UInt8)
   ·refine sign_miss s h1 w m hm hb hp (H1 fun h => ?_)
    rw [htk] at h; have := signs_has _ h; have this : Lib.contains signsK ([32, s[0], s[1], 32] : List UInt8) = true := this; rw [hb] at this; cases this
   by_cases h132 : s[1] = 32
   ·exact sign_blank s h1 w m hm hb h32 h132 hp (H1 fun h => by rw [htk] at h; exact two_no32 _ h s[1] (by simp) h132)
   refine sign_both s h1 w m hm hb h32 h132 hp (sign_two h3 ?_); rw [htk]; rw [signs_iff _ _ h32 h132] at hb; exact of_decide_eq_true hb
  exact sign_short s h0 w h1 hp (H1 fun h => by
   have := (two_head _ h).1; rw [List.length_take, size_listU] at this; omega)
 exact sign_slash s w hp
end Go.Proofs.YtakncilicoefdaaGreatDoor
namespace Th
open Go Go.Lib
mutual
/-- a node's depth -/
def depJ : NJ → Nat
 | .mk _ _ _ _ l _ => 1 + depsJ l
def depsJ : List NJ → Nat
 | [] => 0
 | n :: r => max (depJ n) (depsJ r)
end
theorem depsJ_get : ∀ (l : List NJ) (k : Nat) (h : k < l.length), depsJ (l.drop k) = max (depJ l[k]) (depsJ (l.drop (k + 1)))
 | l, k, h => by rw [List.drop_eq_getElem_cons h, depsJ]
end Th
namespace Go.Proofs.YtakncilicoefdaaGreatDoor
open Go Go.RowKit Go.Proofs Th
attribute [local go_sem] Above.cell
theorem name_iff (s : ByteArray) : isName s.data.toList = true ↔ 0 < s.size ∧ ∀ i (h : i < s.size), (if i = 0 then letF s[i] else nameC s[i]) = true := by
 by_cases h0 : s.size = 0
 ·have : s.data.toList = [] := List.eq_nil_of_length_eq_zero (by rw [size_listU]; exact h0)
  rw [this]; exact ⟨fun h => (by cases h), fun h => (by omega)⟩
 obtain ⟨r, hr⟩ := head_at (s := s) (by omega); have hg : ∀ i (h : i < s.size), s[i] = s.data.toList[i]'(by rw [size_listU]; exact h) := fun _ _ => rfl
 have hl := size_listU s; rw [hr, List.length_cons] at hl; rw [hr]; simp only [isName, Bool.and_eq_true, List.all_eq_true]; refine ⟨fun ⟨h1, h2⟩ => ⟨by omega, fun i hi => ?_⟩, fun ⟨h1, h2⟩ => ⟨?_, fun c hc => ?_⟩⟩
 ·by_cases hi0 : i = 0
  ·subst hi0; exact h1
  rw [if_neg hi0, hg i hi]; obtain ⟨k, rfl⟩ : ∃ k, i = k + 1 := ⟨i - 1, by omega⟩
  have : s.data.toList[k + 1]'(by rw [size_listU]; exact hi) = r[k]'(by omega) := by simp [hr]
  rw [this]; exact h2 _ (List.getElem_mem _)
 ·have := h2 0 h1
  simpa using this
 obtain ⟨k, hk, rfl⟩ := List.mem_iff_getElem.1 hc; have := h2 (k + 1) (by omega); rw [if_neg (by omega), hg (k + 1) (by omega)] at this; have e : s.data.toList[k + 1]'(by rw [size_listU]; omega) = r[k] := by simp [hr]
 rw [e] at this; exact this
end Go.Proofs.YtakncilicoefdaaGreatDoor
namespace Th
open Go Go.Lib
theorem scanGo_pre (L : List UInt8) : ∀ (n a : Nat) (acc l : List Tf) (x : Nat × Nat), scanGo L n a acc = (l, x) → x.2 = 0 → ∃ m, l = acc ++ m := by
 intro n; induction n with
 | zero => intro a acc l x h _; simp only [scanGo] at h; injection h with h1 h2; exact ⟨[], by rw [← h1, List.append_nil]⟩
 | succ n ih =>
  intro a acc l x h hx; simp only [scanGo] at h; split at h
  ·rename_i h1
   injection h with h2 h3; rw [← h3] at hx; exact absurd hx h1
  split at h
  ·injection h with h1 h2; exact ⟨[], by rw [← h1, List.append_nil]⟩
  obtain ⟨m, hm⟩ := ih _ _ _ _ h hx; exact ⟨(oneF L 48 a).1 :: m, by rw [hm, List.append_assoc]; rfl⟩
theorem tokP_kind (c : UInt8) (r : List UInt8) : (tokP (c :: r)).1 ≠ 5 := by
 simp only [tokP]; repeat' split
 all_goals exact fun h => by cases h
theorem skipA_zero (c : UInt8) (r : List UInt8) (hc : c = 34) : skipA (c :: r) 0 = 0 := by
 subst hc; rfl
theorem skipA_end (L : List UInt8) : skipA L L.length = L.length := by
 unfold skipA; rw [List.drop_length]; rfl
theorem scan_one (L : List UInt8) : okQ L = true ↔ ∃ t, scanF L = ([t], 0, 0) ∧ t.kind = 5 ∧ t.text.size = L.length := by
 constructor
 ·intro h
  unfold okQ at h; simp only [Bool.and_eq_true, decide_eq_true_eq] at h; obtain ⟨⟨h1, h2⟩, h3⟩ := h; cases L with
  | nil => cases h2
  | cons c r =>
   obtain rfl : c = 34 := by simpa using h2
   have ho : oneF (34 :: r) 48 0 = (⟨5, ⟨(34 :: r).toArray⟩, 0⟩, (34 :: r).length, 0) := by
    rw [oneF_eq, skipA_zero _ _ rfl]; unfold oneG; rw [List.drop_zero]; dsimp only; rw [if_pos rfl, h3, if_neg (by simp), Nat.sub_zero, List.take_length]
   have he : oneF (34 :: r) 48 (34 :: r).length = (noTf, (34 :: r).length, 0) := by
    rw [oneF_eq, skipA_end]; unfold oneG; rw [List.drop_length]
   refine ⟨⟨5, ⟨(34 :: r).toArray⟩, 0⟩, ?_, rfl, by rw [bytes_size]⟩; unfold scanF; rw [if_neg (by omega)]; rw [scanGo, ho]; dsimp only; rw [if_neg (by simp), if_neg (by decide)]; rw [show (34 :: r).length = r.length + 1 from rfl] at he ⊢; rw [scanGo, he]; dsimp only; rw [if_neg (by simp), if_pos (show noTf.kind = 0 from rfl)]; rfl
 rintro ⟨t, h, hk, hs⟩; unfold scanF at h; split at h
 ·injection h with h1 _; cases h1
 rename_i hle
 rw [scanGo] at h; split at h
 ·injection h with h1 _; cases h1
 rename_i h0
 split at h
 ·injection h with h1 _; cases h1
 rename_i hk0
 obtain ⟨m, hm⟩ := scanGo_pre L _ _ _ _ _ h rfl; obtain rfl : t = (oneF L 48 0).1 := by
  rw [List.nil_append, List.singleton_append] at hm; injection hm with hm _
 have hsk := skipA_le L 0 (Nat.zero_le _); rw [oneF_eq] at hk hs h0; generalize skipA L 0 = b at hk hs hsk h0; unfold oneG at hk hs h0; cases hd : L.drop b with
 | nil => rw [hd] at hk; cases hk
 | cons c r =>
  have hlen : (c :: r).length = L.length - b := by rw [← hd, List.length_drop]
  rw [List.length_cons] at hlen; rw [hd] at hk hs h0; dsimp only at hk hs h0; split at hk
  ·rename_i hc
   rw [if_pos hc] at hs h0; obtain ⟨q1, q2⟩ := quoteF_ok L 48 b (by omega); split at hk
   ·cases hk
   rename_i hq
   rw [if_neg hq, bytes_size, List.length_take, List.length_cons] at hs; obtain rfl : b = 0 := by omega
   rw [List.drop_zero] at hd; unfold okQ; simp only [Bool.and_eq_true, decide_eq_true_eq]; refine ⟨⟨by omega, by rw [hd, hc]; rfl⟩, ?_⟩; exact Prod.ext (by show (quoteF L 48 0).1 = L.length; omega) (by show (quoteF L 48 0).2 = 0; omega)
  split at hk
  ·cases hk
  exact absurd hk (tokP_kind c r)
theorem scanGo_ok (L : List UInt8) : ∀ (n a : Nat) (acc : List Tf), (scanGo L n a acc).2.2 = 0 → (scanGo L n a acc).2.1 = 0 := by
 intro n; induction n with
 | zero => intro a acc _; rfl
 | succ n ih =>
  intro a acc h; simp only [scanGo] at h ⊢; split
  ·rename_i h1; rw [if_pos h1] at h; exact absurd h h1
  rename_i h1
  rw [if_neg h1] at h; split
  ·rfl
  rename_i h2; rw [if_neg h2] at h; exact ih _ _ h
theorem scanF_ok (L : List UInt8) (h : (scanF L).2.2 = 0) : (scanF L).2.1 = 0 := by
 unfold scanF at h ⊢; split
 ·rfl
 rename_i h1; rw [if_neg h1] at h; exact scanGo_ok _ _ _ _ h
end Th
namespace Go.Proofs.YtakncilicoefdaaGreatDoor
open Go Go.RowKit Go.Proofs Th
attribute [local go_sem] Above.cell
def zeros (c : Int) : ByteArray := ⟨(List.replicate c.toNat (48 : UInt8)).toArray⟩
theorem zeros_size (c : Int) : (zeros c).size = c.toNat := by unfold zeros; show (List.replicate _ _).toArray.size = _; simp
theorem zeros_list (c : Int) : (zeros c).data.toList = List.replicate c.toNat 48 := by unfold zeros; simp
theorem repeatL_one (c : Nat) : Lib.repeatL [48] c = List.replicate c 48 := by
 induction c with
 | zero => rfl
 | succ c ih =>
  have : Lib.repeatL [48] (c + 1) = [48] ++ Lib.repeatL [48] c := by simp [Lib.repeatL]
  rw [this, ih]; rfl
theorem repeat0 (c : Int) (h0 : 0 ≤ c) (h1 : c ≤ 1000) (w : World) : Calls Tryz.prog 53 #[.string ⟨#[48]⟩, .int .i64 c] w fun r w' => r = .returned (.string (zeros c)) ∧ Below w.heap.size w w' := by
 obtain ⟨c, rfl⟩ := Int.eq_ofNat_of_zero_le h0; have h := Tryz.strings_Repeat ⟨#[48]⟩ c w (by omega) (by show 1 * c ≤ _; omega); refine h.mono ?_; rintro e w' ⟨rfl, hb⟩; refine ⟨?_, hb⟩; unfold zeros; show Ending.returned (.string ⟨(Lib.repeatL [48] c).toArray⟩) = _
 rw [repeatL_one]; rfl
def printN (m e : Int) : List UInt8 × Int := if right m e then (textN m e, 0) else ([], 10)
def printRes (p : List UInt8 × Int) : Value := .tuple #[.string ⟨p.1.toArray⟩, .int .i64 p.2]
theorem ret_print {a : ByteArray} {l : List UInt8} {c : Int} (h : a.data.toList = l) : Ending.returned (.tuple #[.string a, .int .i64 c]) = .returned (printRes (l, c)) := by
 unfold printRes; rw [← h]
theorem cut_list (p d D : ByteArray) (k n : Nat) (hn : n = D.size) : (p ++ D.extract 0 k ++ d ++ D.extract k n).data.toList = p.data.toList ++ D.data.toList.take k ++ d.data.toList ++ D.data.toList.drop k := by
 subst hn; have e1 : (D.extract 0 k).data.toList = D.data.toList.take k := by rw [Lib.extract_data]; simp
 have e2 : (D.extract k D.size).data.toList = D.data.toList.drop k := by
  rw [Lib.extract_data, List.take_of_length_le]; simp
 simp only [ByteArray.data_append, Array.toList_append, e1, e2]
theorem print_wrong (m e : Int) (hm : I64 m) (h : right m e = false) (w : World) (hg : GlobP w) : Calls Tryz.prog 27 #[.agg #[.int .i64 m, .int .i64 e]] w fun r w' =>
  r = .returned (printRes ([], 10)) ∧ Below w.heap.size w w' := by
 go_enter Tryz.func27, Tryz.ntmps27
 go_wp2_with fail
 refine (num_Right m e hm.lo hm.hi _ (hg.weak.below (al1 _ _))).mono ?_; rw [h]; rintro r w1 ⟨rfl, hb1⟩; obtain ⟨hc, hf⟩ := bcell hb1; go_wp2
 go_ret2
 exact ⟨rfl, up (al1 _ _) hb1⟩
theorem print_a (m e : Int) (hm : I64 m) (h : right m e = true) (he : 0 ≤ e) (hk : (nd m : Int) + e ≤ 21) (w : World) (hg : GlobP w) : Calls Tryz.prog 27 #[.agg #[.int .i64 m, .int .i64 e]] w fun r w' =>
  r = .returned (printRes (textN m e, 0)) ∧ Below w.heap.size w w' := by
 obtain ⟨A, S, hA1, hA2, hA3, hA4, hA5⟩ := fmt_size m e hm h; have hx := right_exp h; have hS : S.size ≤ 18 := by rw [hA3]; exact nd_le h
 have hS1 : 1 ≤ S.size := by rw [hA3]; exact nd_pos m
 have HL := Keep.mk (show S.data.toList = Lib.decDigits m.natAbs by rw [hA2]); rw [← hA3] at hk; have HA4 := Keep.mk hA4; have HA5 := Keep.mk hA5; have HA3 := Keep.mk hA3; clear hA1 hA2 hA3 hA4 hA5; obtain ⟨Z, hZ⟩ : ∃ Z, Z = zeros e := ⟨_, rfl⟩
 have hz3 : Z.size ≤ 1000 := by rw [hZ, zeros_size]; omega
 have hrep : Keep (∀ w, Calls Tryz.prog 53 #[.string ⟨#[48]⟩, .int .i64 e] w fun r w' => r = .returned (.string Z) ∧ Below w.heap.size w w') := ⟨fun w => by rw [hZ]; exact repeat0 _ (by omega) (by omega) w⟩; have HZ := Keep.mk (show Z.data.toList = List.replicate e.toNat 48 by rw [hZ, zeros_list]); clear hZ; have HF := Keep.mk (show textN m e = sgn m ++ S.data.toList ++ List.replicate e.toNat 48 by unfold textN; rw [if_pos ⟨he, by rw [← HA3.out]; exact hk⟩, HL.out]); by_cases hn : m < 0
 ·have HG := Keep.mk (show sgn m = [45] by unfold sgn; rw [if_pos hn])
  have hnF : (m < 0) = True := by simp; omega
  clear hn; go_enter Tryz.func27, Tryz.ntmps27
  go_wp2_with fail
  refine (num_Right m e hm.lo hm.hi _ (hg.weak.below (al1 _ _))).mono ?_; rw [h]; rintro r w1 ⟨rfl, hb1⟩; obtain ⟨hc, hf⟩ := bcell hb1; go_wp2_with fail
  refine (HA4.out _).mono ?_; rintro r w2 ⟨rfl, hb2'⟩; have hb2 := up hb1 hb2'; clear hc hf; obtain ⟨hc, hf⟩ := bcell hb2; go_wp2_with fail
  refine (HA5.out _ (hg.below (up (al1 _ _) hb2))).mono ?_; rintro r w3 ⟨rfl, hb3'⟩; have hb3 := up hb2 hb3'; clear hc hf; obtain ⟨hc, hf⟩ := bcell hb3; go_wp2_with fail
  refine (hrep.out _).mono ?_; rintro r w4 ⟨rfl, hb4'⟩; have hb4 := up hb3 hb4'; clear hc hf; obtain ⟨hc, hf⟩ := bcell hb4; go_wp2
  go_ret2
  refine ⟨ret_print ?_, up (al1 _ _) hb4⟩; rw [HF.out, HG.out, ← HZ.out]; simp
 have HG := Keep.mk (show sgn m = [] by unfold sgn; rw [if_neg hn]); have hnF : (m < 0) = False := by simp; omega
 clear hn; go_enter Tryz.func27, Tryz.ntmps27
 go_wp2_with fail
 refine (num_Right m e hm.lo hm.hi _ (hg.weak.below (al1 _ _))).mono ?_; rw [h]; rintro r w1 ⟨rfl, hb1⟩; obtain ⟨hc, hf⟩ := bcell hb1; go_wp2_with fail
 refine (HA4.out _).mono ?_; rintro r w2 ⟨rfl, hb2'⟩; have hb2 := up hb1 hb2'; clear hc hf; obtain ⟨hc, hf⟩ := bcell hb2; go_wp2_with fail
 refine (HA5.out _ (hg.below (up (al1 _ _) hb2))).mono ?_; rintro r w3 ⟨rfl, hb3'⟩; have hb3 := up hb2 hb3'; clear hc hf; obtain ⟨hc, hf⟩ := bcell hb3; go_wp2_with fail
 refine (hrep.out _).mono ?_; rintro r w4 ⟨rfl, hb4'⟩; have hb4 := up hb3 hb4'; clear hc hf; obtain ⟨hc, hf⟩ := bcell hb4; go_wp2
 go_ret2
 refine ⟨ret_print ?_, up (al1 _ _) hb4⟩; rw [HF.out, HG.out, ← HZ.out]; simp
theorem print_b1 (m e : Int) (hm : I64 m) (h : right m e = true) (he : e < 0) (he2 : -20 ≤ e) (hk : (nd m : Int) ≤ -e) (w : World) (hg : GlobP w) : Calls Tryz.prog 27 #[.agg #[.int .i64 m, .int .i64 e]] w fun r w' =>
  r = .returned (printRes (textN m e, 0)) ∧ Below w.heap.size w w' := by
 obtain ⟨A, S, hA1, hA2, hA3, hA4, hA5⟩ := fmt_size m e hm h; have hx := right_exp h; have hS : S.size ≤ 18 := by rw [hA3]; exact nd_le h
 have hS1 : 1 ≤ S.size := by rw [hA3]; exact nd_pos m
 have HL := Keep.mk (show S.data.toList = Lib.decDigits m.natAbs by rw [hA2]); rw [← hA3] at hk; have HA4 := Keep.mk hA4; have HA5 := Keep.mk hA5; have HA3 := Keep.mk hA3; clear hA1 hA2 hA3 hA4 hA5; obtain ⟨Z, hZ⟩ : ∃ Z, Z = zeros (1 - e - S.size) := ⟨_, rfl⟩
 have hZs : (Z.size : Int) = 1 - e - S.size := by rw [hZ, zeros_size]; omega
 have hz1 : (Z.size : Int) + S.size + e ≤ 1 := by omega
 have hz2 : 1 ≤ (Z.size : Int) + S.size + e := by omega
 have hz3 : Z.size ≤ 1000 := by omega
 have hrep : Keep (∀ w, Calls Tryz.prog 53 #[.string ⟨#[48]⟩, .int .i64 (1 - e - S.size)] w fun r w' => r = .returned (.string Z) ∧ Below w.heap.size w w') := ⟨fun w => by rw [hZ]; exact repeat0 _ (by omega) (by omega) w⟩; have HF := Keep.mk (show textN m e = sgn m ++ (Z ++ S).data.toList.take 1 ++ [46] ++ (Z ++ S).data.toList.drop 1 by
  have hp : pad m e = (Z ++ S).data.toList := by
   unfold pad; rw [if_pos (by rw [← HA3.out]; exact hk), ← HL.out, ← HA3.out, hZ]; simp [zeros_list]
  have hl : (((Z ++ S).data.toList.length : Int) + e).toNat = 1 := by
   have : (Z ++ S).data.toList.length = Z.size + S.size := by simp
   omega
  unfold textN; rw [if_neg (by omega), if_pos ⟨he, he2⟩, hp, hl])
 clear hZ hZs; by_cases hn : m < 0
 ·have HG := Keep.mk (show sgn m = [45] by unfold sgn; rw [if_pos hn])
  have hnF : (m < 0) = True := by simp; omega
  clear hn; go_enter Tryz.func27, Tryz.ntmps27
  go_wp2_with fail
  refine (num_Right m e hm.lo hm.hi _ (hg.weak.below (al1 _ _))).mono ?_; rw [h]; rintro r w1 ⟨rfl, hb1⟩; obtain ⟨hc, hf⟩ := bcell hb1; go_wp2_with fail
  refine (HA4.out _).mono ?_; rintro r w2 ⟨rfl, hb2'⟩; have hb2 := up hb1 hb2'; clear hc hf; obtain ⟨hc, hf⟩ := bcell hb2; go_wp2_with fail
  refine (HA5.out _ (hg.below (up (al1 _ _) hb2))).mono ?_; rintro r w3 ⟨rfl, hb3'⟩; have hb3 := up hb2 hb3'; clear hc hf; obtain ⟨hc, hf⟩ := bcell hb3; go_wp2_with fail
  refine (hrep.out _).mono ?_; rintro r w4 ⟨rfl, hb4'⟩; have hb4 := up hb3 hb4'; clear hc hf; obtain ⟨hc, hf⟩ := bcell hb4; go_wp2_with fail
  refine wp_region_from hb4 (by kernel_rfl) (by kernel_rfl) ?_; repeat (go_big_quiet_step (fail))
  refine wpQuiet_nil ?_; rintro _ ⟨x5, rfl⟩; have hb5 := x5.property; clear hc hf; obtain ⟨hc, hf⟩ := bcell hb5; go_wp2
  go_ret2
  refine ⟨ret_print ?_, up (al1 _ _) hb5⟩; rw [HF.out, HG.out]; rw [cut_list _ _ _ _ _ (by simp), show ((Z.size : Int) + S.size + e).toNat = 1 by omega]
 have HG := Keep.mk (show sgn m = [] by unfold sgn; rw [if_neg hn]); have hnF : (m < 0) = False := by simp; omega
 clear hn; go_enter Tryz.func27, Tryz.ntmps27
 go_wp2_with fail
 refine (num_Right m e hm.lo hm.hi _ (hg.weak.below (al1 _ _))).mono ?_; rw [h]; rintro r w1 ⟨rfl, hb1⟩; obtain ⟨hc, hf⟩ := bcell hb1; go_wp2_with fail
 refine (HA4.out _).mono ?_; rintro r w2 ⟨rfl, hb2'⟩; have hb2 := up hb1 hb2'; clear hc hf; obtain ⟨hc, hf⟩ := bcell hb2; go_wp2_with fail
 refine (HA5.out _ (hg.below (up (al1 _ _) hb2))).mono ?_; rintro r w3 ⟨rfl, hb3'⟩; have hb3 := up hb2 hb3'; clear hc hf; obtain ⟨hc, hf⟩ := bcell hb3; go_wp2_with fail
 refine (hrep.out _).mono ?_; rintro r w4 ⟨rfl, hb4'⟩; have hb4 := up hb3 hb4'; clear hc hf; obtain ⟨hc, hf⟩ := bcell hb4; go_wp2_with fail
 refine wp_region_from hb4 (by kernel_rfl) (by kernel_rfl) ?_; repeat (go_big_quiet_step (fail))
 refine wpQuiet_nil ?_; rintro _ ⟨x5, rfl⟩; have hb5 := x5.property; clear hc hf; obtain ⟨hc, hf⟩ := bcell hb5; go_wp2
 go_ret2
 refine ⟨ret_print ?_, up (al1 _ _) hb5⟩; rw [HF.out, HG.out]; rw [cut_list _ _ _ _ _ (by simp), show ((Z.size : Int) + S.size + e).toNat = 1 by omega]
theorem print_b2 (m e : Int) (hm : I64 m) (h : right m e = true) (he : e < 0) (he2 : -20 ≤ e) (hk : -e < (nd m : Int)) (w : World) (hg : GlobP w) : Calls Tryz.prog 27 #[.agg #[.int .i64 m, .int .i64 e]] w fun r w' =>
  r = .returned (printRes (textN m e, 0)) ∧ Below w.heap.size w w' := by
 obtain ⟨A, S, hA1, hA2, hA3, hA4, hA5⟩ := fmt_size m e hm h; have hx := right_exp h; have hS : S.size ≤ 18 := by rw [hA3]; exact nd_le h
 have hS1 : 1 ≤ S.size := by rw [hA3]; exact nd_pos m
 have HL := Keep.mk (show S.data.toList = Lib.decDigits m.natAbs by rw [hA2]); rw [← hA3] at hk; have HA4 := Keep.mk hA4; have HA5 := Keep.mk hA5; have HA3 := Keep.mk hA3; clear hA1 hA2 hA3 hA4 hA5; have HF := Keep.mk (show textN m e = sgn m ++ S.data.toList.take ((S.size : Int) + e).toNat ++ [46] ++ S.data.toList.drop ((S.size : Int) + e).toNat by
  have hp : pad m e = S.data.toList := by unfold pad; rw [if_neg (by rw [← HA3.out]; omega), HL.out]
  unfold textN; rw [if_neg (by omega), if_pos ⟨he, he2⟩, hp]; rfl)
 by_cases hn : m < 0
 ·have HG := Keep.mk (show sgn m = [45] by unfold sgn; rw [if_pos hn])
  have hnF : (m < 0) = True := by simp; omega
  clear hn; go_enter Tryz.func27, Tryz.ntmps27
  go_wp2_with fail
  refine (num_Right m e hm.lo hm.hi _ (hg.weak.below (al1 _ _))).mono ?_; rw [h]; rintro r w1 ⟨rfl, hb1⟩; obtain ⟨hc, hf⟩ := bcell hb1; go_wp2_with fail
  refine (HA4.out _).mono ?_; rintro r w2 ⟨rfl, hb2'⟩; have hb2 := up hb1 hb2'; clear hc hf; obtain ⟨hc, hf⟩ := bcell hb2; go_wp2_with fail
  refine (HA5.out _ (hg.below (up (al1 _ _) hb2))).mono ?_; rintro r w3 ⟨rfl, hb3'⟩; have hb3 := up hb2 hb3'; clear hc hf; obtain ⟨hc, hf⟩ := bcell hb3; go_wp2_with fail
  refine wp_region_from hb3 (by kernel_rfl) (by kernel_rfl) ?_; repeat (go_big_quiet_step (fail))
  refine wpQuiet_nil ?_; rintro _ ⟨x4, rfl⟩; have hb4 := x4.property; clear hc hf; obtain ⟨hc, hf⟩ := bcell hb4; go_wp2
  go_ret2
  refine ⟨ret_print ?_, up (al1 _ _) hb4⟩; rw [HF.out, HG.out]; rw [cut_list _ _ _ _ _ rfl]
 have HG := Keep.mk (show sgn m = [] by unfold sgn; rw [if_neg hn]); have hnF : (m < 0) = False := by simp; omega
 clear hn; go_enter Tryz.func27, Tryz.ntmps27
 go_wp2_with fail
 refine (num_Right m e hm.lo hm.hi _ (hg.weak.below (al1 _ _))).mono ?_; rw [h]; rintro r w1 ⟨rfl, hb1⟩; obtain ⟨hc, hf⟩ := bcell hb1; go_wp2_with fail
 refine (HA4.out _).mono ?_; rintro r w2 ⟨rfl, hb2'⟩; have hb2 := up hb1 hb2'; clear hc hf; obtain ⟨hc, hf⟩ := bcell hb2; go_wp2_with fail
 refine (HA5.out _ (hg.below (up (al1 _ _) hb2))).mono ?_; rintro r w3 ⟨rfl, hb3'⟩; have hb3 := up hb2 hb3'; clear hc hf; obtain ⟨hc, hf⟩ := bcell hb3; go_wp2_with fail
 refine wp_region_from hb3 (by kernel_rfl) (by kernel_rfl) ?_; repeat (go_big_quiet_step (fail))
 refine wpQuiet_nil ?_; rintro _ ⟨x4, rfl⟩; have hb4 := x4.property; clear hc hf; obtain ⟨hc, hf⟩ := bcell hb4; go_wp2
 go_ret2
 refine ⟨ret_print ?_, up (al1 _ _) hb4⟩; rw [HF.out, HG.out]; rw [cut_list _ _ _ _ _ rfl]
theorem print_c1 (m e : Int) (hm : I64 m) (h : right m e = true) (he : 0 ≤ e) (hk : 21 < (nd m : Int) + e) (w : World) (hg : GlobP w) : Calls Tryz.prog 27 #[.agg #[.int .i64 m, .int .i64 e]] w fun r w' =>
  r = .returned (printRes (textN m e, 0)) ∧ Below w.heap.size w w' := by
 obtain ⟨A, S, hA1, hA2, hA3, hA4, hA5⟩ := fmt_size m e hm h; have hx := right_exp h; have hS : S.size ≤ 18 := by rw [hA3]; exact nd_le h
 have hS1 : 1 ≤ S.size := by rw [hA3]; exact nd_pos m
 have HL := Keep.mk (show S.data.toList = Lib.decDigits m.natAbs by rw [hA2]); rw [← hA3] at hk; have HA4 := Keep.mk hA4; have HA5 := Keep.mk hA5; have HA3 := Keep.mk hA3; clear hA1 hA2 hA3 hA4 hA5; obtain ⟨Z, hZ⟩ : ∃ Z : ByteArray, Z = ⟨(Lib.itoa e).toArray⟩ := ⟨_, rfl⟩
 have hz3 : Z.size ≤ 1000 := by
  rw [hZ]; show (Lib.itoa e).toArray.size ≤ 1000
  rw [List.size_toArray]; exact itoa_len e hx.1 hx.2
 have hrep : Keep (∀ w, GlobP w → Calls Tryz.prog 54 #[.int .i64 e] w fun r w' => r = .returned (.string Z) ∧ Below w.heap.size w w') := ⟨fun w hg => by rw [hZ]; exact itoa e (by omega) (by omega) w hg⟩; have HZ := Keep.mk (show Z.data.toList = Lib.itoa e by rw [hZ]); clear hZ; have HF := Keep.mk (show textN m e = sgn m ++ S.data.toList ++ [101] ++ Lib.itoa e by unfold textN; rw [if_neg (by rw [← HA3.out]; omega), if_neg (by omega), HL.out]); by_cases hn : m < 0
 ·have HG := Keep.mk (show sgn m = [45] by unfold sgn; rw [if_pos hn])
  have hnF : (m < 0) = True := by simp; omega
  clear hn; go_enter Tryz.func27, Tryz.ntmps27
  go_wp2_with fail
  refine (num_Right m e hm.lo hm.hi _ (hg.weak.below (al1 _ _))).mono ?_; rw [h]; rintro r w1 ⟨rfl, hb1⟩; obtain ⟨hc, hf⟩ := bcell hb1; go_wp2_with fail
  refine (HA4.out _).mono ?_; rintro r w2 ⟨rfl, hb2'⟩; have hb2 := up hb1 hb2'; clear hc hf; obtain ⟨hc, hf⟩ := bcell hb2; go_wp2_with fail
  refine (HA5.out _ (hg.below (up (al1 _ _) hb2))).mono ?_; rintro r w3 ⟨rfl, hb3'⟩; have hb3 := up hb2 hb3'; clear hc hf; obtain ⟨hc, hf⟩ := bcell hb3; go_wp2_with fail
  refine (hrep.out _ (hg.below (up (al1 _ _) hb3))).mono ?_; rintro r w4 ⟨rfl, hb4'⟩; have hb4 := up hb3 hb4'; clear hc hf; obtain ⟨hc, hf⟩ := bcell hb4; go_wp2
  go_ret2
  refine ⟨ret_print ?_, up (al1 _ _) hb4⟩; rw [HF.out, HG.out, ← HZ.out]; simp
 have HG := Keep.mk (show sgn m = [] by unfold sgn; rw [if_neg hn]); have hnF : (m < 0) = False := by simp; omega
 clear hn; go_enter Tryz.func27, Tryz.ntmps27
 go_wp2_with fail
 refine (num_Right m e hm.lo hm.hi _ (hg.weak.below (al1 _ _))).mono ?_; rw [h]; rintro r w1 ⟨rfl, hb1⟩; obtain ⟨hc, hf⟩ := bcell hb1; go_wp2_with fail
 refine (HA4.out _).mono ?_; rintro r w2 ⟨rfl, hb2'⟩; have hb2 := up hb1 hb2'; clear hc hf; obtain ⟨hc, hf⟩ := bcell hb2; go_wp2_with fail
 refine (HA5.out _ (hg.below (up (al1 _ _) hb2))).mono ?_; rintro r w3 ⟨rfl, hb3'⟩; have hb3 := up hb2 hb3'; clear hc hf; obtain ⟨hc, hf⟩ := bcell hb3; go_wp2_with fail
 refine (hrep.out _ (hg.below (up (al1 _ _) hb3))).mono ?_; rintro r w4 ⟨rfl, hb4'⟩; have hb4 := up hb3 hb4'; clear hc hf; obtain ⟨hc, hf⟩ := bcell hb4; go_wp2
 go_ret2
 refine ⟨ret_print ?_, up (al1 _ _) hb4⟩; rw [HF.out, HG.out, ← HZ.out]; simp
theorem print_c2 (m e : Int) (hm : I64 m) (h : right m e = true) (he : e < -20) (hk : 0 < (nd m : Int)) (w : World) (hg : GlobP w) : Calls Tryz.prog 27 #[.agg #[.int .i64 m, .int .i64 e]] w fun r w' =>
  r = .returned (printRes (textN m e, 0)) ∧ Below w.heap.size w w' := by
 obtain ⟨A, S, hA1, hA2, hA3, hA4, hA5⟩ := fmt_size m e hm h; have hx := right_exp h; have hS : S.size ≤ 18 := by rw [hA3]; exact nd_le h
 have hS1 : 1 ≤ S.size := by rw [hA3]; exact nd_pos m
 have HL := Keep.mk (show S.data.toList = Lib.decDigits m.natAbs by rw [hA2]); rw [← hA3] at hk; have HA4 := Keep.mk hA4; have HA5 := Keep.mk hA5; have HA3 := Keep.mk hA3; clear hA1 hA2 hA3 hA4 hA5; obtain ⟨Z, hZ⟩ : ∃ Z : ByteArray, Z = ⟨(Lib.itoa e).toArray⟩ := ⟨_, rfl⟩
 have hz3 : Z.size ≤ 1000 := by
  rw [hZ]; show (Lib.itoa e).toArray.size ≤ 1000
  rw [List.size_toArray]; exact itoa_len e hx.1 hx.2
 have hrep : Keep (∀ w, GlobP w → Calls Tryz.prog 54 #[.int .i64 e] w fun r w' => r = .returned (.string Z) ∧ Below w.heap.size w w') := ⟨fun w hg => by rw [hZ]; exact itoa e (by omega) (by omega) w hg⟩; have HZ := Keep.mk (show Z.data.toList = Lib.itoa e by rw [hZ]); clear hZ; have HF := Keep.mk (show textN m e = sgn m ++ S.data.toList ++ [101] ++ Lib.itoa e by unfold textN; rw [if_neg (by rw [← HA3.out]; omega), if_neg (by omega), HL.out]); by_cases hn : m < 0
 ·have HG := Keep.mk (show sgn m = [45] by unfold sgn; rw [if_pos hn])
  have hnF : (m < 0) = True := by simp; omega
  clear hn; go_enter Tryz.func27, Tryz.ntmps27
  go_wp2_with fail
  refine (num_Right m e hm.lo hm.hi _ (hg.weak.below (al1 _ _))).mono ?_; rw [h]; rintro r w1 ⟨rfl, hb1⟩; obtain ⟨hc, hf⟩ := bcell hb1; go_wp2_with fail
  refine (HA4.out _).mono ?_; rintro r w2 ⟨rfl, hb2'⟩; have hb2 := up hb1 hb2'; clear hc hf; obtain ⟨hc, hf⟩ := bcell hb2; go_wp2_with fail
  refine (HA5.out _ (hg.below (up (al1 _ _) hb2))).mono ?_; rintro r w3 ⟨rfl, hb3'⟩; have hb3 := up hb2 hb3'; clear hc hf; obtain ⟨hc, hf⟩ := bcell hb3; go_wp2_with fail
  refine (hrep.out _ (hg.below (up (al1 _ _) hb3))).mono ?_; rintro r w4 ⟨rfl, hb4'⟩; have hb4 := up hb3 hb4'; clear hc hf; obtain ⟨hc, hf⟩ := bcell hb4; go_wp2
  go_ret2
  refine ⟨ret_print ?_, up (al1 _ _) hb4⟩; rw [HF.out, HG.out, ← HZ.out]; simp
 have HG := Keep.mk (show sgn m = [] by unfold sgn; rw [if_neg hn]); have hnF : (m < 0) = False := by simp; omega
 clear hn; go_enter Tryz.func27, Tryz.ntmps27
 go_wp2_with fail
 refine (num_Right m e hm.lo hm.hi _ (hg.weak.below (al1 _ _))).mono ?_; rw [h]; rintro r w1 ⟨rfl, hb1⟩; obtain ⟨hc, hf⟩ := bcell hb1; go_wp2_with fail
 refine (HA4.out _).mono ?_; rintro r w2 ⟨rfl, hb2'⟩; have hb2 := up hb1 hb2'; clear hc hf; obtain ⟨hc, hf⟩ := bcell hb2; go_wp2_with fail
 refine (HA5.out _ (hg.below (up (al1 _ _) hb2))).mono ?_; rintro r w3 ⟨rfl, hb3'⟩; have hb3 := up hb2 hb3'; clear hc hf; obtain ⟨hc, hf⟩ := bcell hb3; go_wp2_with fail
 refine (hrep.out _ (hg.below (up (al1 _ _) hb3))).mono ?_; rintro r w4 ⟨rfl, hb4'⟩; have hb4 := up hb3 hb4'; clear hc hf; obtain ⟨hc, hf⟩ := bcell hb4; go_wp2
 go_ret2
 refine ⟨ret_print ?_, up (al1 _ _) hb4⟩; rw [HF.out, HG.out, ← HZ.out]; simp
theorem num_print (m e : Int) (hm : I64 m) (w : World) (hg : GlobP w) : Calls Tryz.prog 27 #[.agg #[.int .i64 m, .int .i64 e]] w fun r w' =>
  r = .returned (printRes (printN m e)) ∧ Below w.heap.size w w' := by
 unfold printN; cases h : right m e
 ·exact print_wrong m e hm h w hg
 simp only [↓reduceIte]; have h1 := nd_pos m; by_cases he : 0 ≤ e
 ·by_cases hk : (nd m : Int) + e ≤ 21
  ·exact print_a m e hm h he hk w hg
  exact print_c1 m e hm h he (by omega) w hg
 by_cases he2 : -20 ≤ e
 ·by_cases hk : (nd m : Int) ≤ -e
  ·exact print_b1 m e hm h (by omega) he2 hk w hg
  exact print_b2 m e hm h (by omega) he2 (by omega) w hg
 exact print_c2 m e hm h (by omega) (by omega) w hg
end Go.Proofs.YtakncilicoefdaaGreatDoor
