/- Lemmas and contracts for the laws SyntaxBrackets, SyntaxJoins, SyntaxSides, part 15 of 44: SynTr. Conditions: those that each lemma names. -/
import Derived.Test.YtnhnpahoppbniaaDoorPb10
import Derived.Test.YtnhnpahoppbniaaDoorPb13
namespace Th
open Go Go.Lib
def Dead {α : Type} (o : Option (PR α)) : Prop := ∀ a j, o ≠ some (.ok a j)
theorem dead_fail {α : Type} {E : Env} {i e : Nat} : Dead (α := α) (failP E i e) := fun _ _ h => by cases h
theorem isT_tk {E : Env} {i k : Nat} {s : ByteArray} : isT E i k s ↔ tk (tokAt E i) = (k, s) := by
  unfold isT tk
  exact ⟨fun h => Prod.ext h.1 h.2, fun h => ⟨congrArg Prod.fst h, congrArg Prod.snd h⟩⟩
theorem kind_tk (t : Tf) : t.kind = (tk t).1 := rfl
theorem text_tk (t : Tf) : t.text = (tk t).2 := rfl
theorem tok_end {E : Env} {i : Nat} (h : E.l.length ≤ i) : tokAt E i = noTf := by
  unfold tokAt
  rw [List.getD_eq_getElem?_getD, List.getElem?_eq_none h]; rfl
def Bar (q : Nat × ByteArray) : Prop := q.1 = 0 ∨ (q.1 = 6 ∧ q.2 ≠ ⟨#[45]⟩ ∧ q.2 ≠ ⟨#[46]⟩ ∧ q.2 ≠ ⟨#[46, 46]⟩ ∧ q.2 ≠ ⟨#[40]⟩ ∧ q.2 ≠ ⟨#[91]⟩ ∧ q.2 ≠ ⟨#[123]⟩)
instance (q : Nat × ByteArray) : Decidable (Bar q) := by unfold Bar; exact inferInstance
theorem bar_dead {E : Env} {i : Nat} (h : Bar (tk (tokAt E i))) : evP E .filter i = failP E i 60 := by
  have hk : (tokAt E i).kind = 0 ∨ (tokAt E i).kind = 6 := h.imp id And.left
  have hn : ∀ k, k ≠ 0 → k ≠ 6 → (tokAt E i).kind ≠ k := fun k h0 h6 h => by omega
  have h1 : evP E .first i = failP E i 60 := by
    rw [evP_step]
    simp only [stepP]
    rw [if_neg (hn 3 (by decide) (by decide)), if_neg (hn 2 (by decide) (by decide)), if_neg (hn 5 (by decide) (by decide)), if_neg (hn 4 (by decide) (by decide)), if_neg (hn 1 (by decide) (by decide))]
    split
    · rename_i h6
      rcases h with h | ⟨_, h⟩
      · exact absurd (show (tokAt E i).kind = 0 from h) (by omega)
      · obtain ⟨ha, hb, hc, hd, he, hf⟩ := h
        rw [evP_step]
        simp only [stepP]
        rw [if_neg (show ¬ (tokAt E i).text = _ from hb), if_neg (show ¬ (tokAt E i).text = _ from hc), if_neg (show ¬ (tokAt E i).text = _ from hd), if_neg (show ¬ (tokAt E i).text = _ from he), if_neg (show ¬ (tokAt E i).text = _ from hf)]
    · rfl
  have h2 : evP E .minus i = failP E i 60 := by
    rw [evP_step]
    simp only [stepP]
    rw [if_neg, evP_step E .term]
    · simp only [stepP]
      rw [h1]; rfl
    · rintro ⟨h6, h7⟩
      rcases h with h | ⟨_, h, _⟩
      · exact absurd (show (tokAt E i).kind = 0 from h) (by omega)
      · exact h h7
  rw [evP_step]
  simp only [stepP]
  rw [if_neg (fun h => hn 1 (by decide) (by decide) h.1), evP_step E (.binary 1)]
  simp only [stepP]
  rw [h2]; rfl
theorem dead_run {α : Type} {f : Nat} {E : Env} {i : Nat} {k : NJ → Nat → Option (PR α)} (h : Bar (tk (tokAt E i))) : Dead (bindP (runP f E .filter i) k) := by
  intro a j hj
  cases hr : runP f E .filter i with
  | none => rw [hr] at hj; cases hj
  | some r =>
    have h2 := evP_of hr
    rw [bar_dead h] at h2
    cases h2
    rw [hr] at hj; cases hj
theorem bar_end {E : Env} {i : Nat} (h : i = E.l.length) : Bar (tk (tokAt E i)) := by rw [tok_end (by omega)]; exact .inl rfl
theorem dead_want {β : Type} {E : Env} {i k : Nat} {s : ByteArray} {f : Nat → Option (PR β)} (hk : k ≠ 0) (h : i = E.l.length) : Dead (wantP E i k s f) := by
  unfold wantP
  rw [if_neg]
  · exact dead_fail
  · intro hT; have := isT_in hk hT; omega
theorem dead_isT {β : Type} {E : Env} {i k : Nat} {s : ByteArray} {x y : Option (PR β)} (hk : k ≠ 0) (h : i = E.l.length) (hy : Dead y) : Dead (if isT E i k s then x else y) := by
  rw [if_neg]
  · exact hy
  · intro hT; have := isT_in hk hT; omega
def Stop (q : Nat × ByteArray) : Prop := q.1 = 0 ∨ q = (6, ⟨#[41]⟩) ∨ q = (6, ⟨#[93]⟩)
structure Ext (E E' : Env) (p : Nat) : Prop where
  tok : ∀ i, i < E.l.length → tk (tokAt E' (p + i)) = tk (tokAt E i)
  stop : Stop (tk (tokAt E' (p + E.l.length)))
  len : E.l.length ≤ E'.l.length
def Tr {α : Type} (E : Env) (p : Nat) (o o' : Option (PR α)) : Prop := ∀ a j, o = some (.ok a j) → j ≤ E.l.length ∧ o' = some (.ok a (p + j))
theorem Ext.kind {E E' : Env} {p : Nat} (hX : Ext E E' p) {i k : Nat} (hi : i ≤ E.l.length) (hk : k ≠ 0) (h6 : k ≠ 6) : (tokAt E' (p + i)).kind = k ↔ (tokAt E i).kind = k := by
  rcases Nat.lt_or_ge i E.l.length with h | h
  · rw [kind_tk, kind_tk, hX.tok i h]
  · obtain rfl : i = E.l.length := by omega
    rw [tok_end (Nat.le_refl _)]
    refine ⟨fun hh => ?_, fun hh => absurd hh.symm hk⟩
    rcases hX.stop with h | h | h
    · exact absurd (hh.symm.trans h) hk
    · exact absurd (hh.symm.trans (congrArg Prod.fst h)) h6
    · exact absurd (hh.symm.trans (congrArg Prod.fst h)) h6
theorem Ext.isT {E E' : Env} {p : Nat} (hX : Ext E E' p) {i k : Nat} {s : ByteArray} (hi : i ≤ E.l.length) (hk : k ≠ 0) (hs : (k, s) ≠ (6, ⟨#[41]⟩) ∧ (k, s) ≠ (6, ⟨#[93]⟩)) : isT E' (p + i) k s ↔ isT E i k s := by
  rcases Nat.lt_or_ge i E.l.length with h | h
  · rw [isT_tk, isT_tk, hX.tok i h]
  · obtain rfl : i = E.l.length := by omega
    refine ⟨fun hh => ?_, fun hh => absurd (isT_in hk hh) (Nat.lt_irrefl _)⟩
    rw [isT_tk] at hh
    rcases hX.stop with h | h | h
    · rw [hh] at h; exact absurd h hk
    · rw [hh] at h; exact absurd h hs.1
    · rw [hh] at h; exact absurd h hs.2
theorem strength_tk {t t' : Tf} (h : tk t = tk t') : strength t = strength t' := by
  unfold strength
  rw [kind_tk, text_tk, h]; rfl
theorem joined_tk {t t' : Tf} (h : tk t = tk t') (a b : NJ) : joinedJ t a b = joinedJ t' a b := by
  unfold joinedJ
  rw [strength_tk h, text_tk, h]; rfl
theorem stop_str {t : Tf} (h : Stop (tk t)) : strength t = 0 := by
  rcases h with h | h | h
  · have h : t.kind = 0 := h
    unfold strength
    rw [if_neg (by omega), if_pos (by omega)]
  · rw [strength_tk (t' := ⟨6, ⟨#[41]⟩, 0⟩) h]; decide
  · rw [strength_tk (t' := ⟨6, ⟨#[93]⟩, 0⟩) h]; decide
theorem Ext.str {E E' : Env} {p : Nat} (hX : Ext E E' p) {i : Nat} (hi : i ≤ E.l.length) : strength (tokAt E' (p + i)) = strength (tokAt E i) := by
  rcases Nat.lt_or_ge i E.l.length with h | h
  · exact strength_tk (hX.tok i h)
  · obtain rfl : i = E.l.length := by omega
    rw [stop_str hX.stop, tok_end (Nat.le_refl _)]; rfl
theorem Tr.fail {α : Type} {E : Env} {p i e : Nat} {o : Option (PR α)} : Tr E p (failP E i e) o := fun _ _ h => by cases h
theorem Tr.dead {α : Type} {E : Env} {p : Nat} {x o : Option (PR α)} (h : Dead x) : Tr E p x o := fun a j hj => absurd hj (h a j)
theorem Tr.ok {α : Type} {E : Env} {p k : Nat} {n : α} (h : k ≤ E.l.length) : Tr E p (okP n k) (okP n (p + k)) := fun _ _ e => by cases e; exact ⟨h, rfl⟩
theorem Tr.bind {α β : Type} {E : Env} {p : Nat} {x x' : Option (PR α)} {f f' : α → Nat → Option (PR β)} (h : Tr E p x x') (hf : ∀ a j, j ≤ E.l.length → Tr E p (f a j) (f' a (p + j))) : Tr E p (bindP x f) (bindP x' f') := by
  intro a j hj
  cases x with
  | none => cases hj
  | some y =>
    cases y with
    | bad a e => cases hj
    | ok n j2 =>
      obtain ⟨h1, h2⟩ := h n j2 rfl
      rw [h2]
      exact hf n j2 h1 a j hj
theorem Tr.ite {α : Type} {E : Env} {p : Nat} {c : Prop} [Decidable c] {x y x' y' : Option (PR α)} (h1 : c → Tr E p x x') (h2 : ¬ c → Tr E p y y') : Tr E p (if c then x else y) (if c then x' else y') := by
  split
  · exact h1 ‹_›
  · exact h2 ‹_›
theorem Tr.iff {α : Type} {E : Env} {p : Nat} {c c' : Prop} [Decidable c] [Decidable c'] {x y x' y' : Option (PR α)} (hc : c' ↔ c) (h1 : c → Tr E p x x') (h2 : ¬ c → Tr E p y y') : Tr E p (if c then x else y) (if c' then x' else y') := by
  by_cases h : c
  · rw [if_pos h, if_pos (hc.2 h)]; exact h1 h
  · rw [if_neg h, if_neg (fun hh => h (hc.1 hh))]; exact h2 h
theorem Tr.isT {α : Type} {E E' : Env} {p : Nat} (hX : Ext E E' p) {i k : Nat} {s : ByteArray} {x y x' y' : Option (PR α)} (hi : i ≤ E.l.length) (hk : k ≠ 0) (hs : (k, s) ≠ (6, ⟨#[41]⟩) ∧ (k, s) ≠ (6, ⟨#[93]⟩)) (h1 : i + 1 ≤ E.l.length → Tr E p x x') (h2 : Tr E p y y') :
    Tr E p (if Th.isT E i k s then x else y) (if Th.isT E' (p + i) k s then x' else y') := Tr.iff (hX.isT hi hk hs) (fun h => h1 (isT_in hk h)) fun _ => h2
theorem Tr.isB {α : Type} {E E' : Env} {p : Nat} (hX : Ext E E' p) {i k : Nat} {s : ByteArray} {x y x' y' : Option (PR α)} (hi : i ≤ E.l.length) (hk : k ≠ 0) (hd : i = E.l.length → Dead y) (h1 : i + 1 ≤ E.l.length → Tr E p x x') (h2 : Tr E p y y') :
    Tr E p (if Th.isT E i k s then x else y) (if Th.isT E' (p + i) k s then x' else y') := by
  rcases Nat.lt_or_ge i E.l.length with h | h
  · exact Tr.iff (by rw [isT_tk, isT_tk, hX.tok i h]) (fun h => h1 (isT_in hk h)) fun _ => h2
  · exact Tr.dead (dead_isT hk (by omega) (hd (by omega)))
theorem Tr.tok {α : Type} {E E' : Env} {p : Nat} (hX : Ext E E' p) {i k : Nat} {x y x' y' : Option (PR α)} (hi : i ≤ E.l.length) (hk : k ≠ 0) (h6 : k ≠ 6) (h1 : i + 1 ≤ E.l.length → (tokAt E' (p + i)).text = (tokAt E i).text → Tr E p x x') (h2 : Tr E p y y') :
    Tr E p (if (tokAt E i).kind = k then x else y) (if (tokAt E' (p + i)).kind = k then x' else y') :=
  Tr.iff (hX.kind hi hk h6) (fun h => by
    have hl := tok_in (E := E) (i := i) (by rw [h]; exact hk)
    exact h1 hl (congrArg Prod.snd (hX.tok i hl))) fun _ => h2
theorem Tr.tok6 {α : Type} {E E' : Env} {p : Nat} (hX : Ext E E' p) {i k e : Nat} {x x' y' : Option (PR α)} (hk : k ≠ 0) (h1 : i + 1 ≤ E.l.length → (tokAt E' (p + i)).text = (tokAt E i).text → Tr E p x x') :
    Tr E p (if (tokAt E i).kind = k then x else failP E i e) (if (tokAt E' (p + i)).kind = k then x' else y') := by
  by_cases h : (tokAt E i).kind = k
  · have hl := tok_in (E := E) (i := i) (by rw [h]; exact hk)
    have ht := hX.tok i hl
    rw [if_pos h, if_pos (show (tokAt E' (p + i)).kind = k from (congrArg Prod.fst ht).trans h)]
    exact h1 hl (congrArg Prod.snd ht)
  · rw [if_neg h]; exact Tr.fail
theorem Tr.want {α : Type} {E E' : Env} {p : Nat} (hX : Ext E E' p) {i k : Nat} {s : ByteArray} {f f' : Nat → Option (PR α)} (hk : k ≠ 0) (h : i + 1 ≤ E.l.length → Tr E p (f (i + 1)) (f' (p + (i + 1)))) : Tr E p (wantP E i k s f) (wantP E' (p + i) k s f') := by
  unfold wantP
  by_cases hT : Th.isT E i k s
  · have hl := isT_in hk hT
    rw [if_pos hT, if_pos (by rw [isT_tk, hX.tok i hl, ← isT_tk]; exact hT)]
    exact h hl
  · rw [if_neg hT]; exact Tr.fail
theorem Tr.kind {α : Type} {E E' : Env} {p : Nat} (hX : Ext E E' p) {i k : Nat} {f f' : ByteArray → Nat → Option (PR α)} (hk : k ≠ 0) (h : ∀ s, i + 1 ≤ E.l.length → Tr E p (f s (i + 1)) (f' s (p + (i + 1)))) : Tr E p (kindP E i k f) (kindP E' (p + i) k f') := by
  unfold kindP
  by_cases hT : (tokAt E i).kind ≠ k ∨ (k = 1 ∧ inB words13 (tokAt E i).text = true)
  · rw [if_pos hT]; exact Tr.fail
  · have hl : i < E.l.length := tok_in fun h0 => hT (Or.inl (by rw [h0]; exact Ne.symm hk))
    have ht := hX.tok i hl
    have h1 : (tokAt E' (p + i)).kind = (tokAt E i).kind := congrArg Prod.fst ht
    have h2 : (tokAt E' (p + i)).text = (tokAt E i).text := congrArg Prod.snd ht
    rw [h1, h2, if_neg hT, if_neg hT]
    exact h _ hl
theorem args_tr {α : Type} {E E' : Env} {p : Nat} (hX : Ext E E' p) {k k' : List ByteArray → Nat → Option (PR α)} (hk : ∀ a j, j ≤ E.l.length → Tr E p (k a j) (k' a (p + j))) : ∀ (n n' : Nat) (acc : List ByteArray) (i : Nat), n ≤ n' → i ≤ E.l.length → Tr E p (argsP E k n acc i) (argsP E' k' n' acc (p + i)) := by
  intro n
  induction n with
  | zero => intro n' acc i _ _ a j h; cases h
  | succ n ih =>
    intro n' acc i hn hi
    obtain ⟨m, rfl⟩ : ∃ m, n' = m + 1 := ⟨n' - 1, by omega⟩
    simp only [argsP]
    refine Tr.tok hX hi (by decide) (by decide) (fun h ht => ?_) (Tr.kind hX (by decide) fun s h => Tr.isT hX h (by decide) (by decide) (fun h2 => ih _ _ _ (by omega) h2) (hk _ _ h))
    rw [ht]
    exact Tr.isT hX h (by decide) (by decide) (fun h2 => ih _ _ _ (by omega) h2) (hk _ _ h)
def JobX (E E' : Env) (p i : Nat) : Job → Prop
  | .whole => i ≤ E.l.length ∧ p = 0 ∧ E'.l.length = E.l.length
  | .sign _ | .word _ | .parts _ _ _ _ => i < E.l.length
  | _ => i ≤ E.l.length
theorem tr_all : ∀ (f : Nat) (E E' : Env) (p : Nat), Ext E E' p → ∀ (job : Job) (i : Nat), JobX E E' p i job → Tr E p (runP f E job i) (runP f E' job (p + i)) := by
  intro f
  induction f with
  | zero => intro E E' p _ job i _ a j h; cases h
  | succ f ih =>
    intro E E' p hX job i hj
    have run : ∀ (job : Job) (i : Nat), JobX E E' p i job → Tr E p (runP f E job i) (runP f E' job (p + i)) := ih E E' p hX
    show Tr E p (stepP (runP f) E job i) (stepP (runP f) E' job (p + i))
    cases job <;> simp only [JobX] at hj
    case parts t fs pl kids =>
      cases t with
      | nil => exact Tr.ok hj
      | cons t0 t =>
        simp only [stepP]
        split
        · exact Tr.fail
        cases fs with
        | nil => exact run (.parts _ _ _ _) i hj
        | cons g fs =>
          dsimp only
          intro a j h
          cases hr : runP f (envOf g (E.base + (tokAt E i).at_ + pl.headD 0)) .whole 0 with
          | none => rw [hr] at h; cases h
          | some y =>
            rw [hr] at h
            cases y with
            | bad a e => cases h
            | ok n j2 =>
              have h2 := ih (envOf g (E.base + (tokAt E i).at_ + pl.headD 0)) (envOf g (E'.base + (tokAt E' (p + i)).at_ + pl.headD 0)) 0 ⟨fun i _ => by rw [Nat.zero_add]; rfl, .inl (by rw [Nat.zero_add]; exact congrArg Tf.kind (tok_end (E := envOf g (E'.base + (tokAt E' (p + i)).at_ + pl.headD 0)) (Nat.le_refl _))), Nat.le_refl _⟩ .whole 0 ⟨Nat.zero_le _, rfl, rfl⟩ n j2 hr
              rw [h2.2]
              exact run (.parts _ _ _ _) i hj a j h
    case quoted =>
      simp only [stepP]
      by_cases h5 : (tokAt E i).kind ≠ 5
      · rw [if_pos h5]; exact Tr.fail
      · have hl : i < E.l.length := tok_in fun h0 => h5 (by rw [h0]; decide)
        have ht := hX.tok i hl
        have h1 : (tokAt E' (p + i)).kind = (tokAt E i).kind := congrArg Prod.fst ht
        have h2 : (tokAt E' (p + i)).text = (tokAt E i).text := congrArg Prod.snd ht
        rw [h1, h2, if_neg h5, if_neg h5]
        exact run (.parts _ _ _ _) i hl
    case binLoop least top n =>
      simp only [stepP]
      rw [hX.str hj]
      refine Tr.ite (fun _ => Tr.ok hj) fun h0 => ?_
      have hl := strength_in (E := E) (i := i) (fun h => h0 (Or.inr (Or.inr h)))
      simp only [joined_tk (hX.tok i hl)]
      refine Tr.ite (fun _ => ?_) fun _ => Tr.ite (fun _ => ?_) fun _ => ?_
      all_goals exact Tr.bind (run _ (i + 1) hl) fun a j hj => run _ _ hj
    case whole =>
      obtain ⟨h1, rfl, h3⟩ := hj
      simp only [stepP]
      rw [h3]
      refine Tr.bind (run _ _ h1) fun a j hj => ?_
      rw [Nat.zero_add]
      refine Tr.ite (fun _ => Tr.fail) fun _ => ?_
      have := Tr.ok (p := 0) (n := a) hj
      rwa [Nat.zero_add] at this
    all_goals
      simp only [stepP, Nat.add_assoc]
      have hlen := hX.len
      repeat' first
        | with_reducible exact Tr.fail
        | with_reducible exact Tr.ok (by omega)
        | (with_reducible refine Tr.want hX (by decide) fun _ => ?_)
        | (with_reducible refine Tr.kind hX (by decide) fun _ _ => ?_)
        | (with_reducible refine Tr.isT hX (by omega) (by decide) (by decide) (fun _ => ?_) ?_)
        | (with_reducible refine Tr.isB hX (by omega) (by decide) (fun _ => ?_) (fun _ => ?_) ?_)
        | (with_reducible refine Tr.tok hX (by omega) (by decide) (by decide) (fun _ ht => ?_) ?_; (first | rw [ht] | skip))
        | (with_reducible refine Tr.tok6 hX (by decide) (fun _ ht => ?_); (first | rw [ht] | skip))
        | (with_reducible refine Tr.bind (run _ _ ?_) fun _ _ _ => ?_)
        | (with_reducible refine args_tr hX (fun _ _ _ => ?_) _ _ _ _ ?_ ?_)
        | (with_reducible refine run _ _ ?_)
        | (with_reducible refine Tr.ite (fun _ => ?_) fun _ => ?_)
        | (with_reducible refine dead_want (by decide) ?_)
        | (with_reducible exact dead_run (bar_end (by omega)))
        | (with_reducible refine dead_isT (by decide) (by omega) ?_)
        | (simp only [JobX]; omega)
        | omega
        | simp only [Nat.add_assoc]
theorem ev_tr {E E' : Env} {p : Nat} (hX : Ext E E' p) {job : Job} {i : Nat} (hj : JobX E E' p i job) {n : NJ} {j : Nat} (h : evP E job i = some (.ok n j)) : j ≤ E.l.length ∧ evP E' job (p + i) = some (.ok n (p + j)) := by
  obtain ⟨f, hf⟩ := of_evP h
  obtain ⟨h1, h2⟩ := tr_all f E E' p hX job i hj n j hf
  exact ⟨h1, evP_of h2⟩
end Th
