/- Lemmas and contracts for the laws SyntaxParses, part 20 of 50: SynTot. Conditions: those that each lemma names. -/
import Derived.Test.YtinknjhclpaieaaGreatDoorPs17
import Derived.Test.YtinknjhclpaieaaGreatDoorPs10
set_option maxRecDepth 100000
set_option maxHeartbeats 4000000
namespace Th
open Go Go.Lib
def wtE (E : Env) (i : Nat) : Nat := sumT (E.l.drop i)
def GoodT (E : Env) : Prop := ∀ t ∈ E.l, 1 ≤ t.text.size
theorem wt_step {E : Env} (hE : GoodT E) {i : Nat} (h : (tokAt E i).kind ≠ 0) : wtE E (i + 1) + (tokAt E i).text.size = wtE E i ∧ 1 ≤ (tokAt E i).text.size := by
  have hi : i < E.l.length := by
    rcases Nat.lt_or_ge i E.l.length with h1 | h1
    · exact h1
    exfalso; apply h; unfold tokAt; rw [List.getD_eq_getElem?_getD, List.getElem?_eq_none h1]; rfl
  have ht : tokAt E i = E.l[i] := by unfold tokAt; rw [List.getD_eq_getElem?_getD, List.getElem?_eq_getElem hi]; rfl
  rw [ht]; refine ⟨?_, hE _ (List.getElem_mem hi)⟩; unfold wtE; rw [List.drop_eq_getElem_cons hi]; simp only [sumT, List.map_cons, List.sum_cons]; omega
theorem wt_next (E : Env) (i : Nat) : wtE E (i + 1) ≤ wtE E i := by
  unfold wtE; rcases Nat.lt_or_ge i E.l.length with h | h
  · rw [List.drop_eq_getElem_cons h]; simp only [sumT, List.map_cons, List.sum_cons]; omega
  rw [List.drop_eq_nil_of_le h, List.drop_eq_nil_of_le (by omega)]; exact Nat.le_refl _
theorem wt_end (E : Env) {i : Nat} (h : E.l.length ≤ i) : wtE E i = 0 := by unfold wtE; rw [List.drop_eq_nil_of_le h]; rfl
def EndS (E : Env) (s : St) : Prop := s.err ≠ 0 → wtE E s.i = 0
structure BdR (E : Env) (b : Nat) (s : St) : Prop where
  w : wtE E s.i ≤ b
  e : EndS E s
theorem BdR.next {E : Env} {b : Nat} {s1 : St} (h : BdR E b s1) : BdR E b s1.next := by
  have := wt_next E s1.i; exact ⟨by have := h.w; show wtE E (s1.i + 1) ≤ _; omega, fun he => by have := h.e he; show wtE E (s1.i + 1) = 0; omega⟩
theorem BdR.fail {E : Env} {b : Nat} {s1 : St} (_h : BdR E b s1) (e : Nat) : BdR E b (failR E s1 e) := by
  have hw : wtE E (failR E s1 e).i = 0 := by unfold failR; split <;> exact wt_end E (Nat.le_refl _)
  exact ⟨by rw [hw]; exact Nat.zero_le _, fun _ => hw⟩
theorem BdR.want {E : Env} {b : Nat} {s1 : St} (h : BdR E b s1) (x : ByteArray) : BdR E b (wantR E s1 x) := by
  unfold wantR; split
  · exact h.next
  exact h.fail 60
theorem BdR.named {E : Env} {b : Nat} {s1 : St} (h : BdR E b s1) (k : Nat) : BdR E b (namedR E s1 k).2 := by
  unfold namedR; split
  · exact h.fail 60
  exact h.next
def Tot {α : Type} (E : Env) (b : Nat) (o : Option (α × St)) : Prop := ∃ n s1, o = some (n, s1) ∧ BdR E b s1
theorem BdR.weak {E : Env} {b c : Nat} {s1 : St} (h : BdR E c s1) (hc : c ≤ b) : BdR E b s1 := ⟨Nat.le_trans h.w hc, h.e⟩
theorem Tot.ret {α : Type} {E : Env} {b c : Nat} {s1 : St} {n : α} (h : BdR E c s1) (hc : c ≤ b) : Tot E b (some (n, s1)) := ⟨n, s1, rfl, h.weak hc⟩
theorem Tot.bind {α : Type} {E : Env} {b c : Nat} {a : Option (NJ × St)} {k : NJ → St → Option (α × St)} (h : Tot E c a) (hk : ∀ n s1, BdR E c s1 → Tot E b (k n s1)) : Tot E b (bindR a k) := by
  obtain ⟨n, s1, rfl, h1⟩ := h; exact hk n s1 h1
theorem Tot.bindA {α : Type} {E : Env} {b c : Nat} {a : Option (List ByteArray × St)} {k : List ByteArray → St → Option (α × St)} (h : Tot E c a) (hk : ∀ n s1, BdR E c s1 → Tot E b (k n s1)) : Tot E b (Th.bindA a k) := by
  obtain ⟨n, s1, rfl, h1⟩ := h; exact hk n s1 h1
theorem Tot.ite {α : Type} {E : Env} {b : Nat} {c : Prop} [Decidable c] {x y : Option (α × St)} (h1 : c → Tot E b x) (h2 : ¬ c → Tot E b y) : Tot E b (if c then x else y) := by
  split
  · exact h1 ‹_›
  exact h2 ‹_›
theorem kind_bd {E : Env} (hE : GoodT E) {s : St} {c : Nat} (h : BdR E c s) (hk : (tokAt E s.i).kind ≠ 0) : 1 ≤ c ∧ BdR E (c - 1) s.next := by
  obtain ⟨h1, h2⟩ := wt_step hE hk; have := h.w; refine ⟨by omega, by show wtE E (s.i + 1) ≤ _; omega, fun he => ?_⟩; have := h.e he; show wtE E (s.i + 1) = 0
  omega
theorem Tot.has {α : Type} {E : Env} (hE : GoodT E) {b c : Nat} {s1 : St} {x : ByteArray} {u v : Option (α × St)} (hb : BdR E c s1) (h1 : 1 ≤ c → BdR E (c - 1) s1.next → Tot E b u) (h2 : Tot E b v) : Tot E b (if hasR E s1 x then u else v) :=
  Tot.ite (fun h => (fun ⟨h3, h4⟩ => h1 h3 h4) (kind_bd hE hb (by rcases h.2.1 with h | h <;> omega))) (fun _ => h2)
theorem Tot.any {α : Type} {E : Env} (hE : GoodT E) {b c : Nat} {s1 : St} {x : List ByteArray} {u v : Option (α × St)} (hb : BdR E c s1) (h1 : 1 ≤ c → BdR E (c - 1) s1.next → Tot E b u) (h2 : Tot E b v) : Tot E b (if anyR E s1 x then u else v) :=
  Tot.ite (fun h => (fun ⟨h3, h4⟩ => h1 h3 h4) (kind_bd hE hb (by rcases h.2.1 with h | h <;> omega))) (fun _ => h2)
theorem Tot.kind {α : Type} {E : Env} (hE : GoodT E) {b c k : Nat} {s1 : St} {u v : Option (α × St)} (hb : BdR E c s1) (hk : k ≠ 0) (h1 : (tokAt E s1.i).kind = k → 1 ≤ c → BdR E (c - 1) s1.next → Tot E b u) (h2 : Tot E b v) : Tot E b (if (tokAt E s1.i).kind = k then u else v) :=
  Tot.ite (fun h => (fun ⟨h3, h4⟩ => h1 h h3 h4) (kind_bd hE hb (by omega))) (fun _ => h2)
theorem args_tot {E : Env} (_hE : GoodT E) {b : Nat} : ∀ (n : Nat) (acc : List ByteArray) (s : St), E.l.length - s.i < n → BdR E b s → Tot E b (argsR E n acc s) := by
  intro n; induction n with
  | zero => intro acc s h; omega
  | succ n ih =>
    intro acc s h hb; have key : ∀ k (l : List ByteArray), Tot E b (if hasR E (namedR E s k).2 ⟨#[59]⟩ then argsR E n l (namedR E s k).2.next else some (l, (namedR E s k).2)) := fun k l => by
      have hb2 := hb.named k; refine Tot.ite (fun hh => ih _ _ ?_ hb2.next) (fun _ => Tot.ret hb2 (Nat.le_refl _)); have hi : (namedR E s k).2.i < E.l.length := by
        rcases Nat.lt_or_ge (namedR E s k).2.i E.l.length with h1 | h1
        · exact h1
        exfalso; have : (tokAt E (namedR E s k).2.i).kind = 0 := by unfold tokAt; rw [List.getD_eq_getElem?_getD, List.getElem?_eq_none h1]; rfl
        rcases hh.2.1 with h | h <;> omega
      have hge : s.i ≤ (namedR E s k).2.i := by
        unfold namedR at hi ⊢; split at hi <;> split
        all_goals first | (unfold failR at hi; split at hi <;> exact absurd hi (Nat.lt_irrefl _)) | exact Nat.le_succ _ | contradiction
      show E.l.length - ((namedR E s k).2.i + 1) < n
      omega
    simp only [argsR]; by_cases hk : (tokAt E s.i).kind = 2
    · simp only [if_pos hk]; exact key 2 _
    simp only [if_neg hk]; exact key 1 _
def lvl : RJob → Nat
  | .object => 32
  | .objLoop _ => 31
  | .callLoop _ _ => 31
  | .branch => 31
  | .index _ => 31
  | .whole => 31
  | .filter => 30
  | .list => 29
  | .other => 28
  | .set => 27
  | .either => 26
  | .both => 25
  | .test => 24
  | .sum => 23
  | .product => 22
  | .minus => 21
  | .term => 20
  | .first => 19
  | .word => 18
  | .text => 10
  | _ => 1
def fuelR (E : Env) (job : RJob) (s : St) : Nat := match job with
  | .parts t f _ _ => 40 * sumQ f + 40 + t.length
  | job => 40 * wtE E s.i + lvl job
theorem tok_pos {E : Env} (h : GoodT E) (i : Nat) (hk : (tokAt E i).kind ≠ 0) : (tokAt E i).text.size ≤ wtE E i := by
  obtain ⟨h1, _⟩ := wt_step h hk; omega
theorem envOf_good (g : List UInt8) (b : Nat) : GoodT (envOf g b) ∧ wtE (envOf g b) 0 ≤ g.length := by
  obtain ⟨h1, h2⟩ := scanF_sum g; exact ⟨h2, by unfold wtE; rw [List.drop_zero]; exact h1⟩
theorem totR : ∀ (f : Nat) (E : Env), GoodT E → ∀ (job : RJob) (s : St), EndS E s → (job = .text → (tokAt E s.i).kind = 5) → (job = .word → (tokAt E s.i).kind = 1) → fuelR E job s < f → Tot E (wtE E s.i) (runR f E job s) := by
  intro f; induction f with
  | zero => intro E hE job s _ _ _ h; omega
  | succ f ih =>
    intro E hE job s hs ht hw hf; show Tot E (wtE E s.i) (stepR (runR f) E job s)
    obtain ⟨b, hbb⟩ : ∃ b, wtE E s.i = b := ⟨_, rfl⟩
    rw [hbb]; have hb : BdR E b s := ⟨by omega, hs⟩; have run : ∀ (job : RJob) (s1 : St) (c : Nat), BdR E c s1 → (job = .text → (tokAt E s1.i).kind = 5) → (job = .word → (tokAt E s1.i).kind = 1) → (∀ t fs p k, job ≠ .parts t fs p k) → 40 * c + lvl job < f → c ≤ b → Tot E b (runR f E job s1) := fun job s1 c h1 h2 h3 h4 h5 h6 => by
      have hfu : fuelR E job s1 < f := by
        have := h1.w; cases job with
        | parts t fs p k => exact absurd rfl (h4 t fs p k)
        | _ => simp only [fuelR]; omega
      obtain ⟨n, s2, h7, h8⟩ := ih E hE job s1 h1.e h2 h3 hfu; exact ⟨n, s2, h7, h8.weak (Nat.le_trans h1.w h6)⟩
    have run2 : ∀ (job : RJob) (s1 : St) (c : Nat), BdR E c s1 → (job = .text → (tokAt E s1.i).kind = 5) → (job = .word → (tokAt E s1.i).kind = 1) → (∀ t fs p k, job ≠ .parts t fs p k) → 40 * c + lvl job < f → Tot E c (runR f E job s1) := fun job s1 c h1 h2 h3 h4 h5 => by
      have hfu : fuelR E job s1 < f := by
        have := h1.w; cases job with
        | parts t fs p k => exact absurd rfl (h4 t fs p k)
        | _ => simp only [fuelR]; omega
      obtain ⟨n, s2, h7, h8⟩ := ih E hE job s1 h1.e h2 h3 hfu; exact ⟨n, s2, h7, h8.weak h1.w⟩
    cases job with
    | parts t fs p kids =>
      cases t with
      | nil => exact Tot.ret hb.next (Nat.le_refl _)
      | cons t0 t =>
        simp only [stepR]; refine Tot.ite (fun _ => Tot.ret (hb.fail 20) (Nat.le_refl _)) (fun _ => ?_); cases fs with
        | nil => exact Tot.ret hb.next (Nat.le_refl _)
        | cons g fs =>
          have hf : 40 * sumQ (g :: fs) + 40 + (t0 :: t).length < f + 1 := hf; have e1 : sumQ (g :: fs) = g.length + sumQ fs := by simp [sumQ]
          rw [e1, List.length_cons] at hf; obtain ⟨h1, h2⟩ := envOf_good g (E.base + (tokAt E s.i).at_ + p.headD 0); obtain ⟨n, own, h3, _⟩ := ih _ h1 .whole ⟨0, 0, 0⟩ (fun h => absurd rfl h) (fun h => by cases h) (fun h => by cases h) (by show 40 * wtE _ 0 + 31 < f; omega); dsimp only; rw [h3]; show Tot E b (if own.err ≠ 0 then _ else _)
          refine Tot.ite (fun _ => Tot.ret (c := b) ⟨?_, fun _ => ?_⟩ (Nat.le_refl _)) (fun _ => ?_)
          · show wtE E E.l.length ≤ _; rw [wt_end E (Nat.le_refl _)]; exact Nat.zero_le _
          · exact wt_end E (Nat.le_refl _)
          have := ih E hE (.parts t fs p.tail (kids ++ [strJ ⟨(readQ (textQ t0)).1.toArray⟩, n])) s hs (fun h => by cases h) (fun h => by cases h) (by show 40 * sumQ fs + 40 + t.length < f; omega); rw [hbb] at this; exact this
    | text =>
      simp only [stepR]; have h5 := ht rfl; have hz := tok_pos hE s.i (by omega); obtain ⟨hz1, hz2⟩ := wt_step hE (i := s.i) (by omega); have hq := partsF_sum (tokAt E s.i).text.data.toList; have hpl : (partsF (tokAt E s.i).text.data.toList).1.texts.length = 0 → sumQ (partsF (tokAt E s.i).text.data.toList).1.filters = 0 := fun h0 => by
        rcases parts_len (tokAt E s.i).text.data.toList with ⟨_, h⟩ | h
        · rw [h]; rfl
        omega
      have hsz : (tokAt E s.i).text.data.toList.length = (tokAt E s.i).text.size := Array.length_toList; have hf : 40 * wtE E s.i + 10 < f + 1 := hf; have := ih E hE (.parts (partsF (tokAt E s.i).text.data.toList).1.texts (partsF (tokAt E s.i).text.data.toList).1.filters (partsF (tokAt E s.i).text.data.toList).1.places []) s hs (fun h => by cases h) (fun h => by cases h) (by show 40 * sumQ _ + 40 + List.length _ < f; omega); rw [hbb] at this; exact this
    | word =>
      obtain ⟨hb1, hb2⟩ := kind_bd hE hb (by have := hw rfl; omega); simp only [fuelR, lvl] at hf; rw [hbb] at hf; simp only [stepR]; repeat' (first
        | assumption | apply BdR.next | apply BdR.want | apply BdR.fail | apply BdR.named
        | refine Tot.ret (by repeat' (first | assumption | apply BdR.next | apply BdR.want | apply BdR.fail | apply BdR.named)) ?_
        | refine Tot.bindA (args_tot hE _ _ _ (by omega) (by repeat' (first | assumption | apply BdR.next | apply BdR.want | apply BdR.fail | apply BdR.named))) (fun _ _ _ => ?_)
        | refine Tot.bind (run2 _ _ _ (by repeat' (first | assumption | apply BdR.next | apply BdR.want | apply BdR.fail | apply BdR.named)) (fun h => by first | (cases h; done) | assumption) (fun h => by first | (cases h; done) | assumption) (fun _ _ _ _ h => by cases h) ?_) (fun _ _ _ => ?_)
        | refine run _ _ _ (by repeat' (first | assumption | apply BdR.next | apply BdR.want | apply BdR.fail | apply BdR.named)) (fun h => by first | (cases h; done) | assumption) (fun h => by first | (cases h; done) | assumption) (fun _ _ _ _ h => by cases h) ?_ ?_
        | refine Tot.has hE (by repeat' (first | assumption | apply BdR.next | apply BdR.want | apply BdR.fail | apply BdR.named)) (fun _ _ => ?_) ?_ | refine Tot.any hE (by repeat' (first | assumption | apply BdR.next | apply BdR.want | apply BdR.fail | apply BdR.named)) (fun _ _ => ?_) ?_ | refine Tot.kind hE (by repeat' (first | assumption | apply BdR.next | apply BdR.want | apply BdR.fail | apply BdR.named)) (by decide) (fun _ _ _ => ?_) ?_ | refine Tot.ite (fun _ => ?_) (fun _ => ?_)
        | (simp only [lvl]; omega) | omega)
    | _ =>
      simp only [fuelR, lvl] at hf; rw [hbb] at hf; simp only [stepR]; repeat' (first
        | assumption | apply BdR.next | apply BdR.want | apply BdR.fail | apply BdR.named
        | refine Tot.ret (by repeat' (first | assumption | apply BdR.next | apply BdR.want | apply BdR.fail | apply BdR.named)) ?_
        | refine Tot.bindA (args_tot hE _ _ _ (by omega) (by repeat' (first | assumption | apply BdR.next | apply BdR.want | apply BdR.fail | apply BdR.named))) (fun _ _ _ => ?_)
        | refine Tot.bind (run2 _ _ _ (by repeat' (first | assumption | apply BdR.next | apply BdR.want | apply BdR.fail | apply BdR.named)) (fun h => by first | (cases h; done) | assumption) (fun h => by first | (cases h; done) | assumption) (fun _ _ _ _ h => by cases h) ?_) (fun _ _ _ => ?_)
        | refine run _ _ _ (by repeat' (first | assumption | apply BdR.next | apply BdR.want | apply BdR.fail | apply BdR.named)) (fun h => by first | (cases h; done) | assumption) (fun h => by first | (cases h; done) | assumption) (fun _ _ _ _ h => by cases h) ?_ ?_
        | refine Tot.has hE (by repeat' (first | assumption | apply BdR.next | apply BdR.want | apply BdR.fail | apply BdR.named)) (fun _ _ => ?_) ?_ | refine Tot.any hE (by repeat' (first | assumption | apply BdR.next | apply BdR.want | apply BdR.fail | apply BdR.named)) (fun _ _ => ?_) ?_ | refine Tot.kind hE (by repeat' (first | assumption | apply BdR.next | apply BdR.want | apply BdR.fail | apply BdR.named)) (by decide) (fun _ _ _ => ?_) ?_ | refine Tot.ite (fun _ => ?_) (fun _ => ?_)
        | (simp only [lvl]; omega) | omega)
end Th
