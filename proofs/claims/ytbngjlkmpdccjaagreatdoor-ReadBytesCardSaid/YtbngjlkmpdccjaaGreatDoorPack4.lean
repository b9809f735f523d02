/- Lemmas and contracts for the laws ReadParses, ReadBytes, part 4 of 50: FormMath, Tail. Conditions: those that each lemma names. -/
import Derived.Test.YtbngjlkmpdccjaaGreatDoorPack1
import Derived.StillTail
namespace Th
def dEnd (l : List UInt8) (i : Nat) : Nat := i + nDig (l.drop i)
theorem dEnd_le (l : List UInt8) (i : Nat) (h : i ≤ l.length) : i ≤ dEnd l i ∧ dEnd l i ≤ l.length := by
  have := nDig_le (l.drop i)
  rw [List.length_drop] at this
  unfold dEnd; omega
theorem dEnd_end (l : List UInt8) : dEnd l l.length = l.length := by unfold dEnd; rw [List.drop_length]; rfl
def offP (l : List UInt8) : Nat := if l.head? = some 45 then 1 else 0
def wP (l : List UInt8) : Nat := dEnd l (offP l)
def bad1 (l : List UInt8) : Prop := wP l = offP l ∨ (offP l + 1 < wP l ∧ l[offP l]? = some 48)
def fP (l : List UInt8) : Nat := if l[wP l]? = some 46 then dEnd l (wP l + 1) else wP l
def bad2 (l : List UInt8) : Prop := l[wP l]? = some 46 ∧ fP l = wP l + 1
def bP (l : List UInt8) : Nat := if l[fP l + 1]? = some 43 ∨ l[fP l + 1]? = some 45 then fP l + 2 else fP l + 1
def isE (l : List UInt8) : Prop := l[fP l]? = some 101 ∨ l[fP l]? = some 69
instance (l : List UInt8) : Decidable (isE l) := by unfold isE; infer_instance
instance (l : List UInt8) : Decidable (bad1 l) := by unfold bad1; infer_instance
instance (l : List UInt8) : Decidable (bad2 l) := by unfold bad2; infer_instance
def gP (l : List UInt8) : Nat := if isE l then dEnd l (bP l) else fP l
def bad3 (l : List UInt8) : Prop := isE l ∧ gP l = bP l
instance (l : List UInt8) : Decidable (bad3 l) := by unfold bad3; infer_instance
def isDg (c : UInt8) : Bool := decide (48 ≤ c.toNat) && decide (c.toNat ≤ 57)
theorem filter_dig (l : List UInt8) (h : AllDig l) : l.filter isDg = l := by
  rw [List.filter_eq_self]
  intro c hc
  have := h c hc
  unfold isDg
  simp [this]
theorem offP_le (l : List UInt8) : offP l ≤ l.length := by
  unfold offP; split
  · cases l with
    | nil => rename_i h; simp at h
    | cons a b => simp
  · omega
theorem wP_le (l : List UInt8) : offP l ≤ wP l ∧ wP l ≤ l.length := dEnd_le l _ (offP_le l)
theorem fP_le (l : List UInt8) : wP l ≤ fP l ∧ fP l ≤ l.length := by
  have h := wP_le l
  unfold fP
  split
  · rename_i h2
    have : wP l < l.length := by
      rcases Nat.lt_or_ge (wP l) l.length with h3 | h3
      · exact h3
      · rw [List.getElem?_eq_none h3] at h2; cases h2
    have := dEnd_le l (wP l + 1) (by omega)
    omega
  · omega
theorem wP_eq (l : List UInt8) : wP l = offP l + nDig (l.drop (offP l)) := rfl
theorem take_off (l : List UInt8) : (l.take (offP l)).filter isDg = [] := by
  unfold offP; split
  · rename_i h
    cases l with
    | nil => simp
    | cons a b =>
      simp at h
      subst h
      rfl
  · rfl
theorem take_w (l : List UInt8) : (l.take (wP l)).filter isDg = (l.drop (offP l)).take (nDig (l.drop (offP l))) := by
  rw [wP_eq, List.take_add, List.filter_append, take_off, List.nil_append, filter_dig _ (allDig_take _)]
def fracL (l : List UInt8) : List UInt8 := (l.take (fP l)).drop (wP l + 1)
theorem frac_point (l : List UInt8) (h : l[wP l]? = some 46) : fracL l = (l.drop (wP l + 1)).take (nDig (l.drop (wP l + 1))) ∧ l.drop (fP l) = (l.drop (wP l + 1)).drop (nDig (l.drop (wP l + 1))) ∧ fP l = wP l + 1 + nDig (l.drop (wP l + 1)) := by
  have e : fP l = wP l + 1 + nDig (l.drop (wP l + 1)) := by unfold fP; rw [if_pos h]; rfl
  refine ⟨?_, ?_, e⟩
  · unfold fracL
    rw [e, List.drop_take]
    congr 1
    omega
  · rw [e, List.drop_drop]
theorem frac_none (l : List UInt8) (h : ¬ l[wP l]? = some 46) : fracL l = [] ∧ fP l = wP l := by
  have e : fP l = wP l := by unfold fP; rw [if_neg h]
  refine ⟨?_, e⟩
  unfold fracL
  rw [e]
  apply List.drop_eq_nil_of_le
  rw [List.length_take]; omega
theorem fracL_dig (l : List UInt8) : AllDig (fracL l) := by
  by_cases h : l[wP l]? = some 46
  · rw [(frac_point l h).1]; exact allDig_take _
  · rw [(frac_none l h).1]; intro c hc; cases hc
theorem take_f (l : List UInt8) : (l.take (fP l)).filter isDg = (l.drop (offP l)).take (nDig (l.drop (offP l))) ++ fracL l := by
  by_cases h : l[wP l]? = some 46
  · obtain ⟨h1, h2, h3⟩ := frac_point l h
    have hw : wP l < l.length := by
      rcases Nat.lt_or_ge (wP l) l.length with h3 | h3
      · exact h3
      · rw [List.getElem?_eq_none h3] at h; cases h
    rw [h3, List.take_add, List.filter_append, filter_dig _ (allDig_take _), ← h1, ← take_w]
    congr 1
    rw [List.take_add_one, h, List.filter_append]
    simp [isDg]
  · obtain ⟨h1, h2⟩ := frac_none l h
    rw [h2, take_w, h1, List.append_nil]
theorem frac_length (l : List UInt8) : (fracL l).length = fP l - (wP l + 1) := by
  unfold fracL
  rw [List.length_drop, List.length_take, Nat.min_eq_left (fP_le l).2]
theorem head_drop (l : List UInt8) (i : Nat) : (l.drop i).head? = l[i]? := by simp [List.head?_drop]
theorem bad1_iff (l : List UInt8) : bad1 l ↔ (nDig (l.drop (offP l)) = 0 ∨ (1 < nDig (l.drop (offP l)) ∧ (l.drop (offP l)).head? = some 48)) := by
  unfold bad1
  rw [head_drop, wP_eq]
  constructor <;> (rintro (h | ⟨h, h2⟩) <;> first | (left; omega) | (right; exact ⟨by omega, h2⟩))
theorem drop_w (l : List UInt8) : (l.drop (offP l)).drop (nDig (l.drop (offP l))) = l.drop (wP l) := by rw [List.drop_drop, wP_eq]
theorem bad2_iff (l : List UInt8) : bad2 l ↔ fracP (l.drop (wP l)) = none := by
  unfold bad2 fracP
  rw [head_drop, List.drop_drop]
  constructor
  · rintro ⟨h, h2⟩
    rw [if_pos h, if_pos]
    have := (frac_point l h).2.2
    omega
  · intro h
    by_cases h1 : l[wP l]? = some 46
    · refine ⟨h1, ?_⟩
      rw [if_pos h1] at h
      by_cases h3 : nDig (l.drop (wP l + 1)) = 0
      · have := (frac_point l h1).2.2
        omega
      · rw [if_neg h3] at h; cases h
    · rw [if_neg h1] at h; cases h
theorem fracP_some (l : List UInt8) (h : ¬ bad2 l) : fracP (l.drop (wP l)) = some (fracL l, l.drop (fP l)) := by
  unfold fracP
  rw [head_drop, List.drop_drop]
  by_cases h1 : l[wP l]? = some 46
  · obtain ⟨h2, h3, h4⟩ := frac_point l h1
    rw [if_pos h1, if_neg, h2, h3]
    intro h5
    exact h ⟨h1, by omega⟩
  · obtain ⟨h2, h3⟩ := frac_none l h1
    rw [if_neg h1, h2, h3]
theorem expo_iff (l : List UInt8) : (∃ x, expoP (l.drop (fP l)) = some x) ↔ (¬ bad3 l ∧ gP l = l.length) := by
  have hf := (fP_le l).2
  unfold expoP bad3
  by_cases h0 : l.drop (fP l) = []
  · rw [if_pos h0]
    have h1 : l.length ≤ fP l := by simpa using h0
    have h2 : ¬ isE l := by
      unfold isE
      rw [List.getElem?_eq_none h1]; simp
    simp only [Option.some.injEq, exists_eq', true_iff]
    refine ⟨fun h => h2 h.1, ?_⟩
    unfold gP
    rw [if_neg h2]; omega
  · rw [if_neg h0, head_drop]
    have hlt : fP l < l.length := by
      rcases Nat.lt_or_ge (fP l) l.length with h3 | h3
      · exact h3
      · exact absurd (List.drop_eq_nil_of_le h3) h0
    by_cases hE : isE l
    · have hE' : l[fP l]? = some 101 ∨ l[fP l]? = some 69 := hE
      rw [if_pos hE']
      have hg : gP l = dEnd l (bP l) := by unfold gP; rw [if_pos hE]
      have key : ∀ neg, (∃ x, chkE neg (l.drop (bP l)) = some x) ↔ (¬ (isE l ∧ gP l = bP l) ∧ gP l = l.length) := by
        intro neg
        unfold chkE
        have hb : bP l ≤ l.length := by
          unfold bP
          split
          · rename_i h
            rcases Nat.lt_or_ge (fP l + 1) l.length with h3 | h3
            · omega
            · rw [List.getElem?_eq_none h3] at h; simp at h
          · omega
        have h1 := nDig_le (l.drop (bP l))
        rw [List.length_drop] at h1
        rw [hg]
        unfold dEnd
        rw [List.length_drop]
        by_cases h2 : nDig (l.drop (bP l)) = 0 ∨ nDig (l.drop (bP l)) < l.length - bP l
        · rw [if_pos h2]
          constructor
          · rintro ⟨x, hx⟩; cases hx
          · rintro ⟨h3, h4⟩
            exfalso
            rcases h2 with h2 | h2
            · exact h3 ⟨hE, by omega⟩
            · omega
        · rw [if_neg h2]
          constructor
          · intro _
            refine ⟨fun h => h2 (Or.inl (by omega)), by omega⟩
          · intro _; exact ⟨_, rfl⟩
      rw [List.drop_drop, List.drop_drop]
      simp only [head_drop]
      by_cases h45 : l[fP l + 1]? = some 45
      · rw [if_pos h45, ← key true]
        unfold bP
        rw [if_pos (Or.inr h45)]
      · rw [if_neg h45]
        by_cases h43 : l[fP l + 1]? = some 43
        · rw [if_pos h43, ← key false]
          unfold bP
          rw [if_pos (Or.inl h43)]
        · rw [if_neg h43, ← key false]
          unfold bP
          rw [if_neg (by rintro (h | h); exact h43 h; exact h45 h)]
    · rw [if_neg (show ¬ (l[fP l]? = some 101 ∨ l[fP l]? = some 69) from hE)]
      have hg : gP l = fP l := by unfold gP; rw [if_neg hE]
      constructor
      · rintro ⟨x, hx⟩; cases hx
      · rintro ⟨_, h⟩; omega
def okF (l : List UInt8) : Prop := ¬ (bad1 l ∨ bad2 l ∨ bad3 l) ∧ gP l = l.length
instance (l : List UInt8) : Decidable (okF l) := by unfold okF; infer_instance
theorem parse_core (l : List UInt8) : parseN l = coreN (decide (l.head? = some 45)) (l.drop (offP l)) := by
  unfold parseN offP
  by_cases h : l.head? = some 45
  · rw [if_pos h, if_pos h, decide_eq_true h]
  · rw [if_neg h, if_neg h, decide_eq_false h]; rfl
theorem parse_bad (l : List UInt8) (h : ¬ okF l) : parseN l = ((0, 0), 10) := by
  rw [parse_core]
  by_cases h1 : bad1 l
  · exact core_bad _ _ ((bad1_iff l).1 h1)
  by_cases h2 : bad2 l
  · exact core_frac _ _ (by rw [drop_w]; exact (bad2_iff l).1 h2)
  have h3 : expoP (l.drop (fP l)) = none := by
    cases he : expoP (l.drop (fP l)) with
    | none => rfl
    | some x =>
      exfalso
      obtain ⟨h4, h5⟩ := (expo_iff l).1 ⟨x, he⟩
      exact h ⟨by rintro (h | h | h); exact h1 h; exact h2 h; exact h4 h, h5⟩
  exact core_expo _ _ (fracL l) (l.drop (fP l)) (by rw [drop_w]; exact fracP_some l h2) h3
theorem parse_good (l : List UInt8) (h : okF l) : ∃ en x, expoP (l.drop (fP l)) = some (en, x) ∧
    parseN l = norm (decide (l.head? = some 45)) (val (dgs ((l.take (fP l)).filter isDg))) (sg en (clampN x) - (fP l - (wP l + 1) : Nat)) := by
  obtain ⟨h0, h5⟩ := h
  have h1 : ¬ bad1 l := fun h => h0 (Or.inl h)
  have h2 : ¬ bad2 l := fun h => h0 (Or.inr (Or.inl h))
  have h4 : ¬ bad3 l := fun h => h0 (Or.inr (Or.inr h))
  obtain ⟨⟨en, x⟩, he⟩ := (expo_iff l).2 ⟨h4, h5⟩
  refine ⟨en, x, he, ?_⟩
  rw [parse_core, core_good _ _ (fracL l) (l.drop (fP l)) x en (fun h => h1 ((bad1_iff l).2 h)) (by rw [drop_w]; exact fracP_some l h2) he, take_f, frac_length]
def digL (l : List UInt8) (k : Nat) : List UInt8 := (l.take k).filter isDg
def cntE (l : List UInt8) (w k : Nat) : Nat := (((l.take k).drop (w + 1)).filter isDg).length
theorem digL_zero (l : List UInt8) : digL l 0 = [] := by unfold digL; rw [List.take_zero]; rfl
theorem cntE_zero (l : List UInt8) (w : Nat) : cntE l w 0 = 0 := by unfold cntE; rw [List.take_zero, List.drop_nil]; rfl
theorem digL_step (l : List UInt8) (k : Nat) (c : UInt8) (h : l[k]? = some c) : digL l (k + 1) = digL l k ++ if isDg c then [c] else [] := by
  unfold digL
  rw [List.take_add_one, h, List.filter_append]
  congr 1
  simp only [Option.toList_some, List.filter_cons, List.filter_nil]
theorem cntE_step (l : List UInt8) (w k : Nat) (c : UInt8) (h : l[k]? = some c) : cntE l w (k + 1) = cntE l w k + if isDg c = true ∧ w < k then 1 else 0 := by
  have hk : k < l.length := by
    rcases Nat.lt_or_ge k l.length with h3 | h3
    · exact h3
    · rw [List.getElem?_eq_none h3] at h; cases h
  unfold cntE
  rw [List.take_add_one, h]
  by_cases hw : w < k
  · rw [List.drop_append_of_le_length (by rw [List.length_take]; omega), List.filter_append, List.length_append]
    congr 1
    simp only [Option.toList_some, List.filter_cons, List.filter_nil]
    by_cases hc : isDg c = true <;> simp [hc, hw]
  · rw [List.drop_eq_nil_of_le (by simp; omega), List.drop_eq_nil_of_le (by simp; omega), if_neg (fun h => hw h.2)]
    rfl
theorem cntE_end (l : List UInt8) : cntE l (wP l) (fP l) = fP l - (wP l + 1) := by
  show ((fracL l).filter isDg).length = _
  rw [filter_dig _ (fracL_dig l), frac_length]
theorem cntE_le (l : List UInt8) (w k : Nat) : cntE l w k ≤ k := by
  unfold cntE
  have h1 := List.length_filter_le isDg ((l.take k).drop (w + 1))
  rw [List.length_drop, List.length_take] at h1
  omega
theorem digL_le (l : List UInt8) (k : Nat) : (digL l k).length ≤ k := by
  unfold digL
  have h1 := List.length_filter_le isDg (l.take k)
  rw [List.length_take] at h1
  omega
theorem digL_dig (l : List UInt8) (k : Nat) : AllDig (digL l k) := by
  intro c hc
  have := (List.mem_filter.1 hc).2
  unfold isDg at this
  simpa using this
end Th
namespace Th
open Go Go.RowKit
section
variable {P : Program} {ops : Array Oper} {md : Region.Mode} {C : World → Prop}
def headQ (P : Program) (md : Region.Mode) (ops : Array Oper) (C : World → Prop) (n : Nat) (L : Array Bool → Act → Prop) : Nat → Array Bool → Act → Prop
  | 0, listed, a => L listed a
  | f + 1, listed, a => Region.ready md ops listed ≠ [] ∧ ∀ i ∈ Region.ready md ops listed, i < n ∧ qOp P ops C i (headQ P md ops C n L f (listed.setIfInBounds i true)) a
theorem any_of_headQ {n g : Nat} {L : Array Bool → Act → Prop} {Q : Exit → Act → World → Prop} (hL : ∀ listed a w, C w → L listed a → wpAny P md ops Q g listed a w) :
    ∀ (f : Nat) (listed : Array Bool) (a : Act) (w : World), C w → headQ P md ops C n L f listed a → wpAny P md ops Q (f + g) listed a w := by
  intro f
  induction f with
  | zero => intro listed a w hw h; rw [Nat.zero_add]; exact hL _ _ _ hw h
  | succ f ih =>
    intro listed a w hw h
    rw [show f + 1 + g = (f + g) + 1 by omega]
    exact ⟨fun h0 => absurd h0 h.1, fun i hi => wpOp_of_qOp hw (fun a' w' hw' h' => ih _ a' w' hw' h') (h.2 i hi).2⟩
theorem headQ_first {n i : Nat} {oi : Oper} {v : Value} {L : Array Bool → Act → Prop} (hi : ops[i]? = some oi) (hsel : ∀ (j : Nat) (o : Oper) cs b, ops[j]? = some o → o.op ≠ .select cs b)
    (hs : Region.sinkB md ops n = true) (hc : Region.chainB md ops n = true) (hn : n < ops.size) (hin : i < n)
    (hdone : ∀ listed a, L listed a → ∀ j ∈ Region.ready md ops listed, n ≤ j) :
    ∀ (f : Nat) (listed : Array Bool) (a : Act), HeadInv md ops n listed →
      (∀ j oj, ops[j]? = some oj → j ≠ i → listed.getD j true = false → (∀ e ∈ oj.after, Region.binds md e = true → e.on ≠ i) → oi.apart ops oj = true) →
      i ∈ Region.ready md ops listed → YieldsIn P ops C oi v a →
      headQ P md ops C n L f (listed.setIfInBounds i true) (a.put oi.dst v) → headQ P md ops C n L (f + 1) listed a := by
  intro f
  have inHead : ∀ (listed : Array Bool), HeadInv md ops n listed → i ∈ Region.ready md ops listed → ∀ j ∈ Region.ready md ops listed, j < n := fun listed inv hr j hj =>
    (Nat.lt_or_ge j n).resolve_right fun h => tail_waits hs hc hn inv _ i rfl hin (mem_ready.1 hr).1 j h hj
  induction f with
  | zero =>
    intro listed a inv _ hr hy H
    refine ⟨fun h => (by rw [h] at hr; cases hr), fun j hj => ⟨inHead listed inv hr j hj, ?_⟩⟩
    by_cases hji : j = i
    · subst hji; exact hy.qOp hi H
    · have h1 := hdone _ _ H j (ready_mono hj hji)
      have h2 := inHead listed inv hr j hj
      omega
  | succ f ih =>
    intro listed a inv hfree hr hy H
    refine ⟨fun h => (by rw [h] at hr; cases hr), fun j hj => ⟨inHead listed inv hr j hj, ?_⟩⟩
    have hjn := inHead listed inv hr j hj
    by_cases hji : j = i
    · subst hji; exact hy.qOp hi H
    · obtain ⟨hjun, oj, hoj, hall⟩ := mem_ready.1 hj
      have hnot : ∀ e ∈ oj.after, Region.binds md e = true → e.on ≠ i := fun e he hb heq => by
        have h1 := hall e he hb
        rw [heq, getD_both (mem_ready.1 hr).1] at h1
        cases h1
      have h2 := qOp_put hoj (hfree j oj hoj hji hjun hnot) (fun cs b => hsel i oi cs b hi) (fun cs b => hsel j oj cs b hoj) hy (H.2 j (ready_mono hj hji)).2
      refine qOp_mono (fun a' h3 => ih (listed.setIfInBounds j true) a' (inv.set hj hjn) (fun k ok hk hki hun hno => hfree k ok hk hki ?_ hno) (ready_mono hr (Ne.symm hji)) h3.1 ?_) h2
      · by_cases hjk : j = k
        · subst hjk; exact hjun
        · rw [getD_set_ne true hjk] at hun; exact hun
      · rw [Array.setIfInBounds_comm _ _ hji]
        exact h3.2
theorem headQ_lex {n g : Nat} {Lq : Act → Prop} (hsel : Region.noSelect ops = true) (hs : Region.sinkB md ops n = true) (hc : Region.chainB md ops n = true) (hn : n < ops.size) :
    ∀ (l : List Oper) (k : Nat) (listed : Array Bool) (a : Act), (∀ j, j < l.length → l[j]? = ops[k + j]?) → k + l.length = n → HeadInv md ops n listed →
    Region.lexHead md ops g l.length k listed = true → wpQuiet P ops C Lq l a →
    headQ P md ops C n (fun listed' a' => Region.seqB md ops g n listed' = true ∧ Lq a') l.length listed a := by
  intro l
  induction l with
  | nil =>
    intro k listed a _ hk _ hB h
    obtain rfl : k = n := by simpa using hk
    exact ⟨by simpa [Region.lexHead] using hB, h⟩
  | cons o l ih =>
    intro k listed a hl hk inv hB h
    have h0 : ops[k]? = some o := by simpa using (hl 0 (by simp)).symm
    simp only [List.length_cons, Region.lexHead, Bool.and_eq_true] at hB hk
    obtain ⟨⟨hr, hf⟩, hB'⟩ := hB
    have hr' : k ∈ Region.ready md ops listed := by simpa using hr
    have hq : qOp P ops C k (wpQuiet P ops C Lq l) a := by unfold qOp; simp only [h0]; exact h
    obtain ⟨v, hy, hK⟩ := yieldsIn_of_qOp h0 hq
    refine headQ_first h0 (Region.noSelect_spec hsel) hs hc hn (by omega) (fun listed' a' hL => seqB_ready hL.1) l.length listed a inv (Region.free_spec h0 hf) hr' hy ?_
    exact ih (k + 1) _ _ (fun j hj => by have := hl (j + 1) (by simp; omega); simpa [Nat.add_assoc, Nat.add_comm 1 j] using this) (by omega) (inv.set hr' (by omega)) hB' hK
theorem wp_region_tail {W0 : World} {id : Nat} {Q : Exit → Act → World → Prop} {a : Act} {w : World} {l : List Oper} (n : Nat) (hb : Below W0.heap.size W0 w) (hm : P.follows .mixedOrders = true) (hB : Region.lexTailB .any l.toArray n = true)
    (h : wpQuiet P l.toArray (fun w' => ∃ x : Above W0, w' = x.val) (fun a' => ∀ w', (∃ x : Above W0, w' = x.val) → wpList P l.toArray Q (l.drop n) a' w') (l.take n) a) : (Code.region id l.toArray true).wp P Q a w := by
  simp only [Region.lexTailB, Bool.and_eq_true, decide_eq_true_eq] at hB
  obtain ⟨⟨⟨⟨hsel, hn⟩, hs⟩, hc⟩, hlex⟩ := hB
  have hn' : n < l.length := by simpa using hn
  have htl : (l.take n).length = n := by simp; omega
  have hdl : (l.drop n).length = l.toArray.size - n := by simp
  have inv0 : HeadInv .any l.toArray n (Array.replicate l.toArray.size false) :=
    ⟨by simp, fun j oj _ hl => (by rw [getD_replicate_false] at hl; cases hl), fun t _ ht => getD_in (by simpa using ht) (getD_replicate_false _ _)⟩
  have H := headQ_lex (md := .any) (g := l.toArray.size - n) hsel hs hc hn (l.take n) 0 _ a (fun j hj => by
    rw [htl] at hj
    simp [hj]) (by simpa using htl) inv0 (by rw [htl]; exact hlex) h
  refine wp_region_any hm ?_
  have key := any_of_headQ (Q := Q) (g := l.toArray.size - n) (fun listed a' w' hw' hL => by
    have := wpAny_of_seq (md := .any) (Q' := Q) (l.drop n) n listed a' w' (fun j => by simp [List.getElem?_drop]) (by rw [hdl]; exact hL.1) (hL.2 w' hw')
    rwa [hdl] at this) _ _ _ { w with drawn := w.drawn + 1 } ⟨⟨_, hb.trans ((below_drawn w).mono hb.size)⟩, rfl⟩ H
  rw [htl, show n + (l.toArray.size - n) = l.toArray.size by omega] at key
  exact key
end
end Th
