/- Lemmas and contracts for the laws CalcWith, part 7 of 50: RelyV. Conditions: those that each lemma names. -/
import Derived.Test.YtnkokhpadcgfbaaGreatDoorPw5
namespace Th
open Go Go.RowKit
def hvOf (ops : Array Oper) (n : Nat) (a : Act) : Nat → Value := fun j => if j < n then (match ops[j]? with | some o => heldBy o a | none => undef) else undef
def depV (ops : Array Oper) (L : Nat → Bool) (H : Nat → Value) (a : Act) : List Edge → Prop
  | [] => True
  | e :: r => (if Region.binds .any e = true then (match ops[e.on]? with | some o => L e.on = true ∧ heldBy o a = H e.on | none => True) else True) ∧ depV ops L H a r
def updH (H : Nat → Value) (k : Nat) (v : Value) : Nat → Value := fun j => if j = k then v else H j
def insL (L : Nat → Bool) (k : Nat) : Nat → Bool := fun j => decide (j = k) || L j
def stepV (P : Program) (ops : Array Oper) (h : List Oper) (a0 : Act) (I : (Nat → Bool) → (Nat → Value) → World → Prop) (Q : Exit → Act → World → Prop) : List Oper → Nat → Prop
  | [], _ => True
  | o :: r, k => (∀ L H a w, L k = false → I L H w → (∀ s, freeSlot h s = true → a.tmps.getD s undef = a0.tmps.getD s undef) → depV ops L H a o.after.toList →
      Oper.wp P o a w (fun a' w' => ∃ v, a' = a.put o.dst v ∧ I (insL L k) (updH H k (gives o v)) w') Q) ∧ stepV P ops h a0 I Q r (k + 1)
section
variable {P : Program} {ops : Array Oper} {n : Nat} {a0 : Act} {I : (Nat → Bool) → (Nat → Value) → World → Prop} {Q : Exit → Act → World → Prop}
structure RelyV (ops : Array Oper) (n : Nat) (a0 : Act) (I : (Nat → Bool) → (Nat → Value) → World → Prop) (listed : Array Bool) (a : Act) (w : World) : Prop where
  inv : I (fun j => listed.getD j false) (hvOf ops n a) w
  defers : a.defers = a0.defers
  size : a.tmps.size = a0.tmps.size
  same : ∀ s, freeSlot (ops.toList.take n) s = true → a.tmps.getD s undef = a0.tmps.getD s undef
theorem depV_of {L : Nat → Bool} {H : Nat → Value} {a : Act} : ∀ (l : List Edge), (∀ e ∈ l, Region.binds .any e = true → ∀ o, ops[e.on]? = some o → L e.on = true ∧ heldBy o a = H e.on) → depV ops L H a l
  | [], _ => trivial
  | e :: r, h => ⟨by
      split
      · rename_i hb
        cases ho : ops[e.on]? with
        | none => trivial
        | some o => exact h e (List.mem_cons_self) hb o ho
      · trivial, depV_of r (fun e' he' => h e' (List.mem_cons_of_mem _ he'))⟩
theorem stepV_get {h : List Oper} : ∀ (l : List Oper) (k : Nat), stepV P ops h a0 I Q l k → ∀ i o, l[i]? = some o → ∀ L H a w, L (k + i) = false → I L H w → (∀ s, freeSlot h s = true → a.tmps.getD s undef = a0.tmps.getD s undef) → depV ops L H a o.after.toList →
      Oper.wp P o a w (fun a' w' => ∃ v, a' = a.put o.dst v ∧ I (insL L (k + i)) (updH H (k + i) (gives o v)) w') Q
  | [], _, _, i, o, h => by simp at h
  | o' :: r, k, ⟨h1, h2⟩, 0, o, h => by
    obtain rfl : o' = o := by simpa using h
    exact h1
  | o' :: r, k, ⟨_, h2⟩, i + 1, o, h => by
    have := stepV_get r (k + 1) h2 i o (by simpa using h)
    rwa [show k + 1 + i = k + (i + 1) by omega] at this
theorem relyV_any (hB : relyB ops n a0.tmps.size = true)
    (steps : stepV P ops (ops.toList.take n) a0 I Q (ops.toList.take n) 0)
    (fin : ∀ (vs : Nat → Value) L w, (∀ j, j < n → L j = true) → I L (fun j => if j < n then vs j else undef) w → wpList P ops Q (ops.toList.drop n) (putL (ops.toList.take n) 0 vs a0) w) :
    ∀ (f : Nat) (listed : Array Bool) (a : Act) (w : World), cntU n listed = f → HeadInv .any ops n listed → RelyV ops n a0 I listed a w → wpAny P .any ops Q (f + (ops.size - n)) listed a w := by
  simp only [relyB, Bool.and_eq_true, decide_eq_true_eq, List.all_eq_true] at hB
  obtain ⟨⟨⟨⟨⟨⟨_, hn⟩, hs⟩, hc⟩, hseq⟩, hg⟩, hd⟩ := hB
  have hgood : ∀ i o, i < n → ops[i]? = some o → o.guard = none ∧ (∀ s, o.dst = some s → s < a0.tmps.size) ∧ (∀ e ∈ o.after, e.on < i) ∧ (∀ j p, j < i → ops[j]? = some p → p.dst = none ∨ p.dst ≠ o.dst) := by
    intro i o hi ho
    have hmem : o ∈ ops.toList.take n := by
      have : (ops.toList.take n)[i]? = some o := by rw [List.getElem?_take_of_lt hi]; simpa using ho
      exact List.mem_of_getElem? this
    have h1 := hg o hmem
    have h2 := hd i (List.mem_range.2 hi)
    rw [ho] at h2
    simp only [Bool.and_eq_true, List.all_eq_true, decide_eq_true_eq] at h2
    refine ⟨h1.1, fun s hs => ?_, fun e he => h2.1 e (by simpa using he), fun j p hj hp => ?_⟩
    · have h3 := h1.2
      rw [hs] at h3
      simpa using h3
    · have h3 := h2.2 j (List.mem_range.2 hj)
      rw [hp] at h3
      simpa using h3
  intro f
  induction f with
  | zero =>
    intro listed a w hf inv R
    have hall := cntU_zero n listed hf
    have hl : listed = (Array.replicate n true) ++ (Array.replicate (ops.size - n) false) := by
      refine Array.ext (by rw [inv.size]; simp; omega) fun i h1 h2 => ?_
      by_cases hi : i < n
      · have := hall i hi
        rw [Array.getElem_append_left (by simpa using hi)]
        simpa [h1] using this
      · have := inv.tail i (by omega) (by rw [← inv.size]; exact h1)
        rw [Array.getElem_append_right (by simp; omega)]
        simpa [h1] using this
    rw [Nat.zero_add]
    have hdone : ∀ j, j < n → listed.getD j false = true := fun j hj => by
      have h1 := hall j hj
      have h2 : j < listed.size := by rw [inv.size]; omega
      simpa [h2] using h1
    have hdl : (ops.toList.drop n).length = ops.size - n := by simp
    have key := wpAny_of_seq (P := P) (ops := ops) (md := .any) (Q' := Q) (ops.toList.drop n) n listed a w (fun j => by simp [List.getElem?_drop]) (by rw [hdl, hl]; exact hseq) (by
      have hvs : a = putL (ops.toList.take n) 0 (fun j => match ops[j]? with | some o => heldBy o a | none => undef) a0 := by
        have h1 := putL_size (ops.toList.take n) 0 (fun j => match ops[j]? with | some o => heldBy o a | none => undef) a0
        have h2 : a.tmps = (putL (ops.toList.take n) 0 (fun j => match ops[j]? with | some o => heldBy o a | none => undef) a0).tmps := by
          refine getD_undef_ext (by rw [h1.1, R.size]) fun s hs' => ?_
          refine (putL_at s (a.tmps.getD s undef) _ 0 _ a0 (by rw [← R.size]; exact hs') (fun i o ho hd' => ?_) (fun hf' => (R.same s hf').symm)).symm
          have hi : i < n := by
            have := (List.getElem?_eq_some_iff.1 ho).1
            rw [List.length_take] at this; omega
          rw [List.getElem?_take_of_lt hi] at ho
          have ho' : ops[i]? = some o := by simpa using ho
          simp only [Nat.zero_add, ho']
          unfold heldBy
          rw [hd']
        cases a
        have h3 := h1.2
        have h4 := R.defers
        simp only at h2 h4
        generalize putL (ops.toList.take n) 0 _ a0 = b at *
        cases b
        simp only at h2 h3 ⊢
        rw [h2, h4, h3]
      rw [hvs]
      exact fin _ _ w (fun j hj => hdone j hj) R.inv)
    rwa [hdl] at key
  | succ f ih =>
    intro listed a w hf inv R
    have hex : ∃ i, i < n ∧ listed.getD i true = false ∧ ∀ j, j < i → listed.getD j true = true := by
      have h0 : ∃ i, i < n ∧ listed.getD i true = false := by
        refine Classical.byContradiction fun hno => ?_
        have : ∀ m, m ≤ n → cntU m listed = 0 := by
          intro m
          induction m with
          | zero => intro _; rfl
          | succ m ihm =>
            intro hm
            simp only [cntU]
            rw [ihm (by omega), if_pos (by
              cases hb : listed.getD m true with
              | true => rfl
              | false => exact absurd ⟨m, by omega, hb⟩ hno)]
        have := this n (Nat.le_refl _)
        omega
      obtain ⟨i, hi, hl⟩ := h0
      induction i using Nat.strongRecOn with
      | _ i ihi =>
        by_cases hb : ∃ j, j < i ∧ listed.getD j true = false
        · obtain ⟨j, hj, hjl⟩ := hb
          exact ihi j hj (by omega) hjl
        · refine ⟨i, hi, hl, fun j hj => ?_⟩
          cases hx : listed.getD j true with
          | true => rfl
          | false => exact absurd ⟨j, hj, hx⟩ hb
    obtain ⟨i0, hi0, hl0, hmin⟩ := hex
    have hready : i0 ∈ Region.ready .any ops listed := by
      have hlt : i0 < ops.size := by omega
      refine mem_ready.2 ⟨hl0, _, Array.getElem?_eq_getElem hlt, fun e he _ => ?_⟩
      have h1 := (hgood i0 _ hi0 (Array.getElem?_eq_getElem hlt)).2.2.1 e he
      have h2 := hmin e.on h1
      have h3 : e.on < listed.size := by rw [inv.size]; omega
      simpa [h3] using h2
    rw [show f + 1 + (ops.size - n) = (f + (ops.size - n)) + 1 by omega]
    refine ⟨fun h => (by rw [h] at hready; cases hready), fun i hi => ?_⟩
    have hin : i < n := (Nat.lt_or_ge i n).resolve_right fun h => tail_waits hs hc hn inv _ i0 rfl hi0 hl0 i h hi
    obtain ⟨hun, o, ho, hall⟩ := mem_ready.1 hi
    obtain ⟨hgd, hdst, hdep, hdis⟩ := hgood i o hin ho
    have hst := stepV_get (ops.toList.take n) 0 steps i o (by rw [List.getElem?_take_of_lt hin]; simpa using ho) (fun j => listed.getD j false) (hvOf ops n a) a w (by rw [Nat.zero_add]; exact getD_both hun) R.inv R.same (depV_of _ fun e he hb p hp => ⟨hall e (by simpa using he) hb, by
      have h1 := hdep e (by simpa using he)
      unfold hvOf
      rw [if_pos (by omega), hp]⟩)
    unfold wpOp
    rw [ho]
    simp only
    rw [if_pos (by simp [Region.wanted, hgd])]
    refine Or.inl (Oper.wp_mono (fun a' w' hk => ?_) hst)
    obtain ⟨v, rfl, hI⟩ := hk
    rw [Nat.zero_add] at hI
    have hH : hvOf ops n (a.put o.dst v) = updH (hvOf ops n a) i (gives o v) := by
      funext j
      unfold hvOf updH
      by_cases hj : j = i
      · subst hj
        rw [if_pos hin, if_pos rfl, ho]
        exact heldBy_put_self (fun s hs' => by rw [R.size]; exact hdst s hs')
      · rw [if_neg hj]
        show _ = (if j < n then (match ops[j]? with | some o => heldBy o a | none => undef) else undef)
        by_cases hjn : j < n
        · rw [if_pos hjn, if_pos hjn]
          cases hp : ops[j]? with
          | none => rfl
          | some p =>
            have hdd : p.dst = none ∨ p.dst ≠ o.dst := by
              rcases Nat.lt_or_gt_of_ne hj with h | h
              · exact hdis j p h hp
              · rcases (hgood j p hjn hp).2.2.2 i o h ho with h1 | h1
                · cases hpd : p.dst with
                  | none => exact Or.inl rfl
                  | some q => right; rw [h1]; simp
                · right; exact fun e => h1 e.symm
            exact heldBy_put_other hdd
        · rw [if_neg hjn, if_neg hjn]
    have hI : I (fun j => (listed.setIfInBounds i true).getD j false) (hvOf ops n (a.put o.dst v)) w' := by
      rw [hH]
      have : (fun j => (listed.setIfInBounds i true).getD j false) = insL (fun j => listed.getD j false) i := by
        funext j
        by_cases hj : j = i
        · subst hj
          have : j < listed.size := by rw [inv.size]; omega
          simp [insL, this]
        · unfold insL; rw [getD_set_ne false (Ne.symm hj), decide_eq_false hj]; rfl
      rw [this]; exact hI
    refine ih _ _ _ (by have := cntU_set n listed i hin hun; omega) (inv.set hi hin) ⟨hI, ?_, ?_, fun s hs' => ?_⟩
    · have := R.defers
      unfold Act.put
      cases o.dst <;> exact this
    · have := R.size
      unfold Act.put
      cases o.dst <;> simpa using this
    · rw [← R.same s hs']
      have hne : o.dst ≠ some s := by
        unfold freeSlot at hs'
        have := List.all_eq_true.1 hs' o (List.mem_of_getElem? (i := i) (by rw [List.getElem?_take_of_lt hin]; simpa using ho))
        simpa using this
      unfold Act.put
      cases hp : o.dst with
      | none => rfl
      | some q =>
        have : q ≠ s := fun e => hne (by rw [hp, e])
        simp [Array.getElem?_setIfInBounds_ne this]
end
theorem wp_region_relyV {P : Program} {id : Nat} {Q : Exit → Act → World → Prop} {a : Act} {w : World} {l : List Oper} (n : Nat) (I : (Nat → Bool) → (Nat → Value) → World → Prop) (hm : P.follows .mixedOrders = true) (hB : relyB l.toArray n a.tmps.size = true)
    (h0 : ∀ H, I (fun _ => false) H { w with drawn := w.drawn + 1 }) (steps : stepV P l.toArray (l.take n) a I Q (l.take n) 0)
    (fin : ∀ (vs : Nat → Value) L w, (∀ j, j < n → L j = true) → I L (fun j => if j < n then vs j else undef) w → wpList P l.toArray Q (l.drop n) (putL (l.take n) 0 vs a) w) : (Code.region id l.toArray true).wp P Q a w := by
  refine wp_region_any hm ?_
  have hn : n < l.toArray.size := by
    simp only [relyB, Bool.and_eq_true, decide_eq_true_eq] at hB
    exact hB.1.1.1.1.1.2
  have key := relyV_any (P := P) (ops := l.toArray) (Q := Q) hB (by simpa using steps) (by simpa using fin) n (Array.replicate l.toArray.size false) a { w with drawn := w.drawn + 1 } (cntU_new n _ (by omega))
    ⟨by simp, fun j oj _ hl => (by rw [getD_replicate_false] at hl; cases hl), fun t _ ht => getD_in (by simpa using ht) (getD_replicate_false _ _)⟩
    ⟨by
      have : (fun j => (Array.replicate l.toArray.size false).getD j false) = fun _ => false := funext fun j => getD_replicate_false _ _
      rw [this]; exact h0 _, rfl, rfl, fun _ _ => rfl⟩
  rwa [show n + (l.toArray.size - n) = l.toArray.size by omega] at key
end Th
