/- Lemmas and contracts for the laws CalcParts, part 8 of 33: RelyP. Conditions: those that each lemma names. -/
import Derived.Test.YtmacgdcmgbkfnaaGreatDoorPack1
import Derived.Test.YtmacgdcmgbkfnaaGreatDoorPack4
import Derived.Test.YtmacgdcmgbkfnaaGreatDoorPack5
import Derived.Scope
import Derived.WalkMore
namespace Th
open Go Go.RowKit
def heldP (σ : Nat → Tmp) (j : Nat) (o : Oper) (a : Act) : Value := match o.dst with | some s => a.tmps.getD s undef | none => a.tmps.getD (σ j) undef
def givesP (σ : Nat → Tmp) (j : Nat) (o : Oper) (v : Value) (a : Act) : Value := match o.dst with | some _ => v | none => a.tmps.getD (σ j) undef
def depHoldP (σ : Nat → Tmp) (ops : Array Oper) (Φ : Nat → Value → World → Prop) (a : Act) (w : World) : List Edge → Prop
  | [] => True
  | e :: r => (if Region.binds .any e = true then (match ops[e.on]? with | some o => Φ e.on (heldP σ e.on o a) w | none => True) else True) ∧ depHoldP σ ops Φ a w r
def allHoldP (σ : Nat → Tmp) (Φ : Nat → Value → World → Prop) (vs : Nat → Value) (a : Act) (w : World) : List Oper → Nat → Prop
  | [], _ => True
  | o :: r, k => Φ k (match o.dst with | some _ => vs k | none => a.tmps.getD (σ k) undef) w ∧ allHoldP σ Φ vs a w r (k + 1)
def stepHoldP (σ : Nat → Tmp) (P : Program) (ops : Array Oper) (h : List Oper) (a0 : Act) (I : (Nat → Bool) → World → Prop) (Φ : Nat → Value → World → Prop) (G : Nat → World → World → Prop) (Q : Exit → Act → World → Prop) : List Oper → Nat → Prop
  | [], _ => True
  | o :: r, k => (∀ L a w, L k = false → I L w → (∀ s, freeSlot h s = true → a.tmps.getD s undef = a0.tmps.getD s undef) → depHoldP σ ops Φ a w o.after.toList →
      Oper.wp P o a w (fun a' w' => ∃ v, a' = a.put o.dst v ∧ Φ k (givesP σ k o v a) w' ∧ I (fun j => decide (j = k) || L j) w' ∧ G k w w') Q) ∧ stepHoldP σ P ops h a0 I Φ G Q r (k + 1)
def sigB (σ : Nat → Tmp) (ops : Array Oper) (n : Nat) : Bool :=
  (List.range n).all fun j => match ops[j]? with
    | some p => p.dst.isSome || (List.range n).all fun i => match ops[i]? with
      | some o => decide (o.dst ≠ some (σ j)) || p.after.toList.any fun e => Region.binds .any e && decide (e.on = i)
      | none => true
    | none => true
section
variable {σ : Nat → Tmp} {P : Program} {ops : Array Oper} {n : Nat} {a0 : Act} {I : (Nat → Bool) → World → Prop} {Φ : Nat → Value → World → Prop} {G : Nat → World → World → Prop} {Q : Exit → Act → World → Prop}
structure RelyP (σ : Nat → Tmp) (ops : Array Oper) (n : Nat) (a0 : Act) (I : (Nat → Bool) → World → Prop) (Φ : Nat → Value → World → Prop) (listed : Array Bool) (a : Act) (w : World) : Prop where
  inv : I (fun j => listed.getD j false) w
  defers : a.defers = a0.defers
  size : a.tmps.size = a0.tmps.size
  same : ∀ s, freeSlot (ops.toList.take n) s = true → a.tmps.getD s undef = a0.tmps.getD s undef
  done : ∀ j o, j < n → ops[j]? = some o → listed.getD j false = true → Φ j (heldP σ j o a) w
theorem depHoldP_of {a : Act} {w : World} : ∀ (l : List Edge), (∀ e ∈ l, Region.binds .any e = true → ∀ o, ops[e.on]? = some o → Φ e.on (heldP σ e.on o a) w) → depHoldP σ ops Φ a w l
  | [], _ => trivial
  | e :: r, h => ⟨by
      split
      · rename_i hb
        cases ho : ops[e.on]? with
        | none => trivial
        | some o => exact h e (List.mem_cons_self) hb o ho
      · trivial, depHoldP_of r (fun e' he' => h e' (List.mem_cons_of_mem _ he'))⟩
theorem stepHoldP_get {h : List Oper} : ∀ (l : List Oper) (k : Nat), stepHoldP σ P ops h a0 I Φ G Q l k → ∀ i o, l[i]? = some o → ∀ L a w, L (k + i) = false → I L w → (∀ s, freeSlot h s = true → a.tmps.getD s undef = a0.tmps.getD s undef) → depHoldP σ ops Φ a w o.after.toList →
      Oper.wp P o a w (fun a' w' => ∃ v, a' = a.put o.dst v ∧ Φ (k + i) (givesP σ (k + i) o v a) w' ∧ I (fun j => decide (j = k + i) || L j) w' ∧ G (k + i) w w') Q
  | [], _, _, i, o, h => by simp at h
  | o' :: r, k, ⟨h1, h2⟩, 0, o, h => by
    obtain rfl : o' = o := by simpa using h
    exact h1
  | o' :: r, k, ⟨_, h2⟩, i + 1, o, h => by
    have := stepHoldP_get r (k + 1) h2 i o (by simpa using h)
    rwa [show k + 1 + i = k + (i + 1) by omega] at this
theorem heldP_put_self {j : Nat} {o : Oper} {a : Act} {v : Value} (h : ∀ s, o.dst = some s → s < a.tmps.size) : heldP σ j o (a.put o.dst v) = givesP σ j o v a := by
  unfold heldP givesP Act.put
  cases hd : o.dst with
  | none => rfl
  | some s => simp [h s hd]
theorem heldP_put_other {j : Nat} {o p : Oper} {a : Act} {v : Value} (h : o.dst = none ∨ o.dst ≠ p.dst) (h2 : o.dst = none → p.dst ≠ some (σ j)) : heldP σ j o (a.put p.dst v) = heldP σ j o a := by
  unfold heldP Act.put
  cases hd : o.dst with
  | none =>
    cases hp : p.dst with
    | none => rfl
    | some t =>
      have : t ≠ σ j := fun e => h2 hd (by rw [hp, e])
      simp [Array.getElem?_setIfInBounds_ne this]
  | some s =>
    cases hp : p.dst with
    | none => rfl
    | some t =>
      have : t ≠ s := by
        rintro rfl
        rcases h with h | h
        · rw [hd] at h; cases h
        · exact h (hd.trans hp.symm)
      simp [Array.getElem?_setIfInBounds_ne this]
theorem allHoldP_of (Φ : Nat → Value → World → Prop) (vs : Nat → Value) (a : Act) (w : World) : ∀ (l : List Oper) (k : Nat), (∀ i o, l[i]? = some o → Φ (k + i) (match o.dst with | some _ => vs (k + i) | none => a.tmps.getD (σ (k + i)) undef) w) → allHoldP σ Φ vs a w l k
  | [], _, _ => trivial
  | o :: r, k, h => ⟨h 0 o rfl, allHoldP_of Φ vs a w r (k + 1) fun i p hp => by
      have := h (i + 1) p (by simpa using hp)
      rwa [show k + 1 + i = k + (i + 1) by omega]⟩
theorem rely_allP (hnn : n = ops.size) (hB : relyE ops n a0.tmps.size = true) (hσ : sigB σ ops n = true) (stab : ∀ i j v w w', i ≠ j → G i w w' → Φ j v w → Φ j v w')
    (steps : stepHoldP σ P ops (ops.toList.take n) a0 I Φ G Q (ops.toList.take n) 0)
    (fin : ∀ (vs : Nat → Value) L w, (∀ j, j < n → L j = true) → I L w → allHoldP σ Φ vs (putL (ops.toList.take n) 0 vs a0) w (ops.toList.take n) 0 → Q .normal (putL (ops.toList.take n) 0 vs a0) w) :
    ∀ (f : Nat) (listed : Array Bool) (a : Act) (w : World), cntU n listed = f → HeadInv .any ops n listed → RelyP σ ops n a0 I Φ listed a w → wpAny P .any ops Q (f + (ops.size - n)) listed a w := by
  simp only [relyE, Bool.and_eq_true, decide_eq_true_eq, List.all_eq_true] at hB
  obtain ⟨hg, hd⟩ := hB
  have hgood : ∀ i o, i < n → ops[i]? = some o → o.guard = none ∧ (∀ s, o.dst = some s → s < a0.tmps.size) ∧ (∀ e ∈ o.after, Region.binds .any e = true → e.on < i) ∧ (∀ j p, j < i → ops[j]? = some p → p.dst = none ∨ p.dst ≠ o.dst) := by
    intro i o hi ho
    have hmem : o ∈ ops.toList.take n := by
      have : (ops.toList.take n)[i]? = some o := by rw [List.getElem?_take_of_lt hi]; simpa using ho
      exact List.mem_of_getElem? this
    have h1 := hg o hmem
    have h2 := hd i (List.mem_range.2 hi)
    rw [ho] at h2
    simp only [Bool.and_eq_true, List.all_eq_true, decide_eq_true_eq, Bool.or_eq_true, Bool.not_eq_true'] at h2
    refine ⟨h1.1, fun s hs => ?_, fun e he hb => (h2.1 e (by simpa using he)).resolve_left (by rw [hb]; simp), fun j p hj hp => ?_⟩
    · have h3 := h1.2
      rw [hs] at h3
      simpa using h3
    · have h3 := h2.2 j (List.mem_range.2 hj)
      rw [hp] at h3
      simpa only [Bool.or_eq_true, decide_eq_true_eq] using h3
  intro f
  induction f with
  | zero =>
    intro listed a w hf inv R
    have hall := cntU_zero n listed hf
    rw [Nat.zero_add]
    have hdone : ∀ j, j < n → listed.getD j false = true := fun j hj => by
      have h1 := hall j hj
      have h2 : j < listed.size := by rw [inv.size]; omega
      simpa [h2] using h1
    have hsz0 : ops.size - n = 0 := by omega
    rw [hsz0]
    refine ⟨?_, ?_⟩
    · refine List.eq_nil_iff_forall_not_mem.2 fun i hi => ?_
      obtain ⟨h1, o, ho, _⟩ := mem_ready.1 hi
      have hi2 : i < n := by rw [hnn]; exact (Array.getElem?_eq_some_iff.1 ho).1
      rw [hall i hi2] at h1
      cases h1
    · have hvs : a = putL (ops.toList.take n) 0 (fun j => match ops[j]? with | some o => heldBy o a | none => undef) a0 := by
        have h1 := putL_size (ops.toList.take n) 0 (fun j => match ops[j]? with | some o => heldBy o a | none => undef) a0
        have h2 : a.tmps = (putL (ops.toList.take n) 0 (fun j => match ops[j]? with | some o => heldBy o a | none => undef) a0).tmps := by
          refine getD_undef_ext (by rw [h1.1, R.size]) fun s hs' => ?_
          refine (putL_at s (a.tmps.getD s undef) _ 0 _ a0 (by rw [← R.size]; exact hs') (fun i o ho hd' => ?_) (fun hf' => (R.same s hf').symm)).symm
          have hi : i < n := by
            have := (List.getElem?_eq_some_iff.1 ho).1
            rw [List.length_take] at this; omega
          rw [List.getElem?_take_of_lt hi] at ho
          have ho' : ops[i]? = some o := by simpa using ho
          simp only [Nat.zero_add, ho']
          unfold heldBy
          rw [hd']
        cases a
        have h3 := h1.2
        have h4 := R.defers
        simp only at h2 h4
        generalize putL (ops.toList.take n) 0 _ a0 = b at *
        cases b
        simp only at h2 h3 ⊢
        rw [h2, h4, h3]
      rw [hvs]
      refine fin _ _ w (fun j hj => hdone j hj) R.inv (allHoldP_of _ _ _ _ _ 0 fun i o ho => ?_)
      have hi : i < n := by
        have := (List.getElem?_eq_some_iff.1 ho).1
        rw [List.length_take] at this; omega
      rw [List.getElem?_take_of_lt hi] at ho
      have ho' : ops[i]? = some o := by simpa using ho
      have h9 := R.done i o hi ho' (by have := hall i hi; simp only [Array.getD_eq_getD_getElem?] at this ⊢; cases hx : listed[i]? with
        | none => have := Array.getElem?_eq_none_iff.1 hx; rw [inv.size] at this; omega
        | some b => rw [hx] at this; simpa using this)
      rw [← hvs]
      simp only [Nat.zero_add, ho']
      have : (match o.dst with | some _ => heldBy o a | none => a.tmps.getD (σ i) undef) = heldP σ i o a := by unfold heldP heldBy; cases o.dst <;> rfl
      rw [this]; exact h9
  | succ f ih =>
    intro listed a w hf inv R
    have hex : ∃ i, i < n ∧ listed.getD i true = false ∧ ∀ j, j < i → listed.getD j true = true := by
      have h0 : ∃ i, i < n ∧ listed.getD i true = false := by
        refine Classical.byContradiction fun hno => ?_
        have : ∀ m, m ≤ n → cntU m listed = 0 := by
          intro m
          induction m with
          | zero => intro _; rfl
          | succ m ihm =>
            intro hm
            simp only [cntU]
            rw [ihm (by omega), if_pos (by
              cases hb : listed.getD m true with
              | true => rfl
              | false => exact absurd ⟨m, by omega, hb⟩ hno)]
        have := this n (Nat.le_refl _)
        omega
      obtain ⟨i, hi, hl⟩ := h0
      induction i using Nat.strongRecOn with
      | _ i ihi =>
        by_cases hb : ∃ j, j < i ∧ listed.getD j true = false
        · obtain ⟨j, hj, hjl⟩ := hb
          exact ihi j hj (by omega) hjl
        · refine ⟨i, hi, hl, fun j hj => ?_⟩
          cases hx : listed.getD j true with
          | true => rfl
          | false => exact absurd ⟨j, hj, hx⟩ hb
    obtain ⟨i0, hi0, hl0, hmin⟩ := hex
    have hready : i0 ∈ Region.ready .any ops listed := by
      have hlt : i0 < ops.size := by omega
      refine mem_ready.2 ⟨hl0, _, Array.getElem?_eq_getElem hlt, fun e he hb => ?_⟩
      have h1 := (hgood i0 _ hi0 (Array.getElem?_eq_getElem hlt)).2.2.1 e he hb
      have h2 := hmin e.on h1
      have h3 : e.on < listed.size := by rw [inv.size]; omega
      simpa [h3] using h2
    rw [show f + 1 + (ops.size - n) = (f + (ops.size - n)) + 1 by omega]
    refine ⟨fun h => (by rw [h] at hready; cases hready), fun i hi => ?_⟩
    have hin : i < n := by
      obtain ⟨_, o, ho, _⟩ := mem_ready.1 hi
      rw [hnn]; exact (Array.getElem?_eq_some_iff.1 ho).1
    obtain ⟨hun, o, ho, hall⟩ := mem_ready.1 hi
    obtain ⟨hgd, hdst, hdep, hdis⟩ := hgood i o hin ho
    have hst := stepHoldP_get (ops.toList.take n) 0 steps i o (by rw [List.getElem?_take_of_lt hin]; simpa using ho) (fun j => listed.getD j false) a w (by rw [Nat.zero_add]; exact getD_both hun) R.inv R.same (depHoldP_of _ fun e he hb p hp =>
      R.done e.on p (by have := hdep e (by simpa using he) hb; omega) hp (hall e (by simpa using he) hb))
    unfold wpOp
    rw [ho]
    simp only
    rw [if_pos (by simp [Region.wanted, hgd])]
    refine Or.inl (Oper.wp_mono (fun a' w' hk => ?_) hst)
    obtain ⟨v, rfl, hΦ, hI, hG⟩ := hk
    rw [Nat.zero_add] at hΦ hG hI
    have hI : I (fun j => (listed.setIfInBounds i true).getD j false) w' := by
      have : (fun j => (listed.setIfInBounds i true).getD j false) = fun j => decide (j = i) || listed.getD j false := by
        funext j
        by_cases hj : j = i
        · subst hj
          have : j < listed.size := by rw [inv.size]; omega
          simp [this]
        · rw [getD_set_ne false (Ne.symm hj), decide_eq_false hj]; rfl
      rw [this]; exact hI
    refine ih _ _ _ (by have := cntU_set n listed i hin hun; omega) (inv.set hi hin) ⟨hI, ?_, ?_, fun s hs' => ?_, fun j p hj hp hl => ?_⟩
    · have := R.defers
      unfold Act.put
      cases o.dst <;> exact this
    · have := R.size
      unfold Act.put
      cases o.dst <;> simpa using this
    · rw [← R.same s hs']
      have hne : o.dst ≠ some s := by
        unfold freeSlot at hs'
        have := List.all_eq_true.1 hs' o (List.mem_of_getElem? (i := i) (by rw [List.getElem?_take_of_lt hin]; simpa using ho))
        simpa using this
      unfold Act.put
      cases hp : o.dst with
      | none => rfl
      | some q =>
        have : q ≠ s := fun e => hne (by rw [hp, e])
        simp [Array.getElem?_setIfInBounds_ne this]
    · by_cases hij : i = j
      · subst hij
        obtain rfl : o = p := Option.some.inj (ho.symm.trans hp)
        rw [heldP_put_self (fun s hs' => by rw [R.size]; exact hdst s hs')]
        exact hΦ
      · rw [getD_set_ne false hij] at hl
        have hdd : p.dst = none ∨ p.dst ≠ o.dst := by
          rcases Nat.lt_or_gt_of_ne hij with h | h
          · rcases (hgood j p hj hp).2.2.2 i o h ho with h1 | h1
            · cases hpd : p.dst with
              | none => exact Or.inl rfl
              | some q => right; rw [h1]; simp
            · right; exact fun e => h1 e.symm
          · exact hdis j p h hp
        rw [heldP_put_other hdd (fun hpn e => by
          have h1 := List.all_eq_true.1 hσ j (List.mem_range.2 hj)
          rw [hp] at h1
          simp only [hpn, Option.isSome_none, Bool.false_or] at h1
          have h2 := List.all_eq_true.1 h1 i (List.mem_range.2 hin)
          rw [ho] at h2
          simp only [e, ne_eq, not_true_eq_false, decide_false, Bool.false_or] at h2
          obtain ⟨e', he', hb'⟩ := List.any_eq_true.1 h2
          simp only [Bool.and_eq_true, decide_eq_true_eq] at hb'
          have h3 := inv.closed j p hp hl e' (by simpa using he') hb'.1
          rw [hb'.2, getD_both hun] at h3
          cases h3)]
        exact stab i j _ w w' hij hG (R.done j p hj hp hl)
end
theorem wp_region_everyP {σ : Nat → Tmp} {P : Program} {id : Nat} {Q : Exit → Act → World → Prop} {a : Act} {w : World} {l : List Oper} (I : (Nat → Bool) → World → Prop) (Φ : Nat → Value → World → Prop) (G : Nat → World → World → Prop) (hm : P.follows .mixedOrders = true) (hB : relyE l.toArray l.length a.tmps.size = true) (hσ : sigB σ l.toArray l.length = true)
    (h0 : I (fun _ => false) { w with drawn := w.drawn + 1 }) (stab : ∀ i j v w w', i ≠ j → G i w w' → Φ j v w → Φ j v w') (steps : stepHoldP σ P l.toArray l a I Φ G Q l 0)
    (fin : ∀ (vs : Nat → Value) L w, (∀ j, j < l.length → L j = true) → I L w → allHoldP σ Φ vs (putL l 0 vs a) w l 0 → Q .normal (putL l 0 vs a) w) : (Code.region id l.toArray true).wp P Q a w := by
  refine wp_region_any hm ?_
  have ht : l.toArray.toList.take l.length = l := by simp
  have key := rely_allP (P := P) (ops := l.toArray) (n := l.length) (Q := Q) (by simp) hB hσ stab (by rw [ht]; exact steps) (by rw [ht]; exact fin) l.length (Array.replicate l.toArray.size false) a { w with drawn := w.drawn + 1 } (cntU_new _ _ (by simp))
    ⟨by simp, fun j oj _ hl => (by rw [getD_replicate_false] at hl; cases hl), fun t _ ht => getD_in (by simpa using ht) (getD_replicate_false _ _)⟩
    ⟨by
      have : (fun j => (Array.replicate l.toArray.size false).getD j false) = fun _ => false := funext fun j => getD_replicate_false _ _
      rw [this]; exact h0, rfl, rfl, fun _ _ => rfl, fun j o _ _ hl => (by rw [getD_replicate_false] at hl; cases hl)⟩
  rwa [show l.length + (l.toArray.size - l.length) = l.toArray.size by simp] at key
def uniqB (l : List Oper) (s k : Nat) : Bool :=
  (match l[k]? with | some o => decide (o.dst = some s) | none => false) && (List.range l.length).all fun i => decide (i = k) || (match l[i]? with | some o => decide (o.dst ≠ some s) | none => true)
theorem putL_slot {l : List Oper} {s k : Nat} {vs : Nat → Value} {a : Act} (hs : s < a.tmps.size) (hu : uniqB l s k = true) : (putL l 0 vs a).tmps.getD s undef = vs k := by
  unfold uniqB at hu
  rw [Bool.and_eq_true] at hu
  obtain ⟨h1, h2⟩ := hu
  refine putL_at s (vs k) l 0 vs a hs (fun i o ho hd => ?_) (fun hf => ?_)
  · rw [Nat.zero_add]
    have hi : i < l.length := (List.getElem?_eq_some_iff.1 ho).1
    have h3 := List.all_eq_true.1 h2 i (List.mem_range.2 hi)
    rw [ho] at h3
    simp only [hd, ne_eq, not_true_eq_false, decide_false, Bool.or_false, decide_eq_true_eq] at h3
    rw [h3]
  · cases hk : l[k]? with
    | none => rw [hk] at h1; cases h1
    | some o =>
      rw [hk] at h1
      have h3 : o.dst = some s := by simpa using h1
      unfold freeSlot at hf
      have := List.all_eq_true.1 hf o (List.mem_of_getElem? hk)
      exact absurd h3 (by simpa using this)
end Th
