/- A scope whose code jumps back to any of several labels: what holds at each jump, and a measure that every pass lowers. No conditions: it imports no program.
A region that draws its order, in which each operation may come up at any time behind those that it waits for: all of them are met once. No conditions: it imports no program. -/
import Derived.Test.YtfgcelcmbjokgaaGreatDoorBase
import Derived.Test.YtfgcelcmbjokgaaGreatDoorRelyG
import Derived.Scope
import Derived.WalkMore
namespace Th
open Go

/-- as Q; by a goto to a label l that has its rest: J l; by no other goto -/
def outBy (R : Nat → Option Code) (J : Nat → Act → World → Prop) (Q : Exit → Act → World → Prop) : Exit → Act → World → Prop
  | .goto l, a, w => R l ≠ none ∧ J l a w
  | e, a, w => Q e a w
theorem outBy_goto {R : Nat → Option Code} {J : Nat → Act → World → Prop} {Q : Exit → Act → World → Prop} {l : Nat} {a : Act} {w : World} (h : R l ≠ none) (hJ : J l a w) : outBy R J Q (.goto l) a w := ⟨h, hJ⟩
theorem outBy_ret {R : Nat → Option Code} {J : Nat → Act → World → Prop} {Q : Exit → Act → World → Prop} {a : Act} {w : World} : outBy R J Q .ret a w = Q .ret a w := rfl
theorem outBy_normal {R : Nat → Option Code} {J : Nat → Act → World → Prop} {Q : Exit → Act → World → Prop} {a : Act} {w : World} : outBy R J Q .normal a w = Q .normal a w := rfl

theorem wp_scope_many {P : Program} {a : Act} {w : World} {Q : Exit → Act → World → Prop} {c : Code} (R : Nat → Option Code) (J : Nat → Nat → Act → World → Prop) (hf : ∀ l r, R l = some r → findLabel c l = some r)
    (first : c.wp P (outBy R (fun l a w => ∃ n, J n l a w) Q) a w)
    (pass : ∀ n l r a w, R l = some r → J n l a w → r.wp P (outBy R (fun l' a' w' => ∃ m, m < n ∧ J m l' a' w') Q) a w) : (Code.scope c).wp P Q a w := by
  intro b k cs
  have hg : ∀ l r, R l = some r → gotoIn l (.inScope c :: k) = some (.code r :: .inScope c :: k) := fun l r h => by simp [gotoIn, hf l r h]
  have key : ∀ n l r a w, R l = some r → J n l a w → ∃ e a' w', Q e a' w' ∧ Arrives P (lone (b.at a (.code r :: .inScope c :: k)) cs w) b k cs e a' w' := by
    intro n
    induction n using Nat.strongRecOn with
    | _ n ih =>
      intro l r a w hr hJ
      obtain ⟨e, a₁, w₁, hq, harr⟩ := pass n l r a w hr hJ b (.inScope c :: k) cs
      cases e with
      | normal => exact ⟨.normal, a₁, w₁, hq, Steps.trans harr (.one step_inScope)⟩
      | exit id => exact ⟨.exit id, a₁, w₁, hq, fun k' hk => harr k' (by simp [exitTo, hk])⟩
      | goto l' =>
        obtain ⟨hne, m, hlt, hJ'⟩ := hq
        obtain ⟨r', hr'⟩ := Option.ne_none_iff_exists'.1 hne
        obtain ⟨e₂, a₂, w₂, hq₂, harr₂⟩ := ih m hlt l' r' a₁ w₁ hr' hJ'
        exact ⟨e₂, a₂, w₂, hq₂, .of_steps (harr _ (hg l' r' hr')) harr₂⟩
      | ret => exact ⟨_, a₁, w₁, hq, harr⟩
      | panic ch => exact ⟨_, a₁, w₁, hq, harr⟩
      | outgrown => exact ⟨_, a₁, w₁, hq, harr⟩
  obtain ⟨e, a₁, w₁, hq, harr⟩ := first b (.inScope c :: k) cs
  cases e with
  | normal => exact ⟨.normal, a₁, w₁, hq, .head step_scope (Steps.trans harr (.one step_inScope))⟩
  | exit id => exact ⟨.exit id, a₁, w₁, hq, fun k' hk => .head step_scope (harr k' (by simp [exitTo, hk]))⟩
  | goto l' =>
    obtain ⟨hne, n, hJ'⟩ := hq
    obtain ⟨r', hr'⟩ := Option.ne_none_iff_exists'.1 hne
    obtain ⟨e₂, a₂, w₂, hq₂, harr₂⟩ := key n l' r' a₁ w₁ hr' hJ'
    exact ⟨e₂, a₂, w₂, hq₂, .of_steps (.head step_scope (harr _ (hg l' r' hr'))) harr₂⟩
  | ret => exact ⟨_, a₁, w₁, hq, .of_steps (.one step_scope) harr⟩
  | panic ch => exact ⟨_, a₁, w₁, hq, .of_steps (.one step_scope) harr⟩
  | outgrown => exact ⟨_, a₁, w₁, hq, .of_steps (.one step_scope) harr⟩
def four (r0 r1 r2 r3 : Code) : Nat → Option Code
  | 0 => some r0
  | 1 => some r1
  | 2 => some r2
  | 3 => some r3
  | _ => none
/-- four labels; what is left behind label 3 is walked first, then behind label 1, then the code as a whole, then behind 0 and 2 -/
theorem wp_scope_four {P : Program} {a : Act} {w : World} {Q : Exit → Act → World → Prop} {c r0 r1 r2 r3 : Code} (J : Nat → Nat → Act → World → Prop) (h0 : findLabel c 0 = some r0) (h1 : findLabel c 1 = some r1) (h2 : findLabel c 2 = some r2) (h3 : findLabel c 3 = some r3)
    (p3 : ∀ n a w, J n 3 a w → r3.wp P (outBy (four r0 r1 r2 r3) (fun l' a' w' => ∃ m, m < n ∧ J m l' a' w') Q) a w)
    (p1 : (∀ n a w, J n 3 a w → r3.wp P (outBy (four r0 r1 r2 r3) (fun l' a' w' => ∃ m, m < n ∧ J m l' a' w') Q) a w) → ∀ n a w, J n 1 a w → r1.wp P (outBy (four r0 r1 r2 r3) (fun l' a' w' => ∃ m, m < n ∧ J m l' a' w') Q) a w)
    (first : (∀ n a w, J n 1 a w → r1.wp P (outBy (four r0 r1 r2 r3) (fun l' a' w' => ∃ m, m < n ∧ J m l' a' w') Q) a w) → c.wp P (outBy (four r0 r1 r2 r3) (fun l a w => ∃ n, J n l a w) Q) a w)
    (p0 : ∀ n a w, J n 0 a w → r0.wp P (outBy (four r0 r1 r2 r3) (fun l' a' w' => ∃ m, m < n ∧ J m l' a' w') Q) a w)
    (p2 : ∀ n a w, J n 2 a w → r2.wp P (outBy (four r0 r1 r2 r3) (fun l' a' w' => ∃ m, m < n ∧ J m l' a' w') Q) a w) : (Code.scope c).wp P Q a w := by
  refine wp_scope_many (four r0 r1 r2 r3) J (fun l r h => ?_) (first (p1 p3)) (fun n l r a w h hJ => ?_)
  · match l with
    | 0 => rw [h0]; exact h
    | 1 => rw [h1]; exact h
    | 2 => rw [h2]; exact h
    | 3 => rw [h3]; exact h
    | _ + 4 => cases h
  · match l with
    | 0 => obtain rfl : r0 = r := Option.some.inj h; exact p0 n a w hJ
    | 1 => obtain rfl : r1 = r := Option.some.inj h; exact p1 p3 n a w hJ
    | 2 => obtain rfl : r2 = r := Option.some.inj h; exact p2 n a w hJ
    | 3 => obtain rfl : r3 = r := Option.some.inj h; exact p3 n a w hJ
    | _ + 4 => cases h
theorem outBy_mono {R : Nat → Option Code} {J J' : Nat → Act → World → Prop} {Q : Exit → Act → World → Prop} {P : Program} {c : Code} {a : Act} {w : World} (hJ : ∀ l a w, J l a w → J' l a w) (h : c.wp P (outBy R J Q) a w) : c.wp P (outBy R J' Q) a w :=
  Code.wp_mono (fun e a w => by
    cases e with
    | goto l => exact fun ⟨h1, h2⟩ => ⟨h1, hJ l a w h2⟩
    | normal => exact id
    | exit id => exact fun h => h
    | ret => exact id
    | panic ch => exact fun h => h
    | outgrown => exact id) h
end Th
namespace Th
open Go Go.RowKit
/-- what the rule asks of the region's text -/
def relyE (ops : Array Oper) (n sz : Nat) : Bool :=
  ((ops.toList.take n).all fun o => decide (o.guard = none) && (match o.dst with | some s => decide (s < sz) | none => true)) &&
  ((List.range n).all fun i => match ops[i]? with | some o => o.after.toList.all (fun e => !(Region.binds .any e) || decide (e.on < i)) && (List.range i).all (fun j => match ops[j]? with | some p => decide (p.dst = none) || decide (p.dst ≠ o.dst) | none => true) | none => true)
section
variable {P : Program} {ops : Array Oper} {n : Nat} {a0 : Act} {I : (Nat → Bool) → World → Prop} {Φ : Nat → Value → World → Prop} {G : Nat → World → World → Prop} {Q : Exit → Act → World → Prop}
theorem rely_all (hnn : n = ops.size) (hB : relyE ops n a0.tmps.size = true) (stab : ∀ i j v w w', i ≠ j → G i w w' → Φ j v w → Φ j v w')
    (steps : stepHold P ops (ops.toList.take n) a0 I Φ G Q (ops.toList.take n) 0)
    (fin : ∀ (vs : Nat → Value) L w, (∀ j, j < n → L j = true) → I L w → allHold Φ vs w (ops.toList.take n) 0 → Q .normal (putL (ops.toList.take n) 0 vs a0) w) :
    ∀ (f : Nat) (listed : Array Bool) (a : Act) (w : World), cntU n listed = f → HeadInv .any ops n listed → RelyS ops n a0 I Φ listed a w → wpAny P .any ops Q (f + (ops.size - n)) listed a w := by
  simp only [relyE, Bool.and_eq_true, decide_eq_true_eq, List.all_eq_true] at hB
  obtain ⟨hg, hd⟩ := hB
  have hgood : ∀ i o, i < n → ops[i]? = some o → o.guard = none ∧ (∀ s, o.dst = some s → s < a0.tmps.size) ∧ (∀ e ∈ o.after, Region.binds .any e = true → e.on < i) ∧ (∀ j p, j < i → ops[j]? = some p → p.dst = none ∨ p.dst ≠ o.dst) := by
    intro i o hi ho
    have hmem : o ∈ ops.toList.take n := by
      have : (ops.toList.take n)[i]? = some o := by rw [List.getElem?_take_of_lt hi]; simpa using ho
      exact List.mem_of_getElem? this
    have h1 := hg o hmem
    have h2 := hd i (List.mem_range.2 hi)
    rw [ho] at h2
    simp only [Bool.and_eq_true, List.all_eq_true, decide_eq_true_eq, Bool.or_eq_true, Bool.not_eq_true'] at h2
    refine ⟨h1.1, fun s hs => ?_, fun e he hb => (h2.1 e (by simpa using he)).resolve_left (by rw [hb]; simp), fun j p hj hp => ?_⟩
    · have h3 := h1.2
      rw [hs] at h3
      simpa using h3
    · have h3 := h2.2 j (List.mem_range.2 hj)
      rw [hp] at h3
      simpa only [Bool.or_eq_true, decide_eq_true_eq] using h3
  intro f
  induction f with
  | zero =>
    intro listed a w hf inv R
    have hall := cntU_zero n listed hf
    rw [Nat.zero_add]
    have hdone : ∀ j, j < n → listed.getD j false = true := fun j hj => by
      have h1 := hall j hj
      have h2 : j < listed.size := by rw [inv.size]; omega
      simpa [h2] using h1
    have hsz0 : ops.size - n = 0 := by omega
    rw [hsz0]
    refine ⟨?_, ?_⟩
    · refine List.eq_nil_iff_forall_not_mem.2 fun i hi => ?_
      obtain ⟨h1, o, ho, _⟩ := mem_ready.1 hi
      have hi2 : i < n := by rw [hnn]; exact (Array.getElem?_eq_some_iff.1 ho).1
      rw [hall i hi2] at h1
      cases h1
    · have hvs : a = putL (ops.toList.take n) 0 (fun j => match ops[j]? with | some o => heldBy o a | none => undef) a0 := by
        have h1 := putL_size (ops.toList.take n) 0 (fun j => match ops[j]? with | some o => heldBy o a | none => undef) a0
        have h2 : a.tmps = (putL (ops.toList.take n) 0 (fun j => match ops[j]? with | some o => heldBy o a | none => undef) a0).tmps := by
          refine getD_undef_ext (by rw [h1.1, R.size]) fun s hs' => ?_
          refine (putL_at s (a.tmps.getD s undef) _ 0 _ a0 (by rw [← R.size]; exact hs') (fun i o ho hd' => ?_) (fun hf' => (R.same s hf').symm)).symm
          have hi : i < n := by
            have := (List.getElem?_eq_some_iff.1 ho).1
            rw [List.length_take] at this; omega
          rw [List.getElem?_take_of_lt hi] at ho
          have ho' : ops[i]? = some o := by simpa using ho
          simp only [Nat.zero_add, ho']
          unfold heldBy
          rw [hd']
        cases a
        have h3 := h1.2
        have h4 := R.defers
        simp only at h2 h4
        generalize putL (ops.toList.take n) 0 _ a0 = b at *
        cases b
        simp only at h2 h3 ⊢
        rw [h2, h4, h3]
      rw [hvs]
      refine fin _ _ w (fun j hj => hdone j hj) R.inv (allHold_of _ _ _ _ 0 fun i o ho => ?_)
      have hi : i < n := by
        have := (List.getElem?_eq_some_iff.1 ho).1
        rw [List.length_take] at this; omega
      rw [List.getElem?_take_of_lt hi] at ho
      have ho' : ops[i]? = some o := by simpa using ho
      have h9 := R.done i o hi ho' (by have := hall i hi; simp only [Array.getD_eq_getD_getElem?] at this ⊢; cases hx : listed[i]? with
        | none => have := Array.getElem?_eq_none_iff.1 hx; rw [inv.size] at this; omega
        | some b => rw [hx] at this; simpa using this)
      simp only [Nat.zero_add, ho']
      have : gives o (heldBy o a) = heldBy o a := by unfold gives heldBy; cases o.dst <;> rfl
      rw [this]; exact h9
  | succ f ih =>
    intro listed a w hf inv R
    have hex : ∃ i, i < n ∧ listed.getD i true = false ∧ ∀ j, j < i → listed.getD j true = true := by
      have h0 : ∃ i, i < n ∧ listed.getD i true = false := by
        refine Classical.byContradiction fun hno => ?_
        have : ∀ m, m ≤ n → cntU m listed = 0 := by
          intro m
          induction m with
          | zero => intro _; rfl
          | succ m ihm =>
            intro hm
            simp only [cntU]
            rw [ihm (by omega), if_pos (by
              cases hb : listed.getD m true with
              | true => rfl
              | false => exact absurd ⟨m, by omega, hb⟩ hno)]
        have := this n (Nat.le_refl _)
        omega
      obtain ⟨i, hi, hl⟩ := h0
      induction i using Nat.strongRecOn with
      | _ i ihi =>
        by_cases hb : ∃ j, j < i ∧ listed.getD j true = false
        · obtain ⟨j, hj, hjl⟩ := hb
          exact ihi j hj (by omega) hjl
        · refine ⟨i, hi, hl, fun j hj => ?_⟩
          cases hx : listed.getD j true with
          | true => rfl
          | false => exact absurd ⟨j, hj, hx⟩ hb
    obtain ⟨i0, hi0, hl0, hmin⟩ := hex
    have hready : i0 ∈ Region.ready .any ops listed := by
      have hlt : i0 < ops.size := by omega
      refine mem_ready.2 ⟨hl0, _, Array.getElem?_eq_getElem hlt, fun e he hb => ?_⟩
      have h1 := (hgood i0 _ hi0 (Array.getElem?_eq_getElem hlt)).2.2.1 e he hb
      have h2 := hmin e.on h1
      have h3 : e.on < listed.size := by rw [inv.size]; omega
      simpa [h3] using h2
    rw [show f + 1 + (ops.size - n) = (f + (ops.size - n)) + 1 by omega]
    refine ⟨fun h => (by rw [h] at hready; cases hready), fun i hi => ?_⟩
    have hin : i < n := by
      obtain ⟨_, o, ho, _⟩ := mem_ready.1 hi
      rw [hnn]; exact (Array.getElem?_eq_some_iff.1 ho).1
    obtain ⟨hun, o, ho, hall⟩ := mem_ready.1 hi
    obtain ⟨hgd, hdst, hdep, hdis⟩ := hgood i o hin ho
    have hst := stepHold_get (ops.toList.take n) 0 steps i o (by rw [List.getElem?_take_of_lt hin]; simpa using ho) (fun j => listed.getD j false) a w (by rw [Nat.zero_add]; exact getD_both hun) R.inv R.same (depHold_of _ fun e he hb p hp =>
      R.done e.on p (by have := hdep e (by simpa using he) hb; omega) hp (hall e (by simpa using he) hb))
    unfold wpOp
    rw [ho]
    simp only
    rw [if_pos (by simp [Region.wanted, hgd])]
    refine Or.inl (Oper.wp_mono (fun a' w' hk => ?_) hst)
    obtain ⟨v, rfl, hΦ, hI, hG⟩ := hk
    rw [Nat.zero_add] at hΦ hG hI
    have hI : I (fun j => (listed.setIfInBounds i true).getD j false) w' := by
      have : (fun j => (listed.setIfInBounds i true).getD j false) = fun j => decide (j = i) || listed.getD j false := by
        funext j
        by_cases hj : j = i
        · subst hj
          have : j < listed.size := by rw [inv.size]; omega
          simp [this]
        · rw [getD_set_ne false (Ne.symm hj), decide_eq_false hj]; rfl
      rw [this]; exact hI
    refine ih _ _ _ (by have := cntU_set n listed i hin hun; omega) (inv.set hi hin) ⟨hI, ?_, ?_, fun s hs' => ?_, fun j p hj hp hl => ?_⟩
    · have := R.defers
      unfold Act.put
      cases o.dst <;> exact this
    · have := R.size
      unfold Act.put
      cases o.dst <;> simpa using this
    · rw [← R.same s hs']
      have hne : o.dst ≠ some s := by
        unfold freeSlot at hs'
        have := List.all_eq_true.1 hs' o (List.mem_of_getElem? (i := i) (by rw [List.getElem?_take_of_lt hin]; simpa using ho))
        simpa using this
      unfold Act.put
      cases hp : o.dst with
      | none => rfl
      | some q =>
        have : q ≠ s := fun e => hne (by rw [hp, e])
        simp [Array.getElem?_setIfInBounds_ne this]
    · by_cases hij : i = j
      · subst hij
        obtain rfl : o = p := Option.some.inj (ho.symm.trans hp)
        rw [heldBy_put_self (fun s hs' => by rw [R.size]; exact hdst s hs')]
        exact hΦ
      · rw [getD_set_ne false hij] at hl
        have hdd : p.dst = none ∨ p.dst ≠ o.dst := by
          rcases Nat.lt_or_gt_of_ne hij with h | h
          · rcases (hgood j p hj hp).2.2.2 i o h ho with h1 | h1
            · cases hpd : p.dst with
              | none => exact Or.inl rfl
              | some q => right; rw [h1]; simp
            · right; exact fun e => h1 e.symm
          · exact hdis j p h hp
        rw [heldBy_put_other hdd]
        exact stab i j _ w w' hij hG (R.done j p hj hp hl)
end
/-- an operation that yields nothing -/
theorem op_skip {P : Program} {o : Oper} {a : Act} {w w' : World} {K : Act → World → Prop} {Q : Exit → Act → World → Prop} (h : (execOp a.eval o).run P w = .ok .skip w') (hK : K (a.put o.dst undef) w') : Oper.wp P o a w K Q := by
  unfold Oper.wp; rw [h]; exact hK
/-- the rule: no tail -/
theorem wp_region_every {P : Program} {id : Nat} {Q : Exit → Act → World → Prop} {a : Act} {w : World} {l : List Oper} (I : (Nat → Bool) → World → Prop) (Φ : Nat → Value → World → Prop) (G : Nat → World → World → Prop) (hm : P.follows .mixedOrders = true) (hB : relyE l.toArray l.length a.tmps.size = true)
    (h0 : I (fun _ => false) { w with drawn := w.drawn + 1 }) (stab : ∀ i j v w w', i ≠ j → G i w w' → Φ j v w → Φ j v w') (steps : stepHold P l.toArray l a I Φ G Q l 0)
    (fin : ∀ (vs : Nat → Value) L w, (∀ j, j < l.length → L j = true) → I L w → allHold Φ vs w l 0 → Q .normal (putL l 0 vs a) w) : (Code.region id l.toArray true).wp P Q a w := by
  refine wp_region_any hm ?_
  have ht : l.toArray.toList.take l.length = l := by simp
  have key := rely_all (P := P) (ops := l.toArray) (n := l.length) (Q := Q) (by simp) hB stab (by rw [ht]; exact steps) (by rw [ht]; exact fin) l.length (Array.replicate l.toArray.size false) a { w with drawn := w.drawn + 1 } (cntU_new _ _ (by simp))
    ⟨by simp, fun j oj _ hl => (by rw [getD_replicate_false] at hl; cases hl), fun t _ ht => getD_in (by simpa using ht) (getD_replicate_false _ _)⟩
    ⟨by
      have : (fun j => (Array.replicate l.toArray.size false).getD j false) = fun _ => false := funext fun j => getD_replicate_false _ _
      rw [this]; exact h0, rfl, rfl, fun _ _ => rfl, fun j o _ _ hl => (by rw [getD_replicate_false] at hl; cases hl)⟩
  rwa [show l.length + (l.toArray.size - l.length) = l.toArray.size by simp] at key
end Th
