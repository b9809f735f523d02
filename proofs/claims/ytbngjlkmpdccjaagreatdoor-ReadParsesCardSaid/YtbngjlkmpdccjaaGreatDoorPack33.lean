/- Lemmas and contracts for the laws ReadParses, ReadBytes, part 33 of 50: RelyL. Conditions: those that each lemma names. -/
import Derived.Test.YtbngjlkmpdccjaaGreatDoorPack30
namespace Th
open Go Go.RowKit
def depB (ops : Array Oper) (j i : Nat) : Bool := match ops[j]? with | some o => o.after.toList.any fun e => Region.binds .any e && decide (e.on = i) | none => false
def soleB (ops : Array Oper) (n i j : Nat) : Bool := depB ops i j && (List.range n).all fun k => decide (k = i) || !depB ops k j
def deadB (ops : Array Oper) (n j : Nat) : Bool := (List.range n).any fun i => soleB ops n i j
theorem depB_of {ops : Array Oper} {j : Nat} {o : Oper} (h : ops[j]? = some o) {e : Edge} (he : e ∈ o.after) (hb : Region.binds .any e = true) : depB ops j e.on = true := by
  unfold depB
  rw [h]
  simp only [List.any_eq_true, Bool.and_eq_true, decide_eq_true_eq]
  exact ⟨e, by simpa using he, hb, rfl⟩
theorem depB_get {ops : Array Oper} {j i : Nat} {o : Oper} (h : ops[j]? = some o) (hd : depB ops j i = true) : ∃ e ∈ o.after, Region.binds .any e = true ∧ e.on = i := by
  unfold depB at hd
  rw [h] at hd
  simp only [List.any_eq_true, Bool.and_eq_true, decide_eq_true_eq] at hd
  obtain ⟨e, he, hb, ho⟩ := hd
  exact ⟨e, by simpa using he, hb, ho⟩
theorem sole_other {ops : Array Oper} {n i j : Nat} (h : soleB ops n i j = true) (k : Nat) (hk : k ≠ i) (hn : k < n) : depB ops k j = false := by
  unfold soleB at h
  rw [Bool.and_eq_true, List.all_eq_true] at h
  have := h.2 k (List.mem_range.2 hn)
  simpa [hk] using this
def ancB (ops : Array Oper) : Nat → Nat → Nat → Bool
  | 0, _, _ => false
  | f + 1, i, k => depB ops i k || (List.range i).any fun m => depB ops i m && ancB ops f m k
theorem anc_listed {ops : Array Oper} {n : Nat} {listed : Array Bool} (clos : ∀ j o, j < n → ops[j]? = some o → listed.getD j false = true → ∀ e ∈ o.after, Region.binds .any e = true → listed.getD e.on false = true) :
    ∀ f i k, i < n → (∀ m, depB ops i m = true → listed.getD m false = true) → ancB ops f i k = true → listed.getD k false = true
  | 0, _, _, _, _, h => by cases h
  | f + 1, i, k, hi, hd, h => by
    simp only [ancB, Bool.or_eq_true, List.any_eq_true, Bool.and_eq_true, List.mem_range] at h
    rcases h with h | ⟨m, hm, h1, h2⟩
    · exact hd k h
    · refine anc_listed clos f m k (by omega) (fun q hq => ?_) h2
      have hl := hd m h1
      cases ho : ops[m]? with
      | none => unfold depB at hq; rw [ho] at hq; cases hq
      | some o =>
        obtain ⟨e, he, hb, hon⟩ := depB_get ho hq
        rw [← hon]
        exact clos m o (by omega) ho hl e he hb
section
variable {P : Program} {ops : Array Oper} {n : Nat} {a0 : Act} {I : (Nat → Bool) → World → Prop} {Φ : Nat → Value → World → Prop} {G : Nat → World → World → Prop} {Q : Exit → Act → World → Prop}
structure LiveS (ops : Array Oper) (n : Nat) (a0 : Act) (I : (Nat → Bool) → World → Prop) (Φ : Nat → Value → World → Prop) (listed : Array Bool) (a : Act) (w : World) : Prop where
  inv : I (fun j => listed.getD j false) w
  defers : a.defers = a0.defers
  size : a.tmps.size = a0.tmps.size
  same : ∀ s, freeSlot (ops.toList.take n) s = true → a.tmps.getD s undef = a0.tmps.getD s undef
  done : ∀ j o, j < n → ops[j]? = some o → listed.getD j false = true → (∀ i, i < n → listed.getD i false = true → soleB ops n i j = false) → Φ j (heldBy o a) w
  clos : ∀ j o, j < n → ops[j]? = some o → listed.getD j false = true → ∀ e ∈ o.after, Region.binds .any e = true → listed.getD e.on false = true
theorem live_any (hB : relyB ops n a0.tmps.size = true) (stab : ∀ i j v w w', i < n → j < n → i ≠ j → soleB ops n i j = false → ancB ops n j i = false → (∀ k, k < n → ancB ops n i k = true → soleB ops n k j = false) → G i w w' → Φ j v w → Φ j v w')
    (steps : stepHold P ops (ops.toList.take n) a0 I Φ G Q (ops.toList.take n) 0)
    (fin : ∀ (vs : Nat → Value) L w, (∀ j, j < n → L j = true) → I L w → (∀ j o, j < n → ops[j]? = some o → deadB ops n j = false → Φ j (gives o (vs j)) w) → wpList P ops Q (ops.toList.drop n) (putL (ops.toList.take n) 0 vs a0) w) :
    ∀ (f : Nat) (listed : Array Bool) (a : Act) (w : World), cntU n listed = f → HeadInv .any ops n listed → LiveS ops n a0 I Φ listed a w → wpAny P .any ops Q (f + (ops.size - n)) listed a w := by
  simp only [relyB, Bool.and_eq_true, decide_eq_true_eq, List.all_eq_true] at hB
  obtain ⟨⟨⟨⟨⟨⟨_, hn⟩, hs⟩, hc⟩, hseq⟩, hg⟩, hd⟩ := hB
  have hgood : ∀ i o, i < n → ops[i]? = some o → o.guard = none ∧ (∀ s, o.dst = some s → s < a0.tmps.size) ∧ (∀ e ∈ o.after, e.on < i) ∧ (∀ j p, j < i → ops[j]? = some p → p.dst = none ∨ p.dst ≠ o.dst) := by
    intro i o hi ho
    have hmem : o ∈ ops.toList.take n := by
      have : (ops.toList.take n)[i]? = some o := by rw [List.getElem?_take_of_lt hi]; simpa using ho
      exact List.mem_of_getElem? this
    have h1 := hg o hmem
    have h2 := hd i (List.mem_range.2 hi)
    rw [ho] at h2
    simp only [Bool.and_eq_true, List.all_eq_true, decide_eq_true_eq] at h2
    refine ⟨h1.1, fun s hs => ?_, fun e he => h2.1 e (by simpa using he), fun j p hj hp => ?_⟩
    · have h3 := h1.2
      rw [hs] at h3
      simpa using h3
    · have h3 := h2.2 j (List.mem_range.2 hj)
      rw [hp] at h3
      simpa using h3
  intro f
  induction f with
  | zero =>
    intro listed a w hf inv R
    have hall := cntU_zero n listed hf
    have hl : listed = (Array.replicate n true) ++ (Array.replicate (ops.size - n) false) := by
      refine Array.ext (by rw [inv.size]; simp; omega) fun i h1 h2 => ?_
      by_cases hi : i < n
      · have := hall i hi
        rw [Array.getElem_append_left (by simpa using hi)]
        simpa [h1] using this
      · have := inv.tail i (by omega) (by rw [← inv.size]; exact h1)
        rw [Array.getElem_append_right (by simp; omega)]
        simpa [h1] using this
    rw [Nat.zero_add]
    have hdone : ∀ j, j < n → listed.getD j false = true := fun j hj => by
      have h1 := hall j hj
      have h2 : j < listed.size := by rw [inv.size]; omega
      simpa [h2] using h1
    have hdl : (ops.toList.drop n).length = ops.size - n := by simp
    have key := wpAny_of_seq (P := P) (ops := ops) (md := .any) (Q' := Q) (ops.toList.drop n) n listed a w (fun j => by simp [List.getElem?_drop]) (by rw [hdl, hl]; exact hseq) (by
      have hvs : a = putL (ops.toList.take n) 0 (fun j => match ops[j]? with | some o => heldBy o a | none => undef) a0 := by
        have h1 := putL_size (ops.toList.take n) 0 (fun j => match ops[j]? with | some o => heldBy o a | none => undef) a0
        have h2 : a.tmps = (putL (ops.toList.take n) 0 (fun j => match ops[j]? with | some o => heldBy o a | none => undef) a0).tmps := by
          refine getD_undef_ext (by rw [h1.1, R.size]) fun s hs' => ?_
          refine (putL_at s (a.tmps.getD s undef) _ 0 _ a0 (by rw [← R.size]; exact hs') (fun i o ho hd' => ?_) (fun hf' => (R.same s hf').symm)).symm
          have hi : i < n := by
            have := (List.getElem?_eq_some_iff.1 ho).1
            rw [List.length_take] at this; omega
          rw [List.getElem?_take_of_lt hi] at ho
          have ho' : ops[i]? = some o := by simpa using ho
          simp only [Nat.zero_add, ho']
          unfold heldBy
          rw [hd']
        cases a
        have h3 := h1.2
        have h4 := R.defers
        simp only at h2 h4
        generalize putL (ops.toList.take n) 0 _ a0 = b at *
        cases b
        simp only at h2 h3 ⊢
        rw [h2, h4, h3]
      rw [hvs]
      refine fin _ _ w (fun j hj => hdone j hj) R.inv fun i o hi ho hdead => ?_
      have h9 := R.done i o hi ho (hdone i hi) (fun k hk _ => Bool.eq_false_iff.2 fun h => by
        have : deadB ops n i = true := by
          unfold deadB
          rw [List.any_eq_true]
          exact ⟨k, List.mem_range.2 hk, h⟩
        rw [this] at hdead; cases hdead)
      simp only [ho]
      have : gives o (heldBy o a) = heldBy o a := by unfold gives heldBy; cases o.dst <;> rfl
      rw [this]; exact h9)
    rwa [hdl] at key
  | succ f ih =>
    intro listed a w hf inv R
    have hex : ∃ i, i < n ∧ listed.getD i true = false ∧ ∀ j, j < i → listed.getD j true = true := by
      have h0 : ∃ i, i < n ∧ listed.getD i true = false := by
        refine Classical.byContradiction fun hno => ?_
        have : ∀ m, m ≤ n → cntU m listed = 0 := by
          intro m
          induction m with
          | zero => intro _; rfl
          | succ m ihm =>
            intro hm
            simp only [cntU]
            rw [ihm (by omega), if_pos (by
              cases hb : listed.getD m true with
              | true => rfl
              | false => exact absurd ⟨m, by omega, hb⟩ hno)]
        have := this n (Nat.le_refl _)
        omega
      obtain ⟨i, hi, hl⟩ := h0
      induction i using Nat.strongRecOn with
      | _ i ihi =>
        by_cases hb : ∃ j, j < i ∧ listed.getD j true = false
        · obtain ⟨j, hj, hjl⟩ := hb
          exact ihi j hj (by omega) hjl
        · refine ⟨i, hi, hl, fun j hj => ?_⟩
          cases hx : listed.getD j true with
          | true => rfl
          | false => exact absurd ⟨j, hj, hx⟩ hb
    obtain ⟨i0, hi0, hl0, hmin⟩ := hex
    have hready : i0 ∈ Region.ready .any ops listed := by
      have hlt : i0 < ops.size := by omega
      refine mem_ready.2 ⟨hl0, _, Array.getElem?_eq_getElem hlt, fun e he _ => ?_⟩
      have h1 := (hgood i0 _ hi0 (Array.getElem?_eq_getElem hlt)).2.2.1 e he
      have h2 := hmin e.on h1
      have h3 : e.on < listed.size := by rw [inv.size]; omega
      simpa [h3] using h2
    rw [show f + 1 + (ops.size - n) = (f + (ops.size - n)) + 1 by omega]
    refine ⟨fun h => (by rw [h] at hready; cases hready), fun i hi => ?_⟩
    have hin : i < n := (Nat.lt_or_ge i n).resolve_right fun h => tail_waits hs hc hn inv _ i0 rfl hi0 hl0 i h hi
    obtain ⟨hun, o, ho, hall⟩ := mem_ready.1 hi
    obtain ⟨hgd, hdst, hdep, hdis⟩ := hgood i o hin ho
    have hst := stepHold_get (ops.toList.take n) 0 steps i o (by rw [List.getElem?_take_of_lt hin]; simpa using ho) (fun j => listed.getD j false) a w (by rw [Nat.zero_add]; exact getD_both hun) R.inv R.same (depHold_of _ fun e he hb p hp =>
      R.done e.on p (by have := hdep e (by simpa using he); omega) hp (hall e (by simpa using he) hb) (fun k hk hlk => Bool.eq_false_iff.2 fun h => by
        have hki : k ≠ i := fun e' => by
          rw [e'] at hlk
          have := getD_both hun
          rw [this] at hlk; cases hlk
        have h1 := sole_other h i (Ne.symm hki) hin
        rw [depB_of ho (by simpa using he) hb] at h1
        cases h1))
    unfold wpOp
    rw [ho]
    simp only
    rw [if_pos (by simp [Region.wanted, hgd])]
    refine Or.inl (Oper.wp_mono (fun a' w' hk => ?_) hst)
    obtain ⟨v, rfl, hΦ, hI, hG⟩ := hk
    rw [Nat.zero_add] at hΦ hG hI
    have hI : I (fun j => (listed.setIfInBounds i true).getD j false) w' := by
      have : (fun j => (listed.setIfInBounds i true).getD j false) = fun j => decide (j = i) || listed.getD j false := by
        funext j
        by_cases hj : j = i
        · subst hj
          have : j < listed.size := by rw [inv.size]; omega
          simp [this]
        · rw [getD_set_ne false (Ne.symm hj), decide_eq_false hj]; rfl
      rw [this]; exact hI
    refine ih _ _ _ (by have := cntU_set n listed i hin hun; omega) (inv.set hi hin) ⟨hI, ?_, ?_, fun s hs' => ?_, fun j p hj hp hl hlive => ?_, fun j p hj hp hl e he hb => ?_⟩
    · have := R.defers
      unfold Act.put
      cases o.dst <;> exact this
    · have := R.size
      unfold Act.put
      cases o.dst <;> simpa using this
    · rw [← R.same s hs']
      have hne : o.dst ≠ some s := by
        unfold freeSlot at hs'
        have := List.all_eq_true.1 hs' o (List.mem_of_getElem? (i := i) (by rw [List.getElem?_take_of_lt hin]; simpa using ho))
        simpa using this
      unfold Act.put
      cases hp : o.dst with
      | none => rfl
      | some q =>
        have : q ≠ s := fun e => hne (by rw [hp, e])
        simp [Array.getElem?_setIfInBounds_ne this]
    · by_cases hij : i = j
      · subst hij
        obtain rfl : o = p := Option.some.inj (ho.symm.trans hp)
        rw [heldBy_put_self (fun s hs' => by rw [R.size]; exact hdst s hs')]
        exact hΦ
      · rw [getD_set_ne false hij] at hl
        have hdd : p.dst = none ∨ p.dst ≠ o.dst := by
          rcases Nat.lt_or_gt_of_ne hij with h | h
          · rcases (hgood j p hj hp).2.2.2 i o h ho with h1 | h1
            · cases hpd : p.dst with
              | none => exact Or.inl rfl
              | some q => right; rw [h1]; simp
            · right; exact fun e => h1 e.symm
          · exact hdis j p h hp
        rw [heldBy_put_other hdd]
        have hlset : (listed.setIfInBounds i true).getD i false = true := by
          have : i < listed.size := by rw [inv.size]; omega
          simp [this]
        have hst2 : ∀ k, listed.getD k false = true → (listed.setIfInBounds i true).getD k false = true := fun k hlk => by
          by_cases hki : i = k
          · rw [← hki]; exact hlset
          · rw [getD_set_ne false hki]; exact hlk
        refine stab i j _ w w' hin hj hij (hlive i hin hlset) (Bool.eq_false_iff.2 fun hd => ?_) (fun k hk ha => hlive k hk (hst2 k (anc_listed R.clos n i k hin (fun m hm => ?_) ha))) hG (R.done j p hj hp hl fun k hk hlk => hlive k hk (hst2 k hlk))
        · have h1 := anc_listed R.clos n j i hj (fun m hm => by
            obtain ⟨e, he, hb, hon⟩ := depB_get hp hm
            rw [← hon]
            exact R.clos j p hj hp hl e he hb) hd
          have h2 := getD_both hun
          rw [h2] at h1; cases h1
        · obtain ⟨e, he, hb, hon⟩ := depB_get ho hm
          rw [← hon]
          exact hall e he hb
    · by_cases hei : i = e.on
      · rw [← hei]
        have : i < listed.size := by rw [inv.size]; omega
        simp [this]
      · rw [getD_set_ne false hei]
        by_cases hij : i = j
        · subst hij
          obtain rfl : o = p := Option.some.inj (ho.symm.trans hp)
          exact hall e he hb
        · rw [getD_set_ne false hij] at hl
          exact R.clos j p hj hp hl e he hb
end
theorem wp_region_live {P : Program} {id : Nat} {Q : Exit → Act → World → Prop} {a : Act} {w : World} {l : List Oper} (n : Nat) (I : (Nat → Bool) → World → Prop) (Φ : Nat → Value → World → Prop) (G : Nat → World → World → Prop) (hm : P.follows .mixedOrders = true) (hB : relyB l.toArray n a.tmps.size = true)
    (h0 : I (fun _ => false) { w with drawn := w.drawn + 1 }) (stab : ∀ i j v w w', i < n → j < n → i ≠ j → soleB l.toArray n i j = false → ancB l.toArray n j i = false → (∀ k, k < n → ancB l.toArray n i k = true → soleB l.toArray n k j = false) → G i w w' → Φ j v w → Φ j v w') (steps : stepHold P l.toArray (l.take n) a I Φ G Q (l.take n) 0)
    (fin : ∀ (vs : Nat → Value) L w, (∀ j, j < n → L j = true) → I L w → (∀ j o, j < n → l[j]? = some o → deadB l.toArray n j = false → Φ j (gives o (vs j)) w) → wpList P l.toArray Q (l.drop n) (putL (l.take n) 0 vs a) w) : (Code.region id l.toArray true).wp P Q a w := by
  refine wp_region_any hm ?_
  have hn : n < l.toArray.size := by
    simp only [relyB, Bool.and_eq_true, decide_eq_true_eq] at hB
    exact hB.1.1.1.1.1.2
  have key := live_any (P := P) (ops := l.toArray) (Q := Q) hB stab (by simpa using steps) (by simpa using fin) n (Array.replicate l.toArray.size false) a { w with drawn := w.drawn + 1 } (cntU_new n _ (by omega))
    ⟨by simp, fun j oj _ hl => (by rw [getD_replicate_false] at hl; cases hl), fun t _ ht => getD_in (by simpa using ht) (getD_replicate_false _ _)⟩
    ⟨by
      have : (fun j => (Array.replicate l.toArray.size false).getD j false) = fun _ => false := funext fun j => getD_replicate_false _ _
      rw [this]; exact h0, rfl, rfl, fun _ _ => rfl, fun j o _ _ hl => (by rw [getD_replicate_false] at hl; cases hl), fun j o _ _ hl => (by rw [getD_replicate_false] at hl; cases hl)⟩
  rwa [show n + (l.toArray.size - n) = l.toArray.size by omega] at key
end Th
