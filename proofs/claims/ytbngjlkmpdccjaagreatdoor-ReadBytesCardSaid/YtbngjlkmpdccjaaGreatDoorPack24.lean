/- Lemmas and contracts for the laws ReadParses, ReadBytes, part 24 of 50: Tree. Conditions: those that each lemma names. -/
import Derived.Test.YtbngjlkmpdccjaaGreatDoorPack1
import Derived.Test.YtbngjlkmpdccjaaGreatDoorPack18
import Derived.Test.YtbngjlkmpdccjaaGreatDoorPack21
import Derived.StillTail
import Derived.Deep.RegionLawGrows
import Derived.Outline
namespace Th
open Go Go.RowKit
def cntU : Nat → Array Bool → Nat
  | 0, _ => 0
  | k + 1, l => cntU k l + (if l.getD k true = true then 0 else 1)
theorem cntU_high : ∀ (n : Nat) (l : Array Bool) (i : Nat), n ≤ i → cntU n (l.setIfInBounds i true) = cntU n l
  | 0, _, _, _ => rfl
  | k + 1, l, i, h => by
    simp only [cntU]
    rw [cntU_high k l i (by omega), getD_set_ne true (by omega)]
theorem cntU_set : ∀ (n : Nat) (l : Array Bool) (i : Nat), i < n → l.getD i true = false → cntU n l = cntU n (l.setIfInBounds i true) + 1
  | 0, _, _, h, _ => by omega
  | k + 1, l, i, h, hf => by
    simp only [cntU]
    by_cases hk : i = k
    · subst hk
      have hl : i < l.size := by
        rcases Nat.lt_or_ge i l.size with h1 | h1
        · exact h1
        · simp [Array.getElem?_eq_none h1] at hf
      rw [cntU_high i l i (Nat.le_refl _), if_neg (by rw [hf]; simp), if_pos (by simp [hl])]
    · rw [cntU_set k l i (by omega) hf, getD_set_ne true (by omega)]
      omega
theorem cntU_zero : ∀ (n : Nat) (l : Array Bool), cntU n l = 0 → ∀ j, j < n → l.getD j true = true
  | 0, _, _, _, h => by omega
  | k + 1, l, h, j, hj => by
    simp only [cntU] at h
    by_cases hk : j = k
    · subst hk
      by_cases h1 : l.getD j true = true
      · exact h1
      · rw [if_neg h1] at h; omega
    · exact cntU_zero k l (by omega) j (by omega)
theorem cntU_new (n m : Nat) (h : n ≤ m) : cntU n (Array.replicate m false) = n := by
  induction n with
  | zero => rfl
  | succ n ih =>
    simp only [cntU]
    rw [ih (by omega), if_neg (by simp [show n < m by omega])]
def heldBy (o : Oper) (a : Act) : Value := match o.dst with | some s => a.tmps.getD s undef | none => undef
def gives (o : Oper) (v : Value) : Value := match o.dst with | some _ => v | none => undef
def freeSlot (l : List Oper) (s : Nat) : Bool := l.all fun o => decide (o.dst ≠ some s)
def depHold (ops : Array Oper) (Φ : Nat → Value → World → Prop) (a : Act) (w : World) : List Edge → Prop
  | [] => True
  | e :: r => (if Region.binds .any e = true then (match ops[e.on]? with | some o => Φ e.on (heldBy o a) w | none => True) else True) ∧ depHold ops Φ a w r
def putL : List Oper → Nat → (Nat → Value) → Act → Act
  | [], _, _, a => a
  | o :: r, k, vs, a => putL r (k + 1) vs (a.put o.dst (vs k))
def allHold (Φ : Nat → Value → World → Prop) (vs : Nat → Value) (w : World) : List Oper → Nat → Prop
  | [], _ => True
  | o :: r, k => Φ k (gives o (vs k)) w ∧ allHold Φ vs w r (k + 1)
def stepHold (P : Program) (ops : Array Oper) (h : List Oper) (a0 : Act) (I : (Nat → Bool) → World → Prop) (Φ : Nat → Value → World → Prop) (G : Nat → World → World → Prop) (Q : Exit → Act → World → Prop) : List Oper → Nat → Prop
  | [], _ => True
  | o :: r, k => (∀ L a w, L k = false → I L w → (∀ s, freeSlot h s = true → a.tmps.getD s undef = a0.tmps.getD s undef) → depHold ops Φ a w o.after.toList →
      Oper.wp P o a w (fun a' w' => ∃ v, a' = a.put o.dst v ∧ Φ k (gives o v) w' ∧ I (fun j => decide (j = k) || L j) w' ∧ G k w w') Q) ∧ stepHold P ops h a0 I Φ G Q r (k + 1)
def relyB (ops : Array Oper) (n sz : Nat) : Bool :=
  Region.noSelect ops && decide (n < ops.size) && Region.sinkB .any ops n && Region.chainB .any ops n &&
  Region.seqB .any ops (ops.size - n) n ((Array.replicate n true) ++ (Array.replicate (ops.size - n) false)) &&
  ((ops.toList.take n).all fun o => decide (o.guard = none) && (match o.dst with | some s => decide (s < sz) | none => true)) &&
  ((List.range n).all fun i => match ops[i]? with | some o => o.after.toList.all (fun e => decide (e.on < i)) && (List.range i).all (fun j => match ops[j]? with | some p => decide (p.dst = none) || decide (p.dst ≠ o.dst) | none => true) | none => true)
section
variable {P : Program} {ops : Array Oper} {n : Nat} {a0 : Act} {I : (Nat → Bool) → World → Prop} {Φ : Nat → Value → World → Prop} {G : Nat → World → World → Prop} {Q : Exit → Act → World → Prop}
structure RelyS (ops : Array Oper) (n : Nat) (a0 : Act) (I : (Nat → Bool) → World → Prop) (Φ : Nat → Value → World → Prop) (listed : Array Bool) (a : Act) (w : World) : Prop where
  inv : I (fun j => listed.getD j false) w
  defers : a.defers = a0.defers
  size : a.tmps.size = a0.tmps.size
  same : ∀ s, freeSlot (ops.toList.take n) s = true → a.tmps.getD s undef = a0.tmps.getD s undef
  done : ∀ j o, j < n → ops[j]? = some o → listed.getD j false = true → Φ j (heldBy o a) w
theorem depHold_of {a : Act} {w : World} : ∀ (l : List Edge), (∀ e ∈ l, Region.binds .any e = true → ∀ o, ops[e.on]? = some o → Φ e.on (heldBy o a) w) → depHold ops Φ a w l
  | [], _ => trivial
  | e :: r, h => ⟨by
      split
      · rename_i hb
        cases ho : ops[e.on]? with
        | none => trivial
        | some o => exact h e (List.mem_cons_self) hb o ho
      · trivial, depHold_of r (fun e' he' => h e' (List.mem_cons_of_mem _ he'))⟩
theorem stepHold_get {h : List Oper} : ∀ (l : List Oper) (k : Nat), stepHold P ops h a0 I Φ G Q l k → ∀ i o, l[i]? = some o → ∀ L a w, L (k + i) = false → I L w → (∀ s, freeSlot h s = true → a.tmps.getD s undef = a0.tmps.getD s undef) → depHold ops Φ a w o.after.toList →
      Oper.wp P o a w (fun a' w' => ∃ v, a' = a.put o.dst v ∧ Φ (k + i) (gives o v) w' ∧ I (fun j => decide (j = k + i) || L j) w' ∧ G (k + i) w w') Q
  | [], _, _, i, o, h => by simp at h
  | o' :: r, k, ⟨h1, h2⟩, 0, o, h => by
    obtain rfl : o' = o := by simpa using h
    exact h1
  | o' :: r, k, ⟨_, h2⟩, i + 1, o, h => by
    have := stepHold_get r (k + 1) h2 i o (by simpa using h)
    rwa [show k + 1 + i = k + (i + 1) by omega] at this
theorem heldBy_put_self {o : Oper} {a : Act} {v : Value} (h : ∀ s, o.dst = some s → s < a.tmps.size) : heldBy o (a.put o.dst v) = gives o v := by
  unfold heldBy gives Act.put
  cases hd : o.dst with
  | none => rfl
  | some s => simp [h s hd]
theorem heldBy_put_other {o p : Oper} {a : Act} {v : Value} (h : o.dst = none ∨ o.dst ≠ p.dst) : heldBy o (a.put p.dst v) = heldBy o a := by
  unfold heldBy Act.put
  cases hd : o.dst with
  | none => rfl
  | some s =>
    cases hp : p.dst with
    | none => rfl
    | some t =>
      have : t ≠ s := by
        rintro rfl
        rcases h with h | h
        · rw [hd] at h; cases h
        · exact h (hd.trans hp.symm)
      simp [Array.getElem?_setIfInBounds_ne this]
theorem putL_size : ∀ (l : List Oper) (k : Nat) (vs : Nat → Value) (b : Act), (putL l k vs b).tmps.size = b.tmps.size ∧ (putL l k vs b).defers = b.defers
  | [], _, _, _ => ⟨rfl, rfl⟩
  | o :: r, k, vs, b => by
    have h := putL_size r (k + 1) vs (b.put o.dst (vs k))
    simp only [putL]
    rw [h.1, h.2]
    unfold Act.put
    cases o.dst <;> simp
theorem putL_at (s : Nat) (t : Value) : ∀ (l : List Oper) (k : Nat) (vs : Nat → Value) (b : Act), s < b.tmps.size → (∀ i o, l[i]? = some o → o.dst = some s → vs (k + i) = t) → (freeSlot l s = true → b.tmps.getD s undef = t) → (putL l k vs b).tmps.getD s undef = t
  | [], _, _, _, _, _, h => h rfl
  | o :: r, k, vs, b, hs, h1, h2 => by
    simp only [putL]
    have hsz : (b.put o.dst (vs k)).tmps.size = b.tmps.size := by unfold Act.put; cases o.dst <;> simp
    refine putL_at s t r (k + 1) vs _ (by omega) (fun i p hp hd => ?_) (fun hf => ?_)
    · have := h1 (i + 1) p (by simpa using hp) hd
      rwa [show k + 1 + i = k + (i + 1) by omega]
    · by_cases hd : o.dst = some s
      · have := h1 0 o rfl hd
        unfold Act.put
        rw [hd]
        simp [hs]
        exact this
      · have hf2 : freeSlot (o :: r) s = true := by
          unfold freeSlot at hf ⊢
          rw [List.all_cons, hf, decide_eq_true hd]; rfl
        rw [← h2 hf2]
        unfold Act.put
        cases hp : o.dst with
        | none => rfl
        | some q =>
          have : q ≠ s := fun e => hd (by rw [hp, e])
          simp [Array.getElem?_setIfInBounds_ne this]
theorem getD_undef_ext {a b : Array Value} (hs : a.size = b.size) (h : ∀ s, s < a.size → a.getD s undef = b.getD s undef) : a = b := by
  refine Array.ext hs fun i h1 h2 => ?_
  have := h i h1
  simpa [h1, h2] using this
theorem allHold_of (Φ : Nat → Value → World → Prop) (vs : Nat → Value) (w : World) : ∀ (l : List Oper) (k : Nat), (∀ i o, l[i]? = some o → Φ (k + i) (gives o (vs (k + i))) w) → allHold Φ vs w l k
  | [], _, _ => trivial
  | o :: r, k, h => ⟨h 0 o rfl, allHold_of Φ vs w r (k + 1) fun i p hp => by
      have := h (i + 1) p (by simpa using hp)
      rwa [show k + 1 + i = k + (i + 1) by omega]⟩
theorem rely_any (hB : relyB ops n a0.tmps.size = true) (stab : ∀ i j v w w', i ≠ j → G i w w' → Φ j v w → Φ j v w')
    (steps : stepHold P ops (ops.toList.take n) a0 I Φ G Q (ops.toList.take n) 0)
    (fin : ∀ (vs : Nat → Value) L w, (∀ j, j < n → L j = true) → I L w → allHold Φ vs w (ops.toList.take n) 0 → wpList P ops Q (ops.toList.drop n) (putL (ops.toList.take n) 0 vs a0) w) :
    ∀ (f : Nat) (listed : Array Bool) (a : Act) (w : World), cntU n listed = f → HeadInv .any ops n listed → RelyS ops n a0 I Φ listed a w → wpAny P .any ops Q (f + (ops.size - n)) listed a w := by
  simp only [relyB, Bool.and_eq_true, decide_eq_true_eq, List.all_eq_true] at hB
  obtain ⟨⟨⟨⟨⟨⟨_, hn⟩, hs⟩, hc⟩, hseq⟩, hg⟩, hd⟩ := hB
  have hgood : ∀ i o, i < n → ops[i]? = some o → o.guard = none ∧ (∀ s, o.dst = some s → s < a0.tmps.size) ∧ (∀ e ∈ o.after, e.on < i) ∧ (∀ j p, j < i → ops[j]? = some p → p.dst = none ∨ p.dst ≠ o.dst) := by
    intro i o hi ho
    have hmem : o ∈ ops.toList.take n := by
      have : (ops.toList.take n)[i]? = some o := by rw [List.getElem?_take_of_lt hi]; simpa using ho
      exact List.mem_of_getElem? this
    have h1 := hg o hmem
    have h2 := hd i (List.mem_range.2 hi)
    rw [ho] at h2
    simp only [Bool.and_eq_true, List.all_eq_true, decide_eq_true_eq] at h2
    refine ⟨h1.1, fun s hs => ?_, fun e he => h2.1 e (by simpa using he), fun j p hj hp => ?_⟩
    · have h3 := h1.2
      rw [hs] at h3
      simpa using h3
    · have h3 := h2.2 j (List.mem_range.2 hj)
      rw [hp] at h3
      simpa using h3
  intro f
  induction f with
  | zero =>
    intro listed a w hf inv R
    have hall := cntU_zero n listed hf
    have hl : listed = (Array.replicate n true) ++ (Array.replicate (ops.size - n) false) := by
      refine Array.ext (by rw [inv.size]; simp; omega) fun i h1 h2 => ?_
      by_cases hi : i < n
      · have := hall i hi
        rw [Array.getElem_append_left (by simpa using hi)]
        simpa [h1] using this
      · have := inv.tail i (by omega) (by rw [← inv.size]; exact h1)
        rw [Array.getElem_append_right (by simp; omega)]
        simpa [h1] using this
    rw [Nat.zero_add]
    have hdone : ∀ j, j < n → listed.getD j false = true := fun j hj => by
      have h1 := hall j hj
      have h2 : j < listed.size := by rw [inv.size]; omega
      simpa [h2] using h1
    have hdl : (ops.toList.drop n).length = ops.size - n := by simp
    have key := wpAny_of_seq (P := P) (ops := ops) (md := .any) (Q' := Q) (ops.toList.drop n) n listed a w (fun j => by simp [List.getElem?_drop]) (by rw [hdl, hl]; exact hseq) (by
      have hvs : a = putL (ops.toList.take n) 0 (fun j => match ops[j]? with | some o => heldBy o a | none => undef) a0 := by
        have h1 := putL_size (ops.toList.take n) 0 (fun j => match ops[j]? with | some o => heldBy o a | none => undef) a0
        have h2 : a.tmps = (putL (ops.toList.take n) 0 (fun j => match ops[j]? with | some o => heldBy o a | none => undef) a0).tmps := by
          refine getD_undef_ext (by rw [h1.1, R.size]) fun s hs' => ?_
          refine (putL_at s (a.tmps.getD s undef) _ 0 _ a0 (by rw [← R.size]; exact hs') (fun i o ho hd' => ?_) (fun hf' => (R.same s hf').symm)).symm
          have hi : i < n := by
            have := (List.getElem?_eq_some_iff.1 ho).1
            rw [List.length_take] at this; omega
          rw [List.getElem?_take_of_lt hi] at ho
          have ho' : ops[i]? = some o := by simpa using ho
          simp only [Nat.zero_add, ho']
          unfold heldBy
          rw [hd']
        cases a
        have h3 := h1.2
        have h4 := R.defers
        simp only at h2 h4
        generalize putL (ops.toList.take n) 0 _ a0 = b at *
        cases b
        simp only at h2 h3 ⊢
        rw [h2, h4, h3]
      rw [hvs]
      refine fin _ _ w (fun j hj => hdone j hj) R.inv (allHold_of _ _ _ _ 0 fun i o ho => ?_)
      have hi : i < n := by
        have := (List.getElem?_eq_some_iff.1 ho).1
        rw [List.length_take] at this; omega
      rw [List.getElem?_take_of_lt hi] at ho
      have ho' : ops[i]? = some o := by simpa using ho
      have h9 := R.done i o hi ho' (by have := hall i hi; simp only [Array.getD_eq_getD_getElem?] at this ⊢; cases hx : listed[i]? with
        | none => have := Array.getElem?_eq_none_iff.1 hx; rw [inv.size] at this; omega
        | some b => rw [hx] at this; simpa using this)
      simp only [Nat.zero_add, ho']
      have : gives o (heldBy o a) = heldBy o a := by unfold gives heldBy; cases o.dst <;> rfl
      rw [this]; exact h9)
    rwa [hdl] at key
  | succ f ih =>
    intro listed a w hf inv R
    have hex : ∃ i, i < n ∧ listed.getD i true = false ∧ ∀ j, j < i → listed.getD j true = true := by
      have h0 : ∃ i, i < n ∧ listed.getD i true = false := by
        refine Classical.byContradiction fun hno => ?_
        have : ∀ m, m ≤ n → cntU m listed = 0 := by
          intro m
          induction m with
          | zero => intro _; rfl
          | succ m ihm =>
            intro hm
            simp only [cntU]
            rw [ihm (by omega), if_pos (by
              cases hb : listed.getD m true with
              | true => rfl
              | false => exact absurd ⟨m, by omega, hb⟩ hno)]
        have := this n (Nat.le_refl _)
        omega
      obtain ⟨i, hi, hl⟩ := h0
      induction i using Nat.strongRecOn with
      | _ i ihi =>
        by_cases hb : ∃ j, j < i ∧ listed.getD j true = false
        · obtain ⟨j, hj, hjl⟩ := hb
          exact ihi j hj (by omega) hjl
        · refine ⟨i, hi, hl, fun j hj => ?_⟩
          cases hx : listed.getD j true with
          | true => rfl
          | false => exact absurd ⟨j, hj, hx⟩ hb
    obtain ⟨i0, hi0, hl0, hmin⟩ := hex
    have hready : i0 ∈ Region.ready .any ops listed := by
      have hlt : i0 < ops.size := by omega
      refine mem_ready.2 ⟨hl0, _, Array.getElem?_eq_getElem hlt, fun e he _ => ?_⟩
      have h1 := (hgood i0 _ hi0 (Array.getElem?_eq_getElem hlt)).2.2.1 e he
      have h2 := hmin e.on h1
      have h3 : e.on < listed.size := by rw [inv.size]; omega
      simpa [h3] using h2
    rw [show f + 1 + (ops.size - n) = (f + (ops.size - n)) + 1 by omega]
    refine ⟨fun h => (by rw [h] at hready; cases hready), fun i hi => ?_⟩
    have hin : i < n := (Nat.lt_or_ge i n).resolve_right fun h => tail_waits hs hc hn inv _ i0 rfl hi0 hl0 i h hi
    obtain ⟨hun, o, ho, hall⟩ := mem_ready.1 hi
    obtain ⟨hgd, hdst, hdep, hdis⟩ := hgood i o hin ho
    have hst := stepHold_get (ops.toList.take n) 0 steps i o (by rw [List.getElem?_take_of_lt hin]; simpa using ho) (fun j => listed.getD j false) a w (by rw [Nat.zero_add]; exact getD_both hun) R.inv R.same (depHold_of _ fun e he hb p hp =>
      R.done e.on p (by have := hdep e (by simpa using he); omega) hp (hall e (by simpa using he) hb))
    unfold wpOp
    rw [ho]
    simp only
    rw [if_pos (by simp [Region.wanted, hgd])]
    refine Or.inl (Oper.wp_mono (fun a' w' hk => ?_) hst)
    obtain ⟨v, rfl, hΦ, hI, hG⟩ := hk
    rw [Nat.zero_add] at hΦ hG hI
    have hI : I (fun j => (listed.setIfInBounds i true).getD j false) w' := by
      have : (fun j => (listed.setIfInBounds i true).getD j false) = fun j => decide (j = i) || listed.getD j false := by
        funext j
        by_cases hj : j = i
        · subst hj
          have : j < listed.size := by rw [inv.size]; omega
          simp [this]
        · rw [getD_set_ne false (Ne.symm hj), decide_eq_false hj]; rfl
      rw [this]; exact hI
    refine ih _ _ _ (by have := cntU_set n listed i hin hun; omega) (inv.set hi hin) ⟨hI, ?_, ?_, fun s hs' => ?_, fun j p hj hp hl => ?_⟩
    · have := R.defers
      unfold Act.put
      cases o.dst <;> exact this
    · have := R.size
      unfold Act.put
      cases o.dst <;> simpa using this
    · rw [← R.same s hs']
      have hne : o.dst ≠ some s := by
        unfold freeSlot at hs'
        have := List.all_eq_true.1 hs' o (List.mem_of_getElem? (i := i) (by rw [List.getElem?_take_of_lt hin]; simpa using ho))
        simpa using this
      unfold Act.put
      cases hp : o.dst with
      | none => rfl
      | some q =>
        have : q ≠ s := fun e => hne (by rw [hp, e])
        simp [Array.getElem?_setIfInBounds_ne this]
    · by_cases hij : i = j
      · subst hij
        obtain rfl : o = p := Option.some.inj (ho.symm.trans hp)
        rw [heldBy_put_self (fun s hs' => by rw [R.size]; exact hdst s hs')]
        exact hΦ
      · rw [getD_set_ne false hij] at hl
        have hdd : p.dst = none ∨ p.dst ≠ o.dst := by
          rcases Nat.lt_or_gt_of_ne hij with h | h
          · rcases (hgood j p hj hp).2.2.2 i o h ho with h1 | h1
            · cases hpd : p.dst with
              | none => exact Or.inl rfl
              | some q => right; rw [h1]; simp
            · right; exact fun e => h1 e.symm
          · exact hdis j p h hp
        rw [heldBy_put_other hdd]
        exact stab i j _ w w' hij hG (R.done j p hj hp hl)
end
theorem op_val {P : Program} {o : Oper} {a : Act} {w w' : World} {K : Act → World → Prop} {Q : Exit → Act → World → Prop} (v : Value) (h : (execOp a.eval o).run P w = .ok (.value v) w') (hK : K (a.put o.dst v) w') : Oper.wp P o a w K Q := by
  unfold Oper.wp; rw [h]; exact hK
theorem op_call {P : Program} {o : Oper} {a : Act} {w : World} {K : Act → World → Prop} {Q : Exit → Act → World → Prop} (f : FuncId) (args : Array Value) (h : (execOp a.eval o).run P w = .ok (.enter f args) w) (hK : Calls P f args w fun e w' => ∃ v, e = .returned v ∧ K (a.put o.dst v) w') : Oper.wp P o a w K Q := by
  unfold Oper.wp; rw [h, Oper.upon_enter]; exact hK.mono (by rintro e w' ⟨v, rfl, hk⟩; exact hk)
theorem get_form {a : Act} {t : Nat} {v : Value} (h : a.eval (.tmp t) = v) : a.tmps[t]?.getD undef = v := by
  simpa [Act.eval] using h
theorem wp_region_rely {P : Program} {id : Nat} {Q : Exit → Act → World → Prop} {a : Act} {w : World} {l : List Oper} (n : Nat) (I : (Nat → Bool) → World → Prop) (Φ : Nat → Value → World → Prop) (G : Nat → World → World → Prop) (hm : P.follows .mixedOrders = true) (hB : relyB l.toArray n a.tmps.size = true)
    (h0 : I (fun _ => false) { w with drawn := w.drawn + 1 }) (stab : ∀ i j v w w', i ≠ j → G i w w' → Φ j v w → Φ j v w') (steps : stepHold P l.toArray (l.take n) a I Φ G Q (l.take n) 0)
    (fin : ∀ (vs : Nat → Value) L w, (∀ j, j < n → L j = true) → I L w → allHold Φ vs w (l.take n) 0 → wpList P l.toArray Q (l.drop n) (putL (l.take n) 0 vs a) w) : (Code.region id l.toArray true).wp P Q a w := by
  refine wp_region_any hm ?_
  have hn : n < l.toArray.size := by
    simp only [relyB, Bool.and_eq_true, decide_eq_true_eq] at hB
    exact hB.1.1.1.1.1.2
  have key := rely_any (P := P) (ops := l.toArray) (Q := Q) hB stab (by simpa using steps) (by simpa using fin) n (Array.replicate l.toArray.size false) a { w with drawn := w.drawn + 1 } (cntU_new n _ (by omega))
    ⟨by simp, fun j oj _ hl => (by rw [getD_replicate_false] at hl; cases hl), fun t _ ht => getD_in (by simpa using ht) (getD_replicate_false _ _)⟩
    ⟨by
      have : (fun j => (Array.replicate l.toArray.size false).getD j false) = fun _ => false := funext fun j => getD_replicate_false _ _
      rw [this]; exact h0, rfl, rfl, fun _ _ => rfl, fun j o _ _ hl => (by rw [getD_replicate_false] at hl; cases hl)⟩
  rwa [show n + (l.toArray.size - n) = l.toArray.size by omega] at key
end Th
namespace Go.Proofs.YtbngjlkmpdccjaaGreatDoor
open Go Go.RowKit Go.Proofs Th
structure StrsIn (W : World) (S : Nat → Prop) (A : Option Addr) (c : Nat) (ks : List ByteArray) : Prop where
  le : ks.length ≤ c
  cap : ks.length ≤ 140737488351232
  top : c ≤ 9223372036854775807
  small : ∀ k ∈ ks, k.size ≤ 140737488351232
  at_ : 0 < ks.length → ∃ g o, A = some ⟨g, o, none⟩ ∧ S g ∧ ∀ j (h : j < ks.length), W.cell? ⟨g, o + j, none⟩ = some (.string ks[j])
theorem cell_block {W W' : World} {g o : Nat} (h : W'.heap[g]? = W.heap[g]?) : W'.cell? ⟨g, o, none⟩ = W.cell? ⟨g, o, none⟩ := World.cell?_of_block h
theorem StrsIn.keep {W W' : World} {S T : Nat → Prop} {A : Option Addr} {c : Nat} {ks : List ByteArray} (h : StrsIn W S A c ks) (hb : ∀ g, S g → W'.heap[g]? = W.heap[g]?) (hT : ∀ g, S g → T g) : StrsIn W' T A c ks :=
  ⟨h.le, h.cap, h.top, h.small, fun hn => by
    obtain ⟨g, o, e, hg, hc⟩ := h.at_ hn
    exact ⟨g, o, e, hT g hg, fun j hj => (cell_block (hb g hg)).trans (hc j hj)⟩⟩
theorem StrsIn.at {W : World} {S : Nat → Prop} {B : Nat} {A : Option Addr} {c : Nat} {ks : List ByteArray} (h : StrsIn W S A c ks) (hS : ∀ g, S g → g < B) : StrsAt W B A c ks :=
  ⟨h.le, h.cap, h.top, h.small, fun hn => by
    obtain ⟨g, o, e, hg, hc⟩ := h.at_ hn
    exact ⟨g, o, e, hS g hg, hc⟩⟩
theorem StrsAt.inn {W : World} {B : Nat} {A : Option Addr} {c : Nat} {ks : List ByteArray} (h : StrsAt W B A c ks) : StrsIn W (· < B) A c ks :=
  ⟨h.le, h.cap, h.top, h.small, h.at_⟩
inductive JIn (W : World) (S : Nat → Prop) : JV → List Value → Prop
  | mk {k m e : Int} {s : ByteArray} {l : List JV} {ks : List ByteArray} {A : Option Addr} {c : Nat} {A' : Option Addr} {c' : Nat} (f : Nat → List Value)
    (hk : I64 k) (hm : I64 m) (he : I64 e) (hs : s.size ≤ 140737488351232) (hl : l.length ≤ c) (hc : l.length ≤ 140737488351232) (hcc : c ≤ 9223372036854775807) (hK : StrsIn W S A' c' ks)
    (hL : 0 < l.length → ∃ g o, A = some ⟨g, o, none⟩ ∧ S g ∧ ∀ j, j < l.length → ∀ i v, (f j)[i]? = some v → W.cell? ⟨g, o + j * 6 + i, none⟩ = some v)
    (hT : ∀ j (h : j < l.length), JIn W S l[j] (f j)) :
    JIn W S (.mk k m e s l ks) (cells6 k m e s A l.length c A' ks.length c')
theorem JIn.keep {W W' : World} {S T : Nat → Prop} {t : JV} {cs : List Value} (h : JIn W S t cs) (hb : ∀ g, S g → W'.heap[g]? = W.heap[g]?) (hT : ∀ g, S g → T g) : JIn W' T t cs := by
  induction h with
  | mk f hk hm he hs hl hc hcc hK hL hT' ih =>
    refine .mk f hk hm he hs hl hc hcc (hK.keep hb hT) (fun hn => ?_) (fun j hj => ih j hj)
    obtain ⟨g, o, e, hg, h⟩ := hL hn
    exact ⟨g, o, e, hT g hg, fun j hj i v hv => (cell_block (hb g hg)).trans (h j hj i v hv)⟩
theorem JIn.more {W : World} {S T : Nat → Prop} {t : JV} {cs : List Value} (h : JIn W S t cs) (hT : ∀ g, S g → T g) : JIn W T t cs := h.keep (fun _ _ => rfl) hT
theorem JIn.at {W : World} {S : Nat → Prop} {B : Nat} {t : JV} {cs : List Value} (h : JIn W S t cs) (hS : ∀ g, S g → g < B) : JAt W B t cs := by
  induction h with
  | mk f hk hm he hs hl hc hcc hK hL hT ih =>
    refine .mk f hk hm he hs hl hc hcc (hK.at hS) (fun hn => ?_) (fun j hj => ih j hj)
    obtain ⟨g, o, e, hg, h⟩ := hL hn
    exact ⟨g, o, e, hS g hg, h⟩
theorem JIn.six {W : World} {S : Nat → Prop} {t : JV} {cs : List Value} (h : JIn W S t cs) : cs.length = 6 ∧ ∀ u ∈ cs, u.oneCell' = true := by
  cases h with
  | mk f hk hm he hs hl hc hcc hK hL hT =>
    refine ⟨rfl, fun u hu => ?_⟩
    simp only [cells6, List.mem_cons, List.not_mem_nil, or_false] at hu
    rcases hu with rfl | rfl | rfl | rfl | rfl | rfl <;> rfl
theorem JIn.cells {W : World} {S : Nat → Prop} {t : JV} {cs : List Value} (h : JIn W S t cs) : ∃ k m e s A n c A' n' c', cs = cells6 k m e s A n c A' n' c' := by
  cases h with
  | mk f hk hm he hs hl hc hcc hK hL hT => exact ⟨_, _, _, _, _, _, _, _, _, _, rfl⟩
structure ValsIn (W : World) (S : Nat → Prop) (A : Option Addr) (c : Nat) (l : List JV) : Prop where
  le : l.length ≤ c
  cap : l.length ≤ 140737488351232
  top : c ≤ 9223372036854775807
  at_ : ∀ j (h : j < l.length), ∃ g o cs, A = some ⟨g, o, none⟩ ∧ S g ∧ (∀ i v, cs[i]? = some v → W.cell? ⟨g, o + j * 6 + i, none⟩ = some v) ∧ JIn W S l[j] cs
theorem ValsIn.keep {W W' : World} {S T : Nat → Prop} {A : Option Addr} {c : Nat} {l : List JV} (h : ValsIn W S A c l) (hb : ∀ g, S g → W'.heap[g]? = W.heap[g]?) (hT : ∀ g, S g → T g) : ValsIn W' T A c l :=
  ⟨h.le, h.cap, h.top, fun j hj => by
    obtain ⟨g, o, cs, e, hg, hc, hJ⟩ := h.at_ j hj
    exact ⟨g, o, cs, e, hT g hg, fun i v hv => (cell_block (hb g hg)).trans (hc i v hv), hJ.keep hb hT⟩⟩
theorem ValsIn.at {W : World} {S : Nat → Prop} {B : Nat} {A : Option Addr} {c : Nat} {l : List JV} (h : ValsIn W S A c l) (hS : ∀ g, S g → g < B) : ValsAt W B A c l :=
  ⟨h.le, h.cap, h.top, fun j hj => by
    obtain ⟨g, o, cs, e, hg, hc, hJ⟩ := h.at_ j hj
    exact ⟨g, o, cs, e, hS g hg, hc, hJ.at hS⟩⟩
theorem ValsIn.none_ (W : World) (S : Nat → Prop) : ValsIn W S none 0 [] := ⟨Nat.le_refl _, by decide, by decide, fun _ h => absurd h (Nat.not_lt_zero _)⟩
theorem StrsIn.none_ (W : World) (S : Nat → Prop) : StrsIn W S none 0 [] := ⟨Nat.le_refl _, by decide, by decide, fun _ h => absurd h List.not_mem_nil, fun h => absurd h (by decide)⟩
theorem JIn.shut {W : World} {S : Nat → Prop} {k m e : Int} {s : ByteArray} {l : List JV} {ks : List ByteArray} {A : Option Addr} {c : Nat} {A' : Option Addr} {c' : Nat}
    (hk : I64 k) (hm : I64 m) (he : I64 e) (hs : s.size ≤ 140737488351232) (hK : StrsIn W S A' c' ks) (hV : ValsIn W S A c l) : JIn W S (.mk k m e s l ks) (cells6 k m e s A l.length c A' ks.length c') := by
  classical
  have h : ∀ j : Nat, ∃ cs : List Value, ∀ (h : j < l.length), ∃ g o, A = some ⟨g, o, none⟩ ∧ S g ∧ (∀ i v, cs[i]? = some v → W.cell? ⟨g, o + j * 6 + i, none⟩ = some v) ∧ JIn W S l[j] cs := by
    intro j
    by_cases hj : j < l.length
    · obtain ⟨g, o, cs, h⟩ := hV.at_ j hj
      exact ⟨cs, fun _ => ⟨g, o, h⟩⟩
    · exact ⟨[], fun h => absurd h hj⟩
  refine .mk (fun j => (h j).choose) hk hm he hs hV.le hV.cap hV.top hK (fun hn => ?_) (fun j hj => ?_)
  · obtain ⟨g, o, ea, hg, _⟩ := (h 0).choose_spec hn
    refine ⟨g, o, ea, hg, fun j hj i v hv => ?_⟩
    obtain ⟨g', o', eb, hg', hc, _⟩ := (h j).choose_spec hj
    rw [ea] at eb
    injection eb with eb
    injection eb with e1 e2
    subst e1 e2
    exact hc i v hv
  · obtain ⟨g', o', e', hg', hc, hJ⟩ := (h j).choose_spec hj
    exact hJ
theorem JIn.open {W : World} {S : Nat → Prop} {k m e : Int} {s : ByteArray} {l : List JV} {ks : List ByteArray} {cs : List Value} (h : JIn W S (.mk k m e s l ks) cs) :
    ∃ A c A' c', cs = cells6 k m e s A l.length c A' ks.length c' ∧ I64 k ∧ I64 m ∧ I64 e ∧ s.size ≤ 140737488351232 ∧ StrsIn W S A' c' ks ∧ ValsIn W S A c l := by
  cases h with
  | mk f hk hm he hs hl hc hcc hK hL hT =>
    refine ⟨_, _, _, _, rfl, hk, hm, he, hs, hK, hl, hc, hcc, fun j hj => ?_⟩
    obtain ⟨g, o, e, hg, h⟩ := hL (by omega)
    exact ⟨g, o, f j, e, hg, h j hj, hT j hj⟩
/-! rows of a call's own -/
structure OwnV (w : World) (base : Nat) (S : Nat → Prop) (v : Value) (l : List JV) : Prop where
  ex : ∃ xs, w.ownsRow base 28 6 v l.length xs ∧ ∀ j (h : j < l.length), JIn w S l[j] ((xs.drop (j * 6)).take 6)
theorem OwnV.nil (w : World) (base : Nat) (S : Nat → Prop) : OwnV w base S (.slice none 0 0) [] := ⟨[], World.ownsRow_nil w base _ 6, fun _ h => absurd h (Nat.not_lt_zero _)⟩
theorem own_block_lt {w : World} {base size n : Nat} {e : TypeId} {v : Value} {xs : List Value} (h : w.ownsRow base e size v n xs) : ∀ k, v.ownBlock = some k → base ≤ k ∧ k < w.heap.size := World.ownsRow.lt h
theorem OwnV.lt {w : World} {base : Nat} {S : Nat → Prop} {v : Value} {l : List JV} (h : OwnV w base S v l) : ∀ k, v.ownBlock = some k → base ≤ k ∧ k < w.heap.size := by
  obtain ⟨xs, h1, _⟩ := h.ex; exact own_block_lt h1
theorem row_keep {w w' : World} {base size n : Nat} {e : TypeId} {v : Value} {xs : List Value} (h : w.ownsRow base e size v n xs) (hb : ∀ k, v.ownBlock = some k → w'.heap[k]? = w.heap[k]?) : w'.ownsRow base e size v n xs := by
  refine ⟨h.1, ?_⟩
  rcases h.2 with h2 | ⟨g, cap, cur, rfl, h4, h5, h6⟩
  · exact Or.inl h2
  · exact Or.inr ⟨g, cap, cur, rfl, h4, (hb g rfl).trans h5, h6⟩
theorem OwnV.keep {w w' : World} {base : Nat} {S T : Nat → Prop} {v : Value} {l : List JV} (h : OwnV w base S v l) (hb : ∀ g, S g → w'.heap[g]? = w.heap[g]?) (ho : ∀ k, v.ownBlock = some k → w'.heap[k]? = w.heap[k]?) (hT : ∀ g, S g → T g) : OwnV w' base T v l := by
  obtain ⟨xs, h1, h2⟩ := h.ex
  exact ⟨xs, row_keep h1 ho, fun j hj => (h2 j hj).keep hb hT⟩
theorem OwnV.form {w : World} {base : Nat} {S : Nat → Prop} {v : Value} {l : List JV} (h : OwnV w base S v l) : ∃ A c, v = .slice A l.length c ∧ l.length ≤ c ∧ c ≤ 9223372036854775807 := by
  obtain ⟨xs, h1, _⟩ := h.ex
  obtain ⟨_, ⟨rfl, h0⟩ | ⟨g, cap, cur, rfl, _, _, h3, h4, _⟩⟩ := h1
  · exact ⟨none, 0, by rw [h0], by omega, by decide⟩
  · exact ⟨_, _, rfl, h3, by unfold maxLen at h4; omega⟩
theorem OwnV.vals {w : World} {base : Nat} {S T : Nat → Prop} {A : Option Addr} {n c : Nat} {l : List JV} (h : OwnV w base S (.slice A n c) l) (hl : l.length ≤ 140737488351232) (hT : ∀ g, S g → T g) (ho : ∀ k, (Value.slice A n c).ownBlock = some k → T k) : n = l.length ∧ ValsIn w T A c l := by
  obtain ⟨A', c', e, h1, h2⟩ := h.form
  injection e with e1 e2 e3
  subst e1 e2 e3
  refine ⟨rfl, h1, hl, h2, fun j hj => ?_⟩
  obtain ⟨xs, h3, h4⟩ := h.ex
  have h3' := h3
  obtain ⟨hx, ⟨_, h0⟩ | ⟨g, cap, cur, e, _, _, _⟩⟩ := h3
  · omega
  · injection e with e1 _ e3
    subst e1
    refine ⟨g, 0, _, rfl, ho g rfl, fun i v hv => ?_, (h4 j hj).more hT⟩
    have hi : i < 6 := by
      have := (List.getElem?_eq_some_iff.1 hv).1
      rw [List.length_take] at this; omega
    have hc := World.ownsRow.cells h3' (g := g) rfl (j * 6 + i) v (by rw [List.getElem?_take_of_lt hi, List.getElem?_drop] at hv; exact hv)
    rw [add_at] at hc
    rw [← hc]; congr 2; omega
theorem vals_info : (Tryz.prog.info? 28).map (fun i => (i.zero, i.size, i.bytes)) = some (some (.agg #[.int .i64 0, .int .i64 0, .int .i64 0, .string ⟨#[]⟩, .slice none 0 0, .slice none 0 0]), 6, 88) := by kernel_rfl
set_option maxRecDepth 100000 in
/-- append of one value -/
theorem run_append_vals {w : World} (ty : TypeId) (base : Nat) (S : Nat → Prop) (v : Value) (l : List JV) (hown : OwnV w base S v l) (p : Nat) (t : JV) (cs : List Value) (hcell : ∀ i u, cs[i]? = some u → w.cell? ⟨p, i, none⟩ = some u) (hJ : JIn w S t cs)
    (hl : l.length + 1 ≤ 1000000000) (hbase : base ≤ w.heap.size) (hnot : ∀ k, v.ownBlock = some k → ¬ S k) (hS : ∀ k, S k → k < w.heap.size) :
    ∃ v' w', (Builtin.append_ #[25, 25] ty #[v, .slice (some ⟨p, 0, none⟩) 1 1]).run Tryz.prog w = .ok v' w' ∧ OwnV w' base S v' (l ++ [t]) ∧ w.grownBy w' v.ownBlock ∧ (v'.ownBlock = v.ownBlock ∨ v'.ownBlock = some w.heap.size) := by
  obtain ⟨i, hi, hz, hsize, hby⟩ := info_parts vals_info
  obtain ⟨xs, h1, h2⟩ := hown.ex
  obtain ⟨h6, hone⟩ := hJ.six
  obtain ⟨v', w', hrun, h3, h4, _, h5⟩ := run_append_own_at (P := Tryz.prog) w base 25 ty 28 i _ 6 88 Tryz.underlying25 hi hz hsize hby rfl (by omega) v l.length xs h1 ⟨p, 0, none⟩ 1 1 cs (by omega) (fun j u hu => by rw [add_at, Nat.zero_add]; exact hcell j u hu) hone (by simp [maxLen]; omega) (by omega) hbase
  have hb : ∀ g, S g → w'.heap[g]? = w.heap[g]? := fun g hg => h4.block g (hS g hg) (fun e => hnot g e.symm hg)
  refine ⟨v', w', hrun, ⟨xs ++ cs, by rw [List.length_append, List.length_singleton]; exact h3, fun j hj => ?_⟩, h4, h5⟩
  have hx : xs.length = l.length * 6 := h1.1
  by_cases hlt : j < l.length
  · rw [List.getElem_append_left hlt, List.drop_append_of_le_length (by omega), List.take_append_of_le_length (by rw [List.length_drop]; omega)]
    exact (h2 j hlt).keep hb (fun _ h => h)
  · obtain rfl : j = l.length := by simp at hj; omega
    rw [List.getElem_append_right (Nat.le_refl _), ← hx, List.drop_append_of_le_length (Nat.le_refl _), List.drop_length, List.nil_append, List.take_of_length_le (by omega)]
    simpa using hJ.keep hb (fun _ h => h)
structure OwnS (w : World) (base : Nat) (v : Value) (ks : List ByteArray) : Prop where
  row : w.ownsRow base 9 1 v ks.length (ks.map .string)
  small : ∀ k ∈ ks, k.size ≤ 140737488351232
theorem OwnS.nil (w : World) (base : Nat) : OwnS w base (.slice none 0 0) [] := ⟨World.ownsRow_nil w base _ 1, fun _ h => absurd h List.not_mem_nil⟩
theorem OwnS.keep {w w' : World} {base : Nat} {v : Value} {ks : List ByteArray} (h : OwnS w base v ks) (hb : ∀ k, v.ownBlock = some k → w'.heap[k]? = w.heap[k]?) : OwnS w' base v ks := ⟨row_keep h.row hb, h.small⟩
theorem OwnS.lt {w : World} {base : Nat} {v : Value} {ks : List ByteArray} (h : OwnS w base v ks) : ∀ k, v.ownBlock = some k → base ≤ k ∧ k < w.heap.size := own_block_lt h.row
theorem OwnS.form {w : World} {base : Nat} {v : Value} {ks : List ByteArray} (h : OwnS w base v ks) : ∃ A c, v = .slice A ks.length c ∧ ks.length ≤ c ∧ c ≤ 9223372036854775807 := by
  obtain ⟨_, ⟨rfl, h0⟩ | ⟨g, cap, cur, rfl, _, _, h3, h4, _⟩⟩ := h.row
  · exact ⟨none, 0, by rw [h0], by omega, by decide⟩
  · exact ⟨_, _, rfl, h3, by unfold maxLen at h4; omega⟩
theorem OwnS.strs {w : World} {base : Nat} {T : Nat → Prop} {A : Option Addr} {n c : Nat} {ks : List ByteArray} (h : OwnS w base (.slice A n c) ks) (hl : ks.length ≤ 140737488351232) (ho : ∀ k, (Value.slice A n c).ownBlock = some k → T k) : n = ks.length ∧ StrsIn w T A c ks := by
  obtain ⟨A', c', e, h1, h2⟩ := h.form
  injection e with e1 e2 e3
  subst e1 e2 e3
  refine ⟨rfl, h1, hl, h2, h.small, fun hn => ?_⟩
  have h3' := h.row
  obtain ⟨hx, ⟨_, h0⟩ | ⟨g, cap, cur, e, _, _, _⟩⟩ := h.row
  · omega
  · injection e with e1 _ e3
    subst e1
    refine ⟨g, 0, rfl, ho g rfl, fun j hj => ?_⟩
    have hc := World.ownsRow.cells h3' (g := g) rfl j (.string ks[j]) (by simp [hj])
    rw [add_at] at hc
    exact hc
theorem strs_info : (Tryz.prog.info? 9).map (fun i => (i.zero, i.size, i.bytes)) = some (some (.string ⟨#[]⟩), 1, 16) := by kernel_rfl
theorem str_one (ks : List ByteArray) : ∀ u ∈ ks.map Value.string, u.oneCell' = true := by
  intro u hu
  obtain ⟨k, _, rfl⟩ := List.mem_map.1 hu
  rfl
set_option maxRecDepth 100000 in
/-- append of texts that lie in memory, or of none -/
theorem run_append_strs {w : World} (ty : TypeId) (base : Nat) (v : Value) (ks : List ByteArray) (hown : OwnS w base v ks) (S : Nat → Prop) (A : Option Addr) (c : Nat) (es : List ByteArray) (hr : StrsIn w S A c es)
    (hl : ks.length + es.length ≤ 1000000000) (hbase : base ≤ w.heap.size) :
    ∃ v' w', (Builtin.append_ #[26, 26] ty #[v, .slice A es.length c]).run Tryz.prog w = .ok v' w' ∧ OwnS w' base v' (ks ++ es) ∧ w.grownBy w' v.ownBlock ∧ (v'.ownBlock = v.ownBlock ∨ v'.ownBlock = some w.heap.size) := by
  obtain ⟨i, hi, hz, hsize, hby⟩ := info_parts strs_info
  have ht := Tryz.underlying26
  have hsm : ∀ k ∈ ks ++ es, k.size ≤ 140737488351232 := fun k hk => (List.mem_append.1 hk).elim (hown.small k) (hr.small k)
  cases A with
  | none =>
    have hes : es = [] := by
      cases es with
      | nil => rfl
      | cons a b => obtain ⟨_, _, h, _⟩ := hr.at_ (by simp); cases h
    subst hes
    refine ⟨v, w, ?_, by simpa using hown, ⟨rfl, rfl, rfl, Nat.le_refl _, fun _ _ _ => rfl⟩, Or.inl rfl⟩
    rcases hown.row.2 with ⟨rfl, hx⟩ | ⟨g, cap, cur, rfl, _, _, hnc, _⟩
    · simp [Builtin.append_, run_underlying ht, sizeOf, typeInfo, hi, Builtin.lenOf, Builtin.firstCells]
    · simp [Builtin.append_, run_underlying ht, sizeOf, typeInfo, hi, Builtin.lenOf, Builtin.firstCells, hnc, storeCells]
  | some ad =>
    have hcells : ∀ j u, (es.map Value.string)[j]? = some u → w.cell? (ad.add j) = some u := by
      intro j u hu
      have hj : j < es.length := by
        rcases Nat.lt_or_ge j es.length with h1 | h1
        · exact h1
        · rw [List.getElem?_eq_none (by simpa using h1)] at hu; cases hu
      obtain ⟨g, o, h, _, hc⟩ := hr.at_ (by omega)
      injection h with h
      subst h
      rw [add_at, hc j hj, ← hu]
      simp [hj]
    obtain ⟨v', w', hrun, h2, h3, _, h5⟩ := run_append_own_at (P := Tryz.prog) w base 26 ty 9 i (.string ⟨#[]⟩) 1 16 ht hi hz hsize hby rfl (by omega) v ks.length (ks.map .string) hown.row ad es.length c (es.map .string) (by simp) hcells (str_one es) (by simp [maxLen]; omega) (by omega) hbase
    exact ⟨v', w', hrun, ⟨by rw [List.length_append, List.map_append]; exact h2, hsm⟩, h3, h5⟩
set_option maxRecDepth 100000 in
/-- append of texts onto a new slice without room -/
theorem op_append_fresh {w : World} {o : Oper} {a : Act} {K : Act → World → Prop} {Q : Exit → Act → World → Prop} (hgd : o.guard = none) (s x : Operand)
    (ho : o.op = .call { callee := .builtin .append, args := #[s, x], argTypes := #[26, 26] })
    (base g : Nat) (hs : a.eval s = .slice (some ⟨g, 0, none⟩) 0 0) (hgw : w.heap[g]? = some (.cells #[] 9 (0, 0))) (hgb : base ≤ g) (hbase : base ≤ w.heap.size) (S : Nat → Prop) (A : Option Addr) (n c : Nat) (es : List ByteArray) (hn : n = es.length) (hx : a.eval x = .slice A n c) (hr : StrsIn w S A c es)
    (hl : es.length ≤ 1000000000)
    (h : ∀ v' w', OwnS w' base v' es → Below w.heap.size w w' → K (a.put o.dst v') w') : Oper.wp Tryz.prog o a w K Q := by
  subst hn
  obtain ⟨i, hi, hz, hsize, hby⟩ := info_parts strs_info
  have ht := Tryz.underlying26
  have hw : Region.wanted o (yielded #[] a.tmps) = true := by simp [Region.wanted, hgd]
  cases A with
  | none =>
    have hes : es = [] := by
      cases es with
      | nil => rfl
      | cons a b => obtain ⟨_, _, h, _⟩ := hr.at_ (by simp); cases h
    subst hes
    have hrun : (Builtin.append_ #[26, 26] o.type #[.slice (some ⟨g, 0, none⟩) 0 0, .slice none 0 c]).run Tryz.prog w = .ok (.slice (some ⟨g, 0, none⟩) 0 0) w := by
      simp [Builtin.append_, run_underlying ht, sizeOf, typeInfo, hi, Builtin.lenOf, Builtin.firstCells, storeCells]
    unfold Oper.wp execOp
    simp only [ho, resolve, invoke, builtin, Sem.run_bind, Sem.run_pure, Result.andThen_ok, List.map_toArray, List.map_cons, List.map_nil, hs, hx, List.length_nil, hrun]
    exact h _ _ ⟨⟨rfl, Or.inr ⟨g, 0, #[], rfl, hgb, hgw, Nat.le_refl _, by simp [maxLen], rfl, rfl⟩⟩, fun _ h => absurd h List.not_mem_nil⟩ (Below.refl _ _)
  | some ad =>
    by_cases hes : es = []
    · subst hes
      have hrun : (Builtin.append_ #[26, 26] o.type #[.slice (some ⟨g, 0, none⟩) 0 0, .slice (some ad) 0 c]).run Tryz.prog w = .ok (.slice (some ⟨g, 0, none⟩) 0 0) w := by
        simp [Builtin.append_, run_underlying ht, sizeOf, typeInfo, hi, Builtin.lenOf, Builtin.firstCells, storeCells, loadCells, loadCellsFrom]
      unfold Oper.wp execOp
      simp only [ho, resolve, invoke, builtin, Sem.run_bind, Sem.run_pure, Result.andThen_ok, List.map_toArray, List.map_cons, List.map_nil, hs, hx, List.length_nil, hrun]
      exact h _ _ ⟨⟨rfl, Or.inr ⟨g, 0, #[], rfl, hgb, hgw, Nat.le_refl _, by simp [maxLen], rfl, rfl⟩⟩, fun _ h => absurd h List.not_mem_nil⟩ (Below.refl _ _)
    · have h0 : 0 < es.length := List.length_pos_iff.2 hes
      have hcells : ∀ j u, (es.map Value.string)[j]? = some u → w.cell? (ad.add j) = some u := by
        intro j u hu
        have hj : j < es.length := by
          rcases Nat.lt_or_ge j es.length with h1 | h1
          · exact h1
          · rw [List.getElem?_eq_none (by simpa using h1)] at hu; cases hu
        obtain ⟨g', o', h', _, hc⟩ := hr.at_ (by omega)
        injection h' with h'
        subst h'
        rw [add_at, hc j hj, ← hu]
        simp [hj]
      have key := step_append_grows (P := Tryz.prog) (ops := #[]) (o := o) (a := a) (w := w) (K := K) (Q := Q) (E := True) hgd s x 26 ho 9 i (.string ⟨#[]⟩) 1 16 ht hi hz hsize hby rfl (by omega) (some ⟨g, 0, none⟩) 0 0 [] hs (fun h => by cases h) rfl (fun b _ j u hu => by simp at hu)
        ad es.length c (es.map .string) hx (by simp) hcells (str_one es) (by omega) (by simp [maxLen]; omega) (by omega) (fun v' w' h1 h2 => h v' w' ⟨by
          obtain ⟨h3, h4⟩ := h1
          rw [Nat.zero_add] at h3 h4
          refine ⟨by simp, ?_⟩
          rcases h4 with h4 | ⟨g', cap, cur, e1, e2, e3⟩
          · exact Or.inl h4
          · exact Or.inr ⟨g', cap, cur, e1, Nat.le_trans hbase e2, by simpa using e3⟩, hr.small⟩ ((Below.refl _ _).grown h2 (Nat.le_refl _) (fun k hk => by cases hk)))
      rwa [if_pos hw] at key
set_option maxRecDepth 100000 in
/-- append of one value, as an operation -/
theorem op_append_vals {w : World} {o : Oper} {a : Act} {K : Act → World → Prop} {Q : Exit → Act → World → Prop} (s x : Operand)
    (ho : o.op = .call { callee := .builtin .append, args := #[s, x], argTypes := #[25, 25] })
    (base : Nat) (S : Nat → Prop) (v : Value) (l : List JV) (hs : a.eval s = v) (hown : OwnV w base S v l) (p : Nat) (t : JV) (cs : List Value) (hx : a.eval x = .slice (some ⟨p, 0, none⟩) 1 1) (hcell : ∀ i u, cs[i]? = some u → w.cell? ⟨p, i, none⟩ = some u) (hJ : JIn w S t cs)
    (hl : l.length + 1 ≤ 1000000000) (hbase : base ≤ w.heap.size) (hnot : ∀ k, v.ownBlock = some k → ¬ S k) (hS : ∀ k, S k → k < w.heap.size)
    (h : ∀ v' w', OwnV w' base S v' (l ++ [t]) → w.grownBy w' v.ownBlock → (v'.ownBlock = v.ownBlock ∨ v'.ownBlock = some w.heap.size) → K (a.put o.dst v') w') : Oper.wp Tryz.prog o a w K Q := by
  obtain ⟨v', w', hrun, h2, h3, h4⟩ := run_append_vals (w := w) o.type base S v l hown p t cs hcell hJ hl hbase hnot hS
  unfold Oper.wp execOp
  simp only [ho, resolve, invoke, builtin, Sem.run_bind, Sem.run_pure, Result.andThen_ok, List.map_toArray, List.map_cons, List.map_nil, hs, hx, hrun]
  exact h _ _ h2 h3 h4
end Go.Proofs.YtbngjlkmpdccjaaGreatDoor
namespace Go.Proofs.YtbngjlkmpdccjaaGreatDoor
open Go Go.RowKit Go.Proofs Th
attribute [local go_sem] Above.cell
def newIn (w w' : World) (g : Nat) : Prop := w.heap.size ≤ g ∧ g < w'.heap.size
def VBlkT (w : World) (p : Nat) (cs : List Value) : Prop := w.heap[p]? = some (.cells cs.toArray 28 (0, 0))
def zero6 : List Value := cells6 0 0 0 ⟨#[]⟩ none 0 0 none 0 0
theorem VBlkT.new {w : World} {p : Nat} (cs : List Value) (h : w.heap.size = p) : VBlkT (w.alloc (.cells cs.toArray 28)) p cs := by subst h; exact heap_alloc_new w _
theorem VBlkT.set {W : World} {g i : Nat} {cs : List Value} (h : VBlkT W g cs) (u : Value) : VBlkT (W.setCell ⟨g, i, none⟩ u) g (cs.set i u) := by
  have := heap_setCell_same W g i cs.toArray _ u h
  unfold VBlkT
  rw [this]; simp
theorem VBlkT.other {W : World} {g p : Nat} {cs : List Value} (h : VBlkT W g cs) (hp : p ≠ g) (i : Nat) (u : Value) : VBlkT (W.setCell ⟨p, i, none⟩ u) g cs :=
  (Below.heap_setCell W ⟨p, i, none⟩ u g (Ne.symm hp)).trans h
def six (W : World) (g : Nat) (b0 b1 b2 b3 b4 b5 : Value) : World := (((((W.setCell ⟨g, 0, none⟩ b0).setCell ⟨g, 1, none⟩ b1).setCell ⟨g, 2, none⟩ b2).setCell ⟨g, 3, none⟩ b3).setCell ⟨g, 4, none⟩ b4).setCell ⟨g, 5, none⟩ b5
theorem VBlkT.six {W : World} {g : Nat} {a0 a1 a2 a3 a4 a5 : Value} (h : VBlkT W g [a0, a1, a2, a3, a4, a5]) (b0 b1 b2 b3 b4 b5 : Value) : VBlkT (Go.Proofs.YtbngjlkmpdccjaaGreatDoor.six W g b0 b1 b2 b3 b4 b5) g [b0, b1, b2, b3, b4, b5] :=
  (((((h.set (i := 0) b0).set (i := 1) b1).set (i := 2) b2).set (i := 3) b3).set (i := 4) b4).set (i := 5) b5
theorem six_other (W : World) (g : Nat) (b0 b1 b2 b3 b4 b5 : Value) (p : Nat) (h : p ≠ g) : (six W g b0 b1 b2 b3 b4 b5).heap[p]? = W.heap[p]? := by
  unfold six
  repeat rw [Below.heap_setCell _ _ _ p h]
theorem six_below (W : World) (g : Nat) (b0 b1 b2 b3 b4 b5 : Value) {B : Nat} (h : B ≤ g) : Below B W (six W g b0 b1 b2 b3 b4 b5) := by
  have h0 : Below B W W := Below.refl _ _
  exact (((((h0.setCell (p := ⟨g, 0, none⟩) h b0).setCell (p := ⟨g, 1, none⟩) h b1).setCell (p := ⟨g, 2, none⟩) h b2).setCell (p := ⟨g, 3, none⟩) h b3).setCell (p := ⟨g, 4, none⟩) h b4).setCell (p := ⟨g, 5, none⟩) h b5
theorem VBlkT.box {w : World} {p : Nat} {cs : List Value} (h : VBlkT w p cs) : Box w p cs := by
  refine ⟨fun i v hv => ?_, fun i => ?_, lt_of_block h⟩
  · unfold VBlkT at h; simp [World.cell?, h, hv]
  · unfold VBlkT at h; simp [World.frozen?, h]
theorem kind_ne {W : World} {p q : Nat} {c d : Array Value} {t u : TypeId} {x y : Nat × Nat} (h : W.heap[p]? = some (.cells c t x)) (h2 : W.heap[q]? = some (.cells d u y)) (hn : t ≠ u) : p ≠ q := by
  rintro rfl
  rw [h] at h2
  injection h2 with h2
  injection h2 with _ h3
  exact hn h3
theorem OwnS.kind {w : World} {base : Nat} {v : Value} {ks : List ByteArray} (h : OwnS w base v ks) : ∀ g, v.ownBlock = some g → ∃ cur, w.heap[g]? = some (.cells cur 9 (0, 0)) := by
  intro g hg
  obtain ⟨_, ⟨rfl, _⟩ | ⟨g', cap, cur, rfl, _, h3, _⟩⟩ := h.row
  · cases hg
  · injection hg with hg; subst hg; exact ⟨cur, h3⟩
theorem OwnS.apart {w : World} {base p : Nat} {v : Value} {ks : List ByteArray} {cs : List Value} (h : OwnS w base v ks) (hp : VBlkT w p cs) : ∀ g, v.ownBlock = some g → g ≠ p := fun g hg => by
  obtain ⟨cur, hc⟩ := h.kind g hg
  exact kind_ne hc hp (by decide)
structure CopyS (w W0 wr : World) (g : Nat) (k m e : Int) (s : ByteArray) (l : List JV) (ks : List ByteArray) (A : Option Addr) (c : Nat) (A' : Option Addr) (c' : Nat) (vl v' : Value) (j : Nat) : Prop where
  x : Box wr w.heap.size (cells6 k m e s A l.length c A' ks.length c')
  v : ValsAt wr w.heap.size A c l
  r : VBlkT wr (w.heap.size + 1) zero6
  o : VBlkT wr g [.int .i64 k, .int .i64 m, .int .i64 e, .string s, vl, v']
  kk : OwnS wr W0.heap.size v' ks
  vv : OwnV wr W0.heap.size (fun b => W0.heap.size ≤ b ∧ b < wr.heap.size ∧ b ≠ g ∧ vl.ownBlock ≠ some b) vl (l.take j)
  ng : vl.ownBlock ≠ some g
  gB : W0.heap.size ≤ g
  b : Below W0.heap.size W0 wr
theorem OwnV.kind {w : World} {base : Nat} {S : Nat → Prop} {v : Value} {l : List JV} (h : OwnV w base S v l) : ∀ g, v.ownBlock = some g → ∃ cur, w.heap[g]? = some (.cells cur 28 (0, 0)) := by
  intro g hg
  obtain ⟨xs, h, _⟩ := h.ex
  obtain ⟨_, ⟨rfl, _⟩ | ⟨g', cap, cur, rfl, _, h3, _⟩⟩ := h
  · cases hg
  · injection hg with hg; subst hg; exact ⟨cur, h3⟩
theorem sizeL_at : ∀ (l : List JV) (j : Nat) (h : j < l.length), sizeJ l[j] ≤ sizeL l
  | v :: r, 0, _ => by show sizeJ v ≤ sizeJ v + sizeL r; omega
  | v :: r, j + 1, h => by
    have := sizeL_at r j (by simpa using h)
    show sizeJ (r[j]'(by simpa using h)) ≤ sizeJ v + sizeL r
    omega
theorem keysN_len : ∀ ks : List ByteArray, ks.length ≤ keysN ks
  | [] => Nat.le_refl _
  | k :: r => by
    have := keysN_len r
    rw [List.length_cons]
    show _ ≤ 1 + k.size + keysN r
    omega
theorem sizeJ_pos : ∀ t : JV, 1 ≤ sizeJ t
  | .mk _ _ _ _ _ _ => by simp only [sizeJ]; omega
theorem sizeL_len : ∀ l : List JV, l.length ≤ sizeL l
  | [] => Nat.le_refl _
  | v :: r => by
    have := sizeL_len r
    have := sizeJ_pos v
    rw [List.length_cons]
    show _ ≤ sizeJ v + sizeL r
    omega
end Go.Proofs.YtbngjlkmpdccjaaGreatDoor
