/- Lemmas and contracts for the laws CalcWith, part 5 of 50: Lib, RefMath, TextMath, RelyG, LenMath. Conditions: those that each lemma names. -/
import Derived.Test.YtnkokhpadcgfbaaGreatDoorPw2
import Derived.Test.YtnkokhpadcgfbaaGreatDoorPw1
import Derived.Shelf.Spec.BitsCarry
import Derived.Lib.Hide
import Derived.Lib.ItoaNum
import Derived.Lib.Bytealg
import Derived.StillTail
import Derived.Deep.RegionLawGrows
import Derived.Outline
namespace Go.Proofs.YtnkokhpadcgfbaaGreatDoor
open Go Go.RowKit Go.Proofs Th
theorem compareStr (a b : ByteArray) (w : World) : Calls Tryz.prog 122 #[.string a, .string b] w fun r w' => r = .returned (.int .i64 (Lib.compareBytes a.data.toList b.data.toList)) ∧ Below w.heap.size w w' :=
  calls_same (Tryz.strings_Compare a b w)
end Go.Proofs.YtnkokhpadcgfbaaGreatDoor
namespace Th
theorem short_cases (neg : Bool) (ds : List Nat) (e : Int) (hd : Digs ds) (d : Nat) (t : List Nat) (h0 : ds = d :: t) (hh : d ≠ 0) (hl : val ds % 10 ≠ 0) :
    (18 < ds.length ∧ norm neg (val ds) e = ((0, 0), 11)) ∨
    (ds.length ≤ 18 ∧ (e < -64 ∨ 64 < e) ∧ norm neg (val ds) e = ((0, 0), 11)) ∨
    (ds.length ≤ 18 ∧ -64 ≤ e ∧ e ≤ 64 ∧ val ds < 1000000000000000000 ∧ norm neg (val ds) e = ((if neg then -(val ds : Int) else val ds, e), 0)) := by
  rw [norm_fin _ _ _ hl]
  unfold fin
  have h1 := val_ge d t (by omega)
  rw [← h0] at h1
  have h2 := val_lt ds hd
  have h3 : ds.length = t.length + 1 := by rw [h0]; rfl
  by_cases h : 18 < ds.length
  · left
    have : (10 : Nat) ^ 18 ≤ 10 ^ t.length := Nat.pow_le_pow_right (by omega) (by omega)
    exact ⟨h, by rw [if_pos (by left; omega)]⟩
  · right
    have : 10 ^ ds.length ≤ (10 : Nat) ^ 18 := Nat.pow_le_pow_right (by omega) (by omega)
    by_cases hx : e < -64 ∨ 64 < e
    · left; exact ⟨by omega, hx, by rw [if_pos (by omega)]⟩
    · right; exact ⟨by omega, by omega, by omega, by omega, by rw [if_neg (by omega)]⟩
theorem val_zero_cons (ds : List Nat) : val (0 :: ds) = val ds := by rw [val_cons]; simp
theorem Digs.tail {a : Nat} {b : List Nat} (h : Digs (a :: b)) : Digs b := fun d hd => h d (List.mem_cons_of_mem _ hd)
theorem Digs.take {a : List Nat} (h : Digs a) (k : Nat) : Digs (a.take k) := fun d hd => h d (List.mem_of_mem_take hd)
theorem Digs.drop {a : List Nat} (h : Digs a) (k : Nat) : Digs (a.drop k) := fun d hd => h d (List.mem_of_mem_drop hd)
theorem right_of_norm {m e : Int} (h : norm (decide (m < 0)) m.natAbs e = ((m, e), 0)) : right m e = true := by
  by_cases hm : m = 0
  · subst hm
    have : ((0, 0), 0) = ((((0 : Int), e), (0 : Int))) := h
    injection this with h1 _
    injection h1 with _ h2
    subst h2
    rfl
  · obtain ⟨a, k, ha, hk⟩ := exists_form m.natAbs (by omega)
    rw [hk, norm_of _ _ _ _ ha] at h
    unfold fin at h
    split at h
    · injection h with h1 h2
      exact absurd h2 (by decide)
    · rename_i hb
      injection h with h1 h2
      injection h1 with h3 h4
      have hk0 : k = 0 := by omega
      subst hk0
      rw [Nat.pow_zero, Nat.mul_one] at hk
      unfold right
      rw [if_neg hm]
      simp only [Bool.and_eq_true, decide_eq_true_eq]
      omega
theorem norm_err (neg : Bool) (m : Nat) (e : Int) : (norm neg m e).2 = 0 ∨ (norm neg m e) = ((0, 0), 11) := by
  unfold norm fin
  split
  · left; rfl
  · split
    · right; rfl
    · left; rfl
end Th
namespace Go.Proofs.YtnkokhpadcgfbaaGreatDoor
open Go Go.RowKit Go.Proofs Th
def nd (m : Int) : Nat := Lib.nDigits m.natAbs
theorem nd_pos (m : Int) : 1 ≤ nd m := by
  unfold nd
  by_cases h : m.natAbs < 10
  · rw [Lib.nDigits_small h]; omega
  · rw [Lib.nDigits_big h]; omega
def sgn (m : Int) : List UInt8 := if m < 0 then [45] else []
def pad (m e : Int) : List UInt8 := if (nd m : Int) ≤ -e then List.replicate (1 - e - nd m).toNat 48 ++ Lib.decDigits m.natAbs else Lib.decDigits m.natAbs
def textN (m e : Int) : List UInt8 :=
  if 0 ≤ e ∧ (nd m : Int) + e ≤ 21 then sgn m ++ Lib.decDigits m.natAbs ++ List.replicate e.toNat 48
  else if e < 0 ∧ -20 ≤ e then sgn m ++ (pad m e).take ((pad m e).length + e).toNat ++ [46] ++ (pad m e).drop ((pad m e).length + e).toNat
  else sgn m ++ Lib.decDigits m.natAbs ++ [101] ++ Lib.itoa e
theorem itoa_len (e : Int) (h0 : -64 ≤ e) (h1 : e ≤ 64) : (Lib.itoa e).length ≤ 1000 := by
  have key : ∀ u : Nat, u ≤ 64 → (Lib.decDigits u).length ≤ 2 := by
    intro u hu
    rw [Lib.decDigits_length]
    by_cases h : u < 10
    · rw [Lib.nDigits_small h]; omega
    · rw [Lib.nDigits_big h, Lib.nDigits_small (by omega)]; omega
  unfold Lib.itoa
  split
  · have := key e.natAbs (by omega); simp; omega
  · have := key e.toNat (by omega); omega
theorem dec_all (u : Nat) : AllDig (Lib.decDigits u) ∧ val (dgs (Lib.decDigits u)) = u := by
  induction u using Nat.strongRecOn with
  | ind u ih =>
    rw [Lib.decDigits]
    split
    · rename_i h
      have e : (UInt8.ofNat (48 + u)).toNat = 48 + u := by rw [UInt8.toNat_ofNat']; omega
      refine ⟨fun c hc => ?_, ?_⟩
      · rw [List.mem_singleton] at hc; subst hc; omega
      · show val [dg (UInt8.ofNat (48 + u))] = u
        unfold dg; rw [e]; simp [val]
    · rename_i h
      obtain ⟨h1, h2⟩ := ih (u / 10) (by omega)
      have e : (UInt8.ofNat (48 + u % 10)).toNat = 48 + u % 10 := by rw [UInt8.toNat_ofNat']; omega
      refine ⟨fun c hc => ?_, ?_⟩
      · rcases List.mem_append.1 hc with hc | hc
        · exact h1 c hc
        · rw [List.mem_singleton] at hc; subst hc; omega
      · rw [dgs_append, show dgs [UInt8.ofNat (48 + u % 10)] = [dg (UInt8.ofNat (48 + u % 10))] from rfl, val_snoc, h2]
        unfold dg; rw [e]; omega
theorem nDigits_ge (u : Nat) (h : u ≠ 0) : 10 ^ (Lib.nDigits u - 1) ≤ u := by
  induction u using Nat.strongRecOn with
  | ind u ih =>
    rw [Lib.nDigits]
    split
    · simp; omega
    · have := ih (u / 10) (by omega) (by omega)
      have hp : 1 ≤ Lib.nDigits (u / 10) := by
        rw [Lib.nDigits]; split <;> omega
      rw [show Lib.nDigits (u / 10) + 1 - 1 = (Lib.nDigits (u / 10) - 1) + 1 by omega, Nat.pow_succ]
      omega
theorem nDigits_one (u : Nat) : 1 ≤ Lib.nDigits u := by rw [Lib.nDigits]; split <;> omega
theorem all_zeros (n : Nat) : AllDig (List.replicate n 48) := by
  intro c hc
  rw [List.eq_of_mem_replicate hc]; decide
def bareN (m e : Int) : List UInt8 :=
  if 0 ≤ e ∧ (nd m : Int) + e ≤ 21 then Lib.decDigits m.natAbs ++ List.replicate e.toNat 48
  else if e < 0 ∧ -20 ≤ e then (pad m e).take ((pad m e).length + e).toNat ++ 46 :: (pad m e).drop ((pad m e).length + e).toNat
  else Lib.decDigits m.natAbs ++ 101 :: Lib.itoa e
theorem text_bare (m e : Int) : textN m e = sgn m ++ bareN m e := by
  unfold textN bareN
  split
  · rw [List.append_assoc]
  · split
    · simp
    · simp
theorem nd_small {m e : Int} (h : right m e = true) : nd m ≤ 18 := by
  unfold nd
  have hs := right_size h
  by_cases h0 : m.natAbs = 0
  · rw [h0, Lib.nDigits_small (by omega)]; omega
  · have h1 := nDigits_ge m.natAbs h0
    have h2 : (10 : Nat) ^ (Lib.nDigits m.natAbs - 1) < 10 ^ 18 := by omega
    have := (Nat.pow_lt_pow_iff_right (a := 10) (by omega)).1 h2
    omega
theorem text_short {m e : Int} (h : right m e = true) : (textN m e).length ≤ 3000 := by
  have h1 := nd_small h
  have hx := right_exp h
  have hi := itoa_len e hx.1 hx.2
  have hd : (Lib.decDigits m.natAbs).length ≤ 18 := by rw [Lib.decDigits_length]; exact h1
  have hs : (sgn m).length ≤ 1 := by unfold sgn; split <;> simp
  have hp : (pad m e).length ≤ 100 := by
    unfold pad; split
    · rw [List.length_append, List.length_replicate]; omega
    · omega
  unfold textN
  split
  · simp only [List.length_append, List.length_replicate]; omega
  · split
    · simp only [List.length_append, List.length_take, List.length_drop, List.length_cons, List.length_nil]; omega
    · simp only [List.length_append, List.length_cons, List.length_nil]; omega
end Go.Proofs.YtnkokhpadcgfbaaGreatDoor
namespace Th
open Go Go.RowKit
def cntU : Nat → Array Bool → Nat
  | 0, _ => 0
  | k + 1, l => cntU k l + (if l.getD k true = true then 0 else 1)
theorem cntU_high : ∀ (n : Nat) (l : Array Bool) (i : Nat), n ≤ i → cntU n (l.setIfInBounds i true) = cntU n l
  | 0, _, _, _ => rfl
  | k + 1, l, i, h => by
    simp only [cntU]
    rw [cntU_high k l i (by omega), getD_set_ne true (by omega)]
theorem cntU_set : ∀ (n : Nat) (l : Array Bool) (i : Nat), i < n → l.getD i true = false → cntU n l = cntU n (l.setIfInBounds i true) + 1
  | 0, _, _, h, _ => by omega
  | k + 1, l, i, h, hf => by
    simp only [cntU]
    by_cases hk : i = k
    · subst hk
      have hl : i < l.size := by
        rcases Nat.lt_or_ge i l.size with h1 | h1
        · exact h1
        · simp [Array.getElem?_eq_none h1] at hf
      rw [cntU_high i l i (Nat.le_refl _), if_neg (by rw [hf]; simp), if_pos (by simp [hl])]
    · rw [cntU_set k l i (by omega) hf, getD_set_ne true (by omega)]
      omega
theorem cntU_zero : ∀ (n : Nat) (l : Array Bool), cntU n l = 0 → ∀ j, j < n → l.getD j true = true
  | 0, _, _, _, h => by omega
  | k + 1, l, h, j, hj => by
    simp only [cntU] at h
    by_cases hk : j = k
    · subst hk
      by_cases h1 : l.getD j true = true
      · exact h1
      · rw [if_neg h1] at h; omega
    · exact cntU_zero k l (by omega) j (by omega)
theorem cntU_new (n m : Nat) (h : n ≤ m) : cntU n (Array.replicate m false) = n := by
  induction n with
  | zero => rfl
  | succ n ih =>
    simp only [cntU]
    rw [ih (by omega), if_neg (by simp [show n < m by omega])]
def heldBy (o : Oper) (a : Act) : Value := match o.dst with | some s => a.tmps.getD s undef | none => undef
def gives (o : Oper) (v : Value) : Value := match o.dst with | some _ => v | none => undef
def freeSlot (l : List Oper) (s : Nat) : Bool := l.all fun o => decide (o.dst ≠ some s)
def depHold (ops : Array Oper) (Φ : Nat → Value → World → Prop) (a : Act) (w : World) : List Edge → Prop
  | [] => True
  | e :: r => (if Region.binds .any e = true then (match ops[e.on]? with | some o => Φ e.on (heldBy o a) w | none => True) else True) ∧ depHold ops Φ a w r
def putL : List Oper → Nat → (Nat → Value) → Act → Act
  | [], _, _, a => a
  | o :: r, k, vs, a => putL r (k + 1) vs (a.put o.dst (vs k))
def allHold (Φ : Nat → Value → World → Prop) (vs : Nat → Value) (w : World) : List Oper → Nat → Prop
  | [], _ => True
  | o :: r, k => Φ k (gives o (vs k)) w ∧ allHold Φ vs w r (k + 1)
def stepHold (P : Program) (ops : Array Oper) (h : List Oper) (a0 : Act) (I : (Nat → Bool) → World → Prop) (Φ : Nat → Value → World → Prop) (G : Nat → World → World → Prop) (Q : Exit → Act → World → Prop) : List Oper → Nat → Prop
  | [], _ => True
  | o :: r, k => (∀ L a w, L k = false → I L w → (∀ s, freeSlot h s = true → a.tmps.getD s undef = a0.tmps.getD s undef) → depHold ops Φ a w o.after.toList →
      Oper.wp P o a w (fun a' w' => ∃ v, a' = a.put o.dst v ∧ Φ k (gives o v) w' ∧ I (fun j => decide (j = k) || L j) w' ∧ G k w w') Q) ∧ stepHold P ops h a0 I Φ G Q r (k + 1)
def relyB (ops : Array Oper) (n sz : Nat) : Bool :=
  Region.noSelect ops && decide (n < ops.size) && Region.sinkB .any ops n && Region.chainB .any ops n &&
  Region.seqB .any ops (ops.size - n) n ((Array.replicate n true) ++ (Array.replicate (ops.size - n) false)) &&
  ((ops.toList.take n).all fun o => decide (o.guard = none) && (match o.dst with | some s => decide (s < sz) | none => true)) &&
  ((List.range n).all fun i => match ops[i]? with | some o => o.after.toList.all (fun e => decide (e.on < i)) && (List.range i).all (fun j => match ops[j]? with | some p => decide (p.dst = none) || decide (p.dst ≠ o.dst) | none => true) | none => true)
section
variable {P : Program} {ops : Array Oper} {n : Nat} {a0 : Act} {I : (Nat → Bool) → World → Prop} {Φ : Nat → Value → World → Prop} {G : Nat → World → World → Prop} {Q : Exit → Act → World → Prop}
structure RelyS (ops : Array Oper) (n : Nat) (a0 : Act) (I : (Nat → Bool) → World → Prop) (Φ : Nat → Value → World → Prop) (listed : Array Bool) (a : Act) (w : World) : Prop where
  inv : I (fun j => listed.getD j false) w
  defers : a.defers = a0.defers
  size : a.tmps.size = a0.tmps.size
  same : ∀ s, freeSlot (ops.toList.take n) s = true → a.tmps.getD s undef = a0.tmps.getD s undef
  done : ∀ j o, j < n → ops[j]? = some o → listed.getD j false = true → Φ j (heldBy o a) w
theorem depHold_of {a : Act} {w : World} : ∀ (l : List Edge), (∀ e ∈ l, Region.binds .any e = true → ∀ o, ops[e.on]? = some o → Φ e.on (heldBy o a) w) → depHold ops Φ a w l
  | [], _ => trivial
  | e :: r, h => ⟨by
      split
      · rename_i hb
        cases ho : ops[e.on]? with
        | none => trivial
        | some o => exact h e (List.mem_cons_self) hb o ho
      · trivial, depHold_of r (fun e' he' => h e' (List.mem_cons_of_mem _ he'))⟩
theorem stepHold_get {h : List Oper} : ∀ (l : List Oper) (k : Nat), stepHold P ops h a0 I Φ G Q l k → ∀ i o, l[i]? = some o → ∀ L a w, L (k + i) = false → I L w → (∀ s, freeSlot h s = true → a.tmps.getD s undef = a0.tmps.getD s undef) → depHold ops Φ a w o.after.toList →
      Oper.wp P o a w (fun a' w' => ∃ v, a' = a.put o.dst v ∧ Φ (k + i) (gives o v) w' ∧ I (fun j => decide (j = k + i) || L j) w' ∧ G (k + i) w w') Q
  | [], _, _, i, o, h => by simp at h
  | o' :: r, k, ⟨h1, h2⟩, 0, o, h => by
    obtain rfl : o' = o := by simpa using h
    exact h1
  | o' :: r, k, ⟨_, h2⟩, i + 1, o, h => by
    have := stepHold_get r (k + 1) h2 i o (by simpa using h)
    rwa [show k + 1 + i = k + (i + 1) by omega] at this
theorem heldBy_put_self {o : Oper} {a : Act} {v : Value} (h : ∀ s, o.dst = some s → s < a.tmps.size) : heldBy o (a.put o.dst v) = gives o v := by
  unfold heldBy gives Act.put
  cases hd : o.dst with
  | none => rfl
  | some s => simp [h s hd]
theorem heldBy_put_other {o p : Oper} {a : Act} {v : Value} (h : o.dst = none ∨ o.dst ≠ p.dst) : heldBy o (a.put p.dst v) = heldBy o a := by
  unfold heldBy Act.put
  cases hd : o.dst with
  | none => rfl
  | some s =>
    cases hp : p.dst with
    | none => rfl
    | some t =>
      have : t ≠ s := by
        rintro rfl
        rcases h with h | h
        · rw [hd] at h; cases h
        · exact h (hd.trans hp.symm)
      simp [Array.getElem?_setIfInBounds_ne this]
theorem putL_size : ∀ (l : List Oper) (k : Nat) (vs : Nat → Value) (b : Act), (putL l k vs b).tmps.size = b.tmps.size ∧ (putL l k vs b).defers = b.defers
  | [], _, _, _ => ⟨rfl, rfl⟩
  | o :: r, k, vs, b => by
    have h := putL_size r (k + 1) vs (b.put o.dst (vs k))
    simp only [putL]
    rw [h.1, h.2]
    unfold Act.put
    cases o.dst <;> simp
theorem putL_at (s : Nat) (t : Value) : ∀ (l : List Oper) (k : Nat) (vs : Nat → Value) (b : Act), s < b.tmps.size → (∀ i o, l[i]? = some o → o.dst = some s → vs (k + i) = t) → (freeSlot l s = true → b.tmps.getD s undef = t) → (putL l k vs b).tmps.getD s undef = t
  | [], _, _, _, _, _, h => h rfl
  | o :: r, k, vs, b, hs, h1, h2 => by
    simp only [putL]
    have hsz : (b.put o.dst (vs k)).tmps.size = b.tmps.size := by unfold Act.put; cases o.dst <;> simp
    refine putL_at s t r (k + 1) vs _ (by omega) (fun i p hp hd => ?_) (fun hf => ?_)
    · have := h1 (i + 1) p (by simpa using hp) hd
      rwa [show k + 1 + i = k + (i + 1) by omega]
    · by_cases hd : o.dst = some s
      · have := h1 0 o rfl hd
        unfold Act.put
        rw [hd]
        simp [hs]
        exact this
      · have hf2 : freeSlot (o :: r) s = true := by
          unfold freeSlot at hf ⊢
          rw [List.all_cons, hf, decide_eq_true hd]; rfl
        rw [← h2 hf2]
        unfold Act.put
        cases hp : o.dst with
        | none => rfl
        | some q =>
          have : q ≠ s := fun e => hd (by rw [hp, e])
          simp [Array.getElem?_setIfInBounds_ne this]
theorem getD_undef_ext {a b : Array Value} (hs : a.size = b.size) (h : ∀ s, s < a.size → a.getD s undef = b.getD s undef) : a = b := by
  refine Array.ext hs fun i h1 h2 => ?_
  have := h i h1
  simpa [h1, h2] using this
theorem allHold_of (Φ : Nat → Value → World → Prop) (vs : Nat → Value) (w : World) : ∀ (l : List Oper) (k : Nat), (∀ i o, l[i]? = some o → Φ (k + i) (gives o (vs (k + i))) w) → allHold Φ vs w l k
  | [], _, _ => trivial
  | o :: r, k, h => ⟨h 0 o rfl, allHold_of Φ vs w r (k + 1) fun i p hp => by
      have := h (i + 1) p (by simpa using hp)
      rwa [show k + 1 + i = k + (i + 1) by omega]⟩
theorem rely_any (hB : relyB ops n a0.tmps.size = true) (stab : ∀ i j v w w', i ≠ j → G i w w' → Φ j v w → Φ j v w')
    (steps : stepHold P ops (ops.toList.take n) a0 I Φ G Q (ops.toList.take n) 0)
    (fin : ∀ (vs : Nat → Value) L w, (∀ j, j < n → L j = true) → I L w → allHold Φ vs w (ops.toList.take n) 0 → wpList P ops Q (ops.toList.drop n) (putL (ops.toList.take n) 0 vs a0) w) :
    ∀ (f : Nat) (listed : Array Bool) (a : Act) (w : World), cntU n listed = f → HeadInv .any ops n listed → RelyS ops n a0 I Φ listed a w → wpAny P .any ops Q (f + (ops.size - n)) listed a w := by
  simp only [relyB, Bool.and_eq_true, decide_eq_true_eq, List.all_eq_true] at hB
  obtain ⟨⟨⟨⟨⟨⟨_, hn⟩, hs⟩, hc⟩, hseq⟩, hg⟩, hd⟩ := hB
  have hgood : ∀ i o, i < n → ops[i]? = some o → o.guard = none ∧ (∀ s, o.dst = some s → s < a0.tmps.size) ∧ (∀ e ∈ o.after, e.on < i) ∧ (∀ j p, j < i → ops[j]? = some p → p.dst = none ∨ p.dst ≠ o.dst) := by
    intro i o hi ho
    have hmem : o ∈ ops.toList.take n := by
      have : (ops.toList.take n)[i]? = some o := by rw [List.getElem?_take_of_lt hi]; simpa using ho
      exact List.mem_of_getElem? this
    have h1 := hg o hmem
    have h2 := hd i (List.mem_range.2 hi)
    rw [ho] at h2
    simp only [Bool.and_eq_true, List.all_eq_true, decide_eq_true_eq] at h2
    refine ⟨h1.1, fun s hs => ?_, fun e he => h2.1 e (by simpa using he), fun j p hj hp => ?_⟩
    · have h3 := h1.2
      rw [hs] at h3
      simpa using h3
    · have h3 := h2.2 j (List.mem_range.2 hj)
      rw [hp] at h3
      simpa using h3
  intro f
  induction f with
  | zero =>
    intro listed a w hf inv R
    have hall := cntU_zero n listed hf
    have hl : listed = (Array.replicate n true) ++ (Array.replicate (ops.size - n) false) := by
      refine Array.ext (by rw [inv.size]; simp; omega) fun i h1 h2 => ?_
      by_cases hi : i < n
      · have := hall i hi
        rw [Array.getElem_append_left (by simpa using hi)]
        simpa [h1] using this
      · have := inv.tail i (by omega) (by rw [← inv.size]; exact h1)
        rw [Array.getElem_append_right (by simp; omega)]
        simpa [h1] using this
    rw [Nat.zero_add]
    have hdone : ∀ j, j < n → listed.getD j false = true := fun j hj => by
      have h1 := hall j hj
      have h2 : j < listed.size := by rw [inv.size]; omega
      simpa [h2] using h1
    have hdl : (ops.toList.drop n).length = ops.size - n := by simp
    have key := wpAny_of_seq (P := P) (ops := ops) (md := .any) (Q' := Q) (ops.toList.drop n) n listed a w (fun j => by simp [List.getElem?_drop]) (by rw [hdl, hl]; exact hseq) (by
      have hvs : a = putL (ops.toList.take n) 0 (fun j => match ops[j]? with | some o => heldBy o a | none => undef) a0 := by
        have h1 := putL_size (ops.toList.take n) 0 (fun j => match ops[j]? with | some o => heldBy o a | none => undef) a0
        have h2 : a.tmps = (putL (ops.toList.take n) 0 (fun j => match ops[j]? with | some o => heldBy o a | none => undef) a0).tmps := by
          refine getD_undef_ext (by rw [h1.1, R.size]) fun s hs' => ?_
          refine (putL_at s (a.tmps.getD s undef) _ 0 _ a0 (by rw [← R.size]; exact hs') (fun i o ho hd' => ?_) (fun hf' => (R.same s hf').symm)).symm
          have hi : i < n := by
            have := (List.getElem?_eq_some_iff.1 ho).1
            rw [List.length_take] at this; omega
          rw [List.getElem?_take_of_lt hi] at ho
          have ho' : ops[i]? = some o := by simpa using ho
          simp only [Nat.zero_add, ho']
          unfold heldBy
          rw [hd']
        cases a
        have h3 := h1.2
        have h4 := R.defers
        simp only at h2 h4
        generalize putL (ops.toList.take n) 0 _ a0 = b at *
        cases b
        simp only at h2 h3 ⊢
        rw [h2, h4, h3]
      rw [hvs]
      refine fin _ _ w (fun j hj => hdone j hj) R.inv (allHold_of _ _ _ _ 0 fun i o ho => ?_)
      have hi : i < n := by
        have := (List.getElem?_eq_some_iff.1 ho).1
        rw [List.length_take] at this; omega
      rw [List.getElem?_take_of_lt hi] at ho
      have ho' : ops[i]? = some o := by simpa using ho
      have h9 := R.done i o hi ho' (by have := hall i hi; simp only [Array.getD_eq_getD_getElem?] at this ⊢; cases hx : listed[i]? with
        | none => have := Array.getElem?_eq_none_iff.1 hx; rw [inv.size] at this; omega
        | some b => rw [hx] at this; simpa using this)
      simp only [Nat.zero_add, ho']
      have : gives o (heldBy o a) = heldBy o a := by unfold gives heldBy; cases o.dst <;> rfl
      rw [this]; exact h9)
    rwa [hdl] at key
  | succ f ih =>
    intro listed a w hf inv R
    have hex : ∃ i, i < n ∧ listed.getD i true = false ∧ ∀ j, j < i → listed.getD j true = true := by
      have h0 : ∃ i, i < n ∧ listed.getD i true = false := by
        refine Classical.byContradiction fun hno => ?_
        have : ∀ m, m ≤ n → cntU m listed = 0 := by
          intro m
          induction m with
          | zero => intro _; rfl
          | succ m ihm =>
            intro hm
            simp only [cntU]
            rw [ihm (by omega), if_pos (by
              cases hb : listed.getD m true with
              | true => rfl
              | false => exact absurd ⟨m, by omega, hb⟩ hno)]
        have := this n (Nat.le_refl _)
        omega
      obtain ⟨i, hi, hl⟩ := h0
      induction i using Nat.strongRecOn with
      | _ i ihi =>
        by_cases hb : ∃ j, j < i ∧ listed.getD j true = false
        · obtain ⟨j, hj, hjl⟩ := hb
          exact ihi j hj (by omega) hjl
        · refine ⟨i, hi, hl, fun j hj => ?_⟩
          cases hx : listed.getD j true with
          | true => rfl
          | false => exact absurd ⟨j, hj, hx⟩ hb
    obtain ⟨i0, hi0, hl0, hmin⟩ := hex
    have hready : i0 ∈ Region.ready .any ops listed := by
      have hlt : i0 < ops.size := by omega
      refine mem_ready.2 ⟨hl0, _, Array.getElem?_eq_getElem hlt, fun e he _ => ?_⟩
      have h1 := (hgood i0 _ hi0 (Array.getElem?_eq_getElem hlt)).2.2.1 e he
      have h2 := hmin e.on h1
      have h3 : e.on < listed.size := by rw [inv.size]; omega
      simpa [h3] using h2
    rw [show f + 1 + (ops.size - n) = (f + (ops.size - n)) + 1 by omega]
    refine ⟨fun h => (by rw [h] at hready; cases hready), fun i hi => ?_⟩
    have hin : i < n := (Nat.lt_or_ge i n).resolve_right fun h => tail_waits hs hc hn inv _ i0 rfl hi0 hl0 i h hi
    obtain ⟨hun, o, ho, hall⟩ := mem_ready.1 hi
    obtain ⟨hgd, hdst, hdep, hdis⟩ := hgood i o hin ho
    have hst := stepHold_get (ops.toList.take n) 0 steps i o (by rw [List.getElem?_take_of_lt hin]; simpa using ho) (fun j => listed.getD j false) a w (by rw [Nat.zero_add]; exact getD_both hun) R.inv R.same (depHold_of _ fun e he hb p hp =>
      R.done e.on p (by have := hdep e (by simpa using he); omega) hp (hall e (by simpa using he) hb))
    unfold wpOp
    rw [ho]
    simp only
    rw [if_pos (by simp [Region.wanted, hgd])]
    refine Or.inl (Oper.wp_mono (fun a' w' hk => ?_) hst)
    obtain ⟨v, rfl, hΦ, hI, hG⟩ := hk
    rw [Nat.zero_add] at hΦ hG hI
    have hI : I (fun j => (listed.setIfInBounds i true).getD j false) w' := by
      have : (fun j => (listed.setIfInBounds i true).getD j false) = fun j => decide (j = i) || listed.getD j false := by
        funext j
        by_cases hj : j = i
        · subst hj
          have : j < listed.size := by rw [inv.size]; omega
          simp [this]
        · rw [getD_set_ne false (Ne.symm hj), decide_eq_false hj]; rfl
      rw [this]; exact hI
    refine ih _ _ _ (by have := cntU_set n listed i hin hun; omega) (inv.set hi hin) ⟨hI, ?_, ?_, fun s hs' => ?_, fun j p hj hp hl => ?_⟩
    · have := R.defers
      unfold Act.put
      cases o.dst <;> exact this
    · have := R.size
      unfold Act.put
      cases o.dst <;> simpa using this
    · rw [← R.same s hs']
      have hne : o.dst ≠ some s := by
        unfold freeSlot at hs'
        have := List.all_eq_true.1 hs' o (List.mem_of_getElem? (i := i) (by rw [List.getElem?_take_of_lt hin]; simpa using ho))
        simpa using this
      unfold Act.put
      cases hp : o.dst with
      | none => rfl
      | some q =>
        have : q ≠ s := fun e => hne (by rw [hp, e])
        simp [Array.getElem?_setIfInBounds_ne this]
    · by_cases hij : i = j
      · subst hij
        obtain rfl : o = p := Option.some.inj (ho.symm.trans hp)
        rw [heldBy_put_self (fun s hs' => by rw [R.size]; exact hdst s hs')]
        exact hΦ
      · rw [getD_set_ne false hij] at hl
        have hdd : p.dst = none ∨ p.dst ≠ o.dst := by
          rcases Nat.lt_or_gt_of_ne hij with h | h
          · rcases (hgood j p hj hp).2.2.2 i o h ho with h1 | h1
            · cases hpd : p.dst with
              | none => exact Or.inl rfl
              | some q => right; rw [h1]; simp
            · right; exact fun e => h1 e.symm
          · exact hdis j p h hp
        rw [heldBy_put_other hdd]
        exact stab i j _ w w' hij hG (R.done j p hj hp hl)
end
theorem op_val {P : Program} {o : Oper} {a : Act} {w w' : World} {K : Act → World → Prop} {Q : Exit → Act → World → Prop} (v : Value) (h : (execOp a.eval o).run P w = .ok (.value v) w') (hK : K (a.put o.dst v) w') : Oper.wp P o a w K Q := by
  unfold Oper.wp; rw [h]; exact hK
theorem op_call {P : Program} {o : Oper} {a : Act} {w : World} {K : Act → World → Prop} {Q : Exit → Act → World → Prop} (f : FuncId) (args : Array Value) (h : (execOp a.eval o).run P w = .ok (.enter f args) w) (hK : Calls P f args w fun e w' => ∃ v, e = .returned v ∧ K (a.put o.dst v) w') : Oper.wp P o a w K Q := by
  unfold Oper.wp; rw [h, Oper.upon_enter]; exact hK.mono (by rintro e w' ⟨v, rfl, hk⟩; exact hk)
theorem get_form {a : Act} {t : Nat} {v : Value} (h : a.eval (.tmp t) = v) : a.tmps[t]?.getD undef = v := by
  simpa [Act.eval] using h
theorem wp_region_rely {P : Program} {id : Nat} {Q : Exit → Act → World → Prop} {a : Act} {w : World} {l : List Oper} (n : Nat) (I : (Nat → Bool) → World → Prop) (Φ : Nat → Value → World → Prop) (G : Nat → World → World → Prop) (hm : P.follows .mixedOrders = true) (hB : relyB l.toArray n a.tmps.size = true)
    (h0 : I (fun _ => false) { w with drawn := w.drawn + 1 }) (stab : ∀ i j v w w', i ≠ j → G i w w' → Φ j v w → Φ j v w') (steps : stepHold P l.toArray (l.take n) a I Φ G Q (l.take n) 0)
    (fin : ∀ (vs : Nat → Value) L w, (∀ j, j < n → L j = true) → I L w → allHold Φ vs w (l.take n) 0 → wpList P l.toArray Q (l.drop n) (putL (l.take n) 0 vs a) w) : (Code.region id l.toArray true).wp P Q a w := by
  refine wp_region_any hm ?_
  have hn : n < l.toArray.size := by
    simp only [relyB, Bool.and_eq_true, decide_eq_true_eq] at hB
    exact hB.1.1.1.1.1.2
  have key := rely_any (P := P) (ops := l.toArray) (Q := Q) hB stab (by simpa using steps) (by simpa using fin) n (Array.replicate l.toArray.size false) a { w with drawn := w.drawn + 1 } (cntU_new n _ (by omega))
    ⟨by simp, fun j oj _ hl => (by rw [getD_replicate_false] at hl; cases hl), fun t _ ht => getD_in (by simpa using ht) (getD_replicate_false _ _)⟩
    ⟨by
      have : (fun j => (Array.replicate l.toArray.size false).getD j false) = fun _ => false := funext fun j => getD_replicate_false _ _
      rw [this]; exact h0, rfl, rfl, fun _ _ => rfl, fun j o _ _ hl => (by rw [getD_replicate_false] at hl; cases hl)⟩
  rwa [show n + (l.toArray.size - n) = l.toArray.size by omega] at key
end Th
namespace Th
def wholeN (n : Nat) : Int × Int := (normZ n 0).1
theorem noughts : ∀ n : Nat, 0 < n → ∃ m k : Nat, n = m * 10 ^ k ∧ m % 10 ≠ 0 := by
  intro n
  induction n using Nat.strongRecOn with
  | _ n ih =>
    intro h
    by_cases h0 : n % 10 = 0
    · obtain ⟨m, k, h1, h2⟩ := ih (n / 10) (by omega) (by omega)
      refine ⟨m, k + 1, ?_, h2⟩
      rw [Nat.pow_succ, ← Nat.mul_assoc, ← h1]
      omega
    · exact ⟨n, 0, by simp, h0⟩
theorem whole_form (n : Nat) (h : n < 1000000000000000000) : ∃ m k : Nat, n = m * 10 ^ k ∧ normZ (n : Int) 0 = (((m : Int), (k : Int)), 0) ∧ k ≤ 18 ∧ (m % 10 ≠ 0 ∨ (m = 0 ∧ k = 0)) ∧ m < 1000000000000000000 := by
  by_cases h0 : n = 0
  · subst h0
    exact ⟨0, 0, rfl, rfl, by omega, Or.inr ⟨rfl, rfl⟩, by omega⟩
  · obtain ⟨m, k, h1, h2⟩ := noughts n (by omega)
    have hm : 0 < m := by omega
    have hp : 10 ^ k ≤ n := by
      rw [h1]; exact Nat.le_mul_of_pos_left _ hm
    have hk : k ≤ 18 := by
      rcases Nat.lt_or_ge 18 k with h3 | h3
      · have : 10 ^ 19 ≤ 10 ^ k := Nat.pow_le_pow_right (by omega) h3
        omega
      · exact h3
    have hmn : m ≤ n := by
      rw [h1]; exact Nat.le_mul_of_pos_right _ (Nat.pow_pos (by omega))
    have hkn : k ≤ n := Nat.le_trans (Nat.le_of_lt (Nat.lt_pow_self (by omega))) hp
    refine ⟨m, k, h1, ?_, hk, Or.inl h2, by omega⟩
    unfold normZ norm
    have e0 : ¬ (n : Int) < 0 := by omega
    rw [decide_eq_false e0, Int.natAbs_natCast, if_neg h0]
    have hs := strip_of k n m 0 h2 hkn
    rw [← h1] at hs
    rw [hs]
    unfold fin
    rw [if_neg (by simp only; omega)]
    simp
theorem right_of_form {m k : Nat} (hk : k ≤ 18) (h : m % 10 ≠ 0 ∨ (m = 0 ∧ k = 0)) (hm : m < 1000000000000000000) : right (m : Int) (k : Int) = true := by
  unfold right
  rcases h with h | ⟨rfl, rfl⟩
  · rw [if_neg (by omega)]
    simp only [Bool.and_eq_true, decide_eq_true_eq, Int.natAbs_natCast]
    omega
  · rfl
end Th
