/- Lemmas and contracts for the laws ReadParses, ReadBytes, part 12 of 50: ParseMath. Conditions: those that each lemma names. -/
import Derived.Test.YtbngjlkmpdccjaaGreatDoorPack7
import Derived.Test.YtbngjlkmpdccjaaGreatDoorPack8
namespace Th
open Go Go.Lib
structure OJ where
  kind : Int
  keys : List ByteArray
  list : List JV
inductive Ph where
  | val | key | off | end_
def isShut (o : OJ) (t : Tk) : Bool := (decide (o.kind = 5) && decide (t.sign = 93)) || (decide (o.kind = 6) && decide (t.sign = 125))
def fuelP : Nat := 40000
section
variable (M : OJ → JV) (l : List UInt8)
def readP : Nat → Ph → List OJ → JV → Tk → JV × Nat × Int
  | 0, _, _, _, t => (zeroJ, t.at_, 60)
  | f + 1, .val, st, v, t => if t.e ≠ 0 then (zeroJ, t.at_, t.e) else if t.sign ≠ 0 ∧ t.sign ≠ 91 ∧ t.sign ≠ 123 then (zeroJ, t.at_, 60) else if st.length = 48 then (zeroJ, t.at_, 31)
    else if t.sign = 0 then readP f .off st t.v (nextT l t.to_)
    else if (nextT l t.to_).e = 0 ∧ isShut ⟨if t.sign = 123 then 6 else 5, [], []⟩ (nextT l t.to_) = true then readP f .end_ (⟨if t.sign = 123 then 6 else 5, [], []⟩ :: st) v (nextT l t.to_)
    else if t.sign = 123 then readP f .key (⟨6, [], []⟩ :: st) v (nextT l t.to_) else readP f .val (⟨5, [], []⟩ :: st) v (nextT l t.to_)
  | f + 1, .key, st, v, t => if t.e ≠ 0 then (zeroJ, t.at_, t.e) else if t.sign ≠ 0 ∨ t.k ≠ 4 then (zeroJ, t.at_, 60) else match st with
    | [] => (zeroJ, t.at_, 60)
    | o :: r => if (nextT l t.to_).e ≠ 0 then (zeroJ, (nextT l t.to_).at_, (nextT l t.to_).e) else if (nextT l t.to_).sign ≠ 58 then (zeroJ, (nextT l t.to_).at_, 60)
      else readP f .val (⟨o.kind, o.keys ++ [t.s], o.list⟩ :: r) v (nextT l (nextT l t.to_).to_)
  | f + 1, .off, st, v, t => if t.e ≠ 0 then (zeroJ, t.at_, t.e) else match st with
    | [] => if t.sign = 255 then (v, 0, 0) else (zeroJ, t.at_, 60)
    | o :: r => if t.sign = 44 then (if o.kind = 5 then readP f .val (⟨o.kind, o.keys, o.list ++ [v]⟩ :: r) v (nextT l t.to_) else readP f .key (⟨o.kind, o.keys, o.list ++ [v]⟩ :: r) v (nextT l t.to_))
      else if isShut o t = true then readP f .end_ (⟨o.kind, o.keys, o.list ++ [v]⟩ :: r) v t else (zeroJ, t.at_, 60)
  | f + 1, .end_, st, _v, t => match st with
    | [] => (zeroJ, t.at_, 60)
    | o :: r => readP f .off r (M o) (nextT l t.to_)
def readV : JV × Nat × Int := if 16384 < l.length then (zeroJ, 0, 3) else readP M l fuelP .val [] zeroJ (nextT l 0)
end
/-! tokens of a text, and of one with more behind it -/
theorem wordV_ok (l : List UInt8) (h : (wordV l).2.2 = 0) : (wordV l).2.1 = runB letterC l ∧ (wordV l).1 ≠ 4 := by
  unfold wordV at *
  by_cases h1 : l.take (runB letterC l) = [110, 117, 108, 108]
  · rw [if_pos h1]; exact ⟨rfl, fun h => by simp at h⟩
  · rw [if_neg h1] at h ⊢
    by_cases h2 : l.take (runB letterC l) = [102, 97, 108, 115, 101]
    · rw [if_pos h2]; exact ⟨rfl, fun h => by simp at h⟩
    · rw [if_neg h2] at h ⊢
      by_cases h3 : l.take (runB letterC l) = [116, 114, 117, 101]
      · rw [if_pos h3]; exact ⟨rfl, fun h => by simp at h⟩
      · rw [if_neg h3] at h; simp at h
theorem oneT_end (l : List UInt8) (a : Nat) (h : (oneT l a).sign = 255) : l = [] := by
  cases l with
  | nil => rfl
  | cons c r =>
    exfalso
    simp only [oneT] at h
    by_cases c1 : signC c = true
    · rw [if_pos c1] at h
      have h : c.toNat = 255 := h
      unfold signC at c1
      simp [h] at c1
    rw [if_neg c1] at h
    repeat' split at h
    all_goals exact absurd (show (0 : Nat) = 255 from h) (by decide)
theorem oneT_at (l : List UInt8) (a : Nat) : (oneT l a).at_ = a := by
  cases l with
  | nil => rfl
  | cons c r => simp only [oneT]; repeat' split
                all_goals rfl
theorem oneT_to (l : List UInt8) (a : Nat) : (oneT l a).to_ ≤ a + l.length := by
  cases l with
  | nil => exact Nat.le_refl _
  | cons c r =>
    simp only [oneT]
    by_cases c1 : signC c = true
    · rw [if_pos c1, List.length_cons]; simp only; omega
    rw [if_neg c1]
    by_cases c2 : c.toNat = 34
    · rw [if_pos c2]
      have : (readQ (c :: r)).2.1 ≤ (c :: r).length := by
        simp only [readQ]
        split
        · cases hb : bodyV r with
          | none => exact Nat.zero_le _
          | some p =>
            obtain ⟨t, k⟩ := p
            have := bodyV_ok _ r (Nat.le_refl _) t k hb
            simp; omega
        · exact Nat.zero_le _
      simp only; omega
    rw [if_neg c2]
    by_cases c3 : letterC c = true
    · rw [if_pos c3]
      have := runB_le letterC (c :: r)
      have : (wordV (c :: r)).2.1 ≤ (c :: r).length := by
        unfold wordV
        repeat' split
        all_goals first | exact this | exact Nat.zero_le _
      simp only; omega
    rw [if_neg c3]
    by_cases c4 : c.toNat = 45 ∨ (48 ≤ c.toNat ∧ c.toNat ≤ 57)
    · rw [if_pos c4]
      have := runB_le numC (c :: r)
      simp only; omega
    · rw [if_neg c4]; simp only; omega
theorem nextT_to (l : List UInt8) (a : Nat) (ha : a ≤ l.length) : (nextT l a).to_ ≤ l.length ∧ a ≤ (nextT l a).at_ ∧ (nextT l a).at_ ≤ l.length := by
  have h1 := runB_le blankC (l.drop a)
  rw [List.length_drop] at h1
  have h2 := oneT_to (l.drop (a + runB blankC (l.drop a))) (a + runB blankC (l.drop a))
  rw [List.length_drop] at h2
  unfold nextT
  rw [oneT_at]
  omega
section
variable (M : OJ → JV)
theorem readV_short (l : List UInt8) (h : l.length ≤ 16384) : readV M l = readP M l fuelP .val [] zeroJ (nextT l 0) := by
  unfold readV; rw [if_neg (by omega)]
end
end Th
namespace Th
open Go Go.Lib
theorem escV_len {l : List UInt8} {x n : Nat} (h : escV l = some (x, n)) : (encodeRune (x : Int)).length ≤ n + 1 := by
  have h4 := encodeRune_le (x : Int)
  by_cases hn : 3 ≤ n
  · omega
  cases l with
  | nil => cases h
  | cons c r =>
    have hc := c.toNat_lt
    have key : ∀ y : Nat, y < 128 → (encodeRune (y : Int)).length ≤ 2 := by
      intro y hy
      unfold encodeRune encodeRuneZ
      rw [List.length_map]
      repeat' split
      all_goals first | (simp; done) | omega
    simp only [escV] at h
    by_cases c0 : c = 34 ∨ c = 92 ∨ c = 47
    · rw [if_pos c0] at h
      injection h with h; injection h with h1 h2; subst h1 h2
      rcases c0 with rfl | rfl | rfl <;> exact key _ (by decide)
    rw [if_neg c0] at h
    by_cases c1 : c = 98
    · rw [if_pos c1] at h; injection h with h; injection h with h1 h2; subst h1 h2; exact key _ (by decide)
    rw [if_neg c1] at h
    by_cases c2 : c = 102
    · rw [if_pos c2] at h; injection h with h; injection h with h1 h2; subst h1 h2; exact key _ (by decide)
    rw [if_neg c2] at h
    by_cases c3 : c = 110
    · rw [if_pos c3] at h; injection h with h; injection h with h1 h2; subst h1 h2; exact key _ (by decide)
    rw [if_neg c3] at h
    by_cases c4 : c = 114
    · rw [if_pos c4] at h; injection h with h; injection h with h1 h2; subst h1 h2; exact key _ (by decide)
    rw [if_neg c4] at h
    by_cases c5 : c = 116
    · rw [if_pos c5] at h; injection h with h; injection h with h1 h2; subst h1 h2; exact key _ (by decide)
    rw [if_neg c5] at h
    by_cases c9 : c = 117
    · rw [if_pos c9] at h
      cases hu : uniV r with
      | none => rw [hu] at h; cases h
      | some p =>
        obtain ⟨y, m⟩ := p
        rw [hu] at h
        injection h with h; injection h with h1 h2; subst h1 h2
        exfalso
        unfold uniV at hu
        cases ha : fourV r with
        | none => rw [ha] at hu; cases hu
        | some a =>
          simp only [ha] at hu
          split at hu
          · cases hu
          · split at hu
            · injection hu with hu; injection hu with h1 h2; omega
            · split at hu
              · cases hb : fourV (r.drop 6) with
                | none => rw [hb] at hu; cases hu
                | some b =>
                  simp only [hb] at hu
                  split at hu
                  · cases hu
                  · injection hu with hu; injection hu with h1 h2; omega
              · cases hu
    · rw [if_neg c9] at h; cases h
theorem readB_len : ∀ (f : Nat) (l t : List UInt8) (k : Nat), readB f l = some (t, k) → t.length + 1 ≤ k
  | 0, _, _, _, h => by cases h
  | f + 1, [], _, _, h => by cases h
  | f + 1, c :: r, t, k, h => by
    simp only [readB] at h
    by_cases c0 : c = 34
    · rw [if_pos c0] at h; injection h with h; injection h with h1 h2; subst h1 h2; simp
    rw [if_neg c0] at h
    by_cases c1 : c.toNat < 32
    · rw [if_pos c1] at h; cases h
    rw [if_neg c1] at h
    by_cases c2 : c = 92
    · rw [if_pos c2] at h
      cases he : escV r with
      | none => rw [he] at h; cases h
      | some p =>
        obtain ⟨x, n⟩ := p
        rw [he] at h
        have h1 := escV_len he
        cases hb : readB f (r.drop n) with
        | none => simp only [hb] at h; cases h
        | some q =>
          obtain ⟨t', k'⟩ := q
          have h2 := readB_len f _ _ _ hb
          simp only [hb] at h
          injection h with h; injection h with e1 e2; subst e1 e2
          show (encodeRune (x : Int) ++ t').length + 1 ≤ k' + n + 1
          rw [List.length_append]; omega
    rw [if_neg c2] at h
    by_cases c3 : badD (c :: r)
    · rw [if_pos c3] at h; cases h
    rw [if_neg c3] at h
    cases hb : readB f ((c :: r).drop (decodeL (c :: r)).2) with
    | none => simp only [hb] at h; cases h
    | some q =>
      obtain ⟨t', k'⟩ := q
      have h2 := readB_len f _ _ _ hb
      simp only [hb] at h
      injection h with h; injection h with e1 e2; subst e1 e2
      show ((c :: r).take (decodeL (c :: r)).2 ++ t').length + 1 ≤ k' + (decodeL (c :: r)).2
      rw [List.length_append, List.length_take]; omega
theorem readQ_text (l : List UInt8) (h : (readQ l).2.2 = 0) : (readQ l).1.length + 2 ≤ (readQ l).2.1 := by
  cases l with
  | nil => simp [readQ] at h
  | cons c r =>
    simp only [readQ] at h ⊢
    by_cases hc : c = 34
    · rw [if_pos hc] at h ⊢
      cases hb : bodyV r with
      | none => rw [hb] at h; simp at h
      | some p =>
        obtain ⟨t, k⟩ := p
        have := readB_len _ _ _ _ hb
        simp only; omega
    · rw [if_neg hc] at h; simp at h
theorem nextT_weight (l : List UInt8) (a : Nat) (he : (nextT l a).e = 0) (hs : (nextT l a).sign ≠ 255) : (nextT l a).at_ + 1 + (nextT l a).s.size ≤ (nextT l a).to_ := by
  unfold nextT at *
  generalize a + runB blankC (l.drop a) = b at *
  generalize l.drop b = m at *
  cases m with
  | nil => simp [oneT] at hs
  | cons c r =>
    simp only [oneT] at *
    by_cases c0 : signC c = true
    · rw [if_pos c0] at he hs ⊢; show b + 1 + 0 ≤ b + 1; omega
    rw [if_neg c0] at he hs ⊢
    by_cases c1 : c.toNat = 34
    · rw [if_pos c1] at he hs ⊢
      have := readQ_text (c :: r) he
      show b + 1 + (readQ (c :: r)).1.length ≤ b + (readQ (c :: r)).2.1
      omega
    rw [if_neg c1] at he hs ⊢
    by_cases c2 : letterC c = true
    · rw [if_pos c2] at he hs ⊢
      have h1 := (wordV_ok (c :: r) he).1
      have h2 : runB letterC (c :: r) = runB letterC r + 1 := by simp only [runB]; rw [if_pos c2]
      show b + 1 + 0 ≤ b + (wordV (c :: r)).2.1
      rw [h1, h2]
      omega
    rw [if_neg c2] at he hs ⊢
    by_cases c3 : c.toNat = 45 ∨ (48 ≤ c.toNat ∧ c.toNat ≤ 57)
    · rw [if_pos c3] at he hs ⊢
      have h2 : runB numC (c :: r) = runB numC r + 1 := by
        simp only [runB]
        rw [if_pos (by unfold numC; simp; omega)]
      show b + 1 + 0 ≤ b + runB numC (c :: r)
      rw [h2]
      omega
    · rw [if_neg c3] at he
      simp at he
/-! what a map is made of -/
theorem sum_in (g : Nat → Nat) : ∀ (idx R : List Nat), idx.Nodup → (∀ i ∈ idx, i ∈ R) → (idx.map g).sum ≤ (R.map g).sum
  | [], _, _, _ => by simp
  | i :: t, R, h1, h2 => by
    obtain ⟨h3, h4⟩ := List.nodup_cons.1 h1
    have hi := h2 i List.mem_cons_self
    have hp := (List.perm_cons_erase hi).map g
    have h5 := sum_in g t (R.erase i) h4 (fun j hj => (List.mem_erase_of_ne (fun e => h3 (by rw [← e]; exact hj))).2 (h2 j (List.mem_cons_of_mem _ hj)))
    have h6 := hp.sum_nat
    rw [List.map_cons, List.sum_cons] at h6
    rw [List.map_cons, List.sum_cons]
    omega
theorem sizeL_sum : ∀ l : List JV, sizeL l = (l.map sizeJ).sum
  | [] => rfl
  | v :: r => by rw [List.map_cons, List.sum_cons, ← sizeL_sum r]; rfl
theorem keysN_sum : ∀ l : List ByteArray, keysN l = (l.map fun k => 1 + k.size).sum
  | [] => rfl
  | v :: r => by rw [List.map_cons, List.sum_cons, ← keysN_sum r]; rfl
theorem nubB_sum (g : List UInt8 → Nat) : ∀ l : List (List UInt8), ((nubB l).map g).sum ≤ (l.map g).sum
  | [] => Nat.le_refl _
  | x :: r => by
    have := nubB_sum g r
    unfold nubB
    rw [List.map_cons, List.sum_cons]
    split
    · omega
    · rw [List.map_cons, List.sum_cons]; omega
theorem keysJ_size (ks : List ByteArray) : keysN (keysJ ks) ≤ keysN ks := by
  rw [keysN_sum, keysN_sum]
  unfold keysJ
  rw [List.map_map]
  have h1 := ((List.mergeSort_perm (nubB (ks.map fun k => k.data.toList)) (fun x y => decide (x ≤ y))).map (fun l : List UInt8 => 1 + l.length)).sum_nat
  have h2 := nubB_sum (fun l => 1 + l.length) (ks.map fun k => k.data.toList)
  rw [List.map_map] at h2
  have e1 : ((fun k : ByteArray => 1 + k.size) ∘ toB) = fun l : List UInt8 => 1 + l.length := by
    funext l; show 1 + (toB l).size = _; rfl
  have e2 : ((fun l : List UInt8 => 1 + l.length) ∘ fun k : ByteArray => k.data.toList) = fun k => 1 + k.size := by
    funext k; show 1 + k.data.toList.length = _; rw [Array.length_toList]; rfl
  rw [e1]
  rw [e2] at h2
  unfold sortB
  omega
theorem keysJ_nodup (ks : List ByteArray) : (keysJ ks).Nodup := by
  unfold keysJ
  have h2 : (sortB (nubB (ks.map fun k => k.data.toList))).Nodup := (List.mergeSort_perm _ _).nodup_iff.2 (nodup_nubB _)
  refine List.Pairwise.map _ ?_ h2
  intro a b hab e
  exact hab (by have := congrArg (fun k : ByteArray => k.data.toList) e; simpa [toB_list] using this)
theorem made_size (ks : List ByteArray) (l : List JV) : sizeJ (makeJ ks l).1 ≤ 1 + keysN ks + sizeL l := by
  have hz : sizeJ zeroJ ≤ 1 + keysN ks + sizeL l := by
    show 1 + 0 + 0 + 0 ≤ _
    omega
  unfold makeJ
  by_cases h0 : ks.length ≠ l.length
  · rw [if_pos h0]; exact hz
  rw [if_neg h0]
  have h0 : ks.length = l.length := by simpa using h0
  by_cases h1 : ks.all (fun k => validD k.data.toList) = false
  · rw [if_pos h1]; exact hz
  rw [if_neg h1]
  by_cases h2 : badL l ≠ 0
  · rw [if_pos h2]; exact hz
  rw [if_neg h2]
  split
  · exact hz
  show 1 + 0 + keysN (keysJ ks) + sizeL _ ≤ _
  have hk := keysJ_size ks
  have hl : sizeL ((keysJ ks).map fun k => l.getD (lastIx ks ks.length k) zeroJ) ≤ sizeL l := by
    have hx : ∀ k ∈ keysJ ks, lastIx ks ks.length k < ks.length ∧ ks.getD (lastIx ks ks.length k) ⟨#[]⟩ = k := fun k hk => by
      obtain ⟨j, hj, e⟩ := List.mem_iff_getElem.1 ((mem_keysJ ks k).1 hk)
      exact lastIx_lt ks ks.length k ⟨j, hj, by rw [List.getD_eq_getElem?_getD, List.getElem?_eq_getElem hj, ← e]; rfl⟩
    have hr : sizeL l = ((List.range l.length).map fun i => sizeJ (l.getD i zeroJ)).sum := by
      rw [sizeL_sum]
      congr 1
      refine List.ext_getElem (by simp) fun i h1 h2 => ?_
      have h3 : i < l.length := by simpa using h1
      simp [List.getD_eq_getElem?_getD, List.getElem?_eq_getElem h3]
    rw [hr, sizeL_sum, List.map_map]
    have := sum_in (fun i => sizeJ (l.getD i zeroJ)) ((keysJ ks).map (lastIx ks ks.length)) (List.range l.length) ?_ ?_
    · rw [List.map_map] at this; exact this
    · rw [List.Nodup, List.pairwise_map]
      refine List.Pairwise.imp_of_mem ?_ (keysJ_nodup ks)
      intro a b ha hb hab e
      exact hab ((hx a ha).2.symm.trans ((congrArg (fun i => ks.getD i ⟨#[]⟩) e).trans (hx b hb).2))
    · intro i hi
      obtain ⟨k, hk, rfl⟩ := List.mem_map.1 hi
      exact List.mem_range.2 (by have := (hx k hk).1; omega)
  omega
def madeJ (o : OJ) : JV := if o.kind = 5 then .mk 5 0 0 ⟨#[]⟩ o.list [] else (makeJ o.keys o.list).1
def weighO (o : OJ) : Nat := 1 + keysN o.keys + sizeL o.list
def weighS : List OJ → Nat
  | [] => 0
  | o :: r => weighO o + weighS r
theorem madeJ_size (o : OJ) : sizeJ (madeJ o) ≤ weighO o := by
  unfold madeJ weighO
  split
  · show 1 + 0 + 0 + sizeL o.list ≤ _; omega
  · exact made_size _ _
theorem keysN_snoc : ∀ (l : List ByteArray) (k : ByteArray), keysN (l ++ [k]) = keysN l + (1 + k.size)
  | [], k => by show 1 + k.size + 0 = 0 + _; omega
  | a :: r, k => by
    show 1 + a.size + keysN (r ++ [k]) = 1 + a.size + keysN r + _
    rw [keysN_snoc r k]; omega
theorem sizeL_snoc : ∀ (l : List JV) (v : JV), sizeL (l ++ [v]) = sizeL l + sizeJ v
  | [], v => by show sizeJ v + 0 = 0 + _; omega
  | a :: r, v => by
    show sizeJ a + sizeL (r ++ [v]) = sizeJ a + sizeL r + _
    rw [sizeL_snoc r v]; omega
end Th
namespace Th
open Go Go.Lib
section
variable (M : OJ → JV) (l : List UInt8) (f : Nat) (st : List OJ) (v : JV) (t : Tk) (o : OJ) (r : List OJ) (u : Tk) (hn : nextT l t.to_ = u)
theorem val_err (h : t.e ≠ 0) : readP M l (f + 1) .val st v t = (zeroJ, t.at_, t.e) := by simp only [readP]; rw [if_pos h]
theorem val_sign (h : t.e = 0) (h2 : t.sign ≠ 0 ∧ t.sign ≠ 91 ∧ t.sign ≠ 123) : readP M l (f + 1) .val st v t = (zeroJ, t.at_, 60) := by simp only [readP]; rw [if_neg (by simpa using h), if_pos h2]
theorem val_deep (h : t.e = 0) (h2 : t.sign = 0 ∨ t.sign = 91 ∨ t.sign = 123) (h3 : st.length = 48) : readP M l (f + 1) .val st v t = (zeroJ, t.at_, 31) := by simp only [readP]; rw [if_neg (by simpa using h), if_neg (by omega), if_pos h3]
include hn in
theorem val_tok (h : t.e = 0) (h2 : t.sign = 0) (h3 : st.length ≠ 48) : readP M l (f + 1) .val st v t = readP M l f .off st t.v u := by
  subst hn; simp only [readP]; rw [if_neg (by simpa using h), if_neg (by omega), if_neg h3, if_pos h2]
include hn in
theorem val_open (h : t.e = 0) (h2 : t.sign = 91 ∨ t.sign = 123) (h3 : st.length ≠ 48) : readP M l (f + 1) .val st v t =
    if u.e = 0 ∧ isShut ⟨if t.sign = 123 then 6 else 5, [], []⟩ u = true then readP M l f .end_ (⟨if t.sign = 123 then 6 else 5, [], []⟩ :: st) v u
    else if t.sign = 123 then readP M l f .key (⟨6, [], []⟩ :: st) v u else readP M l f .val (⟨5, [], []⟩ :: st) v u := by
  subst hn; simp only [readP]; rw [if_neg (by simpa using h), if_neg (by omega), if_neg h3, if_neg (by omega)]
theorem key_errS (h : t.e ≠ 0) : readP M l (f + 1) .key st v t = (zeroJ, t.at_, t.e) := by simp only [readP]; rw [if_pos h]
theorem key_bad (h : t.e = 0) (h2 : t.sign ≠ 0 ∨ t.k ≠ 4) : readP M l (f + 1) .key st v t = (zeroJ, t.at_, 60) := by simp only [readP]; rw [if_neg (by simpa using h), if_pos h2]
include hn in
theorem key_err2 (h : t.e = 0) (h2 : t.sign = 0) (h3 : t.k = 4) (h4 : u.e ≠ 0) : readP M l (f + 1) .key (o :: r) v t = (zeroJ, u.at_, u.e) := by
  subst hn; simp only [readP]; rw [if_neg (by simpa using h), if_neg (by simp [h2, h3]), if_pos h4]
include hn in
theorem key_bad2 (h : t.e = 0) (h2 : t.sign = 0) (h3 : t.k = 4) (h4 : u.e = 0) (h5 : u.sign ≠ 58) : readP M l (f + 1) .key (o :: r) v t = (zeroJ, u.at_, 60) := by
  subst hn; simp only [readP]; rw [if_neg (by simpa using h), if_neg (by simp [h2, h3]), if_neg (by simpa using h4), if_pos h5]
include hn in
theorem key_go (h : t.e = 0) (h2 : t.sign = 0) (h3 : t.k = 4) (h4 : u.e = 0) (h5 : u.sign = 58) :
    readP M l (f + 1) .key (o :: r) v t = readP M l f .val (⟨o.kind, o.keys ++ [t.s], o.list⟩ :: r) v (nextT l u.to_) := by
  subst hn; simp only [readP]; rw [if_neg (by simpa using h), if_neg (by simp [h2, h3]), if_neg (by simpa using h4), if_neg (by simpa using h5)]
theorem off_err (h : t.e ≠ 0) : readP M l (f + 1) .off st v t = (zeroJ, t.at_, t.e) := by simp only [readP]; rw [if_pos h]
theorem off_end (h : t.e = 0) (h2 : t.sign = 255) : readP M l (f + 1) .off [] v t = (v, 0, 0) := by simp only [readP]; rw [if_neg (by simpa using h), if_pos h2]
theorem off_more (h : t.e = 0) (h2 : t.sign ≠ 255) : readP M l (f + 1) .off [] v t = (zeroJ, t.at_, 60) := by simp only [readP]; rw [if_neg (by simpa using h), if_neg h2]
include hn in
theorem off_list (h : t.e = 0) (h2 : t.sign = 44) (h3 : o.kind = 5) : readP M l (f + 1) .off (o :: r) v t = readP M l f .val (⟨o.kind, o.keys, o.list ++ [v]⟩ :: r) v u := by
  subst hn; simp only [readP]; rw [if_neg (by simpa using h), if_pos h2, if_pos h3]
include hn in
theorem off_pair (h : t.e = 0) (h2 : t.sign = 44) (h3 : o.kind ≠ 5) : readP M l (f + 1) .off (o :: r) v t = readP M l f .key (⟨o.kind, o.keys, o.list ++ [v]⟩ :: r) v u := by
  subst hn; simp only [readP]; rw [if_neg (by simpa using h), if_pos h2, if_neg h3]
theorem off_shut (h : t.e = 0) (h2 : t.sign ≠ 44) (h3 : isShut o t = true) : readP M l (f + 1) .off (o :: r) v t = readP M l f .end_ (⟨o.kind, o.keys, o.list ++ [v]⟩ :: r) v t := by
  simp only [readP]; rw [if_neg (by simpa using h), if_neg h2, if_pos h3]
theorem off_bad (h : t.e = 0) (h2 : t.sign ≠ 44) (h3 : isShut o t = false) : readP M l (f + 1) .off (o :: r) v t = (zeroJ, t.at_, 60) := by
  simp only [readP]; rw [if_neg (by simpa using h), if_neg h2, if_neg (by simp [h3])]
include hn in
theorem end_go : readP M l (f + 1) .end_ (o :: r) v t = readP M l f .off r (M o) u := by subst hn; simp only [readP]
end
end Th
