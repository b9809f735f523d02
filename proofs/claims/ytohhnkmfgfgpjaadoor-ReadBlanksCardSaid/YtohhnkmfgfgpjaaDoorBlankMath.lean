/- Plain law on the reading of JSON's values: blanks about a text change nothing but places. No conditions: it imports no program. -/
import Derived.Test.YtohhnkmfgfgpjaaDoorParseMath
namespace Th
open Go Go.Lib

def AllTen (A : List UInt8) : Prop := ∀ c ∈ A, c = 10
theorem AllTen.get {A : List UInt8} (h : AllTen A) (k : Nat) : (A.getD k 0).toNat ≤ 10 := by
  rcases Nat.lt_or_ge k A.length with h1 | h1
  · rw [List.getD_eq_getElem?_getD, List.getElem?_eq_getElem h1]
    rw [show (some A[k]).getD 0 = A[k] from rfl, h A[k] (List.getElem_mem h1)]
    decide
  · rw [List.getD_eq_getElem?_getD, List.getElem?_eq_none h1]; decide
theorem ten_getD {a A : List UInt8} (h : AllTen A) (k : Nat) : (k < a.length ∧ (a ++ A).getD k 0 = a.getD k 0) ∨ (a.length ≤ k ∧ ((a ++ A).getD k 0).toNat ≤ 10) := by
  rcases Nat.lt_or_ge k a.length with h1 | h1
  · exact Or.inl ⟨h1, getD_appendU a A k h1⟩
  · refine Or.inr ⟨h1, ?_⟩
    have : (a ++ A).getD k 0 = A.getD (k - a.length) 0 := by
      rw [List.getD_eq_getElem?_getD, List.getD_eq_getElem?_getD, List.getElem?_append_right h1]
    rw [this]; exact h.get _
theorem runB_ten {p : UInt8 → Bool} (hp : p 10 = false) : ∀ (a A : List UInt8), AllTen A → runB p (a ++ A) = runB p a
  | [], [], _ => rfl
  | [], c :: A, h => by
    have : c = 10 := h c (by simp)
    subst this
    simp only [List.nil_append, runB, hp, Bool.false_eq_true, if_false]
  | c :: a, A, h => by
    simp only [List.cons_append, runB]
    rw [runB_ten hp a A h]
theorem hexGo_ten : ∀ (n : Nat) (a A : List UInt8) (r : Nat), AllTen A → hexGo n a r = none → hexGo n (a ++ A) r = none
  | 0, _, _, _, _, h => by cases h
  | n + 1, [], [], _, _, _ => rfl
  | n + 1, [], c :: A, r, hA, _ => by
    have : c = 10 := hA c (by simp)
    subst this
    rfl
  | n + 1, c :: a, A, r, hA, h => by
    simp only [List.cons_append, hexGo] at h ⊢
    cases hc : hexV c with
    | none => rfl
    | some x => rw [hc] at h; exact hexGo_ten n a A _ hA h
theorem uniV_ten (a A : List UInt8) (hA : AllTen A) (h : uniV a = none) : uniV (a ++ A) = none := by
  unfold uniV at h ⊢
  cases ha : fourV a with
  | none => rw [show fourV (a ++ A) = none from hexGo_ten 4 a A 0 hA ha]
  | some y =>
    have h4 := fourV_len ha
    rw [show fourV (a ++ A) = some y from hexGo_append 4 a A 0 y ha]
    simp only [ha] at h
    simp only
    by_cases c1 : 56320 ≤ y ∧ y < 57344
    · rw [if_pos c1]
    · rw [if_neg c1] at h ⊢
      by_cases c2 : y < 55296 ∨ 57344 ≤ y
      · rw [if_pos c2] at h; cases h
      · rw [if_neg c2] at h ⊢
        by_cases c3 : (a ++ A).getD 4 0 = 92 ∧ (a ++ A).getD 5 0 = 117
        · rw [if_pos c3]
          rcases ten_getD (a := a) hA 5 with ⟨h5, e5⟩ | ⟨_, h5⟩
          · have e4 := getD_appendU a A 4 (by omega)
            rw [if_pos ⟨e4.symm.trans c3.1, e5.symm.trans c3.2⟩] at h
            rw [List.drop_append_of_le_length (by omega)]
            cases hd : fourV (a.drop 6) with
            | none => rw [show fourV (a.drop 6 ++ A) = none from hexGo_ten 4 _ A 0 hA hd]
            | some z =>
              rw [hd] at h
              rw [show fourV (a.drop 6 ++ A) = some z from hexGo_append 4 _ A 0 z hd]
              exact h
          · rw [c3.2] at h5; exact absurd h5 (by decide)
        · rw [if_neg c3]
theorem escV_ten (a A : List UInt8) (hA : AllTen A) (h : escV a = none) : escV (a ++ A) = none := by
  cases a with
  | nil =>
    cases A with
    | nil => rfl
    | cons c A =>
      have : c = 10 := hA c (by simp)
      subst this
      rfl
  | cons c r =>
    simp only [List.cons_append, escV] at h ⊢
    by_cases c0 : c = 34 ∨ c = 92 ∨ c = 47
    · rw [if_pos c0] at h; cases h
    rw [if_neg c0] at h ⊢
    by_cases c1 : c = 98
    · rw [if_pos c1] at h; cases h
    rw [if_neg c1] at h ⊢
    by_cases c2 : c = 102
    · rw [if_pos c2] at h; cases h
    rw [if_neg c2] at h ⊢
    by_cases c3 : c = 110
    · rw [if_pos c3] at h; cases h
    rw [if_neg c3] at h ⊢
    by_cases c4 : c = 114
    · rw [if_pos c4] at h; cases h
    rw [if_neg c4] at h ⊢
    by_cases c5 : c = 116
    · rw [if_pos c5] at h; cases h
    rw [if_neg c5] at h ⊢
    by_cases c6 : c = 117
    · rw [if_pos c6] at h ⊢
      cases hu : uniV r with
      | none => rw [uniV_ten r A hA hu]
      | some p => obtain ⟨x, n⟩ := p; rw [hu] at h; cases h
    · rw [if_neg c6]
theorem bad_ten (a A : List UInt8) (hA : AllTen A) (hne : a ≠ []) (h : badD a) : badD (a ++ A) := by
  have hl : 0 < a.length := List.length_pos_iff.2 hne
  have g0 := getD_appendU a A 0 hl
  have t1 := ten_getD (a := a) hA 1
  have t2 := ten_getD (a := a) hA 2
  have t3 := ten_getD (a := a) hA 3
  unfold badD at h ⊢
  rw [decodeL_N] at h ⊢
  rw [g0]
  have hlen : (a ++ A).length = a.length + A.length := List.length_append
  rcases decodeN_shape (a ++ A).length (a.getD 0 0).toNat ((a ++ A).getD 1 0).toNat ((a ++ A).getD 2 0).toNat ((a ++ A).getD 3 0).toNat with ⟨c, e⟩ | ⟨d1, d2, d3, cv, e⟩ | ⟨d1, d2, d3, d4, cv, cs, e⟩ | ⟨d1, d2, d3, d4, d5, cv, cw, e⟩ | e
  · exfalso
    have : decodeN a.length (a.getD 0 0).toNat (a.getD 1 0).toNat (a.getD 2 0).toNat (a.getD 3 0).toNat = ((a.getD 0 0).toNat, 1) := by unfold decodeN; rw [if_pos c]
    rw [this] at h
    have := h.1
    dsimp only at this
    omega
  · exfalso
    rcases t1 with ⟨l1, t1⟩ | ⟨_, t1⟩
    · rw [t1] at d3 cv
      have : (decodeN a.length (a.getD 0 0).toNat (a.getD 1 0).toNat (a.getD 2 0).toNat (a.getD 3 0).toNat).2 = 2 := by
        unfold decodeN
        rw [if_neg (by omega), if_pos ⟨d1, l1, d3⟩, if_pos (by omega)]
      rw [this] at h
      exact absurd h.2 (by decide)
    · omega
  · exfalso
    rcases t1 with ⟨l1, t1⟩ | ⟨_, t1⟩
    · rcases t2 with ⟨l2, t2⟩ | ⟨_, t2⟩
      · rw [t1] at d3 cv cs
        rw [t2] at d4 cv cs
        have : (decodeN a.length (a.getD 0 0).toNat (a.getD 1 0).toNat (a.getD 2 0).toNat (a.getD 3 0).toNat).2 = 3 := by
          unfold decodeN
          rw [if_neg (by omega), if_neg (by omega), if_pos ⟨d1, ⟨by omega, d3⟩, l2, d4⟩, if_pos (by omega)]
        rw [this] at h
        exact absurd h.2 (by decide)
      · omega
    · omega
  · exfalso
    rcases t1 with ⟨l1, t1⟩ | ⟨_, t1⟩
    · rcases t2 with ⟨l2, t2⟩ | ⟨_, t2⟩
      · rcases t3 with ⟨l3, t3⟩ | ⟨_, t3⟩
        · rw [t1] at d3 cv cw
          rw [t2] at d4 cv cw
          rw [t3] at d5 cv cw
          have : (decodeN a.length (a.getD 0 0).toNat (a.getD 1 0).toNat (a.getD 2 0).toNat (a.getD 3 0).toNat).2 = 4 := by
            unfold decodeN
            rw [if_neg (by omega), if_neg (by omega), if_neg (by omega), if_pos ⟨d1, ⟨by omega, d3⟩, ⟨by omega, d4⟩, l3, d5⟩, if_pos (by omega)]
          rw [this] at h
          exact absurd h.2 (by decide)
        · omega
      · omega
    · omega
  · rw [e]; exact ⟨rfl, rfl⟩
theorem bodyV_ten (A : List UInt8) (hA : AllTen A) : ∀ (f : Nat) (a : List UInt8), a.length ≤ f → bodyV (a ++ A) = bodyV a := by
  intro f
  induction f with
  | zero =>
    intro a hl
    obtain rfl : a = [] := List.eq_nil_of_length_eq_zero (by omega)
    cases A with
    | nil => rfl
    | cons c A =>
      have : c = 10 := hA c (by simp)
      subst this
      rw [List.nil_append, bodyV_cons, if_neg (by decide), if_pos (by decide)]
      rfl
  | succ f ih =>
    intro a hl
    cases a with
    | nil => exact ih [] (Nat.zero_le _)
    | cons c r =>
      rw [List.length_cons] at hl
      have hw := decodeL_width (c :: r)
      have hle := decodeL_le (c :: r) (by simp)
      rw [List.cons_append, bodyV_cons, bodyV_cons]
      by_cases c1 : c = 34
      · rw [if_pos c1, if_pos c1]
      rw [if_neg c1, if_neg c1]
      by_cases c2 : c.toNat < 32
      · rw [if_pos c2, if_pos c2]
      rw [if_neg c2, if_neg c2]
      by_cases c3 : c = 92
      · rw [if_pos c3, if_pos c3]
        cases he : escV r with
        | none => rw [escV_ten r A hA he]
        | some p =>
          obtain ⟨x, n⟩ := p
          have hok := escV_ok he
          rw [escV_append A he]
          simp only
          rw [List.drop_append_of_le_length hok.2.2.1, ih (r.drop n) (by rw [List.length_drop]; omega)]
      · rw [if_neg c3, if_neg c3]
        by_cases c4 : badD (c :: r)
        · rw [if_pos c4, ← List.cons_append, if_pos (bad_ten (c :: r) A hA (by simp) c4)]
        · have hd := decode_append (c :: r) A (by simp) c4
          rw [if_neg c4, ← List.cons_append, if_neg (badD_append A (by simp) c4), hd, List.drop_append_of_le_length hle, List.take_append_of_le_length hle,
            ih ((c :: r).drop (decodeL (c :: r)).2) (by rw [List.length_drop, List.length_cons]; omega)]
theorem readQ_ten (a A : List UInt8) (hA : AllTen A) (hne : a ≠ []) : readQ (a ++ A) = readQ a := by
  cases a with
  | nil => exact absurd rfl hne
  | cons c r =>
    simp only [List.cons_append, readQ]
    rw [bodyV_ten A hA _ r (Nat.le_refl _)]
def shT (d : Nat) (t : Tk) : Tk := ⟨t.sign, t.k, t.m, t.x, t.s, t.at_ + d, t.to_ + d, t.e⟩
theorem oneT_ten (l A : List UInt8) (hA : AllTen A) (hne : l ≠ []) (a d : Nat) : oneT (l ++ A) (a + d) = shT d (oneT l a) := by
  cases l with
  | nil => exact absurd rfl hne
  | cons c r =>
    have hq := readQ_ten (c :: r) A hA (by simp)
    have hlt := runB_ten (p := letterC) (by decide) (c :: r) A hA
    have hnt := runB_ten (p := numC) (by decide) (c :: r) A hA
    have hl1 := runB_le letterC (c :: r)
    have hl2 := runB_le numC (c :: r)
    have hw : wordV ((c :: r) ++ A) = wordV (c :: r) := by
      unfold wordV
      rw [hlt, take_append_le _ A _ hl1]
    rw [List.cons_append] at hq hw hnt
    simp only [List.cons_append, oneT]
    by_cases c1 : signC c = true
    · rw [if_pos c1, if_pos c1]; simp only [shT, Tk.mk.injEq, true_and, and_true]; omega
    rw [if_neg c1, if_neg c1]
    by_cases c2 : c.toNat = 34
    · rw [if_pos c2, if_pos c2, hq]; simp only [shT, Tk.mk.injEq, true_and, and_true]; omega
    rw [if_neg c2, if_neg c2]
    by_cases c3 : letterC c = true
    · rw [if_pos c3, if_pos c3, hw]; simp only [shT, Tk.mk.injEq, true_and, and_true]; omega
    rw [if_neg c3, if_neg c3]
    by_cases c4 : c.toNat = 45 ∨ (48 ≤ c.toNat ∧ c.toNat ≤ 57)
    · rw [if_pos c4, if_pos c4, hnt, ← List.cons_append, take_append_le _ A _ hl2]; simp only [shT, Tk.mk.injEq, true_and, and_true]; omega
    · rw [if_neg c4, if_neg c4]; rfl
theorem runB_all {p : UInt8 → Bool} : ∀ (l : List UInt8), (∀ c ∈ l, p c = true) → runB p l = l.length
  | [], _ => rfl
  | c :: r, h => by
    simp only [runB, List.length_cons]
    rw [if_pos (h c (by simp)), runB_all r (fun d hd => h d (by simp [hd]))]
theorem runB_past {p : UInt8 → Bool} : ∀ (a b : List UInt8), runB p a = a.length → runB p (a ++ b) = a.length + runB p b
  | [], b, _ => by simp
  | c :: r, b, h => by
    have hc : p c = true := by
      by_cases hc : p c = true
      · exact hc
      · simp only [runB] at h; rw [if_neg hc] at h; simp at h
    have e : runB p (c :: r) = runB p r + 1 := by simp only [runB]; rw [if_pos hc]
    rw [e, List.length_cons] at h
    simp only [List.cons_append, runB, List.length_cons]
    rw [if_pos hc, runB_past r b (by omega)]
    omega
/-- the end of a text, as a token -/
def endT (n : Nat) : Tk := ⟨255, 0, 0, 0, ⟨#[]⟩, n, n, 0⟩
/-- the tokens of a text, and of the same with blanks about it -/
theorem nextT_ten (B s A : List UInt8) (hA : AllTen A) (x : Nat) (hx : x ≤ s.length) :
    (nextT s x = endT s.length ∧ nextT (B ++ s ++ A) (x + B.length) = endT (B.length + s.length + A.length)) ∨ ((nextT s x).sign ≠ 255 ∧ nextT (B ++ s ++ A) (x + B.length) = shT B.length (nextT s x)) := by
  have hd : (B ++ s ++ A).drop (x + B.length) = s.drop x ++ A := by
    rw [List.append_assoc, Nat.add_comm, ← List.drop_drop, List.drop_left, List.drop_append_of_le_length hx]
  have hle := runB_le blankC (s.drop x)
  rw [List.length_drop] at hle
  have hAl : ∀ c ∈ A, blankC c = true := fun c hc => by rw [hA c hc]; decide
  rcases Nat.lt_or_ge (x + runB blankC (s.drop x)) s.length with h | h
  · right
    have hne : s.drop (x + runB blankC (s.drop x)) ≠ [] := fun e => by
      have := congrArg List.length e
      rw [List.length_drop] at this
      have h0 : ([] : List UInt8).length = 0 := rfl
      omega
    refine ⟨fun e => hne (end_token s x e), ?_⟩
    unfold nextT
    rw [hd, runB_append blankC _ A (by rw [List.length_drop]; omega)]
    have hd2 : (B ++ s ++ A).drop (x + B.length + runB blankC (s.drop x)) = s.drop (x + runB blankC (s.drop x)) ++ A := by
      rw [← List.drop_drop, hd, List.drop_append_of_le_length (by rw [List.length_drop]; omega), List.drop_drop]
    rw [hd2, show x + B.length + runB blankC (s.drop x) = x + runB blankC (s.drop x) + B.length by omega]
    exact oneT_ten _ A hA hne _ _
  · left
    have hr : runB blankC (s.drop x) = (s.drop x).length := by rw [List.length_drop]; omega
    have hr2 : runB blankC (s.drop x ++ A) = s.length - x + A.length := by
      rw [runB_past _ A hr, runB_all A hAl, List.length_drop]
    have e1 : x + runB blankC (s.drop x) = s.length := by rw [hr, List.length_drop]; omega
    unfold nextT
    rw [hd, hr2, e1, List.drop_length]
    have e2 : x + B.length + (s.length - x + A.length) = B.length + s.length + A.length := by omega
    rw [e2, List.drop_eq_nil_of_le (by simp only [List.length_append]; omega)]
    exact ⟨rfl, rfl⟩
section
variable (M : OJ → JV)
/-- how the results stand to each other -/
def ResB (B s A : List UInt8) (r r2 : JV × Nat × Int) : Prop :=
  (r.2.2 = 0 ∧ r2.2.2 = 0 ∧ r2.1 = r.1) ∨ (r.2.2 ≠ 0 ∧ r2.2.2 = r.2.2 ∧ (r2.2.1 = B.length + r.2.1 ∨ (r.2.1 = s.length ∧ r2.2.1 = B.length + s.length + A.length)))
/-- how two tokens stand to each other -/
def TokB (B s A : List UInt8) (t t2 : Tk) : Prop := (t = endT s.length ∧ t2 = endT (B.length + s.length + A.length)) ∨ (t.sign ≠ 255 ∧ t2 = shT B.length t)
theorem TokB.err {B s A : List UInt8} {t t2 : Tk} (h : TokB B s A t t2) (e : Int) (he : e ≠ 0) : ResB B s A (zeroJ, t.at_, e) (zeroJ, t2.at_, e) := by
  refine Or.inr ⟨he, rfl, ?_⟩
  rcases h with ⟨rfl, rfl⟩ | ⟨_, rfl⟩
  · exact Or.inr ⟨rfl, rfl⟩
  · left; show t.at_ + B.length = B.length + t.at_; omega
theorem TokB.same {B s A : List UInt8} {t t2 : Tk} (h : TokB B s A t t2) : t2.sign = t.sign ∧ t2.k = t.k ∧ t2.m = t.m ∧ t2.x = t.x ∧ t2.s = t.s ∧ t2.e = t.e := by
  rcases h with ⟨rfl, rfl⟩ | ⟨_, rfl⟩ <;> exact ⟨rfl, rfl, rfl, rfl, rfl, rfl⟩
theorem TokB.next {B s A : List UInt8} (hA : AllTen A) {t t2 : Tk} (h : TokB B s A t t2) (hs : t.sign ≠ 255) (ht : t.to_ ≤ s.length) : TokB B s A (nextT s t.to_) (nextT (B ++ s ++ A) t2.to_) := by
  rcases h with ⟨rfl, _⟩ | ⟨_, rfl⟩
  · exact absurd rfl hs
  · exact nextT_ten B s A hA t.to_ ht
theorem blank_sim (B s A : List UInt8) (hA : AllTen A) : ∀ (f : Nat) (ph : Ph) (st : List OJ) (v : JV) (t t2 : Tk), t.to_ ≤ s.length → TokB B s A t t2 → (ph = .end_ → t.sign ≠ 255) → ResB B s A (readP M s f ph st v t) (readP M (B ++ s ++ A) f ph st v t2) := by
  intro f
  induction f with
  | zero => intro ph st v t t2 _ h _; exact h.err 60 (by decide)
  | succ f ih =>
    intro ph st v t t2 ht h hend
    obtain ⟨q1, q2, q3, q4, q5, q6⟩ := h.same
    have hn := nextT_to s t.to_ ht
    have hv : t2.v = t.v := by unfold Tk.v; rw [q2, q3, q4, q5]
    cases ph with
    | val =>
      simp only [readP, q1, q6, hv]
      by_cases h1 : t.e ≠ 0
      · rw [if_pos h1, if_pos h1]; exact h.err _ h1
      rw [if_neg h1, if_neg h1]
      by_cases h2 : t.sign ≠ 0 ∧ t.sign ≠ 91 ∧ t.sign ≠ 123
      · rw [if_pos h2, if_pos h2]; exact h.err _ (by decide)
      rw [if_neg h2, if_neg h2]
      by_cases h3 : st.length = 48
      · rw [if_pos h3, if_pos h3]; exact h.err _ (by decide)
      rw [if_neg h3, if_neg h3]
      have hs : t.sign ≠ 255 := by omega
      have hN := h.next hA hs ht
      obtain ⟨n1, _, _, _, _, n6⟩ := hN.same
      by_cases h4 : t.sign = 0
      · rw [if_pos h4, if_pos h4]
        exact ih .off st t.v _ _ hn.1 hN (by simp)
      rw [if_neg h4, if_neg h4]
      have hsh : isShut ⟨if t.sign = 123 then 6 else 5, [], []⟩ (nextT (B ++ s ++ A) t2.to_) = isShut ⟨if t.sign = 123 then 6 else 5, [], []⟩ (nextT s t.to_) := by unfold isShut; rw [n1]
      rw [hsh, n6]
      by_cases h5 : (nextT s t.to_).e = 0 ∧ isShut ⟨if t.sign = 123 then 6 else 5, [], []⟩ (nextT s t.to_) = true
      · rw [if_pos h5, if_pos h5]
        refine ih _ _ v _ _ hn.1 hN (fun _ => ?_)
        have h6 := h5.2
        unfold isShut at h6
        simp only [Bool.or_eq_true, Bool.and_eq_true, decide_eq_true_eq] at h6
        omega
      rw [if_neg h5, if_neg h5]
      by_cases h6 : t.sign = 123
      · rw [if_pos h6, if_pos h6]; exact ih _ _ v _ _ hn.1 hN (by simp)
      · rw [if_neg h6, if_neg h6]; exact ih _ _ v _ _ hn.1 hN (by simp)
    | key =>
      simp only [readP, q1, q2, q5, q6]
      by_cases h1 : t.e ≠ 0
      · rw [if_pos h1, if_pos h1]; exact h.err _ h1
      rw [if_neg h1, if_neg h1]
      by_cases h2 : t.sign ≠ 0 ∨ t.k ≠ 4
      · rw [if_pos h2, if_pos h2]; exact h.err _ (by decide)
      rw [if_neg h2, if_neg h2]
      have hs : t.sign ≠ 255 := by omega
      have hN := h.next hA hs ht
      obtain ⟨n1, _, _, _, _, n6⟩ := hN.same
      cases st with
      | nil => exact h.err _ (by decide)
      | cons o r =>
        simp only [n1, n6]
        by_cases h3 : (nextT s t.to_).e ≠ 0
        · rw [if_pos h3, if_pos h3]; exact hN.err _ h3
        rw [if_neg h3, if_neg h3]
        by_cases h4 : (nextT s t.to_).sign ≠ 58
        · rw [if_pos h4, if_pos h4]; exact hN.err _ (by decide)
        rw [if_neg h4, if_neg h4]
        have hs2 : (nextT s t.to_).sign ≠ 255 := by omega
        have hN2 := hN.next hA hs2 hn.1
        exact ih _ _ v _ _ (nextT_to s _ hn.1).1 hN2 (by simp)
    | off =>
      simp only [readP, q1, q6]
      by_cases h1 : t.e ≠ 0
      · rw [if_pos h1, if_pos h1]; exact h.err _ h1
      rw [if_neg h1, if_neg h1]
      cases st with
      | nil =>
        simp only
        by_cases h2 : t.sign = 255
        · rw [if_pos h2, if_pos h2]; exact Or.inl ⟨rfl, rfl, rfl⟩
        · rw [if_neg h2, if_neg h2]; exact h.err _ (by decide)
      | cons o r =>
        simp only
        have hsh : isShut o t2 = isShut o t := by unfold isShut; rw [q1]
        by_cases h2 : t.sign = 44
        · rw [if_pos h2, if_pos h2]
          have hN := h.next hA (by omega) ht
          by_cases h3 : o.kind = 5
          · rw [if_pos h3, if_pos h3]; exact ih _ _ v _ _ hn.1 hN (by simp)
          · rw [if_neg h3, if_neg h3]; exact ih _ _ v _ _ hn.1 hN (by simp)
        · rw [if_neg h2, if_neg h2, hsh]
          by_cases h3 : isShut o t = true
          · rw [if_pos h3, if_pos h3]
            refine ih _ _ v _ _ ht h (fun _ => ?_)
            have h6 := h3
            unfold isShut at h6
            simp only [Bool.or_eq_true, Bool.and_eq_true, decide_eq_true_eq] at h6
            omega
          · rw [if_neg h3, if_neg h3]; exact h.err _ (by decide)
    | end_ =>
      have hN := h.next hA (hend rfl) ht
      cases st with
      | nil => simp only [readP]; exact h.err _ (by decide)
      | cons o r => simp only [readP]; exact ih .off r _ _ _ hn.1 hN (by simp)
theorem first_blanks (B l : List UInt8) (hB : ∀ c ∈ B, blankC c = true) : nextT (B ++ l) 0 = nextT (B ++ l) B.length := by
  have h1 : runB blankC (B ++ l) = B.length + runB blankC l := runB_past B l (runB_all B hB)
  unfold nextT
  rw [List.drop_zero, List.drop_left, h1, Nat.zero_add]
/-- blanks ahead of a text and behind it change nothing but places -/
theorem blank_law (B s A : List UInt8) (hB : ∀ c ∈ B, blankC c = true) (hA : AllTen A) (h1 : s.length ≤ 16384) (h2 : B.length + s.length + A.length ≤ 16384) : ResB B s A (readV M s) (readV M (B ++ s ++ A)) := by
  have q1 : readV M s = _ := readV_short M s h1
  have q2 : readV M (B ++ s ++ A) = _ := readV_short M (B ++ s ++ A) (by simp only [List.length_append]; omega)
  rw [q1, q2]
  clear q1 q2
  generalize fuelP = F
  have hf : nextT (B ++ s ++ A) 0 = nextT (B ++ s ++ A) B.length := by rw [List.append_assoc]; exact first_blanks B (s ++ A) hB
  have ht := nextT_ten B s A hA 0 (Nat.zero_le _)
  rw [Nat.zero_add, ← hf] at ht
  exact blank_sim M B s A hA F .val [] zeroJ _ _ (nextT_to s 0 (Nat.zero_le _)).1 ht (by simp)
end
theorem readV_none (l : List UInt8) (h : (readV madeJ l).2.2 = 0) : (readV madeJ l).2.1 = 0 := by
  have key : ∀ (f : Nat) (ph : Ph) (st : List OJ) (v : JV) (t : Tk), (readP madeJ l f ph st v t).2.2 = 0 → (readP madeJ l f ph st v t).2.1 = 0 := by
    intro f
    induction f with
    | zero => intro ph st v t h; cases h
    | succ f ih =>
      intro ph st v t
      cases ph with
      | val =>
        simp only [readP]
        repeat' split
        all_goals first
          | (rename_i h0; intro h; exact absurd h h0)
          | (intro h; cases h; done)
          | exact ih _ _ _ _
      | key =>
        simp only [readP]
        repeat' split
        all_goals first
          | (rename_i h0; intro h; exact absurd h h0)
          | (intro h; cases h; done)
          | exact ih _ _ _ _
      | off =>
        simp only [readP]
        repeat' split
        all_goals first
          | (rename_i h0; intro h; exact absurd h h0)
          | (intro h; cases h; done)
          | (intro _; rfl)
          | exact ih _ _ _ _
      | end_ =>
        simp only [readP]
        split
        · intro h; cases h
        · exact ih _ _ _ _
  unfold readV at *
  split
  · rfl
  · rename_i hl
    rw [if_neg hl] at h
    exact key _ _ _ _ _ h
end Th
