/- Plain law on JSON's texts: what is printed of a value that may be is read as that value; what is read may be. No conditions: it imports no program.
Plain law on JSON's texts: the machine that reads goes through what is printed of a value to that value. No conditions: it imports no program. -/
import Derived.Test.YtohhnkmfgfgpjaaGreatDoorParseMath
namespace Th
open Go Go.Lib

/-! texts in quotes -/
theorem hexV_hexS (n : Nat) (h : n < 16) : hexV (hexS n) = some n := by
  revert h; revert n; decide
theorem fourV_low (c : Nat) (h : c < 32) (r : List UInt8) : fourV (48 :: 48 :: hexS (c / 16) :: hexS (c % 16) :: r) = some c := by
  unfold fourV
  simp only [hexGo, show hexV 48 = some 0 from rfl, hexV_hexS (c / 16) (by omega), hexV_hexS (c % 16) (by omega)]
  congr 1; omega
theorem encode_ne (c : Nat) : encodeRune (c : Int) ≠ [] := by
  unfold encodeRune encodeRuneZ
  repeat' split
  all_goals simp
theorem encode_good (c : Nat) : ¬ badD (encodeRune (c : Int)) := by
  intro h
  have hv := valid_rune (c : Int)
  rw [validD_step _ (encode_ne c), if_pos h] at hv
  cases hv
/-- what is put in quotes is read again -/
theorem bodyV_body : ∀ (n : Nat) (l : List UInt8), l.length ≤ n → validD l = true → ∀ r, bodyV (bodyD l ++ 34 :: r) = some (l, (bodyD l).length + 1) := by
  intro n
  induction n with
  | zero => intro l h _ r; obtain rfl : l = [] := List.eq_nil_of_length_eq_zero (by omega); rw [bodyD_nil, List.nil_append, bodyV_cons, if_pos rfl]; rfl
  | succ n ih =>
    intro l h hv r
    by_cases hne : l = []
    · subst hne; rw [bodyD_nil, List.nil_append, bodyV_cons, if_pos rfl]; rfl
    · rw [validD_step l hne] at hv
      by_cases hb : badD l
      · rw [if_pos hb] at hv; cases hv
      · rw [if_neg hb] at hv
        have hw := decodeL_width l
        have hle := decodeL_le l hne
        have hl : 0 < l.length := List.length_pos_iff.2 hne
        have hi := ih (l.drop (decodeL l).2) (by rw [List.length_drop]; omega) hv r
        have he : encodeRune ((decodeL l).1 : Int) = l.take (decodeL l).2 := encode_decode l hne hb
        have hd : decodeL (l.take (decodeL l).2) = decodeL l := by
          have h1 : decodeL (l.take (decodeL l).2 ++ l.drop (decodeL l).2) = decodeL (l.take (decodeL l).2) := decode_append _ _ (by rw [← he]; exact encode_ne _) (by rw [← he]; exact encode_good _)
          rw [List.take_append_drop] at h1
          exact h1.symm
        have hsplit : l = encodeRune ((decodeL l).1 : Int) ++ l.drop (decodeL l).2 := by rw [he, List.take_append_drop]
        rw [bodyD_step l hne, List.append_assoc]
        generalize hX : bodyD (l.drop (decodeL l).2) = X at *
        generalize hc : (decodeL l).1 = c at *
        have hz : ∀ (c : UInt8) (t : List UInt8) (k : Nat), escV (c :: t) = some (k, 1) → bodyV (92 :: c :: t) = (bodyV t).map fun p => (encodeRune (k : Int) ++ p.1, p.2 + 1 + 1) := by
          intro c t k hk
          rw [bodyV_cons, if_neg (by decide), if_neg (by decide), if_pos rfl, hk]
          rfl
        have two : ∀ (d : UInt8), escS c = [92, d] → escV (d :: (X ++ 34 :: r)) = some (c, 1) → bodyV (escS c ++ (X ++ 34 :: r)) = some (l, (escS c ++ X).length + 1) := by
          intro d h1 h2
          rw [h1]
          show bodyV (92 :: d :: (X ++ 34 :: r)) = _
          rw [hz d _ c h2, hi]
          simp only [Option.map_some, ← hsplit]
          congr 2
        by_cases c1 : c = 34 ∨ c = 92
        · refine two (UInt8.ofNat c) (by unfold escS; rw [if_pos c1]) ?_
          rcases c1 with rfl | rfl <;> rfl
        by_cases c2 : c = 8
        · refine two 98 (by subst c2; rfl) ?_; subst c2; rfl
        by_cases c3 : c = 9
        · refine two 116 (by subst c3; rfl) ?_; subst c3; rfl
        by_cases c4 : c = 10
        · refine two 110 (by subst c4; rfl) ?_; subst c4; rfl
        by_cases c5 : c = 12
        · refine two 102 (by subst c5; rfl) ?_; subst c5; rfl
        by_cases c6 : c = 13
        · refine two 114 (by subst c6; rfl) ?_; subst c6; rfl
        by_cases c7 : c < 32
        · have h1 : escS c = [92, 117, 48, 48, hexS (c / 16), hexS (c % 16)] := by
            unfold escS; rw [if_neg c1, if_neg c2, if_neg c3, if_neg c4, if_neg c5, if_neg c6, if_pos c7]
          have h4 := fourV_low c c7 (X ++ 34 :: r)
          have hu : uniV (48 :: 48 :: hexS (c / 16) :: hexS (c % 16) :: (X ++ 34 :: r)) = some (c, 4) := by
            unfold uniV; rw [h4]; simp only; rw [if_neg (by omega), if_pos (by omega)]
          rw [h1]
          show bodyV (92 :: 117 :: 48 :: 48 :: hexS (c / 16) :: hexS (c % 16) :: (X ++ 34 :: r)) = _
          rw [bodyV_cons, if_neg (by decide), if_neg (by decide), if_pos rfl]
          rw [show escV (117 :: 48 :: 48 :: hexS (c / 16) :: hexS (c % 16) :: (X ++ 34 :: r)) = some (c, 5) by
            simp only [escV]; rw [if_neg (by decide), if_neg (by decide), if_neg (by decide), if_neg (by decide), if_neg (by decide), if_neg (by decide), if_pos True.intro, hu]]
          simp only [List.drop_succ_cons, List.drop_zero]
          rw [hi]
          simp only [Option.map_some, ← hsplit]
          congr 2
        · have h1 : escS c = encodeRune (c : Int) := by
            unfold escS; rw [if_neg c1, if_neg c2, if_neg c3, if_neg c4, if_neg c5, if_neg c6, if_neg c7]
          rw [h1]
          have hin := rune_in c (by omega) (by omega) (by omega)
          have hg := encode_good c
          have hen := encode_ne c
          have hlen : (encodeRune (c : Int)).length = (decodeL l).2 := by rw [he, List.length_take]; omega
          have hdd : decodeL (encodeRune (c : Int) ++ (X ++ 34 :: r)) = decodeL l := by rw [decode_append _ _ hen hg, he, hd]
          have hbb := badD_append (X ++ 34 :: r) hen hg
          generalize hE : encodeRune (c : Int) = E at *
          cases E with
          | nil => exact absurd rfl hen
          | cons x t =>
            have hx := hin x (by simp)
            rw [List.cons_append] at hdd hbb ⊢
            rw [bodyV_cons, if_neg (by intro h; subst h; exact hx.2.1 rfl), if_neg (by omega), if_neg (by intro h; subst h; exact hx.2.2 rfl), if_neg hbb, hdd, ← List.cons_append, ← hlen]
            rw [List.drop_left, List.take_left, hi]
            simp only [Option.map_some, ← hsplit]
            congr 2
            simp <;> omega
theorem readQ_quote (l : List UInt8) (hv : validD l = true) (r : List UInt8) : readQ (quoteD l ++ r) = (l, (quoteD l).length, 0) := by
  have h := bodyV_body l.length l (Nat.le_refl _) hv r
  have e : quoteD l ++ r = 34 :: (bodyD l ++ 34 :: r) := by unfold quoteD; simp
  rw [e]
  simp only [readQ]
  rw [if_pos True.intro, h]
  simp only
  unfold quoteD
  simp

/-! tokens -/
theorem nextT_at (p x : List UInt8) (h : ∀ c t, x = c :: t → blankC c = false) (a : Nat) (ha : a = p.length) : nextT (p ++ x) a = oneT x a := by
  subst ha
  unfold nextT
  rw [List.drop_left]
  have : runB blankC x = 0 := by
    cases x with
    | nil => rfl
    | cons c t => simp only [runB]; rw [if_neg (by rw [h c t rfl]; simp)]
  rw [this, Nat.add_zero, List.drop_left]
theorem oneT_sign (c : UInt8) (r : List UInt8) (a : Nat) (h : signC c = true) : oneT (c :: r) a = ⟨c.toNat, 0, 0, 0, ⟨#[]⟩, a, a + 1, 0⟩ := by
  simp only [oneT]; rw [if_pos h]
theorem oneT_text (s : ByteArray) (hv : validD s.data.toList = true) (r : List UInt8) (a : Nat) : oneT (quoteD s.data.toList ++ r) a = ⟨0, 4, 0, 0, s, a, a + (quoteD s.data.toList).length, 0⟩ := by
  have h := readQ_quote s.data.toList hv r
  have e : quoteD s.data.toList ++ r = 34 :: (bodyD s.data.toList ++ 34 :: r) := by unfold quoteD; simp
  rw [e] at h ⊢
  simp only [oneT]
  rw [if_neg (by decide), if_pos (by decide), h]
/-- where what is behind a value begins -/
def Stop (r : List UInt8) : Prop := ∀ c t, r = c :: t → c = 44 ∨ c = 93 ∨ c = 125
theorem Stop.cons {c : UInt8} {t : List UInt8} (h : c = 44 ∨ c = 93 ∨ c = 125) : Stop (c :: t) := by intro d u e; injection e with e1 e2; subst e1; exact h
theorem Stop.nil : Stop [] := by intro d u e; cases e
theorem runB_whole (p : UInt8 → Bool) (w r : List UInt8) (h1 : ∀ c ∈ w, p c = true) (h2 : ∀ c t, r = c :: t → p c = false) : runB p (w ++ r) = w.length := by
  induction w with
  | nil =>
    cases r with
    | nil => rfl
    | cons c t => simp only [List.nil_append, runB]; rw [if_neg (by rw [h2 c t rfl]; simp)]; rfl
  | cons c t ih =>
    simp only [List.cons_append, runB]
    rw [if_pos (h1 c (by simp)), ih (fun d hd => h1 d (by simp [hd]))]
    rfl
theorem Stop.letter {r : List UInt8} (h : Stop r) : ∀ c t, r = c :: t → letterC c = false := by
  intro c t e; rcases h c t e with rfl | rfl | rfl <;> rfl
theorem Stop.num {r : List UInt8} (h : Stop r) : ∀ c t, r = c :: t → numC c = false := by
  intro c t e; rcases h c t e with rfl | rfl | rfl <;> rfl
theorem oneT_null (r : List UInt8) (a : Nat) (h : Stop r) : oneT ([110, 117, 108, 108] ++ r) a = ⟨0, 0, 0, 0, ⟨#[]⟩, a, a + 4, 0⟩ := by
  have hr := runB_whole letterC [110, 117, 108, 108] r (by decide) h.letter
  have hw : wordV ([110, 117, 108, 108] ++ r) = (0, 4, 0) := by unfold wordV; rw [hr]; rfl
  simp only [List.cons_append] at hw ⊢
  simp only [oneT]
  rw [if_neg (by decide), if_neg (by decide), if_pos (by decide), hw]
theorem oneT_false (r : List UInt8) (a : Nat) (h : Stop r) : oneT ([102, 97, 108, 115, 101] ++ r) a = ⟨0, 1, 0, 0, ⟨#[]⟩, a, a + 5, 0⟩ := by
  have hr := runB_whole letterC [102, 97, 108, 115, 101] r (by decide) h.letter
  have hw : wordV ([102, 97, 108, 115, 101] ++ r) = (1, 5, 0) := by unfold wordV; rw [hr]; rfl
  simp only [List.cons_append] at hw ⊢
  simp only [oneT]
  rw [if_neg (by decide), if_neg (by decide), if_pos (by decide), hw]
theorem oneT_true (r : List UInt8) (a : Nat) (h : Stop r) : oneT ([116, 114, 117, 101] ++ r) a = ⟨0, 2, 0, 0, ⟨#[]⟩, a, a + 4, 0⟩ := by
  have hr := runB_whole letterC [116, 114, 117, 101] r (by decide) h.letter
  have hw : wordV ([116, 114, 117, 101] ++ r) = (2, 4, 0) := by unfold wordV; rw [hr]; rfl
  simp only [List.cons_append] at hw ⊢
  simp only [oneT]
  rw [if_neg (by decide), if_neg (by decide), if_pos (by decide), hw]
/-- what is asked of the texts of numbers -/
structure NumText (T : Int → Int → List UInt8) : Prop where
  back : ∀ m e, right m e = true → parseN (T m e) = ((m, e), 0)
  all : ∀ m e, right m e = true → ∀ c ∈ T m e, numC c = true
  head : ∀ m e, right m e = true → ∃ c t, T m e = c :: t ∧ (c.toNat = 45 ∨ (48 ≤ c.toNat ∧ c.toNat ≤ 57))
theorem oneT_num {T : Int → Int → List UInt8} (hT : NumText T) {m e : Int} (hr : right m e = true) (r : List UInt8) (a : Nat) (h : Stop r) : oneT (T m e ++ r) a = ⟨0, 3, m, e, ⟨#[]⟩, a, a + (T m e).length, 0⟩ := by
  have h1 := runB_whole numC (T m e) r (hT.all m e hr) h.num
  have h2 := hT.back m e hr
  obtain ⟨c, t, hc, hd⟩ := hT.head m e hr
  have hs : (T m e ++ r).take (T m e).length = T m e := List.take_left
  rw [hc] at h1 hs h2 ⊢
  rw [List.cons_append] at h1 hs ⊢
  simp only [oneT]
  have k1 : ¬ signC c = true := by unfold signC; simp; omega
  have k2 : ¬ letterC c = true := by unfold letterC; simp; omega
  rw [if_neg k1, if_neg (by omega), if_neg k2, if_pos hd, h1, hs, h2]
theorem oneT_none (a : Nat) : oneT [] a = ⟨255, 0, 0, 0, ⟨#[]⟩, a, a, 0⟩ := rfl

/-! the map of keys that rise is the map itself -/
theorem bytesLess_lt : ∀ (a b : List UInt8), Op.bytesLess a b = true → a < b
  | [], [], h => by cases h
  | _ :: _, [], h => by cases h
  | [], _ :: _, _ => by simp
  | a :: x, b :: y, h => by
    simp only [Op.bytesLess, Bool.or_eq_true, Bool.and_eq_true, decide_eq_true_eq, beq_iff_eq] at h
    rcases h with h | ⟨rfl, h⟩
    · exact List.Lex.rel h
    · exact List.Lex.cons (bytesLess_lt x y h)
theorem lt_bytesLess : ∀ (a b : List UInt8), a < b → Op.bytesLess a b = true
  | [], [], h => absurd h (List.lt_irrefl _)
  | _ :: _, [], h => by cases h
  | [], _ :: _, _ => rfl
  | a :: x, b :: y, h => by
    simp only [Op.bytesLess, Bool.or_eq_true, Bool.and_eq_true, decide_eq_true_eq, beq_iff_eq]
    cases h with
    | rel h => exact Or.inl h
    | cons h => exact Or.inr ⟨rfl, lt_bytesLess x y h⟩
def kbs (ks : List ByteArray) : List (List UInt8) := ks.map fun k => k.data.toList
theorem riseK_iff : ∀ ks : List ByteArray, riseK ks = true ↔ ((∀ k ∈ ks, validD k.data.toList = true) ∧ (kbs ks).Pairwise (· < ·))
  | [] => by simp [riseK, kbs]
  | [a] => by simp [riseK, kbs]
  | a :: b :: r => by
    have hi := riseK_iff (b :: r)
    simp only [riseK, Bool.and_eq_true, hi]
    constructor
    · rintro ⟨⟨h1, h2⟩, h3, h4⟩
      refine ⟨fun k hk => ?_, ?_⟩
      · rcases List.mem_cons.1 hk with rfl | hk
        · exact h1
        · exact h3 k hk
      · have hab := bytesLess_lt _ _ h2
        unfold kbs at h4 ⊢
        rw [List.map_cons] at h4 ⊢
        refine List.pairwise_cons.2 ⟨fun x hx => ?_, h4⟩
        rw [List.map_cons] at hx
        rcases List.mem_cons.1 hx with rfl | hx
        · exact hab
        · exact List.lt_trans hab ((List.pairwise_cons.1 h4).1 x hx)
    · rintro ⟨h1, h2⟩
      unfold kbs at h2 ⊢
      rw [List.map_cons, List.map_cons] at h2
      have h3 := List.pairwise_cons.1 h2
      exact ⟨⟨h1 a (by simp), lt_bytesLess _ _ (h3.1 _ (by simp))⟩, fun k hk => h1 k (by simp [hk]), h3.2⟩
theorem keysJ_rise (ks : List ByteArray) (h : riseK ks = true) : keysJ ks = ks := by
  have hp := ((riseK_iff ks).1 h).2
  have hn : ks.Nodup := by
    have : (kbs ks).Nodup := hp.imp fun {a b} h e => by subst e; exact List.lt_irrefl _ h
    unfold kbs at this
    rw [List.Nodup, List.pairwise_map] at this
    exact this.imp fun {a b} h e => h (by rw [e])
  have e1 := keysJ_of ks ks hn (fun _ => Iff.rfl)
  have hk : (kbs ks).Nodup := hp.imp fun {a b} h e => by subst e; exact List.lt_irrefl _ h
  have e2 : sortB (kbs ks) = kbs ks := sorted_unique (· < ·) (fun a => List.lt_irrefl a) (fun a b c h1 h2 => List.lt_trans h1 h2) _ _ (sortB_strict _ hk) hp (fun x => mem_sortB _ x)
  unfold kbs at e2
  rw [← e1, e2, List.map_map]
  have : (toB ∘ fun k : ByteArray => k.data.toList) = id := by funext k; exact toB_back k
  rw [this, List.map_id]
theorem keysJ_riseK (ks : List ByteArray) (h : ∀ k ∈ ks, validD k.data.toList = true) : riseK (keysJ ks) = true := by
  refine (riseK_iff _).2 ⟨fun k hk => h k ((mem_keysJ ks k).1 hk), ?_⟩
  unfold kbs keysJ
  rw [List.map_map]
  have : ((fun k : ByteArray => k.data.toList) ∘ toB) = id := by funext k; rfl
  rw [this, List.map_id]
  exact sortB_strict _ (nodup_nubB _)
theorem lastIx_self (ks : List ByteArray) (hn : ks.Nodup) (i : Nat) (hi : i < ks.length) : lastIx ks ks.length ks[i] = i := by
  have h := lastIx_lt ks ks.length ks[i] ⟨i, hi, by rw [List.getD_eq_getElem?_getD, List.getElem?_eq_getElem hi]; rfl⟩
  have h2 : ks[lastIx ks ks.length ks[i]]'h.1 = ks[i] := by
    have := h.2
    rw [List.getD_eq_getElem?_getD, List.getElem?_eq_getElem h.1] at this
    exact this
  exact (List.getElem_inj hn).1 h2
theorem allL_mem : ∀ (l : List JV), allL l = true ↔ ∀ v ∈ l, allJ v = true
  | [] => by simp [allL]
  | v :: r => by simp only [allL, Bool.and_eq_true, allL_mem r, List.mem_cons, forall_eq_or_imp]
theorem depthL_mem : ∀ (l : List JV) (d : Nat), depthL l ≤ d ↔ ∀ v ∈ l, depthJ v ≤ d
  | [], d => by simp [depthL]
  | v :: r, d => by
    have := depthL_mem r d
    simp only [depthL, List.mem_cons, forall_eq_or_imp, ← this]
    omega
theorem rightJ_iff (v : JV) : rightJ v = 0 ↔ (depthJ v ≤ 48 ∧ allJ v = true) := by
  unfold rightJ
  by_cases hd : 48 < depthJ v
  · rw [if_pos hd]; constructor
    · intro h; omega
    · intro h; omega
  · rw [if_neg hd]
    cases h : allJ v <;> simp <;> omega
theorem badL_iff (l : List JV) : badL l = 0 ↔ ∀ v ∈ l, rightJ v = 0 := by
  induction l with
  | nil => simp [badL]
  | cons v r ih =>
    simp only [badL, List.mem_cons, forall_eq_or_imp]
    by_cases h : rightJ v = 0
    · rw [if_neg (by simp [h]), ih]; simp [h]
    · rw [if_pos h]; simp [h]
theorem makeJ_self (ks : List ByteArray) (l : List JV) (h : rightJ (.mk 6 0 0 ⟨#[]⟩ l ks) = 0) : makeJ ks l = (.mk 6 0 0 ⟨#[]⟩ l ks, 0) := by
  obtain ⟨hd, ha⟩ := (rightJ_iff _).1 h
  simp only [allJ, okOne, Bool.and_eq_true, Bool.or_eq_true, decide_eq_true_eq] at ha
  obtain ⟨⟨⟨⟨⟨hA, hB⟩, hC⟩, hD⟩, hE⟩, hL⟩ := ha
  obtain ⟨hA, hF⟩ := hA
  have hlen : ks.length = l.length := by rcases hB with hB | hB; exact absurd rfl hB; exact hB
  have hk := keysJ_rise ks hE
  have hp := (riseK_iff ks).1 hE
  have hn : ks.Nodup := by rw [← hk]; exact keysJ_nodup ks
  have hall : ks.all (fun k => validD k.data.toList) = true := List.all_eq_true.2 hp.1
  have hbad : badL l = 0 := (badL_iff l).2 fun v hv => (rightJ_iff v).2 ⟨by
    simp only [depthJ] at hd
    exact (depthL_mem l 48).1 (by omega) v hv, (allL_mem l).1 hL v hv⟩
  have hm : (ks.map fun k => l.getD (lastIx ks ks.length k) zeroJ) = l := by
    refine List.ext_getElem (by simp [hlen]) fun i h1 h2 => ?_
    rw [List.getElem_map, lastIx_self ks hn i (by omega), List.getD_eq_getElem?_getD, List.getElem?_eq_getElem h2]
    rfl
  unfold makeJ
  rw [if_neg (by simp [hlen]), if_neg (by simp [hall]), if_neg (by simp [hbad]), hk, hm, if_neg (by simp [h])]
end Th
namespace Th
open Go Go.Lib

mutual
/-- how many steps the machine takes over a value's text -/
def costJ : JV → Nat
  | .mk k _ _ _ l _ => if k = 5 then 2 + costL 1 l else if k = 6 then 2 + costL 2 l else 1
def costL (d : Nat) : List JV → Nat
  | [] => 0
  | v :: r => costJ v + d + costL d r
end
theorem allJ_parts {k m e : Int} {s : ByteArray} {l : List JV} {ks : List ByteArray} (h : allJ (.mk k m e s l ks) = true) :
    (0 ≤ k ∧ k ≤ 6) ∧ (k = 3 ∨ (m = 0 ∧ e = 0)) ∧ (k = 4 ∨ s = ⟨#[]⟩) ∧ (5 ≤ k ∨ l = []) ∧ (k = 6 ∨ ks = []) ∧ (k = 6 → ks.length = l.length) ∧ right m e = true ∧ validD s.data.toList = true ∧ riseK ks = true ∧ allL l = true := by
  simp only [allJ, okOne, Bool.and_eq_true, Bool.or_eq_true, decide_eq_true_eq] at h
  obtain ⟨⟨⟨⟨⟨⟨⟨⟨⟨h1, h2⟩, h3⟩, h4⟩, h5⟩, h6⟩, h7⟩, h8⟩, h9⟩, h10⟩ := h
  refine ⟨h1, h2, ?_, ?_, ?_, ?_, h7, h8, h9, h10⟩
  · rcases h3 with h3 | h3
    · exact Or.inl h3
    · right
      have : s.data.size = 0 := h3
      exact ByteArray.ext (Array.eq_empty_of_size_eq_zero this)
  · rcases h4 with h4 | h4
    · exact Or.inl h4
    · exact Or.inr (List.eq_nil_of_length_eq_zero h4)
  · rcases h5 with h5 | h5
    · exact Or.inl h5
    · exact Or.inr (List.eq_nil_of_length_eq_zero h5)
  · intro hk
    rcases h6 with h6 | h6
    · exact absurd hk h6
    · exact h6
section
variable {T : Int → Int → List UInt8}
theorem textL_comma (named : Bool) (v : JV) (r : List JV) (ks : List ByteArray) : textL T false named (v :: r) ks = 44 :: textL T true named (v :: r) ks := by
  simp only [textL]; simp
theorem comma (p x : List UInt8) (a : Nat) (ha : a = p.length) : nextT (p ++ 44 :: x) a = ⟨44, 0, 0, 0, ⟨#[]⟩, a, a + 1, 0⟩ := by
  rw [nextT_at p _ (by intro c t e; injection e with e1 e2; subst e1; rfl) a ha, oneT_sign _ _ _ rfl]; rfl
theorem sign_at (c : UInt8) (hc : signC c = true) (p x : List UInt8) (a : Nat) (ha : a = p.length) : nextT (p ++ c :: x) a = ⟨c.toNat, 0, 0, 0, ⟨#[]⟩, a, a + 1, 0⟩ := by
  rw [nextT_at p _ (by
    intro d t e; injection e with e1 e2; subst e1
    unfold signC at hc
    unfold blankC
    simp at hc ⊢
    omega) a ha, oneT_sign _ _ _ hc]
mutual
theorem costJ_le (hT : NumText T) : ∀ v : JV, allJ v = true → costJ v ≤ 2 * (textJ T v).length
  | .mk k m e s l ks, h => by
    obtain ⟨-, -, -, -, -, -, hr, -, -, hall⟩ := allJ_parts h
    obtain ⟨d, u, hd, hn⟩ := hT.head m e hr
    have h1 := costL_le hT 1 (by omega) true false l hall []
    have h2 := costL_le hT 2 (by omega) true true l hall ks
    simp only [costJ, textJ]
    rw [hd]
    unfold quoteD
    simp only [if_true] at h1 h2
    repeat' split
    all_goals
      simp only [List.cons_append, List.length_cons, List.length_append, List.length_nil]
      omega
theorem costL_le (hT : NumText T) (d : Nat) (hd : d ≤ 2) (first named : Bool) : ∀ (l : List JV), allL l = true → ∀ ks, costL d l ≤ 2 * (textL T first named l ks).length + (if first = true then 2 else 0)
  | [], _, _ => by simp [costL]
  | v :: r, h, ks => by
    simp only [allL, Bool.and_eq_true] at h
    have h1 := costJ_le hT v h.1
    have h2 := costL_le hT d hd false named r h.2 (ks.drop 1)
    simp only [costL, textL, List.length_append]
    cases first
    · simp at h2 ⊢; omega
    · simp at h2 ⊢; omega
end
theorem fuel_ge (n : Nat) (h : n ≤ 39999) : ∃ f, fuelP = f + 1 + n := ⟨39999 - n, by unfold fuelP; omega⟩
variable (hT : NumText T)
include hT
theorem textJ_head2 (v : JV) (h : allJ v = true) (r : List UInt8) : ∀ c t, textJ T v ++ r = c :: t → blankC c = false ∧ c.toNat ≠ 93 := by
  obtain ⟨k, m, e, s, l, ks⟩ := v
  obtain ⟨-, -, -, -, -, -, hr, -, -, -⟩ := allJ_parts h
  intro c t
  simp only [textJ]
  obtain ⟨d, u, hd, hn⟩ := hT.head m e hr
  rw [hd]
  unfold quoteD
  repeat' split
  all_goals
    simp only [List.cons_append]
    intro e; injection e with e1 e2; subst e1
    first
      | exact ⟨rfl, by decide⟩
      | exact ⟨by unfold blankC; simp; omega, by omega⟩
theorem textJ_head (v : JV) (h : allJ v = true) (r : List UInt8) : ∀ c t, textJ T v ++ r = c :: t → blankC c = false := fun c t e => (textJ_head2 hT v h r c t e).1
theorem first_not (v : JV) (h : allJ v = true) (r : List UInt8) (a : Nat) : (oneT (textJ T v ++ r) a).sign ≠ 93 := by
  have h2 := textJ_head2 hT v h r
  cases hx : textJ T v ++ r with
  | nil => intro h3; cases h3
  | cons c t =>
    have h3 := (h2 c t hx).2
    simp only [oneT]
    repeat' split
    · exact h3
    all_goals exact fun h4 => by cases h4
omit hT
mutual
theorem val_back (hT : NumText T) : ∀ (v : JV), allJ v = true → ∀ (st : List OJ), depthJ v + st.length ≤ 48 → ∀ (L p r : List UInt8) (a : Nat), L = p ++ (textJ T v ++ r) → a = p.length → Stop r → ∀ (f : Nat) (v0 : JV),
    readP madeJ L (f + costJ v) .val st v0 (nextT L a) = readP madeJ L f .off st v (nextT L (a + (textJ T v).length))
  | .mk k m e s l ks, hv, st, hd, L, p, r, a, hL, ha, hr, f, v0 => by
    obtain ⟨⟨hk0, hk6⟩, hk3, hk4, hk5, hkk, hkl, hright, hval, hrise, hall⟩ := allJ_parts hv
    have h48 : st.length ≠ 48 := by
      intro h; simp only [depthJ] at hd; omega
    have hnx : nextT L a = oneT (textJ T (.mk k m e s l ks) ++ r) a := by
      rw [hL]; exact nextT_at p _ (textJ_head hT _ hv r) a ha
    have hcase : k = 0 ∨ k = 1 ∨ k = 2 ∨ k = 3 ∨ k = 4 ∨ k = 5 ∨ k = 6 := by omega
    rcases hcase with rfl | rfl | rfl | rfl | rfl | rfl | rfl
    · obtain ⟨rfl, rfl⟩ : m = 0 ∧ e = 0 := hk3.resolve_left (by decide)
      obtain rfl := hk4.resolve_left (by decide)
      obtain rfl := hk5.resolve_left (by decide)
      obtain rfl := hkk.resolve_left (by decide)
      have ht : nextT L a = ⟨0, 0, 0, 0, ⟨#[]⟩, a, a + 4, 0⟩ := hnx.trans (oneT_null r a hr)
      exact val_tok madeJ L f st v0 _ _ (by rw [ht]) (by rw [ht]) (by rw [ht]) h48 |>.trans (by rw [ht]; rfl)
    · obtain ⟨rfl, rfl⟩ : m = 0 ∧ e = 0 := hk3.resolve_left (by decide)
      obtain rfl := hk4.resolve_left (by decide)
      obtain rfl := hk5.resolve_left (by decide)
      obtain rfl := hkk.resolve_left (by decide)
      have ht : nextT L a = ⟨0, 1, 0, 0, ⟨#[]⟩, a, a + 5, 0⟩ := hnx.trans (oneT_false r a hr)
      exact val_tok madeJ L f st v0 _ _ (by rw [ht]) (by rw [ht]) (by rw [ht]) h48 |>.trans (by rw [ht]; rfl)
    · obtain ⟨rfl, rfl⟩ : m = 0 ∧ e = 0 := hk3.resolve_left (by decide)
      obtain rfl := hk4.resolve_left (by decide)
      obtain rfl := hk5.resolve_left (by decide)
      obtain rfl := hkk.resolve_left (by decide)
      have ht : nextT L a = ⟨0, 2, 0, 0, ⟨#[]⟩, a, a + 4, 0⟩ := hnx.trans (oneT_true r a hr)
      exact val_tok madeJ L f st v0 _ _ (by rw [ht]) (by rw [ht]) (by rw [ht]) h48 |>.trans (by rw [ht]; rfl)
    · obtain rfl := hk4.resolve_left (by decide)
      obtain rfl := hk5.resolve_left (by decide)
      obtain rfl := hkk.resolve_left (by decide)
      have ht : nextT L a = ⟨0, 3, m, e, ⟨#[]⟩, a, a + (T m e).length, 0⟩ := hnx.trans (oneT_num hT hright r a hr)
      exact val_tok madeJ L f st v0 _ _ (by rw [ht]) (by rw [ht]) (by rw [ht]) h48 |>.trans (by rw [ht]; rfl)
    · obtain ⟨rfl, rfl⟩ : m = 0 ∧ e = 0 := hk3.resolve_left (by decide)
      obtain rfl := hk5.resolve_left (by decide)
      obtain rfl := hkk.resolve_left (by decide)
      have ht : nextT L a = ⟨0, 4, 0, 0, s, a, a + (quoteD s.data.toList).length, 0⟩ := hnx.trans (oneT_text s hval r a)
      exact val_tok madeJ L f st v0 _ _ (by rw [ht]) (by rw [ht]) (by rw [ht]) h48 |>.trans (by rw [ht]; rfl)
    · obtain ⟨rfl, rfl⟩ : m = 0 ∧ e = 0 := hk3.resolve_left (by decide)
      obtain rfl := hk4.resolve_left (by decide)
      obtain rfl := hkk.resolve_left (by decide)
      have htx : textJ T (.mk 5 0 0 ⟨#[]⟩ l []) = 91 :: textL T true false l [] ++ [93] := textJ_list T 5 0 0 _ l [] rfl
      have hco : costJ (.mk 5 0 0 ⟨#[]⟩ l []) = 2 + costL 1 l := by simp only [costJ]; rfl
      rw [htx] at hL hnx ⊢
      have ht : nextT L a = ⟨91, 0, 0, 0, ⟨#[]⟩, a, a + 1, 0⟩ := by rw [hnx, List.cons_append, List.cons_append, oneT_sign _ _ _ rfl]; rfl
      rw [hco, show f + (2 + costL 1 l) = (f + 1 + costL 1 l) + 1 by omega, val_open madeJ L _ st v0 _ _ rfl (by rw [ht]) (by rw [ht]; exact Or.inl rfl) h48]
      rw [ht]
      simp only [show ¬ ((91 : Nat) = 123) by decide, if_false]
      cases l with
      | nil =>
        have hL2 : L = (p ++ [91]) ++ 93 :: r := by rw [hL]; simp [textL]
        have hu : nextT L (a + 1) = ⟨93, 0, 0, 0, ⟨#[]⟩, a + 1, a + 1 + 1, 0⟩ := by rw [hL2]; exact sign_at 93 rfl _ _ _ (by simp [ha])
        rw [hu, if_pos ⟨rfl, rfl⟩]
        show readP madeJ L (f + 1) .end_ _ v0 _ = _
        rw [end_go madeJ L f v0 _ _ _ _ rfl]
        rfl
      | cons x l =>
        have hL2 : L = (p ++ [91]) ++ (textL T true false (x :: l) [] ++ 93 :: r) := by rw [hL]; simp
        have hx : allJ x = true := by simp only [allL, Bool.and_eq_true] at hall; exact hall.1
        have hfst : nextT L (a + 1) = oneT (textL T true false (x :: l) [] ++ 93 :: r) (a + 1) := by
          rw [hL2]
          refine nextT_at _ _ ?_ _ (by simp [ha])
          simp only [textL]
          intro c t e
          exact textJ_head hT x hx _ c t (by simpa using e)
        have hns : ¬ ((nextT L (a + 1)).e = 0 ∧ isShut ⟨5, [], []⟩ (nextT L (a + 1)) = true) := by
          rintro ⟨-, h⟩
          have h93 : (nextT L (a + 1)).sign = 93 := by
            unfold isShut at h; simpa using h
          exact first_not hT x hx (textL T false false l [] ++ 93 :: r) (a + 1) (by rw [hfst] at h93; simpa [textL] using h93)
        rw [if_neg hns]
        have hi := list_back hT (x :: l) (by simp) hall st (by simp only [depthJ] at hd; omega) L (p ++ [91]) r (a + 1) hL2 (by simp [ha]) (f + 1) v0 []
        rw [hi]
        simp only [List.cons_append, List.length_cons, List.length_append, List.length_nil, List.nil_append]
        rw [end_go madeJ L f _ _ _ _ _ rfl]
        rw [show a + 1 + (textL T true false (x :: l) []).length + 1 = a + ((textL T true false (x :: l) []).length + (0 + 1) + 1) by omega]
        rfl
    · obtain ⟨rfl, rfl⟩ : m = 0 ∧ e = 0 := hk3.resolve_left (by decide)
      obtain rfl := hk4.resolve_left (by decide)
      have htx : textJ T (.mk 6 0 0 ⟨#[]⟩ l ks) = 123 :: textL T true true l ks ++ [125] := textJ_map T 6 0 0 _ l ks rfl
      have hco : costJ (.mk 6 0 0 ⟨#[]⟩ l ks) = 2 + costL 2 l := by simp only [costJ]; rfl
      have hself := makeJ_self ks l ((rightJ_iff _).2 ⟨by omega, hv⟩)
      have hks := ((riseK_iff ks).1 hrise).1
      rw [htx] at hL hnx ⊢
      have ht : nextT L a = ⟨123, 0, 0, 0, ⟨#[]⟩, a, a + 1, 0⟩ := by rw [hnx, List.cons_append, List.cons_append, oneT_sign _ _ _ rfl]; rfl
      rw [hco, show f + (2 + costL 2 l) = (f + 1 + costL 2 l) + 1 by omega, val_open madeJ L _ st v0 _ _ rfl (by rw [ht]) (by rw [ht]; exact Or.inr rfl) h48]
      rw [ht]
      simp only [if_true]
      have hmade : madeJ ⟨6, ks, l⟩ = .mk 6 0 0 ⟨#[]⟩ l ks := by unfold madeJ; rw [if_neg (show ¬ (6 : Int) = 5 by decide), hself]
      cases l with
      | nil =>
        have hk0 : ks = [] := List.eq_nil_of_length_eq_zero (by have := hkl rfl; simpa using this)
        subst hk0
        have hL2 : L = (p ++ [123]) ++ 125 :: r := by rw [hL]; simp [textL]
        have hu : nextT L (a + 1) = ⟨125, 0, 0, 0, ⟨#[]⟩, a + 1, a + 1 + 1, 0⟩ := by rw [hL2]; exact sign_at 125 rfl _ _ _ (by simp [ha])
        rw [hu, if_pos ⟨rfl, rfl⟩]
        show readP madeJ L (f + 1) .end_ _ v0 _ = _
        rw [end_go madeJ L f v0 _ _ _ _ rfl, hmade]
        rfl
      | cons x l =>
        have hL2 : L = (p ++ [123]) ++ (textL T true true (x :: l) ks ++ 125 :: r) := by rw [hL]; simp
        obtain ⟨k0, kr, rfl⟩ : ∃ k0 kr, ks = k0 :: kr := by
          cases ks with
          | nil => have := hkl rfl; simp at this
          | cons k0 kr => exact ⟨k0, kr, rfl⟩
        have hfst : nextT L (a + 1) = ⟨0, 4, 0, 0, k0, a + 1, a + 1 + (quoteD k0.data.toList).length, 0⟩ := by
          have hL3 : L = (p ++ [123]) ++ (quoteD k0.data.toList ++ (58 :: (textJ T x ++ textL T false true l kr ++ 125 :: r))) := by
            rw [hL2]; simp [textL]
          rw [hL3]
          rw [nextT_at (p ++ [123]) _ (by unfold quoteD; intro c t e; injection e with e1 e2; subst e1; rfl) _ (by simp [ha])]
          exact oneT_text k0 (hks k0 (by simp)) _ _
        have hns : ¬ ((nextT L (a + 1)).e = 0 ∧ isShut ⟨6, [], []⟩ (nextT L (a + 1)) = true) := by
          rw [hfst]; rintro ⟨-, h⟩; cases h
        rw [if_neg hns]
        have hi := map_back hT (x :: l) (k0 :: kr) (by simp) (hkl rfl) hall hks st (by simp only [depthJ] at hd; omega) L (p ++ [123]) r (a + 1) hL2 (by simp [ha]) (f + 1) v0 [] []
        rw [hi]
        simp only [List.cons_append, List.length_cons, List.length_append, List.length_nil, List.nil_append]
        rw [end_go madeJ L f _ _ _ _ _ rfl, hmade]
        rw [show a + 1 + (textL T true true (x :: l) (k0 :: kr)).length + 1 = a + ((textL T true true (x :: l) (k0 :: kr)).length + (0 + 1) + 1) by omega]
theorem list_back (hT : NumText T) : ∀ (l : List JV), l ≠ [] → allL l = true → ∀ (st : List OJ), depthL l + st.length + 1 ≤ 48 → ∀ (L p r : List UInt8) (a : Nat), L = p ++ (textL T true false l [] ++ 93 :: r) → a = p.length → ∀ (f : Nat) (v0 : JV) (acc : List JV),
    readP madeJ L (f + costL 1 l) .val (⟨5, [], acc⟩ :: st) v0 (nextT L a) = readP madeJ L f .end_ (⟨5, [], acc ++ l⟩ :: st) (l.getLastD v0) ⟨93, 0, 0, 0, ⟨#[]⟩, a + (textL T true false l []).length, a + (textL T true false l []).length + 1, 0⟩
  | [], h0, _, _, _, _, _, _, _, _, _, _, _, _ => absurd rfl h0
  | x :: l, _, hall, st, hd, L, p, r, a, hL, ha, f, v0, acc => by
    simp only [allL, Bool.and_eq_true] at hall
    simp only [depthL] at hd
    cases l with
    | nil =>
      have hL2 : L = p ++ (textJ T x ++ 93 :: r) := by rw [hL]; simp [textL]
      have htl : textL T true false [x] [] = textJ T x := by simp [textL]
      have hi := val_back hT x hall.1 (⟨5, [], acc⟩ :: st) (by simp only [List.length_cons]; omega) L p (93 :: r) a hL2 ha (Stop.cons (by simp)) (f + 1) v0
      rw [show f + costL 1 [x] = f + 1 + costJ x by simp only [costL]; omega, hi, htl]
      have hu : nextT L (a + (textJ T x).length) = ⟨93, 0, 0, 0, ⟨#[]⟩, a + (textJ T x).length, a + (textJ T x).length + 1, 0⟩ := by
        rw [hL2, ← List.append_assoc]; exact sign_at 93 rfl _ _ _ (by simp [ha])
      rw [hu, off_shut madeJ L f _ _ _ _ rfl (show (93 : Nat) ≠ 44 by decide) rfl]
      rfl
    | cons y l =>
      have htl : textL T true false (x :: y :: l) [] = textJ T x ++ 44 :: textL T true false (y :: l) [] := by
        have := textL_comma (T := T) false y l []
        conv => lhs; simp only [textL]
        conv at this => lhs; simp only [textL]
        simp only [List.drop_nil] at this ⊢
        simpa using this
      have hL2 : L = p ++ (textJ T x ++ 44 :: (textL T true false (y :: l) [] ++ 93 :: r)) := by rw [hL, htl]; simp
      have hL3 : L = (p ++ textJ T x ++ [44]) ++ (textL T true false (y :: l) [] ++ 93 :: r) := by rw [hL2]; simp
      have hi := val_back hT x hall.1 (⟨5, [], acc⟩ :: st) (by simp only [List.length_cons]; omega) L p _ a hL2 ha (Stop.cons (by simp)) (f + costL 1 (y :: l) + 1) v0
      have hu : nextT L (a + (textJ T x).length) = ⟨44, 0, 0, 0, ⟨#[]⟩, a + (textJ T x).length, a + (textJ T x).length + 1, 0⟩ := by
        rw [hL2, ← List.append_assoc]; exact sign_at 44 rfl _ _ _ (by simp [ha])
      have hj := list_back hT (y :: l) (by simp) hall.2 st (by omega) L (p ++ textJ T x ++ [44]) r (a + (textJ T x).length + 1) hL3 (by simp [ha]; omega) f x (acc ++ [x])
      rw [show f + costL 1 (x :: y :: l) = f + costL 1 (y :: l) + 1 + costJ x by simp only [costL]; omega, hi, hu, off_list madeJ L _ _ _ _ _ _ rfl rfl rfl rfl]
      rw [hj, htl]
      simp only [List.length_append, List.length_cons, List.append_assoc, List.cons_append, List.nil_append]
      rw [show a + (textJ T x).length + 1 + (textL T true false (y :: l) []).length = a + ((textJ T x).length + ((textL T true false (y :: l) []).length + 1)) by omega]
      rfl
theorem map_back (hT : NumText T) : ∀ (l : List JV) (ks : List ByteArray), l ≠ [] → ks.length = l.length → allL l = true → (∀ k ∈ ks, validD k.data.toList = true) → ∀ (st : List OJ), depthL l + st.length + 1 ≤ 48 → ∀ (L p r : List UInt8) (a : Nat), L = p ++ (textL T true true l ks ++ 125 :: r) → a = p.length → ∀ (f : Nat) (v0 : JV) (ka : List ByteArray) (acc : List JV),
    readP madeJ L (f + costL 2 l) .key (⟨6, ka, acc⟩ :: st) v0 (nextT L a) = readP madeJ L f .end_ (⟨6, ka ++ ks, acc ++ l⟩ :: st) (l.getLastD v0) ⟨125, 0, 0, 0, ⟨#[]⟩, a + (textL T true true l ks).length, a + (textL T true true l ks).length + 1, 0⟩
  | [], _, h0, _, _, _, _, _, _, _, _, _, _, _, _, _, _, _ => absurd rfl h0
  | x :: l, [], _, h1, _, _, _, _, _, _, _, _, _, _, _, _, _, _ => by simp at h1
  | x :: l, k :: ks, _, h1, hall, hks, st, hd, L, p, r, a, hL, ha, f, v0, ka, acc => by
    simp only [allL, Bool.and_eq_true] at hall
    simp only [depthL] at hd
    have hk := hks k (by simp)
    cases l with
    | nil =>
      have hk0 : ks = [] := List.eq_nil_of_length_eq_zero (by simpa using h1)
      subst hk0
      have htl : textL T true true [x] [k] = quoteD k.data.toList ++ 58 :: textJ T x := by simp [textL]
      have hL1 : L = p ++ (quoteD k.data.toList ++ (58 :: (textJ T x ++ 125 :: r))) := by rw [hL, htl]; simp
      have hL2 : L = (p ++ quoteD k.data.toList ++ [58]) ++ (textJ T x ++ 125 :: r) := by rw [hL1]; simp
      have ht : nextT L a = ⟨0, 4, 0, 0, k, a, a + (quoteD k.data.toList).length, 0⟩ := by
        rw [hL1, nextT_at p _ (by unfold quoteD; intro c t e; injection e with e1 e2; subst e1; rfl) _ ha]
        exact oneT_text k hk _ _
      have hcol : nextT L (a + (quoteD k.data.toList).length) = ⟨58, 0, 0, 0, ⟨#[]⟩, a + (quoteD k.data.toList).length, a + (quoteD k.data.toList).length + 1, 0⟩ := by
        rw [hL1, ← List.append_assoc]; exact sign_at 58 rfl _ _ _ (by simp [ha])
      have hi := val_back hT x hall.1 (⟨6, ka ++ [k], acc⟩ :: st) (by simp only [List.length_cons]; omega) L _ (125 :: r) (a + (quoteD k.data.toList).length + 1) hL2 (by simp [ha]; omega) (Stop.cons (by simp)) (f + 1) v0
      rw [show f + costL 2 [x] = (f + 1 + costJ x) + 1 by simp only [costL]; omega, ht, key_go madeJ L _ _ _ _ _ _ rfl rfl rfl rfl (by show (nextT L (a + (quoteD k.data.toList).length)).e = 0; rw [hcol]) (by show (nextT L (a + (quoteD k.data.toList).length)).sign = 58; rw [hcol])]
      show readP madeJ L (f + 1 + costJ x) .val (⟨6, ka ++ [k], acc⟩ :: st) v0 (nextT L (nextT L (a + (quoteD k.data.toList).length)).to_) = _
      rw [hcol, hi, htl]
      have hu : nextT L (a + (quoteD k.data.toList).length + 1 + (textJ T x).length) = ⟨125, 0, 0, 0, ⟨#[]⟩, a + (quoteD k.data.toList).length + 1 + (textJ T x).length, a + (quoteD k.data.toList).length + 1 + (textJ T x).length + 1, 0⟩ := by
        rw [hL2, ← List.append_assoc]; exact sign_at 125 rfl _ _ _ (by simp [ha]; omega)
      rw [hu, off_shut madeJ L f _ _ _ _ rfl (show (125 : Nat) ≠ 44 by decide) rfl]
      simp only [List.length_append, List.length_cons]
      rw [show a + (quoteD k.data.toList).length + 1 + (textJ T x).length = a + ((quoteD k.data.toList).length + ((textJ T x).length + 1)) by omega]
      rfl
    | cons y l =>
      obtain ⟨k1, kr, rfl⟩ : ∃ k1 kr, ks = k1 :: kr := by
        cases ks with
        | nil => simp at h1
        | cons k1 kr => exact ⟨k1, kr, rfl⟩
      have htl : textL T true true (x :: y :: l) (k :: k1 :: kr) = quoteD k.data.toList ++ 58 :: (textJ T x ++ 44 :: textL T true true (y :: l) (k1 :: kr)) := by
        have := textL_comma (T := T) true y l (k1 :: kr)
        conv => lhs; simp only [textL]
        conv at this => lhs; simp only [textL]
        simp only [List.drop_succ_cons, List.drop_zero] at this ⊢
        simpa using this
      have hL1 : L = p ++ (quoteD k.data.toList ++ (58 :: (textJ T x ++ 44 :: (textL T true true (y :: l) (k1 :: kr) ++ 125 :: r)))) := by rw [hL, htl]; simp
      have hL2 : L = (p ++ quoteD k.data.toList ++ [58]) ++ (textJ T x ++ 44 :: (textL T true true (y :: l) (k1 :: kr) ++ 125 :: r)) := by rw [hL1]; simp
      have hL3 : L = (p ++ quoteD k.data.toList ++ [58] ++ textJ T x ++ [44]) ++ (textL T true true (y :: l) (k1 :: kr) ++ 125 :: r) := by rw [hL1]; simp
      have ht : nextT L a = ⟨0, 4, 0, 0, k, a, a + (quoteD k.data.toList).length, 0⟩ := by
        rw [hL1, nextT_at p _ (by unfold quoteD; intro c t e; injection e with e1 e2; subst e1; rfl) _ ha]
        exact oneT_text k hk _ _
      have hcol : nextT L (a + (quoteD k.data.toList).length) = ⟨58, 0, 0, 0, ⟨#[]⟩, a + (quoteD k.data.toList).length, a + (quoteD k.data.toList).length + 1, 0⟩ := by
        rw [hL1, ← List.append_assoc]; exact sign_at 58 rfl _ _ _ (by simp [ha])
      have hi := val_back hT x hall.1 (⟨6, ka ++ [k], acc⟩ :: st) (by simp only [List.length_cons]; omega) L _ _ (a + (quoteD k.data.toList).length + 1) hL2 (by simp [ha]; omega) (Stop.cons (by simp)) (f + costL 2 (y :: l) + 1) v0
      have hj := map_back hT (y :: l) (k1 :: kr) (by simp) (by simpa using h1) hall.2 (fun k' hk' => hks k' (by simp [hk'])) st (by omega) L _ r (a + (quoteD k.data.toList).length + 1 + (textJ T x).length + 1) hL3 (by simp [ha]; omega) f x (ka ++ [k]) (acc ++ [x])
      rw [show f + costL 2 (x :: y :: l) = (f + costL 2 (y :: l) + 1 + costJ x) + 1 by simp only [costL]; omega, ht, key_go madeJ L _ _ _ _ _ _ rfl rfl rfl rfl (by show (nextT L (a + (quoteD k.data.toList).length)).e = 0; rw [hcol]) (by show (nextT L (a + (quoteD k.data.toList).length)).sign = 58; rw [hcol])]
      show readP madeJ L (f + costL 2 (y :: l) + 1 + costJ x) .val (⟨6, ka ++ [k], acc⟩ :: st) v0 (nextT L (nextT L (a + (quoteD k.data.toList).length)).to_) = _
      rw [hcol, hi]
      have hu : nextT L (a + (quoteD k.data.toList).length + 1 + (textJ T x).length) = ⟨44, 0, 0, 0, ⟨#[]⟩, a + (quoteD k.data.toList).length + 1 + (textJ T x).length, a + (quoteD k.data.toList).length + 1 + (textJ T x).length + 1, 0⟩ := by
        rw [hL2, ← List.append_assoc]; exact sign_at 44 rfl _ _ _ (by simp [ha]; omega)
      rw [hu, off_pair madeJ L _ _ _ _ _ _ rfl rfl rfl (show (6 : Int) ≠ 5 by decide)]
      rw [hj, htl]
      simp only [List.length_append, List.length_cons, List.append_assoc, List.cons_append, List.nil_append]
      rw [show a + (quoteD k.data.toList).length + 1 + (textJ T x).length + 1 + (textL T true true (y :: l) (k1 :: kr)).length = a + ((quoteD k.data.toList).length + ((textJ T x).length + ((textL T true true (y :: l) (k1 :: kr)).length + 1) + 1)) by omega]
      rfl
end
include hT

theorem back_any (v : JV) (h : rightJ v = 0) (f : Nat) (v0 : JV) : readP madeJ (textJ T v) (f + 1 + costJ v) .val [] v0 (nextT (textJ T v) 0) = (v, 0, 0) := by
  obtain ⟨hd, ha⟩ := (rightJ_iff v).1 h
  have h1 := val_back hT v ha [] (by simpa using hd) (textJ T v) [] [] 0 (by simp) rfl Stop.nil (f + 1) v0
  rw [h1, Nat.zero_add]
  obtain ⟨h2, h3⟩ := nextT_over (textJ T v) (textJ T v).length (Nat.le_refl _)
  exact off_end madeJ _ f v _ h3 h2
/-- what is printed is read as the same value -/
theorem back_law (v : JV) (h : rightJ v = 0) (hs : (textJ T v).length ≤ 16384) : readV madeJ (textJ T v) = (v, 0, 0) := by
  have hc := costJ_le hT v ((rightJ_iff v).1 h).2
  rw [readV_short _ _ hs]
  obtain ⟨f, hf⟩ := fuel_ge (costJ v) (by omega)
  rw [hf]
  exact back_any hT v h f zeroJ
/-- two values are printed alike just if they are the same -/
theorem text_inj (a b : JV) (ha : rightJ a = 0) (hb : rightJ b = 0) (h : textJ T a = textJ T b) : a = b := by
  have h1 := back_any hT a ha (costJ b) zeroJ
  have h2 := back_any hT b hb (costJ a) zeroJ
  rw [h, show costJ b + 1 + costJ a = costJ a + 1 + costJ b by omega, h2] at h1
  injection h1 with h1 _
  exact h1.symm
end
/-! what is read may be -/
theorem take_valid (l : List UInt8) (hne : l ≠ []) (hb : ¬ badD l) : validD (l.take (decodeL l).2) = true := by
  rw [← encode_decode l hne hb]; exact valid_rune _
theorem bodyV_valid : ∀ (f : Nat) (l : List UInt8), l.length ≤ f → ∀ t k, bodyV l = some (t, k) → validD t = true := by
  intro f
  induction f with
  | zero => intro l h t k hb; obtain rfl : l = [] := List.eq_nil_of_length_eq_zero (by omega); cases hb
  | succ f ih =>
    intro l hl t k hb
    cases l with
    | nil => cases hb
    | cons c r =>
      have hw := decodeL_width (c :: r)
      rw [bodyV_cons] at hb
      rw [List.length_cons] at hl
      split at hb
      · injection hb with hb; injection hb with h1 h2; subst h1; rfl
      · split at hb
        · cases hb
        · split at hb
          · cases he : escV r with
            | none => rw [he] at hb; cases hb
            | some p =>
              obtain ⟨x, n⟩ := p
              rw [he] at hb
              simp only at hb
              cases hq : bodyV (r.drop n) with
              | none => rw [hq] at hb; cases hb
              | some q =>
                obtain ⟨t', k'⟩ := q
                rw [hq] at hb
                injection hb with hb; injection hb with h1 h2; subst h1
                exact validD_append (valid_rune _) (ih (r.drop n) (by rw [List.length_drop]; omega) t' k' hq)
          · split at hb
            · cases hb
            · rename_i hbad
              cases hq : bodyV ((c :: r).drop (decodeL (c :: r)).2) with
              | none => rw [hq] at hb; cases hb
              | some q =>
                obtain ⟨t', k'⟩ := q
                rw [hq] at hb
                injection hb with hb; injection hb with h1 h2; subst h1
                exact validD_append (take_valid _ (by simp) hbad) (ih ((c :: r).drop (decodeL (c :: r)).2) (by rw [List.length_drop, List.length_cons]; omega) t' k' hq)
theorem readQ_valid (l : List UInt8) (h : (readQ l).2.2 = 0) : validD (readQ l).1 = true := by
  cases l with
  | nil => simp [readQ] at h
  | cons c r =>
    simp only [readQ] at h ⊢
    by_cases hc : c = 34
    · rw [if_pos hc] at h ⊢
      cases hb : bodyV r with
      | none => rw [hb] at h; simp at h
      | some p =>
        obtain ⟨t, k⟩ := p
        exact bodyV_valid _ r (Nat.le_refl _) t k hb
    · rw [if_neg hc] at h; simp at h
def TokOk (t : Tk) : Prop := t.e = 0 → t.sign = 0 → allJ t.v = true
/-- a number's text is one that may be -/
def ParseOk : Prop := ∀ (l : List UInt8) (m e : Int), parseN l = ((m, e), 0) → right m e = true
theorem plain_ok (k : Int) (h : 0 ≤ k ∧ k ≤ 2) : allJ (.mk k 0 0 ⟨#[]⟩ [] []) = true := by
  have : k = 0 ∨ k = 1 ∨ k = 2 := by omega
  rcases this with rfl | rfl | rfl <;> rfl
theorem wordV_kind (l : List UInt8) : 0 ≤ (wordV l).1 ∧ (wordV l).1 ≤ 2 := by
  unfold wordV
  repeat' split
  all_goals exact ⟨by simp, by simp⟩
theorem oneT_ok (hP : ParseOk) (l : List UInt8) (a : Nat) : TokOk (oneT l a) := by
  cases l with
  | nil => intro _ h; cases h
  | cons c r =>
    simp only [oneT]
    by_cases c1 : signC c = true
    · rw [if_pos c1]
      intro _ h
      have h : c.toNat = 0 := h
      unfold signC at c1
      simp [h] at c1
    rw [if_neg c1]
    by_cases c2 : c.toNat = 34
    · rw [if_pos c2]
      intro he _
      have hv := readQ_valid (c :: r) he
      show allJ (.mk 4 0 0 ⟨(readQ (c :: r)).1.toArray⟩ [] []) = true
      simp only [allJ, okOne, allL, riseK]
      simp [right, hv]
    rw [if_neg c2]
    by_cases c3 : letterC c = true
    · rw [if_pos c3]
      intro _ _
      exact plain_ok _ (wordV_kind _)
    rw [if_neg c3]
    by_cases c4 : c.toNat = 45 ∨ (48 ≤ c.toNat ∧ c.toNat ≤ 57)
    · rw [if_pos c4]
      intro he _
      have hr := hP ((c :: r).take (runB numC (c :: r))) (parseN ((c :: r).take (runB numC (c :: r)))).1.1 (parseN ((c :: r).take (runB numC (c :: r)))).1.2 (Prod.ext rfl he)
      show allJ (.mk 3 _ _ ⟨#[]⟩ [] []) = true
      simp only [allJ, okOne, allL, riseK, hr]
      rfl
    · rw [if_neg c4]
      intro he; cases he
theorem nextT_ok (hP : ParseOk) (l : List UInt8) (a : Nat) : TokOk (nextT l a) := oneT_ok hP _ _
theorem key_ok {t : Tk} (h : TokOk t) (he : t.e = 0) (hs : t.sign = 0) : validD t.s.data.toList = true := by
  have := allJ_parts (h he hs)
  exact this.2.2.2.2.2.2.2.1
def OkS : List OJ → Prop
  | [] => True
  | o :: r => (∀ k ∈ o.keys, validD k.data.toList = true) ∧ (∀ v ∈ o.list, allJ v = true ∧ depthJ v + (r.length + 1) ≤ 48) ∧ OkS r
theorem makeJ_ok (ks : List ByteArray) (l : List JV) (d : Nat) (hl : ∀ v ∈ l, allJ v = true ∧ depthJ v + (d + 1) ≤ 48) (hd : d + 1 ≤ 48) : allJ (makeJ ks l).1 = true ∧ depthJ (makeJ ks l).1 + d ≤ 48 := by
  have hz : allJ zeroJ = true ∧ depthJ zeroJ + d ≤ 48 := ⟨rfl, by show 1 + 0 + d ≤ 48; omega⟩
  unfold makeJ
  by_cases h0 : ks.length ≠ l.length
  · rw [if_pos h0]; exact hz
  rw [if_neg h0]
  by_cases h1 : ks.all (fun k => validD k.data.toList) = false
  · rw [if_pos h1]; exact hz
  rw [if_neg h1]
  by_cases h2 : badL l ≠ 0
  · rw [if_pos h2]; exact hz
  rw [if_neg h2]
  by_cases h3 : rightJ (.mk 6 0 0 ⟨#[]⟩ ((keysJ ks).map fun k => l.getD (lastIx ks ks.length k) zeroJ) (keysJ ks)) ≠ 0
  · rw [if_pos h3]; exact hz
  rw [if_neg h3]
  obtain ⟨h4, h5⟩ := (rightJ_iff _).1 (Classical.not_not.1 h3)
  refine ⟨h5, ?_⟩
  show 1 + depthL _ + d ≤ 48
  have : depthL ((keysJ ks).map fun k => l.getD (lastIx ks ks.length k) zeroJ) ≤ 48 - (d + 1) := by
    refine (depthL_mem _ _).2 fun v hv => ?_
    obtain ⟨k, hk, rfl⟩ := List.mem_map.1 hv
    rcases Nat.lt_or_ge (lastIx ks ks.length k) l.length with h | h
    · rw [List.getD_eq_getElem?_getD, List.getElem?_eq_getElem h]
      have := (hl _ (List.getElem_mem h)).2
      show depthJ l[lastIx ks ks.length k] ≤ _
      omega
    · exact absurd (lastIx_lt ks ks.length k (by
        obtain ⟨j, hj, e⟩ := List.mem_iff_getElem.1 ((mem_keysJ ks k).1 hk)
        exact ⟨j, hj, by rw [List.getD_eq_getElem?_getD, List.getElem?_eq_getElem hj, ← e]; rfl⟩)).1 (by omega)
  omega
theorem madeJ_ok (o : OJ) (r : List OJ) (h : OkS (o :: r)) (hd : (o :: r).length ≤ 48) : allJ (madeJ o) = true ∧ depthJ (madeJ o) + r.length ≤ 48 := by
  obtain ⟨-, h2, -⟩ := h
  rw [List.length_cons] at hd
  unfold madeJ
  by_cases hk : o.kind = 5
  · rw [if_pos hk]
    have ha : allL o.list = true := (allL_mem _).2 fun v hv => (h2 v hv).1
    have hdl : depthL o.list ≤ 48 - (r.length + 1) := (depthL_mem _ _).2 fun v hv => by have := (h2 v hv).2; omega
    constructor
    · simp only [allJ, okOne, ha, riseK]; rfl
    · show 1 + depthL o.list + r.length ≤ 48; omega
  · rw [if_neg hk]; exact makeJ_ok _ _ _ h2 (by omega)
theorem readP_right (hP : ParseOk) (l : List UInt8) : ∀ (f : Nat) (ph : Ph) (st : List OJ) (v : JV) (t : Tk), TokOk t → OkS st → st.length ≤ 48 → (ph = .off → allJ v = true ∧ depthJ v + st.length ≤ 48) → (readP madeJ l f ph st v t).2.2 = 0 → rightJ (readP madeJ l f ph st v t).1 = 0 := by
  intro f
  induction f with
  | zero => intro ph st v t _ _ _ _ h; cases h
  | succ f ih =>
    intro ph st v t ht hS hst hv
    have hn := nextT_ok hP l t.to_
    cases ph with
    | val =>
      simp only [readP]
      by_cases c1 : t.e ≠ 0
      · rw [if_pos c1]; intro h; exact absurd h c1
      rw [if_neg c1]
      have he : t.e = 0 := Classical.not_not.1 c1
      by_cases c2 : t.sign ≠ 0 ∧ t.sign ≠ 91 ∧ t.sign ≠ 123
      · rw [if_pos c2]; intro h; cases h
      rw [if_neg c2]
      by_cases c3 : st.length = 48
      · rw [if_pos c3]; intro h; cases h
      rw [if_neg c3]
      by_cases c4 : t.sign = 0
      · rw [if_pos c4]
        exact ih _ _ _ _ hn hS hst (fun _ => ⟨ht he c4, by show 1 + 0 + st.length ≤ 48; omega⟩)
      rw [if_neg c4]
      by_cases c5 : (nextT l t.to_).e = 0 ∧ isShut ⟨if t.sign = 123 then 6 else 5, [], []⟩ (nextT l t.to_) = true
      · rw [if_pos c5]
        exact ih _ _ _ _ hn ⟨by simp, by simp, hS⟩ (by rw [List.length_cons]; omega) (fun h => by cases h)
      rw [if_neg c5]
      by_cases c6 : t.sign = 123
      · rw [if_pos c6]
        exact ih _ _ _ _ hn ⟨by simp, by simp, hS⟩ (by rw [List.length_cons]; omega) (fun h => by cases h)
      · rw [if_neg c6]
        exact ih _ _ _ _ hn ⟨by simp, by simp, hS⟩ (by rw [List.length_cons]; omega) (fun h => by cases h)
    | key =>
      simp only [readP]
      by_cases c1 : t.e ≠ 0
      · rw [if_pos c1]; intro h; exact absurd h c1
      rw [if_neg c1]
      have he : t.e = 0 := Classical.not_not.1 c1
      by_cases c2 : t.sign ≠ 0 ∨ t.k ≠ 4
      · rw [if_pos c2]; intro h; cases h
      rw [if_neg c2]
      have hs : t.sign = 0 := by omega
      cases st with
      | nil => intro h; cases h
      | cons o r =>
        by_cases c3 : (nextT l t.to_).e ≠ 0
        · simp only; rw [if_pos c3]; intro h; exact absurd h c3
        simp only
        rw [if_neg c3]
        by_cases c4 : (nextT l t.to_).sign ≠ 58
        · rw [if_pos c4]; intro h; cases h
        rw [if_neg c4]
        obtain ⟨h1, h2, h3⟩ := hS
        refine ih _ _ _ _ (nextT_ok hP l _) ⟨fun k hk => ?_, h2, h3⟩ hst (fun h => by cases h)
        rcases List.mem_append.1 hk with hk | hk
        · exact h1 k hk
        · rw [List.mem_singleton.1 hk]; exact key_ok ht he hs
    | off =>
      obtain ⟨hv1, hv2⟩ := hv rfl
      simp only [readP]
      by_cases c1 : t.e ≠ 0
      · rw [if_pos c1]; intro h; exact absurd h c1
      rw [if_neg c1]
      cases st with
      | nil =>
        simp only
        by_cases c2 : t.sign = 255
        · rw [if_pos c2]; intro _; exact (rightJ_iff v).2 ⟨by simpa using hv2, hv1⟩
        · rw [if_neg c2]; intro h; cases h
      | cons o r =>
        obtain ⟨h1, h2, h3⟩ := hS
        have hS2 : OkS (⟨o.kind, o.keys, o.list ++ [v]⟩ :: r) := ⟨h1, fun x hx => by
          rcases List.mem_append.1 hx with hx | hx
          · exact h2 x hx
          · rw [List.mem_singleton.1 hx]; rw [List.length_cons] at hv2; exact ⟨hv1, by omega⟩, h3⟩
        simp only
        repeat' split
        · exact ih _ _ _ _ hn hS2 hst (fun h => by cases h)
        · exact ih _ _ _ _ hn hS2 hst (fun h => by cases h)
        · exact ih _ _ _ _ ht hS2 hst (fun h => by cases h)
        · intro h; cases h
    | end_ =>
      simp only [readP]
      cases st with
      | nil => intro h; cases h
      | cons o r =>
        have hm := madeJ_ok o r hS hst
        exact ih _ _ _ _ hn hS.2.2 (by rw [List.length_cons] at hst; omega) (fun _ => hm)
theorem read_right (hP : ParseOk) (l : List UInt8) (h : (readV madeJ l).2.2 = 0) : rightJ (readV madeJ l).1 = 0 := by
  unfold readV at *
  by_cases hl : 16384 < l.length
  · rw [if_pos hl] at h; cases h
  · rw [if_neg hl] at h ⊢
    exact readP_right hP l _ _ _ _ _ (nextT_ok hP l 0) True.intro (by simp) (fun h => by cases h) h
theorem readV_big (l : List UInt8) (h : 16384 < l.length) : readV madeJ l = (zeroJ, 0, 3) := by unfold readV; rw [if_pos h]
theorem readV_zero (l : List UInt8) (h : (readV madeJ l).2.2 = 0) : (readV madeJ l).2.1 = 0 := by
  have key : ∀ (f : Nat) (ph : Ph) (st : List OJ) (v : JV) (t : Tk), (readP madeJ l f ph st v t).2.2 = 0 → (readP madeJ l f ph st v t).2.1 = 0 := by
    intro f
    induction f with
    | zero => intro ph st v t h; cases h
    | succ f ih =>
      intro ph st v t
      cases ph with
      | val =>
        simp only [readP]
        repeat' split
        all_goals first
          | (rename_i h0; intro h; exact absurd h h0)
          | (intro h; cases h; done)
          | exact ih _ _ _ _
      | key =>
        simp only [readP]
        repeat' split
        all_goals first
          | (rename_i h0; intro h; exact absurd h h0)
          | (intro h; cases h; done)
          | exact ih _ _ _ _
      | off =>
        simp only [readP]
        repeat' split
        all_goals first
          | (rename_i h0; intro h; exact absurd h h0)
          | (intro h; cases h; done)
          | (intro _; rfl)
          | exact ih _ _ _ _
      | end_ =>
        simp only [readP]
        split
        · intro h; cases h
        · exact ih _ _ _ _
  unfold readV at *
  split
  · rfl
  · rename_i hl
    rw [if_neg hl] at h
    exact key _ _ _ _ _ h
/-! sizes of what is read -/
structure TokW (l : List UInt8) (t : Tk) : Prop where
  at_ : t.at_ ≤ l.length
  to_ : t.to_ ≤ l.length
  le : t.at_ ≤ t.to_
  w : t.e = 0 → t.sign ≠ 255 → t.at_ + 1 + t.s.size ≤ t.to_
theorem oneT_le (l : List UInt8) (a : Nat) : (oneT l a).at_ ≤ (oneT l a).to_ := by
  cases l with
  | nil => exact Nat.le_refl _
  | cons c r =>
    simp only [oneT]
    repeat' split
    all_goals (simp only; omega)
theorem nextT_W (l : List UInt8) (a : Nat) (h : a ≤ l.length) : TokW l (nextT l a) ∧ a ≤ (nextT l a).at_ :=
  have h2 := nextT_to l a h
  ⟨⟨h2.2.2, h2.1, oneT_le _ _, nextT_weight l a⟩, h2.2.1⟩
def offJ : Ph → JV → Nat
  | .off, v => sizeJ v
  | _, _ => 0
theorem readP_size (l : List UInt8) : ∀ (f : Nat) (ph : Ph) (st : List OJ) (v : JV) (t : Tk), TokW l t → weighS st + offJ ph v ≤ t.at_ → sizeJ (readP madeJ l f ph st v t).1 ≤ l.length + 1 := by
  intro f
  have hz : sizeJ zeroJ ≤ l.length + 1 := by show 1 + 0 + 0 + 0 ≤ _; omega
  induction f with
  | zero => intro ph st v t _ _; exact hz
  | succ f ih =>
    intro ph st v t ht hw
    have hn := nextT_W l t.to_ ht.to_
    have hta := ht.at_
    cases ph with
    | val =>
      simp only [offJ] at hw
      simp only [readP]
      by_cases c1 : t.e ≠ 0
      · rw [if_pos c1]; exact hz
      rw [if_neg c1]
      have he : t.e = 0 := Classical.not_not.1 c1
      by_cases c2 : t.sign ≠ 0 ∧ t.sign ≠ 91 ∧ t.sign ≠ 123
      · rw [if_pos c2]; exact hz
      rw [if_neg c2]
      have hW := ht.w he (by omega)
      have hn2 := hn.2
      by_cases c3 : st.length = 48
      · rw [if_pos c3]; exact hz
      rw [if_neg c3]
      by_cases c4 : t.sign = 0
      · rw [if_pos c4]
        refine ih _ _ _ _ hn.1 ?_
        show weighS st + (1 + t.s.size + 0 + 0) ≤ _
        omega
      rw [if_neg c4]
      repeat' split
      all_goals
        refine ih _ _ _ _ hn.1 ?_
        show (1 + 0 + 0) + weighS st + 0 ≤ _
        omega
    | key =>
      simp only [offJ] at hw
      simp only [readP]
      by_cases c1 : t.e ≠ 0
      · rw [if_pos c1]; exact hz
      rw [if_neg c1]
      have he : t.e = 0 := Classical.not_not.1 c1
      by_cases c2 : t.sign ≠ 0 ∨ t.k ≠ 4
      · rw [if_pos c2]; exact hz
      rw [if_neg c2]
      have hW := ht.w he (by omega)
      have hn2 := hn.2
      cases st with
      | nil => exact hz
      | cons o r =>
        simp only
        by_cases c3 : (nextT l t.to_).e ≠ 0
        · rw [if_pos c3]; exact hz
        rw [if_neg c3]
        by_cases c4 : (nextT l t.to_).sign ≠ 58
        · rw [if_pos c4]; exact hz
        rw [if_neg c4]
        have hW2 := hn.1.w (Classical.not_not.1 c3) (by omega)
        have hn3 := nextT_W l (nextT l t.to_).to_ hn.1.to_
        have hn4 := hn3.2
        refine ih _ _ _ _ hn3.1 ?_
        show (1 + keysN (o.keys ++ [t.s]) + sizeL o.list) + weighS r + 0 ≤ _
        rw [keysN_snoc]
        have hw : (1 + keysN o.keys + sizeL o.list) + weighS r + 0 ≤ t.at_ := hw
        omega
    | off =>
      simp only [offJ] at hw
      simp only [readP]
      by_cases c1 : t.e ≠ 0
      · rw [if_pos c1]; exact hz
      rw [if_neg c1]
      have he : t.e = 0 := Classical.not_not.1 c1
      have hn2 := hn.2
      cases st with
      | nil =>
        simp only
        split
        · show sizeJ v ≤ _; omega
        · exact hz
      | cons o r =>
        have hw : (1 + keysN o.keys + sizeL o.list) + weighS r + sizeJ v ≤ t.at_ := hw
        have h2 : weighS (⟨o.kind, o.keys, o.list ++ [v]⟩ :: r) ≤ t.at_ := by
          show (1 + keysN o.keys + sizeL (o.list ++ [v])) + weighS r ≤ _
          rw [sizeL_snoc]; omega
        simp only
        by_cases c2 : t.sign = 44
        · have hW := ht.w he (by omega)
          rw [if_pos c2]
          split
          · refine ih _ _ _ _ hn.1 ?_
            simp only [offJ]; omega
          · refine ih _ _ _ _ hn.1 ?_
            simp only [offJ]; omega
        · rw [if_neg c2]
          split
          · refine ih _ _ _ _ ht ?_
            simp only [offJ]; omega
          · exact hz
    | end_ =>
      simp only [offJ] at hw
      simp only [readP]
      cases st with
      | nil => exact hz
      | cons o r =>
        have hw : weighO o + weighS r + 0 ≤ t.at_ := hw
        have hm := madeJ_size o
        simp only
        refine ih _ _ _ _ hn.1 ?_
        have hn2 := hn.2
        have hle := ht.le
        simp only [offJ]
        omega
theorem read_size (l : List UInt8) : sizeJ (readV madeJ l).1 ≤ l.length + 1 := by
  unfold readV
  split
  · show 1 + 0 + 0 + 0 ≤ _; omega
  · exact readP_size l _ _ _ _ _ (nextT_W l 0 (Nat.zero_le _)).1 (Nat.zero_le _)
end Th
