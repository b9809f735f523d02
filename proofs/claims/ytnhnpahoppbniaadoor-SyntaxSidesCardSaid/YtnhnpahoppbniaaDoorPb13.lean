/- Lemmas and contracts for the laws SyntaxBrackets, SyntaxJoins, SyntaxSides, part 13 of 44: ScanMv, SynTotP, SynBad. Conditions: those that each lemma names. -/
import Derived.Test.YtnhnpahoppbniaaDoorPb11
import Derived.Test.YtnhnpahoppbniaaDoorPb10
namespace Th
open Go Go.Lib
def Cut (u : List UInt8) : Prop := u = [] ∨ ∃ r, u = 10 :: r
theorem runB_cut {p : UInt8 → Bool} (hp : p 10 = false) {u : List UInt8} (hu : Cut u) : ∀ l : List UInt8, runB p (l ++ u) = runB p l
  | [] => by
    rcases hu with rfl | ⟨r, rfl⟩
    · rfl
    · simp [runB, hp]
  | c :: l => by
    simp only [List.cons_append, runB]
    rw [runB_cut hp hu l]
theorem get_cut {u : List UInt8} (hu : Cut u) {l : List UInt8} {n : Nat} (hn : n ≤ l.length) {c : UInt8} (hc : c ≠ 10) : (l ++ u)[n]? = some c ↔ l[n]? = some c := by
  rcases Nat.lt_or_ge n l.length with h | h
  · rw [List.getElem?_append_left h]
  · obtain rfl : n = l.length := by omega
    rw [List.getElem?_append_right (Nat.le_refl _), Nat.sub_self, List.getElem?_eq_none (Nat.le_refl _)]
    rcases hu with rfl | ⟨r, rfl⟩
    · rfl
    · show some 10 = some c ↔ _
      exact ⟨fun h => by injection h with h; exact absurd h.symm hc, fun h => by cases h⟩
theorem digN_cut {u : List UInt8} (hu : Cut u) {l : List UInt8} {n : Nat} (hn : n ≤ l.length) : digN ((l ++ u).drop n) = digN (l.drop n) := by
  rw [List.drop_append_of_le_length hn]; exact runB_cut (by decide) hu _
theorem dotN_cut {u : List UInt8} (hu : Cut u) {l : List UInt8} {n : Nat} (hn : n ≤ l.length) : dotN (l ++ u) n = dotN l n ∧ dotN l n ≤ l.length := by
  unfold dotN
  by_cases h : l[n]? = some 46
  · have hl := (List.getElem?_eq_some_iff.1 h).1
    rw [digN_cut hu (by omega)]
    simp only [get_cut hu hn (show (46 : UInt8) ≠ 10 by decide)]
    refine ⟨trivial, ?_⟩
    split
    · have := runB_le isDg (l.drop (n + 1))
      rw [List.length_drop] at this
      show n + 1 + runB isDg _ ≤ _
      omega
    · exact hn
  · rw [if_neg (fun hh => h ((get_cut hu hn (by decide)).1 hh.1)), if_neg (fun hh => h hh.1)]
    exact ⟨rfl, hn⟩
theorem expN_cut {u : List UInt8} (hu : Cut u) {l : List UInt8} {n : Nat} (hn : n ≤ l.length) : expN (l ++ u) n = expN l n := by
  unfold expN
  by_cases h : l[n]? = some 101 ∨ l[n]? = some 69
  · have hl : n < l.length := by rcases h with h | h <;> exact (List.getElem?_eq_some_iff.1 h).1
    have e : expAt (l ++ u) n = expAt l n := by
      unfold expAt
      simp only [get_cut hu (show n + 1 ≤ l.length by omega) (show (43 : UInt8) ≠ 10 by decide), get_cut hu (show n + 1 ≤ l.length by omega) (show (45 : UInt8) ≠ 10 by decide)]
    have e2 : expAt l n ≤ l.length := by
      unfold expAt
      split
      · rename_i h2
        have : n + 1 < l.length := by rcases h2 with h2 | h2 <;> exact (List.getElem?_eq_some_iff.1 h2).1
        omega
      · omega
    rw [e, digN_cut hu e2]
    simp only [get_cut hu hn (show (101 : UInt8) ≠ 10 by decide), get_cut hu hn (show (69 : UInt8) ≠ 10 by decide)]
  · rw [if_neg (fun hh => h (hh.1.imp (get_cut hu hn (by decide)).1 (get_cut hu hn (by decide)).1)), if_neg (fun hh => h hh.1)]
theorem numN_cut {u : List UInt8} (hu : Cut u) (l : List UInt8) : numN (l ++ u) = numN l := by
  have h0 : digN (l ++ u) = digN l := runB_cut (by decide) hu l
  unfold numN
  rw [h0]
  split
  · rfl
  · obtain ⟨h1, h2⟩ := dotN_cut hu (show digN l ≤ l.length from runB_le _ l)
    rw [h1, expN_cut hu h2]
theorem nameN_cut {u : List UInt8} (hu : Cut u) (l : List UInt8) : nameN (l ++ u) = nameN l := by
  cases l with
  | nil =>
    rcases hu with rfl | ⟨r, rfl⟩
    · rfl
    · rfl
  | cons c l =>
    simp only [List.cons_append, nameN]
    rw [runB_cut (by decide) hu l]
theorem signN_cut {u : List UInt8} (hu : Cut u) (c : UInt8) (l : List UInt8) : signN (c :: l ++ u) = signN (c :: l) := by
  rcases hu with rfl | ⟨r, rfl⟩
  · rw [List.append_nil]
  · rcases l with _ | ⟨d, _ | ⟨e, l⟩⟩
    · simp [signN, twoL]
    · simp [signN, twoL]
    · rfl
theorem tokP_cut {u : List UInt8} (hu : Cut u) (c : UInt8) (l : List UInt8) : tokP (c :: (l ++ u)) = tokP (c :: l) := by
  have h1 := nameN_cut hu (c :: l)
  have h2 := nameN_cut hu l
  have h3 := numN_cut hu (c :: l)
  have h4 := signN_cut hu c l
  rw [List.cons_append] at h1 h3 h4
  simp only [tokP, h1, h2, h3, h4]
theorem skipN_mid {u : List UInt8} : ∀ (b : Bool) (l : List UInt8), skipN b l < l.length → skipN b (l ++ u) = skipN b l
  | _, [], h => absurd h (Nat.lt_irrefl _)
  | b, c :: l, h => by
    simp only [List.cons_append, skipN, List.length_cons] at h ⊢
    split
    · rename_i hc
      rw [if_pos hc] at h
      rw [skipN_mid _ l (by omega)]
    · rfl
theorem skipN_end {u : List UInt8} (hu : Cut u) : ∀ (b : Bool) (l : List UInt8), skipN b l = l.length → skipN b (l ++ u) = l.length + skipN false u
  | b, [], _ => by
    rcases hu with rfl | ⟨r, rfl⟩
    · cases b <;> rfl
    · cases b <;> simp [skipN, blankC]
  | b, c :: l, h => by
    simp only [List.cons_append, skipN, List.length_cons] at h ⊢
    by_cases hc : b = true ∨ blankC c = true ∨ c = 35
    · rw [if_pos hc] at h ⊢
      rw [skipN_end hu _ l (by omega)]; omega
    · rw [if_neg hc] at h; omega
theorem skipA_mv {L L' u : List UInt8} {p : Nat} (hL : L'.drop p = L ++ u) (hu : Cut u) {a : Nat} (ha : a ≤ L.length) : skipA L' (p + a) = if skipA L a < L.length then p + skipA L a else p + L.length + skipN false u := by
  have e : L'.drop (p + a) = L.drop a ++ u := by rw [← List.drop_drop, hL, List.drop_append_of_le_length ha]
  have hl := skipN_le false (L.drop a)
  unfold skipA
  rw [e]
  rw [List.length_drop] at hl
  split
  · rw [skipN_mid _ _ (by rw [List.length_drop]; omega)]; omega
  · rw [skipN_end hu _ _ (by rw [List.length_drop]; omega), List.length_drop]; omega
structure Mv (p : Nat) (x y : Tf × Nat × Nat) : Prop where
  e : y.2 = (p + x.2.1, 0)
  k : y.1.kind = x.1.kind
  t : y.1.text = x.1.text
theorem qGo_mv {L L' u : List UInt8} {p : Nat} (hL : L'.drop p = L ++ u) (hu : Cut u) {one one' : Nat → Tf × Nat × Nat} (hok : ∀ a, a ≤ L.length → OneOk L a (one a))
    (ho : ∀ a, a ≤ L.length → (one a).2.2 = 0 → (one a).1.kind ≠ 0 → Mv p (one a) (one' (p + a))) (f f' : Nat) : ∀ (n n' o a e : Nat), n ≤ n' → (0 < o → a ≤ L.length) → qGo L one f n o a = (e, 0) → qGo L' one' f' n' o (p + a) = (p + e, 0) := by
  have hg : ∀ x, L'[p + x]? = (L ++ u)[x]? := fun x => by rw [← List.getElem?_drop, hL]
  intro n
  induction n with
  | zero => intro n' o a e _ _ h; exact absurd (show (20 : Nat) = 0 from congrArg Prod.snd h) (by decide)
  | succ n ih =>
    intro n' o a e hn ha h
    obtain ⟨m, rfl⟩ : ∃ m, n' = m + 1 := ⟨n' - 1, by omega⟩
    cases o with
    | zero =>
      simp only [qGo] at h ⊢
      cases hc : L[a]? with
      | none => rw [hc] at h; exact absurd (show (20 : Nat) = 0 from congrArg Prod.snd h) (by decide)
      | some c =>
        have hlt := (List.getElem?_eq_some_iff.1 hc).1
        rw [hg a, List.getElem?_append_left hlt, hc]
        rw [hc] at h
        dsimp only at h ⊢
        by_cases h34 : c = 34
        · rw [if_pos h34] at h ⊢
          injection h with h1 _
          rw [← h1]; rfl
        rw [if_neg h34] at h ⊢
        by_cases h92 : c ≠ 92
        · rw [if_pos h92] at h ⊢
          exact ih m 0 (a + 1) e (by omega) (by omega) h
        rw [if_neg h92] at h ⊢
        have hx : L'[p + a + 1]? = some 40 ↔ L[a + 1]? = some 40 := by rw [Nat.add_assoc, hg]; exact get_cut hu (by omega) (by decide)
        by_cases h40 : L[a + 1]? = some 40
        · rw [if_pos h40] at h
          rw [if_pos (hx.2 h40)]
          have := (List.getElem?_eq_some_iff.1 h40).1
          exact ih m 1 (a + 2) e (by omega) (by omega) h
        · rw [if_neg h40] at h
          rw [if_neg (fun hh => h40 (hx.1 hh))]
          exact ih m 0 (a + 2) e (by omega) (by omega) h
    | succ o =>
      have hal := ha (by omega)
      have hok := hok a hal
      simp only [qGo] at h ⊢
      by_cases h1 : (one a).2.2 ≠ 0
      · rw [if_pos h1] at h; injection h with _ h; exact absurd h h1
      rw [if_neg h1] at h
      by_cases h2 : (one a).1.kind = 0
      · rw [if_pos h2] at h; exact absurd (show (20 : Nat) = 0 from congrArg Prod.snd h) (by decide)
      rw [if_neg h2] at h
      have hm := ho a hal (by omega) h2
      rw [if_neg (by rw [hm.e]; simp), if_neg (by rw [hm.k]; exact h2), hm.k, hm.t, hm.e]
      exact ih m _ _ e (by omega) (fun _ => hok.le) h
theorem oneG_mv {L L' u : List UInt8} {p b : Nat} (hL : L'.drop p = L ++ u) (hu : Cut u) {quote quote' : Nat → Nat × Nat} (hqb : ∀ f, f < L.length → (quote f).1 ≤ L.length ∧ ((quote f).2 = 0 → f < (quote f).1))
    (hq : ∀ f e, f < L.length → quote f = (e, 0) → quote' (p + f) = (p + e, 0)) (h0 : (oneG L quote b).2.2 = 0) (hk : (oneG L quote b).1.kind ≠ 0) : Mv p (oneG L quote b) (oneG L' quote' (p + b)) := by
  unfold oneG at h0 hk ⊢
  cases hd : L.drop b with
  | nil => rw [hd] at hk; exact absurd rfl hk
  | cons c r =>
    have hlen : (c :: r).length = L.length - b := by rw [← hd, List.length_drop]
    rw [List.length_cons] at hlen
    have e : L'.drop (p + b) = c :: (r ++ u) := by rw [← List.drop_drop, hL, List.drop_append_of_le_length (by omega), hd]; rfl
    rw [hd] at h0 hk
    rw [e]
    dsimp only at h0 hk ⊢
    by_cases h34 : c = 34
    · rw [if_pos h34] at h0 hk ⊢
      rw [if_pos h34]
      obtain ⟨h1, h2⟩ := hqb b (by omega)
      by_cases h3 : (quote b).2 ≠ 0
      · rw [if_pos h3] at h0; exact absurd h0 h3
      · have h5 := h2 (by omega)
        have h4 := hq b (quote b).1 (by omega) (Prod.ext rfl (by omega))
        rw [if_neg h3, if_neg (by rw [h4]; simp), h4]
        refine ⟨rfl, rfl, ?_⟩
        show (⟨_⟩ : ByteArray) = ⟨_⟩
        rw [show p + (quote b).1 - (p + b) = (quote b).1 - b by omega, ← List.cons_append, List.take_append_of_le_length (by rw [List.length_cons]; omega)]
    · rw [if_neg h34] at h0 hk ⊢
      rw [if_neg h34, tokP_cut hu]
      by_cases h4 : (tokP (c :: r)).1 = 0
      · rw [if_pos h4] at h0; cases h0
      · rw [if_neg h4, if_neg h4]
        have h6 := (tokP_le (c :: r)).1
        refine ⟨by show (p + b + _, 0) = _; rw [Nat.add_assoc], rfl, ?_⟩
        show (⟨_⟩ : ByteArray) = ⟨_⟩
        rw [← List.cons_append, List.take_append_of_le_length h6]
theorem none_end {L : List UInt8} {q : Nat → Nat × Nat} {b : Nat} (h0 : (oneG L q b).2.2 = 0) (hk : (oneG L q b).1.kind = 0) : L.drop b = [] := by
  unfold oneG at h0 hk
  cases hd : L.drop b with
  | nil => rfl
  | cons c r =>
    rw [hd] at h0 hk
    dsimp only at h0 hk
    by_cases h34 : c = 34
    · rw [if_pos h34] at h0 hk
      by_cases h3 : (q b).2 ≠ 0
      · rw [if_pos h3] at h0; exact absurd h0 h3
      · rw [if_neg h3] at hk; cases hk
    · rw [if_neg h34] at h0 hk
      by_cases h4 : (tokP (c :: r)).1 = 0
      · rw [if_pos h4] at h0; cases h0
      · rw [if_neg h4] at hk; exact absurd hk h4
theorem end_none {L : List UInt8} {q : Nat → Nat × Nat} {b : Nat} (h : L.length ≤ b) : oneG L q b = (noTf, b, 0) := by
  unfold oneG
  rw [List.drop_eq_nil_of_le h]
theorem oneF_mv {L L' u : List UInt8} {p : Nat} (hL : L'.drop p = L ++ u) (hu : Cut u) : ∀ (d a : Nat), a ≤ L.length → (oneF L d a).2.2 = 0 → (oneF L d a).1.kind ≠ 0 → Mv p (oneF L d a) (oneF L' d (p + a)) := by
  have hlen : L.length ≤ L'.length := by
    have := congrArg List.length hL
    rw [List.length_drop, List.length_append] at this; omega
  have step : ∀ d, (∀ f e, f < L.length → quoteF L d f = (e, 0) → quoteF L' d (p + f) = (p + e, 0)) → ∀ a, a ≤ L.length → (oneF L d a).2.2 = 0 → (oneF L d a).1.kind ≠ 0 → Mv p (oneF L d a) (oneF L' d (p + a)) := by
    intro d hq a ha h0 hk
    rw [oneF_eq] at h0 hk ⊢
    rw [oneF_eq]
    have hlt : skipA L a < L.length := by
      rcases Nat.lt_or_ge (skipA L a) L.length with h | h
      · exact h
      · rw [end_none h] at hk; exact absurd rfl hk
    rw [skipA_mv hL hu ha, if_pos hlt]
    exact oneG_mv hL hu (fun f hf => quoteF_ok L d f hf) hq h0 hk
  intro d
  induction d with
  | zero => exact step 0 fun f e _ h => by injection h with _ h; cases h
  | succ d ih => exact step (d + 1) fun f e hf h => qGo_mv hL hu (oneF_ok L d) ih f _ (L.length + 2) (L'.length + 2) 0 (f + 1) e (by omega) (by omega) h
inductive Sc (L : List UInt8) : Nat → List Tf → Nat → Prop
  | nil {a b : Nat} (h : skipA L a = skipA L b) : Sc L a [] b
  | cons {a b c : Nat} {t : Tf} {l : List Tf} (h : oneF L 48 a = (t, b, 0)) (hk : t.kind ≠ 0) (hr : Sc L b l c) : Sc L a (t :: l) c
theorem oneF_skip {L : List UInt8} {d a b : Nat} (h : skipA L a = skipA L b) : oneF L d a = oneF L d b := by rw [oneF_eq, oneF_eq, h]
theorem Sc.trans {L : List UInt8} {a b c : Nat} {l m : List Tf} (h1 : Sc L a l b) (h2 : Sc L b m c) : Sc L a (l ++ m) c := by
  induction h1 with
  | nil h => cases h2 with
    | nil h' => exact .nil (h.trans h')
    | cons h' hk hr => exact .cons (by rw [oneF_skip h]; exact h') hk hr
  | cons h hk hr ih => exact .cons h hk (ih h2)
theorem Sc.le {L : List UInt8} {a b : Nat} {l : List Tf} (h : Sc L a l b) : a ≤ L.length → skipA L a + l.length ≤ skipA L b := by
  induction h with
  | nil h => intro _; rw [h]; exact Nat.le_refl _
  | cons h hk hr ih =>
    intro ha
    obtain ⟨h1, h2⟩ := skipA_le L _ ha
    rw [oneF_eq] at h
    have h3 := oneG_ok L (quoteF L 48) (fun f hf => quoteF_ok L 48 f hf) _ _ (Nat.le_refl _) h2
    rw [h] at h3
    have h4 := h3.fwd rfl hk
    have h5 := h3.le
    dsimp only at h4 h5
    have h6 := ih h5
    have h7 := (skipA_le L _ h5).1
    rw [List.length_cons]; omega
theorem sc_of_scan (L : List UInt8) : ∀ (n a : Nat) (acc : List Tf), a ≤ L.length → L.length < a + n → (scanGo L n a acc).2.2 = 0 → ∃ l b, (scanGo L n a acc).1 = acc ++ l ∧ Sc L a l b ∧ b ≤ L.length ∧ skipA L b = L.length := by
  intro n
  induction n with
  | zero => intro a acc h1 h2; omega
  | succ n ih =>
    intro a acc h1 h2 h
    have hok := oneF_ok L 48 a h1
    simp only [scanGo] at h ⊢
    by_cases h4 : (oneF L 48 a).2.2 ≠ 0
    · rw [if_pos h4] at h; exact absurd h h4
    rw [if_neg h4] at h ⊢
    by_cases h5 : (oneF L 48 a).1.kind = 0
    · rw [if_pos h5]
      refine ⟨[], a, (List.append_nil _).symm, .nil rfl, h1, ?_⟩
      rw [oneF_eq] at h4 h5
      have := List.drop_eq_nil_iff.1 (none_end (by omega) h5)
      have := (skipA_le L a h1).2
      omega
    · rw [if_neg h5] at h ⊢
      have h6 := hok.fwd (by omega) h5
      obtain ⟨l, b, h7, h8, h9, h10⟩ := ih _ _ hok.le (by omega) h
      exact ⟨(oneF L 48 a).1 :: l, b, by rw [h7, List.append_assoc]; rfl, .cons (b := (oneF L 48 a).2.1) (Prod.ext rfl (Prod.ext rfl (by show (oneF L 48 a).2.2 = 0; omega))) h5 h8, h9, h10⟩
theorem scan_of_sc {L : List UInt8} {a b : Nat} {l : List Tf} (h : Sc L a l b) (hb : skipA L b = L.length) : ∀ (n : Nat) (acc : List Tf), l.length < n → scanGo L n a acc = (acc ++ l, 0, 0) := by
  induction h with
  | @nil a b h =>
    intro n acc hn
    obtain ⟨m, rfl⟩ : ∃ m, n = m + 1 := ⟨n - 1, by omega⟩
    have e : oneF L 48 a = (noTf, L.length, 0) := by rw [oneF_eq, h, hb]; exact end_none (Nat.le_refl _)
    simp only [scanGo, e]
    rw [if_neg (by simp), if_pos (show noTf.kind = 0 from rfl), List.append_nil]
  | cons h hk hr ih =>
    intro n acc hn
    obtain ⟨m, rfl⟩ : ∃ m, n = m + 1 := ⟨n - 1, by omega⟩
    rw [List.length_cons] at hn
    simp only [scanGo, h]
    rw [if_neg (by simp), if_neg hk, ih hb m _ (by omega), List.append_assoc]; rfl
def tk (t : Tf) : Nat × ByteArray := (t.kind, t.text)
theorem Sc.mv {L L' u : List UInt8} {p : Nat} (hL : L'.drop p = L ++ u) (hu : Cut u) {a b : Nat} {l : List Tf} (h : Sc L a l b) : a ≤ L.length → b ≤ L.length → ∃ l', Sc L' (p + a) l' (p + b) ∧ l'.map tk = l.map tk := by
  induction h with
  | nil h => intro ha hb; exact ⟨[], .nil (by rw [skipA_mv hL hu ha, skipA_mv hL hu hb, h]), rfl⟩
  | @cons a b c t l h hk hr ih =>
    intro ha hc
    have hok := oneF_ok L 48 a ha
    have hm := oneF_mv hL hu 48 a ha (by rw [h]) (by rw [h]; exact hk)
    rw [h] at hm hok
    obtain ⟨l', h1, h2⟩ := ih hok.le hc
    refine ⟨(oneF L' 48 (p + a)).1 :: l', .cons (Prod.ext rfl hm.e) (by rw [hm.k]; exact hk) h1, ?_⟩
    rw [List.map_cons, List.map_cons, h2]
    unfold tk
    rw [hm.k, hm.t]
def RSc (P : List UInt8) (ks : List (Nat × ByteArray)) (R : List UInt8) : Prop := ∀ L o, o ≤ L.length → L.drop o = P ++ R → ∃ l, Sc L o l (o + P.length) ∧ l.map tk = ks
theorem RSc.app {P1 P2 R : List UInt8} {k1 k2 : List (Nat × ByteArray)} (h1 : RSc P1 k1 (P2 ++ R)) (h2 : RSc P2 k2 R) : RSc (P1 ++ P2) (k1 ++ k2) R := by
  intro L o ho hL
  rw [List.append_assoc] at hL
  obtain ⟨l1, s1, e1⟩ := h1 L o ho hL
  have hlen := congrArg List.length hL
  rw [List.length_drop, List.length_append] at hlen
  obtain ⟨l2, s2, e2⟩ := h2 L (o + P1.length) (by omega) (by rw [← List.drop_drop, hL, List.drop_left])
  refine ⟨l1 ++ l2, ?_, by rw [List.map_append, e1, e2]⟩
  rw [List.length_append, ← Nat.add_assoc]
  exact s1.trans s2
theorem scanF_sc {L : List UInt8} {l : List Tf} (h : scanF L = (l, 0, 0)) : ∃ b, Sc L 0 l b ∧ b ≤ L.length ∧ skipA L b = L.length := by
  unfold scanF at h
  split at h
  · injection h with _ h; cases h
  · obtain ⟨l', b, h1, h2, h3, h4⟩ := sc_of_scan L (L.length + 1) 0 [] (Nat.zero_le _) (by omega) (by rw [h])
    rw [h] at h1
    obtain rfl : l = l' := h1
    exact ⟨b, h2, h3, h4⟩
theorem rsc_any {L u : List UInt8} {l : List Tf} (hu : Cut u) (h : scanF L = (l, 0, 0)) : RSc L (l.map tk) u := by
  intro L' o ho hL
  obtain ⟨b, h1, h2, h3⟩ := scanF_sc h
  obtain ⟨l', h4, h5⟩ := h1.mv hL hu (Nat.zero_le _) h2
  refine ⟨l', ?_, h5⟩
  rw [← List.append_nil l']
  refine h4.trans (.nil ?_)
  rw [skipA_mv hL hu h2, skipA_mv hL hu (Nat.le_refl _), h3, if_neg (Nat.lt_irrefl _), skipA_end, if_neg (Nat.lt_irrefl _)]
theorem rsc_blank {c : UInt8} (hc : c = 10 ∨ c = 32) (R : List UInt8) : RSc [c] [] R := by
  intro L o ho hL
  refine ⟨[], .nil ?_, rfl⟩
  have e : L.drop (o + 1) = R := by rw [← List.drop_drop, hL]; rfl
  unfold skipA
  rw [show o + [c].length = o + 1 from rfl, e, hL]
  rcases hc with rfl | rfl <;> simp [skipN, blankC] <;> omega
theorem rsc_flt {L : List UInt8} {l : List Tf} (h : scanF L = (l, 0, 0)) (R : List UInt8) : RSc (L ++ [10]) (l.map tk) R := by
  have := (rsc_any (u := [10] ++ R) (.inr ⟨R, rfl⟩) h).app (rsc_blank (.inl rfl) R)
  rwa [List.append_nil] at this
theorem rsc_tok {P R r : List UInt8} {c : UInt8} {k m : Nat} {x : ByteArray} (e : P ++ R = c :: r) (hc : skipN false (c :: r) = 0) (h34 : c ≠ 34) (ht : tokP (c :: r) = (k, m, P.length)) (hk : k ≠ 0) (hx : (⟨(P.drop m).toArray⟩ : ByteArray) = x) : RSc P [(k, x)] R := by
  intro L o ho hL
  refine ⟨[(oneF L 48 o).1], ?_⟩
  have hs : skipA L o = o := by unfold skipA; rw [hL, e, hc]; rfl
  have ho : oneF L 48 o = (⟨k, x, o⟩, o + P.length, 0) := by
    rw [oneF_eq, hs]
    unfold oneG
    rw [hL, e]
    dsimp only
    rw [if_neg h34, ht]
    dsimp only
    rw [if_neg hk, ← e, List.take_left, hx]
  rw [ho]
  exact ⟨.cons ho hk (.nil rfl), rfl⟩
theorem scan_rsc {P : List UInt8} {ks : List (Nat × ByteArray)} (h : RSc P ks []) (hP : P.length ≤ 16384) : ∃ l, scanF P = (l, 0, 0) ∧ l.map tk = ks := by
  obtain ⟨l, h1, h2⟩ := h P 0 (Nat.zero_le _) (by rw [List.drop_zero, List.append_nil])
  rw [Nat.zero_add] at h1
  have h3 := h1.le (Nat.zero_le _)
  rw [skipA_end] at h3
  refine ⟨l, ?_, h2⟩
  unfold scanF
  rw [if_neg (by omega)]
  exact scan_of_sc h1 (skipA_end P) (P.length + 1) [] (by omega)
end Th
namespace Th
open Go Go.Lib
def TotP {α : Type} (E : Env) (b : Nat) (o : Option (PR α)) : Prop := ∃ r, o = some r ∧ ∀ n j, r = .ok n j → wtE E j ≤ b
theorem TotP.fail {α : Type} {E : Env} {b i e : Nat} : TotP (α := α) E b (failP E i e) := ⟨_, rfl, fun _ _ h => by cases h⟩
theorem TotP.ok {α : Type} {E : Env} {b k : Nat} {n : α} (h : wtE E k ≤ b) : TotP E b (okP n k) := ⟨_, rfl, fun _ _ e => by cases e; exact h⟩
theorem TotP.up {α : Type} {E : Env} {b c : Nat} {o : Option (PR α)} (h : TotP E c o) (hc : c ≤ b) : TotP E b o := by
  obtain ⟨r, h1, h2⟩ := h
  exact ⟨r, h1, fun n j e => Nat.le_trans (h2 n j e) hc⟩
theorem TotP.bind {α β : Type} {E : Env} {b c : Nat} {x : Option (PR α)} {k : α → Nat → Option (PR β)} (h : TotP E c x) (hk : ∀ n j, wtE E j ≤ c → TotP E b (k n j)) : TotP E b (bindP x k) := by
  obtain ⟨r, rfl, h2⟩ := h
  cases r with
  | bad a e => exact ⟨_, rfl, fun _ _ h => by cases h⟩
  | ok n j => exact hk n j (h2 n j rfl)
theorem wt_dec {E : Env} (hE : GoodT E) {p : Nat} (h : (tokAt E p).kind ≠ 0) : wtE E (p + 1) + 1 ≤ wtE E p := by
  obtain ⟨h1, h2⟩ := wt_step hE h
  omega
theorem TotP.isT {β : Type} {E : Env} (hE : GoodT E) {b p k : Nat} {s : ByteArray} {x y : Option (PR β)} (hk : k ≠ 0) (h : wtE E (p + 1) + 1 ≤ wtE E p → TotP E b x) (h2 : TotP E b y) : TotP E b (if Th.isT E p k s then x else y) := by
  split
  · rename_i hT; exact h (wt_dec hE (by rw [hT.1]; exact hk))
  · exact h2
theorem TotP.tok {β : Type} {E : Env} (hE : GoodT E) {b p k : Nat} {x y : Option (PR β)} (hk : k ≠ 0) (h : (tokAt E p).kind = k → wtE E (p + 1) + 1 ≤ wtE E p → TotP E b x) (h2 : TotP E b y) : TotP E b (if (tokAt E p).kind = k then x else y) := by
  split
  · rename_i hT; exact h hT (wt_dec hE (by rw [hT]; exact hk))
  · exact h2
theorem TotP.want {β : Type} {E : Env} (hE : GoodT E) {b p k : Nat} {s : ByteArray} {f : Nat → Option (PR β)} (hk : k ≠ 0) (h : wtE E (p + 1) + 1 ≤ wtE E p → TotP E b (f (p + 1))) : TotP E b (wantP E p k s f) := by
  unfold wantP
  exact TotP.isT hE hk h TotP.fail
theorem TotP.kind {β : Type} {E : Env} (hE : GoodT E) {b p k : Nat} {f : ByteArray → Nat → Option (PR β)} (hk : k ≠ 0) (h : ∀ s, wtE E (p + 1) + 1 ≤ wtE E p → TotP E b (f s (p + 1))) : TotP E b (kindP E p k f) := by
  unfold kindP
  split
  · exact TotP.fail
  · rename_i hT
    exact h _ (wt_dec hE fun h0 => hT (Or.inl (by rw [h0]; exact Ne.symm hk)))
theorem args_totP {β : Type} {E : Env} (hE : GoodT E) {b c : Nat} {k : List ByteArray → Nat → Option (PR β)} (hk : ∀ a j, wtE E j ≤ c → TotP E b (k a j)) : ∀ (n : Nat) (acc : List ByteArray) (i : Nat), wtE E i ≤ c → E.l.length - i < n → TotP E b (argsP E k n acc i) := by
  intro n
  induction n with
  | zero => intro acc i _ h; omega
  | succ n ih =>
    intro acc i hc hn
    have q2 : wtE E (i + 2) ≤ wtE E (i + 1) := wt_next E (i + 1)
    have q3 : wtE E (i + 1) + 1 ≤ wtE E i → i < E.l.length := fun h => Nat.lt_of_not_le fun h2 => by rw [wt_end E h2] at h; omega
    simp only [argsP]
    exact TotP.tok hE (by decide) (fun _ h => TotP.isT hE (by decide) (fun h2 => ih _ _ (by omega) (by have := q3 h; omega)) (hk _ _ (by omega))) (TotP.kind hE (by decide) fun s h => TotP.isT hE (by decide) (fun h2 => ih _ _ (by omega) (by have := q3 h; omega)) (hk _ _ (by omega)))
def lvlP : Job → Nat
  | .object => 32
  | .objLoop _ | .callLoop _ _ | .branch | .loop _ | .whole => 31
  | .filter => 30
  | .binary _ => 25
  | .binLoop _ _ _ => 24
  | .minus => 21
  | .term => 20
  | .first => 19
  | .entry => 11
  | .quoted => 10
  | .termLoop _ => 3
  | .index _ => 2
  | _ => 1
def fuelP (E : Env) (job : Job) (i : Nat) : Nat := match job with
  | .parts t f _ _ => 40 * sumQ f + 40 + t.length
  | job => 40 * wtE E i + lvlP job
def JobT (E : Env) (i : Nat) : Job → Prop
  | .sign _ | .word _ => (tokAt E i).kind ≠ 0
  | _ => True
def bndP (E : Env) (job : Job) (i : Nat) : Nat := match job with
  | .index _ => wtE E (i + 1)
  | _ => wtE E i
theorem totP : ∀ (f : Nat) (E : Env), GoodT E → ∀ (job : Job) (i : Nat), JobT E i job → fuelP E job i < f → TotP E (bndP E job i) (runP f E job i) := by
  intro f
  induction f with
  | zero => intro E hE job i _ h; omega
  | succ f ih =>
    intro E hE job i hj hf
    have run : ∀ (job : Job) (i : Nat), JobT E i job → fuelP E job i < f → TotP E (bndP E job i) (runP f E job i) := ih E hE
    have q1 := wt_next E i
    have q2 : wtE E (i + 2) ≤ wtE E (i + 1) := wt_next E (i + 1)
    show TotP E (bndP E job i) (stepP (runP f) E job i)
    cases job <;> simp only [bndP]
    case parts t fs p kids =>
      cases t with
      | nil => exact TotP.ok q1
      | cons t0 t =>
        simp only [stepP]
        split
        · exact TotP.fail
        cases fs with
        | nil =>
          have e0 : sumQ [] = 0 := rfl
          exact run (.parts _ _ _ _) i trivial (by simp only [fuelP, e0, List.length_cons] at hf ⊢; omega)
        | cons g fs =>
          have hf : 40 * sumQ (g :: fs) + 40 + (t0 :: t).length < f + 1 := hf
          have e1 : sumQ (g :: fs) = g.length + sumQ fs := by simp [sumQ]
          rw [e1, List.length_cons] at hf
          obtain ⟨h1, h2⟩ := envOf_good g (E.base + (tokAt E i).at_ + p.headD 0)
          obtain ⟨r, h3, _⟩ := ih _ h1 .whole 0 trivial (by show 40 * wtE _ 0 + 31 < f; omega)
          dsimp only
          rw [h3]
          cases r with
          | bad a e => exact ⟨_, rfl, fun _ _ h => by cases h⟩
          | ok n j => exact run (.parts _ _ _ _) i trivial (by show 40 * sumQ fs + 40 + t.length < f; omega)
    case quoted =>
      simp only [stepP]
      split
      · exact TotP.fail
      rename_i h5
      have h5 : (tokAt E i).kind = 5 := Decidable.of_not_not h5
      have hz := tok_pos hE i (by omega)
      obtain ⟨hz1, hz2⟩ := wt_step hE (i := i) (by omega)
      have hq := partsF_sum (tokAt E i).text.data.toList
      have hpl : (partsF (tokAt E i).text.data.toList).1.texts.length = 0 → sumQ (partsF (tokAt E i).text.data.toList).1.filters = 0 := fun h0 => by
        rcases parts_len (tokAt E i).text.data.toList with ⟨_, h⟩ | h
        · rw [h]; rfl
        · omega
      have hsz : (tokAt E i).text.data.toList.length = (tokAt E i).text.size := Array.length_toList
      have hf : 40 * wtE E i + 10 < f + 1 := hf
      exact run (.parts _ _ _ _) i trivial (by show 40 * sumQ _ + 40 + List.length _ < f; omega)
    case binLoop least top n =>
      simp only [stepP]
      by_cases h0 : strength (tokAt E i) < least ∨ top < strength (tokAt E i) ∨ strength (tokAt E i) = 0
      · rw [if_pos h0]; exact TotP.ok (Nat.le_refl _)
      · rw [if_neg h0]
        have hd := wt_dec hE (p := i) (fun h => h0 (Or.inr (Or.inr (by unfold strength; rw [if_neg (by omega), if_pos (by omega)]))))
        simp only [fuelP, lvlP] at hf
        repeat' split
        all_goals
          refine TotP.bind (run (.binary _) _ trivial ?_) fun n j h => TotP.up (run (.binLoop _ _ _) _ trivial ?_) ?_
          all_goals (try simp only [bndP] at h); first | (simp only [fuelP, lvlP]; omega) | (simp only [bndP]; omega)
    all_goals
      simp only [fuelP, lvlP] at hf
      try (have hd := wt_dec hE hj)
      simp only [stepP]
      repeat' first
        | with_reducible exact TotP.fail
        | with_reducible exact TotP.ok (by omega)
        | (with_reducible refine TotP.want hE (by decide) fun _ => ?_)
        | (with_reducible refine TotP.kind hE (by decide) fun _ _ => ?_)
        | (with_reducible refine TotP.isT hE (by decide) (fun _ => ?_) ?_)
        | (with_reducible refine TotP.tok hE (by decide) (fun _ _ => ?_) ?_)
        | (with_reducible refine TotP.bind (run _ _ ?_ ?_) fun _ _ hb => ?_) <;> (try simp only [bndP] at hb)
        | (with_reducible refine args_totP hE (c := wtE E i) (fun _ _ _ => ?_) _ _ _ (by omega) ?_)
        | (with_reducible refine TotP.up (run _ _ ?_ ?_) ?_)
        | (simp only [fuelP, lvlP]; omega)
        | (simp only [JobT]; first | done | omega)
        | (simp only [bndP]; omega)
        | omega
        | split
        | (have := wt_len hE (i + 2); omega)
end Th
namespace Th
open Go Go.Lib
def Pl {α : Type} (E : Env) (o : Option (PR α)) : Prop := ∀ a e, o = some (.bad a e) → a ≤ E.base + E.end_ ∧ e ≠ 0
def EBP (E : Env) : Prop := ∀ t ∈ E.l, t.at_ + t.text.size ≤ E.end_
theorem failAt_le {E : Env} (hE : EBP E) (i : Nat) : failAt E i ≤ E.base + E.end_ := by
  unfold failAt
  cases h : E.l[i]? with
  | none => exact Nat.le_refl _
  | some t => have := hE t (List.mem_of_getElem? h); dsimp only; omega
theorem tok_at {E : Env} (hE : EBP E) (i : Nat) : (tokAt E i).at_ + (tokAt E i).text.size ≤ E.end_ := by
  unfold tokAt
  rw [List.getD_eq_getElem?_getD]
  cases h : E.l[i]? with
  | none => exact Nat.zero_le _
  | some t => exact hE t (List.mem_of_getElem? h)
theorem Pl.fail {α : Type} {E : Env} (hE : EBP E) {i e : Nat} (he : e ≠ 0) : Pl (α := α) E (failP E i e) := fun a e' h => by cases h; exact ⟨failAt_le hE i, he⟩
theorem Pl.ok {α : Type} {E : Env} {k : Nat} {n : α} : Pl E (okP n k) := fun a e h => by cases h
theorem Pl.bind {α β : Type} {E : Env} {x : Option (PR α)} {f : α → Nat → Option (PR β)} (h : Pl E x) (hf : ∀ a j, Pl E (f a j)) : Pl E (bindP x f) := by
  cases x with
  | none => intro a e h; cases h
  | some y =>
    cases y with
    | bad a e => intro a' e' h'; cases h'; exact h a e rfl
    | ok n j => exact hf n j
theorem Pl.ite {α : Type} {E : Env} {c : Prop} [Decidable c] {x y : Option (PR α)} (h1 : Pl E x) (h2 : Pl E y) : Pl E (if c then x else y) := by
  split
  · exact h1
  · exact h2
theorem Pl.want {β : Type} {E : Env} (hE : EBP E) {p k : Nat} {s : ByteArray} {f : Nat → Option (PR β)} (h : Pl E (f (p + 1))) : Pl E (wantP E p k s f) := by
  unfold wantP
  exact Pl.ite h (Pl.fail hE (by decide))
theorem Pl.kind {β : Type} {E : Env} (hE : EBP E) {p k : Nat} {f : ByteArray → Nat → Option (PR β)} (h : ∀ s, Pl E (f s (p + 1))) : Pl E (kindP E p k f) := by
  unfold kindP
  exact Pl.ite (Pl.fail hE (by decide)) (h _)
theorem args_pl {β : Type} {E : Env} (hE : EBP E) {k : List ByteArray → Nat → Option (PR β)} (hk : ∀ a j, Pl E (k a j)) : ∀ (n : Nat) (acc : List ByteArray) (i : Nat), Pl E (argsP E k n acc i) := by
  intro n
  induction n with
  | zero => intro acc i a e h; cases h
  | succ n ih =>
    intro acc i
    simp only [argsP]
    exact Pl.ite (Pl.ite (ih _ _) (hk _ _)) (Pl.kind hE fun s => Pl.ite (ih _ _) (hk _ _))
def JobPl (E : Env) (i : Nat) : Job → Prop
  | .parts _ f p _ => p.length = f.length ∧ ∀ q ∈ p.zip f, q.1 + q.2.length ≤ (tokAt E i).text.size
  | _ => True
theorem envOf_bp (g : List UInt8) (b : Nat) : EBP (envOf g b) := scanF_at g
theorem bad_all : ∀ (f : Nat) (E : Env), EBP E → ∀ (job : Job) (i : Nat), JobPl E i job → Pl E (runP f E job i) := by
  intro f
  induction f with
  | zero => intro E _ job i _ a e h; cases h
  | succ f ih =>
    intro E hE job i hj
    have run : ∀ (job : Job) (i : Nat), JobPl E i job → Pl E (runP f E job i) := ih E hE
    show Pl E (stepP (runP f) E job i)
    cases job
    case parts t fs p kids =>
      cases t with
      | nil => exact Pl.ok
      | cons t0 t =>
        simp only [stepP]
        refine Pl.ite (Pl.fail hE (by decide)) ?_
        cases fs with
        | nil => exact run (.parts _ _ _ _) i ⟨hj.1, by intro q hq; rw [List.zip_nil_right] at hq; cases hq⟩
        | cons g fs =>
          obtain ⟨h1, h2⟩ := hj
          cases p with
          | nil => cases h1
          | cons p0 p =>
            have h3 : p0 + g.length ≤ (tokAt E i).text.size := h2 (p0, g) (by rw [List.zip_cons_cons]; exact List.mem_cons_self)
            have h4 := tok_at hE i
            refine Pl.bind (fun a e h => ?_) fun a j => run (.parts _ _ _ _) i ⟨by simpa using h1, fun q hq => h2 q (by rw [List.zip_cons_cons]; exact List.mem_cons_of_mem _ hq)⟩
            have h5 := ih _ (envOf_bp g _) .whole 0 trivial a e h
            refine ⟨?_, h5.2⟩
            have h6 : a ≤ E.base + (tokAt E i).at_ + p0 + g.length := h5.1
            omega
    case quoted =>
      simp only [stepP]
      have h := partsF_ok (tokAt E i).text.data.toList
      refine Pl.ite (Pl.fail hE (by decide)) (run (.parts _ _ _ _) i ⟨h.len, fun q hq => ?_⟩)
      have := h.pl q hq
      rwa [show (tokAt E i).text.data.toList.length = (tokAt E i).text.size from Array.length_toList] at this
    case binLoop least top n =>
      simp only [stepP]
      repeat' first | exact Pl.ok | refine Pl.ite ?_ ?_ | exact Pl.bind (run _ _ trivial) fun _ _ => run _ _ trivial
    case first =>
      simp only [stepP]
      repeat' first
        | exact Pl.ok
        | exact Pl.fail hE (by decide)
        | exact run _ _ trivial
        | split
      exact Pl.fail hE (parse_err _ ‹_›)
    all_goals
      simp only [stepP]
      repeat' first
        | with_reducible exact Pl.ok
        | with_reducible exact Pl.fail hE (by decide)
        | (with_reducible refine Pl.want hE ?_)
        | (with_reducible refine Pl.kind hE fun _ => ?_)
        | (with_reducible refine Pl.ite ?_ ?_)
        | (with_reducible refine Pl.bind (run _ _ ?_) fun _ _ => ?_)
        | (with_reducible refine args_pl hE (fun _ _ => ?_) _ _ _)
        | (with_reducible refine run _ _ ?_)
        | exact trivial
end Th
