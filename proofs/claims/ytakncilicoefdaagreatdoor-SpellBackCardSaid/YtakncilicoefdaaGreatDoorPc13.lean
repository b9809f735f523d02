/- Lemmas and contracts. Conditions: those that each lemma names. -/
import Derived.Test.YtakncilicoefdaaGreatDoorPc11
import Derived.Test.YtakncilicoefdaaGreatDoorPc4
set_option maxRecDepth 100000
set_option maxHeartbeats 4000000
namespace Th
open Go Go.Lib
abbrev TK := Nat × ByteArray
inductive ScD (L : List UInt8) (d : Nat) : Nat → List TK → Nat → Prop
 | nil {a b : Nat} (h : skipA L a = skipA L b) : ScD L d a [] b
 | cons {a b c : Nat} {t : Tf} {l : List TK} (h : oneF L d a = (t, b, 0)) (hk : t.kind ≠ 0) (hr : ScD L d b l c) : ScD L d a (tk t :: l) c
theorem ScD.trans {L : List UInt8} {d a b c : Nat} {l m : List TK} (h1 : ScD L d a l b) (h2 : ScD L d b m c) : ScD L d a (l ++ m) c := by
 induction h1 with
 | nil h => cases h2 with
  | nil h' => exact .nil (h.trans h')
  | cons h' hk hr => exact .cons (by rw [oneF_skip h]; exact h') hk hr
 | cons h hk hr ih => exact .cons h hk (ih h2)
theorem ScD.sc {L : List UInt8} {a b : Nat} {ks : List TK} (h : ScD L 48 a ks b) : ∃ l, Sc L a l b ∧ l.map tk = ks := by
 induction h with
 | nil h => exact ⟨[], .nil h, rfl⟩
 | cons h hk hr ih =>
  obtain ⟨l, h1, h2⟩ := ih; exact ⟨_ :: l, .cons h hk h1, by rw [List.map_cons, h2]⟩
def RD (d : Nat) (P : List UInt8) (ks : List TK) (R : List UInt8) : Prop := ∀ L o, o ≤ L.length → L.drop o = P ++ R → ScD L d o ks (o + P.length)
theorem RD.app {d : Nat} {P1 P2 R : List UInt8} {k1 k2 : List TK} (h1 : RD d P1 k1 (P2 ++ R)) (h2 : RD d P2 k2 R) : RD d (P1 ++ P2) (k1 ++ k2) R := by
 intro L o ho hL; rw [List.append_assoc] at hL; have s1 := h1 L o ho hL; have hlen := congrArg List.length hL; rw [List.length_drop, List.length_append] at hlen; have s2 := h2 L (o + P1.length) (by omega) (by rw [← List.drop_drop, hL, List.drop_left]); rw [List.length_append, ← Nat.add_assoc]; exact s1.trans s2
theorem RD.rsc {P R : List UInt8} {ks : List TK} (h : RD 48 P ks R) : RSc P ks R := fun L o ho hL => (h L o ho hL).sc
theorem rd_nil (d : Nat) (R : List UInt8) : RD d [] [] R := fun _ _ _ _ => .nil rfl
theorem rd_blank (d : Nat) (R : List UInt8) : RD d [32] [] R := by
 intro L o ho hL; refine .nil ?_; have e : L.drop (o + 1) = R := by rw [← List.drop_drop, hL]; rfl
 unfold skipA; rw [show o + [(32 : UInt8)].length = o + 1 from rfl, e, hL]; simp [skipN, blankC]; omega
theorem rd_tok {d : Nat} {P R r : List UInt8} {c : UInt8} {k m : Nat} {x : ByteArray} (e : P ++ R = c :: r) (hc : skipN false (c :: r) = 0) (h34 : c ≠ 34) (ht : tokP (c :: r) = (k, m, P.length)) (hk : k ≠ 0) (hx : (⟨(P.drop m).toArray⟩ : ByteArray) = x) : RD d P [(k, x)] R := by
 intro L o ho hL; have hs : skipA L o = o := by unfold skipA; rw [hL, e, hc]; rfl
 have ho : oneF L d o = (⟨k, x, o⟩, o + P.length, 0) := by
  rw [oneF_eq, hs]; unfold oneG; rw [hL, e]; dsimp only; rw [if_neg h34, ht]; dsimp only; rw [if_neg hk, ← e, List.take_left, hx]
 exact .cons ho hk (.nil rfl)
structure Pc where
 p : List UInt8
 k : List TK
def catP : List Pc → List UInt8
 | [] => []
 | x :: r => x.p ++ catP r
def catK : List Pc → List TK
 | [] => []
 | x :: r => x.k ++ catK r
def AllRD (d : Nat) : List Pc → List UInt8 → Prop
 | [], _ => True
 | x :: r, R => RD d x.p x.k (catP r ++ R) ∧ AllRD d r R
theorem all_rd {d : Nat} : ∀ {ps : List Pc} {R : List UInt8}, AllRD d ps R → RD d (catP ps) (catK ps) R
 | [], R, _ => rd_nil d R
 | _ :: _, _, ⟨h1, h2⟩ => h1.app (all_rd h2)
/-! what may stand behind a text -/
def sepC : List UInt8 → Bool
 | [] => true
 | c :: _ => decide (c ∈ [(41 : UInt8), 93, 91, 32, 59, 58, 44, 125])
theorem sep_cases {R : List UInt8} (h : sepC R = true) : R = [] ∨ ∃ c r, R = c :: r ∧ (c = 41 ∨ c = 93 ∨ c = 91 ∨ c = 32 ∨ c = 59 ∨ c = 58 ∨ c = 44 ∨ c = 125) := by
 cases R with
 | nil => exact .inl rfl
 | cons c r =>
  refine .inr ⟨c, r, rfl, ?_⟩; simpa [sepC] using h
theorem sep_name {R : List UInt8} (h : sepC R = true) : runB nameC R = 0 := by
 rcases sep_cases h with rfl | ⟨c, r, rfl, hc⟩
 ·rfl
 rcases hc with rfl | rfl | rfl | rfl | rfl | rfl | rfl | rfl <;> simp [runB, nameC, letF, isDg]
theorem sep_nameN {R : List UInt8} (h : sepC R = true) : nameN R = 0 := by
 rcases sep_cases h with rfl | ⟨c, r, rfl, hc⟩
 ·rfl
 rcases hc with rfl | rfl | rfl | rfl | rfl | rfl | rfl | rfl <;> simp [nameN, letF]
theorem name_len {s R : List UInt8} (hs : isName s = true) (hR : runB nameC R = 0) : nameN (s ++ R) = s.length ∧ 0 < s.length := by
 cases s with
 | nil => cases hs
 | cons c s =>
  simp only [isName, Bool.and_eq_true] at hs; rw [List.cons_append]; simp only [nameN]; rw [if_pos hs.1, runB_all _ _ _ hs.2, hR, List.length_cons]; omega
theorem let_no {c : UInt8} (h : letF c = true) : c ≠ 34 ∧ blankC c = false ∧ c ≠ 35 := by
 have h1 : c ≠ 34 := by rintro rfl; cases h
 have h2 : c ≠ 35 := by rintro rfl; cases h
 simp only [letF, Bool.or_eq_true, decide_eq_true_eq] at h; refine ⟨h1, ?_, h2⟩; simp only [blankC, Bool.or_eq_false_iff, decide_eq_false_iff_not]; omega
theorem rd_name {d : Nat} {s R : List UInt8} (hs : isName s = true) (hR : runB nameC R = 0) : RD d s [(1, ⟨s.toArray⟩)] R := by
 obtain ⟨h1, h2⟩ := name_len hs hR; cases s with
 | nil => cases hs
 | cons c s =>
  have hc : letF c = true := by simp only [isName, Bool.and_eq_true] at hs; exact hs.1
  obtain ⟨h3, h4, h5⟩ := let_no hc; refine rd_tok (c := c) (r := s ++ R) rfl (by simp [skipN, h4, h5]) h3 (m := 0) ?_ (by decide) rfl; rw [List.cons_append] at h1; simp only [tokP]; rw [if_pos hc, h1]
theorem rd_known {d : Nat} {s R : List UInt8} (hs : isName s = true) (hR : runB nameC R = 0) : RD d (36 :: s) [(2, ⟨s.toArray⟩)] R := by
 obtain ⟨h1, h2⟩ := name_len hs hR; refine rd_tok (c := 36) (r := s ++ R) rfl rfl (by decide) (m := 1) ?_ (by decide) rfl; simp only [tokP]; rw [if_neg (by decide), if_pos ⟨trivial, by omega⟩, h1, List.length_cons, Nat.add_comm 1]
theorem rd_dot {d : Nat} {R : List UInt8} (hR : sepC R = true) : RD d [46] [(6, ⟨#[46]⟩)] R := by
 refine rd_tok (c := 46) (r := R) rfl rfl (by decide) (m := 0) ?_ (by decide) rfl; have h0 := sep_nameN hR; simp only [tokP]; rw [if_neg (by decide), if_neg (fun h => absurd h.1 (by decide)), if_neg (by omega), if_neg (by decide)]; rcases sep_cases hR with rfl | ⟨c, r, rfl, hc⟩
 ·rfl
 rcases hc with rfl | rfl | rfl | rfl | rfl | rfl | rfl | rfl <;> simp [signN, twoL, oneL]
theorem rd_dots (d : Nat) (R : List UInt8) : RD d [46, 46] [(6, ⟨#[46, 46]⟩)] R := by
 refine rd_tok (c := 46) (r := 46 :: R) rfl rfl (by decide) (m := 0) ?_ (by decide) rfl; simp [tokP, letF, isDg, signN, twoL, nameN]
def aloneC (c : UInt8) : Bool := decide (c ∈ [(40 : UInt8), 41, 91, 93, 123, 125, 59, 58, 44])
theorem rd_one {c : UInt8} (hc : aloneC c = true) (d : Nat) (R : List UInt8) : RD d [c] [(6, ⟨#[c]⟩)] R := by
 simp only [aloneC, decide_eq_true_eq, List.mem_cons, List.not_mem_nil, or_false] at hc; rcases hc with rfl | rfl | rfl | rfl | rfl | rfl | rfl | rfl | rfl <;>
  exact rd_tok (r := R) rfl rfl (by decide) (m := 0) (by simp [tokP, letF, isDg, signN, twoL, oneL]) (by decide) rfl
theorem rd_minus {d : Nat} {R : List UInt8} (hR : R.head? ≠ some 61) : RD d [45] [(6, ⟨#[45]⟩)] R := by
 refine rd_tok (c := 45) (r := R) rfl rfl (by decide) (m := 0) ?_ (by decide) rfl; cases R with
 | nil => rfl
 | cons c r =>
  have : c ≠ 61 := fun h => hR (by rw [h]; rfl)
  simp [tokP, letF, isDg, signN, twoL, oneL, this]
def isSg (s : List UInt8) : Bool := decide (s ∈ [[(124 : UInt8)], [44], [47, 47], [61, 61], [33, 61], [60], [60, 61], [62], [62, 61], [43], [45], [42], [47], [37], [61], [124, 61], [43, 61], [45, 61], [42, 61], [47, 61], [47, 47, 61]])
theorem rd_sg {s : List UInt8} (hs : isSg s = true) (d : Nat) (R : List UInt8) : RD d s [(6, ⟨s.toArray⟩)] (32 :: R) := by
 simp only [isSg, decide_eq_true_eq, List.mem_cons, List.not_mem_nil, or_false] at hs; rcases hs with rfl | rfl | rfl | rfl | rfl | rfl | rfl | rfl | rfl | rfl | rfl | rfl | rfl | rfl | rfl | rfl | rfl | rfl | rfl | rfl | rfl <;>
  exact rd_tok rfl (by simp [skipN, blankC]) (by decide) (m := 0) (by simp [tokP, letF, isDg, signN, twoL, oneL]) (by decide) rfl
/-! numbers -/
theorem num_chars {u : List UInt8} (h : isNum u = true) : ∀ c ∈ u, isDg c = true ∨ c = 46 ∨ c = 101 ∨ c = 69 ∨ c = 43 ∨ c = 45 := by
 obtain ⟨D, F, E, hF⟩ := isNum_form u h; have hd : ∀ {t : List UInt8}, isDigs t = true → ∀ c ∈ t, isDg c = true := fun ht c hc => by
  rw [isDigs_iff] at ht; exact List.all_eq_true.1 ht.2 c hc
 intro c hc; rw [hF.cat, List.mem_append, List.mem_append] at hc; rcases hc with hc | hc | hc
 ·exact .inl (hd hF.d c hc)
 ·rcases hF.f with h1 | ⟨x, h1, h2⟩
  ·rw [h1] at hc; cases hc
  rw [h1] at hc; rcases List.mem_cons.1 hc with rfl | hc
  ·exact .inr (.inl rfl)
  exact .inl (hd h2 c hc)
 rcases hF.e with h1 | ⟨e, x, h1, h2, h3⟩
 ·rw [h1] at hc; cases hc
 rw [h1] at hc; rcases List.mem_cons.1 hc with rfl | hc
 ·rcases h2 with rfl | rfl
  ·exact .inr (.inr (.inl rfl))
  exact .inr (.inr (.inr (.inl rfl)))
 rcases unsign_cases x h3 with ⟨g, y, rfl, hg, hy⟩ | ⟨g, y, rfl, _, hy⟩
 ·rcases List.mem_cons.1 hc with rfl | hc
  ·rcases hg with rfl | rfl
   ·exact .inr (.inr (.inr (.inr (.inl rfl))))
   exact .inr (.inr (.inr (.inr (.inr rfl))))
  exact .inl (hd hy c hc)
 exact .inl (hd hy c hc)
theorem num_len {u R : List UInt8} (h : isNum u = true) (hR : sepC R = true) : numN (u ++ R) = u.length := by
 have h1 := num_max u R h; have h0 : 0 < digN (u ++ R) := by
  cases u with
  | nil => simp [isNum, headE, isDigs] at h
  | cons c x =>
   have := num_head c x h; simp [digN, runB, this]
 obtain ⟨h2, h3⟩ := num_is (u ++ R) h0; rcases Nat.lt_or_ge u.length (numN (u ++ R)) with hlt | hge
 ·exfalso
  rcases sep_cases hR with rfl | ⟨c, r, rfl, hc⟩
  ·rw [List.append_nil] at h3 hlt; omega
  have hm : c ∈ (u ++ c :: r).take (numN (u ++ c :: r)) := by
   rw [List.take_append]; refine List.mem_append_right _ ?_; obtain ⟨k, hk⟩ : ∃ k, numN (u ++ c :: r) - u.length = k + 1 := ⟨numN (u ++ c :: r) - u.length - 1, by omega⟩
   rw [hk]; exact List.mem_cons_self
  have := num_chars h2 c hm; rcases hc with rfl | rfl | rfl | rfl | rfl | rfl | rfl | rfl <;> revert this <;> decide
 omega
theorem rd_num {d : Nat} {u R : List UInt8} (h : isNum u = true) (hR : sepC R = true) : RD d u [(4, ⟨u.toArray⟩)] R := by
 have h1 := num_len h hR; cases u with
 | nil => simp [isNum, headE, isDigs] at h
 | cons c x =>
  have hd := num_head c x h; have hl : letF c = false ∧ c ≠ 36 ∧ c ≠ 46 ∧ c ≠ 34 ∧ c ≠ 35 ∧ blankC c = false := by
   have hd : 48 ≤ c.toNat ∧ c.toNat ≤ 57 := by simpa [isDg] using hd
   refine ⟨?_, ?_, ?_, ?_, ?_, ?_⟩
   ·simp only [letF, Bool.or_eq_false_iff, decide_eq_false_iff_not]; omega
   ·rintro rfl; simp at hd
   ·rintro rfl; simp at hd
   ·rintro rfl; simp at hd
   ·rintro rfl; simp at hd
   simp only [blankC, Bool.or_eq_false_iff, decide_eq_false_iff_not]; omega
  obtain ⟨h2, h3, h4, h5, h6, h7⟩ := hl; refine rd_tok (c := c) (r := x ++ R) rfl (by simp [skipN, h6, h7]) h5 (m := 0) ?_ (by decide) rfl; rw [List.cons_append] at h1; simp only [tokP]; rw [if_neg (by rw [h2]; decide), if_neg (fun h => h3 h.1), if_neg (fun h => h4 h.1), if_pos hd, h1]
/-! brackets -/
def brk (s : Nat) (q : TK) : Nat := if q.1 = 6 ∧ q.2 = ⟨#[40]⟩ then s + 1 else if q.1 = 6 ∧ q.2 = ⟨#[41]⟩ then s - 1 else s
def walkB : Nat → List TK → Option Nat
 | s, [] => some s
 | 0, _ :: _ => none
 | s + 1, q :: r => walkB (brk (s + 1) q) r
def Bal (ks : List TK) : Prop := ∀ s, walkB (s + 1) ks = some (s + 1)
theorem walk_app : ∀ (a b : List TK) (s t : Nat), walkB s a = some t → walkB s (a ++ b) = walkB t b
 | [], b, s, t, h => by injection h with h; rw [h]; rfl
 | _ :: _, _, 0, _, h => by cases h
 | q :: a, b, s + 1, t, h => walk_app a b _ t h
theorem Bal.par {a : List TK} (ha : Bal a) : Bal ((6, ⟨#[40]⟩) :: (a ++ [(6, ⟨#[41]⟩)])) := fun s => by
 show walkB (s + 2) (a ++ _) = _
 rw [walk_app a _ _ _ (ha (s + 1))]; rfl
theorem bal_nil : Bal [] := fun _ => rfl
theorem bal_one {q : TK} (h1 : q ≠ (6, ⟨#[40]⟩)) (h2 : q ≠ (6, ⟨#[41]⟩)) : Bal [q] := fun s => by
 show walkB (brk (s + 1) q) [] = _
 unfold brk; rw [if_neg (fun h => h1 (Prod.ext h.1 h.2)), if_neg (fun h => h2 (Prod.ext h.1 h.2))]; rfl
theorem qGo_mono {L : List UInt8} {one : Nat → Tf × Nat × Nat} {f : Nat} : ∀ (n m o a e : Nat), n ≤ m → qGo L one f n o a = (e, 0) → qGo L one f m o a = (e, 0) := by
 intro n; induction n with
 | zero => intro m o a e _ h; exact absurd (show (20 : Nat) = 0 from congrArg Prod.snd h) (by decide)
 | succ n ih =>
  intro m o a e hm h; obtain ⟨m, rfl⟩ : ∃ k, m = k + 1 := ⟨m - 1, by omega⟩
  cases o with
  | zero =>
   simp only [qGo] at h ⊢; cases hc : L[a]? with
   | none => rw [hc] at h; exact absurd (show (20 : Nat) = 0 from congrArg Prod.snd h) (by decide)
   | some c =>
    rw [hc] at h; dsimp only at h ⊢; split
    ·rename_i h1; rw [if_pos h1] at h; exact h
    rename_i h1
    rw [if_neg h1] at h; split
    ·rename_i h2; rw [if_pos h2] at h; exact ih _ _ _ _ (by omega) h
    rename_i h2
    rw [if_neg h2] at h; split
    ·rename_i h3; rw [if_pos h3] at h; exact ih _ _ _ _ (by omega) h
    rename_i h3; rw [if_neg h3] at h; exact ih _ _ _ _ (by omega) h
  | succ o =>
   simp only [qGo] at h ⊢; split
   ·rename_i h1; rw [if_pos h1] at h; exact h
   rename_i h1
   rw [if_neg h1] at h; split
   ·rename_i h2; rw [if_pos h2] at h; exact h
   rename_i h2; rw [if_neg h2] at h; exact ih _ _ _ _ (by omega) h
theorem brk_eq (s : Nat) (t : Tf) : (if t.kind = 6 ∧ t.text = ⟨#[40]⟩ then s + 2 else if t.kind = 6 ∧ t.text = ⟨#[41]⟩ then s else s + 1) = brk (s + 1) (tk t) := rfl
theorem qGo_walk {L : List UInt8} {d f : Nat} {a b : Nat} {ks : List TK} (h : ScD L d a ks b) : ∀ (s s' n e : Nat), walkB (s + 1) ks = some (s' + 1) → qGo L (oneF L d) f n (s' + 1) b = (e, 0) → qGo L (oneF L d) f (n + ks.length) (s + 1) a = (e, 0) := by
 induction h with
 | @nil a b h =>
  intro s s' n e hw hq; injection hw with hw; obtain rfl : s = s' := by omega
  cases n with
  | zero => exact hq
  | succ n =>
   simp only [qGo, List.length_nil, Nat.add_zero] at hq ⊢; rw [oneF_skip h]; exact hq
 | @cons a b c t l h hk hr ih =>
  intro s s' n e hw hq; rw [List.length_cons, ← Nat.add_assoc]; simp only [qGo, h]; rw [if_neg (by simp), if_neg hk, brk_eq]; have hw : walkB (brk (s + 1) (tk t)) l = some (s' + 1) := hw; obtain ⟨u, hu⟩ : ∃ u, brk (s + 1) (tk t) = u + 1 := by
   cases hb : brk (s + 1) (tk t) with
   | succ u => exact ⟨u, rfl⟩
   | zero =>
    rw [hb] at hw; cases l with
    | nil => cases hw
    | cons q r => cases hw
  rw [hu] at hw ⊢; exact ih u s' n e hw hq
theorem close_walk {L : List UInt8} {d : Nat} {a b : Nat} {ks : List TK} (h : ScD L d a ks b) : ∀ (s s' n : Nat), walkB (s + 1) ks = some (s' + 1) → 0 < n → closeF (oneF L d) (n + ks.length) (s + 1) a = closeF (oneF L d) n (s' + 1) b := by
 induction h with
 | @nil a b h =>
  intro s s' n hw hn; injection hw with hw; obtain rfl : s = s' := by omega
  obtain ⟨n, rfl⟩ : ∃ k, n = k + 1 := ⟨n - 1, by omega⟩
  simp only [closeF, List.length_nil, Nat.add_zero]; rw [oneF_skip h]
 | @cons a b c t l h hk hr ih =>
  intro s s' n hw hn; rw [List.length_cons, ← Nat.add_assoc]; simp only [closeF, h]; rw [brk_eq]; have hw : walkB (brk (s + 1) (tk t)) l = some (s' + 1) := hw; obtain ⟨u, hu⟩ : ∃ u, brk (s + 1) (tk t) = u + 1 := by
   cases hb : brk (s + 1) (tk t) with
   | succ u => exact ⟨u, rfl⟩
   | zero =>
    rw [hb] at hw; cases l with
    | nil => cases hw
    | cons q r => cases hw
  rw [hu] at hw ⊢; exact ih u s' n hw hn
theorem ScD.len {L : List UInt8} {d a b : Nat} {l : List TK} (h : ScD L d a l b) : a ≤ L.length → skipA L a + l.length ≤ skipA L b := by
 induction h with
 | nil h => intro _; rw [h]; exact Nat.le_refl _
 | cons h hk hr ih =>
  intro ha; obtain ⟨h1, h2⟩ := skipA_le L _ ha; rw [oneF_eq] at h; have h3 := oneG_ok L (quoteF L d) (fun f hf => quoteF_ok L d f hf) _ _ (Nat.le_refl _) h2; rw [h] at h3; have h4 := h3.fwd rfl hk; have h5 := h3.le; dsimp only at h4 h5; have h6 := ih h5; have h7 := (skipA_le L _ h5).1; rw [List.length_cons]; omega
/-! texts in quotes -/
inductive BdQ : List UInt8 → Prop
 | nil : BdQ []
 | one {c : UInt8} {r : List UInt8} (h1 : c ≠ 34) (h2 : c ≠ 92) (h : BdQ r) : BdQ (c :: r)
 | esc {c : UInt8} {r : List UInt8} (h1 : c ≠ 40) (h : BdQ r) : BdQ (92 :: c :: r)
theorem BdQ.app {a b : List UInt8} (ha : BdQ a) (hb : BdQ b) : BdQ (a ++ b) := by
 induction ha with
 | nil => exact hb
 | one h1 h2 _ ih => exact .one h1 h2 ih
 | esc h1 _ ih => exact .esc h1 ih
theorem bdq_all {l : List UInt8} (h : ∀ c ∈ l, c ≠ 34 ∧ c ≠ 92) : BdQ l := by
 induction l with
 | nil => exact .nil
 | cons c l ih => exact .one (h c List.mem_cons_self).1 (h c List.mem_cons_self).2 (ih fun x hx => h x (List.mem_cons_of_mem _ hx))
theorem hexS_no (n : Nat) (h : n < 16) : hexS n ≠ 34 ∧ hexS n ≠ 92 := by
 have : ∀ n : Fin 16, hexS n.val ≠ 34 ∧ hexS n.val ≠ 92 := by decide
 exact this ⟨n, h⟩
theorem escS_bd (c : Nat) : BdQ (escS c) := by
 unfold escS; repeat' split
 ·rename_i h
  rcases h with rfl | rfl
  ·exact .esc (by decide) .nil
  exact .esc (by decide) .nil
 ·exact .esc (by decide) .nil
 ·exact .esc (by decide) .nil
 ·exact .esc (by decide) .nil
 ·exact .esc (by decide) .nil
 ·exact .esc (by decide) .nil
 ·have h1 := hexS_no (c / 16) (by omega)
  have h2 := hexS_no (c % 16) (by omega); exact .esc (by decide) (.one (by decide) (by decide) (.one (by decide) (by decide) (.one h1.1 h1.2 (.one h2.1 h2.2 .nil))))
 rename_i h _ _ _ _ _ h2
 refine bdq_all fun x hx => ?_
 have := rune_in c (by omega) (by omega) (by omega) x hx; exact ⟨by rintro rfl; exact this.2.1 rfl, by rintro rfl; exact this.2.2 rfl⟩
theorem body_bd : ∀ (n : Nat) (l : List UInt8), l.length ≤ n → BdQ (bodyD l) := by
 intro n; induction n with
 | zero => intro l h; obtain rfl : l = [] := List.eq_nil_of_length_eq_zero (by omega); exact .nil
 | succ n ih =>
  intro l h; by_cases hne : l = []
  ·subst hne; exact .nil
  have hw := decodeL_width l; have hl : 0 < l.length := List.length_pos_iff.2 hne; rw [bodyD_step l hne]; exact (escS_bd _).app (ih _ (by rw [List.length_drop]; omega))
theorem get_drop0 {L R : List UInt8} {a : Nat} {c : UInt8} (h : L.drop a = c :: R) : L[a]? = some c ∧ L.drop (a + 1) = R := by
 refine ⟨?_, ?_⟩
 ·have := congrArg List.head? h
  rw [List.head?_drop] at this; exact this
 rw [← List.drop_drop, h]; rfl
theorem qGo_body {L : List UInt8} {one : Nat → Tf × Nat × Nat} {f : Nat} {B : List UInt8} (hB : BdQ B) : ∀ (R : List UInt8) (a n e : Nat), L.drop a = B ++ R → qGo L one f n 0 (a + B.length) = (e, 0) → qGo L one f (n + B.length) 0 a = (e, 0) := by
 induction hB with
 | nil => intro R a n e _ h; exact h
 | @one c r h1 h2 _ ih =>
  intro R a n e hL h; obtain ⟨g1, g2⟩ := get_drop0 hL; rw [List.length_cons, ← Nat.add_assoc]; simp only [qGo, g1]; rw [if_neg h1, if_pos h2]; exact ih R (a + 1) n e g2 (by rw [List.length_cons] at h; rw [show a + 1 + r.length = a + (r.length + 1) by omega]; exact h)
 | @esc c r h1 _ ih =>
  intro R a n e hL h; obtain ⟨g1, g2⟩ := get_drop0 hL; obtain ⟨g3, g4⟩ := get_drop0 g2; rw [List.length_cons, List.length_cons] at h ⊢; rw [show n + (r.length + 1 + 1) = n + 1 + r.length + 1 by omega]; simp only [qGo, g1]; rw [if_neg (by decide), if_neg (by simp), if_neg (by rw [g3]; intro hh; injection hh with hh; exact h1 hh)]; exact qGo_mono (n + r.length) _ _ _ _ (by omega) (ih R (a + 2) n e g4 (by rw [show a + 2 + r.length = a + (r.length + 1 + 1) by omega]; exact h))
structure Fp where
 t : List UInt8
 k : List TK
 b : List UInt8
def jn : List UInt8 → List Fp → List UInt8
 | b, [] => b
 | b, x :: r => b ++ (92 :: 40 :: (x.t ++ (41 :: jn x.b r)))
structure FpOk (d : Nat) (x : Fp) : Prop where
 b : BdQ x.b
 r : ∀ R, RD d x.t x.k (41 :: R)
 w : Bal x.k
theorem close_end {L : List UInt8} {d a : Nat} {R : List UInt8} (hL : L.drop a = 41 :: R) : oneF L d a = (⟨6, ⟨#[41]⟩, a⟩, a + 1, 0) := by
 rw [oneF_eq]; have hs : skipA L a = a := by unfold skipA; rw [hL]; rfl
 rw [hs]; unfold oneG; rw [hL]; have ht : tokP (41 :: R) = (6, 0, 1) := by simp [tokP, letF, isDg, signN, twoL, oneL]
 dsimp only; rw [if_neg (by decide), ht]; rfl
theorem qGo_jn {L : List UInt8} {d f : Nat} : ∀ (r : List Fp) (b : List UInt8) (a : Nat) (R : List UInt8), BdQ b → (∀ x ∈ r, FpOk d x) → L.drop a = jn b r ++ 34 :: R → ∃ n, n ≤ (jn b r).length + 1 ∧ qGo L (oneF L d) f n 0 a = (a + (jn b r).length + 1, 0)
 | [], b, a, R, hb, _, hL => by
  refine ⟨1 + b.length, by simp only [jn]; omega, ?_⟩; refine qGo_body hb (34 :: R) a 1 _ hL ?_; have : L.drop (a + b.length) = 34 :: R := by rw [← List.drop_drop, hL]; simp only [jn]; rw [List.drop_left]
  simp only [qGo, (get_drop0 this).1]; rw [if_pos trivial]; rfl
 | x :: r, b, a, R, hb, hr, hL => by
  have hx := hr x List.mem_cons_self; have hle : a ≤ L.length := by
   rcases Nat.lt_or_ge L.length a with h | h
   ·rw [List.drop_eq_nil_of_le (by omega)] at hL
    have := congrArg List.length hL; simp at this
   exact h
  have h1 : L.drop (a + b.length) = 92 :: 40 :: (x.t ++ (41 :: (jn x.b r ++ 34 :: R))) := by rw [← List.drop_drop, hL]; simp [jn]
  obtain ⟨g1, h2⟩ := get_drop0 h1; obtain ⟨g2, h3⟩ := get_drop0 h2; have hle3 : a + b.length + 1 + 1 ≤ L.length := by
   rcases Nat.lt_or_ge L.length (a + b.length + 1 + 1) with h | h
   ·rw [List.drop_eq_nil_of_le (by omega)] at h3
    have := congrArg List.length h3; simp at this
   exact h
  have hs := hx.r (jn x.b r ++ 34 :: R) L _ hle3 h3; have h4 : L.drop (a + b.length + 1 + 1 + x.t.length) = 41 :: (jn x.b r ++ 34 :: R) := by rw [← List.drop_drop, h3, List.drop_left]
  obtain ⟨g5, h5⟩ := get_drop0 h4; obtain ⟨n, hn, hq⟩ := qGo_jn r x.b (a + b.length + 1 + 1 + x.t.length + 1) R hx.b (fun y hy => hr y (List.mem_cons_of_mem _ hy)) h5; have hlen := hs.len hle3; have hk : skipA L (a + b.length + 1 + 1 + x.t.length) = a + b.length + 1 + 1 + x.t.length := by unfold skipA; rw [h4]; rfl
  have hsk := (skipA_le L _ hle3).1; have hjl : (jn b (x :: r)).length = b.length + x.t.length + 3 + (jn x.b r).length := by simp only [jn, List.length_append, List.length_cons]; omega
  refine ⟨n + 1 + x.k.length + 1 + b.length, by rw [hjl]; omega, ?_⟩; refine qGo_body hb _ a _ _ (by rw [hL]; simp only [jn, List.append_assoc, List.cons_append]; rfl) ?_; simp only [qGo, g1]; rw [if_neg (by decide), if_neg (by simp), if_pos g2]; refine qGo_walk hs 0 0 (n + 1) _ (hx.w 0) ?_; simp only [qGo, close_end h4]; rw [if_neg (by simp), if_neg (by decide), if_neg (by decide), if_pos (by decide), hq, hjl]; congr 1; omega
theorem rd_quote {d : Nat} {b : List UInt8} {r : List Fp} (hb : BdQ b) (hr : ∀ x ∈ r, FpOk d x) (R : List UInt8) : RD (d + 1) (34 :: (jn b r ++ [34])) [(5, ⟨(34 :: (jn b r ++ [34])).toArray⟩)] R := by
 intro L o ho hL; have hL2 : L.drop o = 34 :: (jn b r ++ 34 :: R) := by rw [hL]; simp
 obtain ⟨g, h1⟩ := get_drop0 hL2; obtain ⟨n, hn, hq⟩ := qGo_jn r b (o + 1) R hb hr h1; have hs : skipA L o = o := by unfold skipA; rw [hL2]; rfl
 have hll : (jn b r).length + 1 ≤ L.length := by
  have := congrArg List.length hL2; simp only [List.length_drop, List.length_cons, List.length_append] at this; omega
 have hqq : quoteF L (d + 1) o = (o + (34 :: (jn b r ++ [34])).length, 0) := by
  show qGo L (oneF L d) o (L.length + 2) 0 (o + 1) = _
  rw [qGo_mono n _ _ _ _ (by omega) (hq)]; simp only [List.length_cons, List.length_append, List.length_nil]; congr 1; omega
 have he : oneF L (d + 1) o = (⟨5, ⟨(34 :: (jn b r ++ [34])).toArray⟩, o⟩, o + (34 :: (jn b r ++ [34])).length, 0) := by
  rw [oneF_eq, hs]; unfold oneG; rw [hqq]; rw [show L.drop o = 34 :: (jn b r ++ [34] ++ R) by rw [hL]; rfl]; dsimp only; rw [if_pos rfl, if_neg (by simp), Nat.add_sub_cancel_left, show 34 :: (jn b r ++ [34] ++ R) = (34 :: (jn b r ++ [34])) ++ R from rfl, List.take_left]
 exact .cons he (show (5 : Nat) ≠ 0 by decide) (.nil rfl)
/-! the parts of such a text -/
theorem parts_body {L : List UInt8} {one : Nat → Tf × Nat × Nat} {B : List UInt8} (hB : BdQ B) : ∀ (R : List UInt8) (f a n : Nat) (r : PartsR), L.drop a = B ++ R → 0 < R.length → ∃ m, n ≤ m ∧ partsGo L one (n + B.length) f a r = partsGo L one m f (a + B.length) r := by
 induction hB with
 | nil => intro R f a n r _ _; exact ⟨n, Nat.le_refl _, rfl⟩
 | @one c t h1 h2 _ ih =>
  intro R f a n r hL hR; obtain ⟨g1, g2⟩ := get_drop0 hL; have hlen := congrArg List.length hL; simp only [List.length_drop, List.length_append, List.length_cons] at hlen; obtain ⟨m, hm, h⟩ := ih R f (a + 1) n r g2 hR; refine ⟨m, hm, ?_⟩; rw [List.length_cons, ← Nat.add_assoc]; simp only [partsGo, g1]; rw [if_neg (by omega), if_pos (by intro h; injection h with h; exact h2 h), h, show a + 1 + t.length = a + (t.length + 1) by omega]
 | @esc c t h1 _ ih =>
  intro R f a n r hL hR; obtain ⟨g1, g2⟩ := get_drop0 hL; obtain ⟨g3, g4⟩ := get_drop0 g2; have hlen := congrArg List.length hL; simp only [List.length_drop, List.length_append, List.length_cons] at hlen; obtain ⟨m, hm, h⟩ := ih R f (a + 2) (n + 1) r g4 hR; refine ⟨m, by omega, ?_⟩; rw [List.length_cons, List.length_cons]; rw [show n + (t.length + 1 + 1) = (n + 1 + t.length) + 1 by omega]; simp only [partsGo, g1]; rw [if_neg (by omega), if_neg (by simp), if_pos (by rw [g3]; intro h; injection h with h; exact h1 h), h, show a + 2 + t.length = a + (t.length + 1 + 1) by omega]
theorem parts_jn {L : List UInt8} {d : Nat} : ∀ (r : List Fp) (b : List UInt8) (a n : Nat) (T F : List (List UInt8)) (P : List Nat), BdQ b → (∀ x ∈ r, FpOk d x) → L.drop a = jn b r ++ [34] → (jn b r).length + 1 ≤ n →
  ∃ ps, partsGo L (oneF L d) n a a ⟨T, F, P⟩ = ⟨T ++ b :: r.map Fp.b, F ++ r.map Fp.t, ps⟩
 | [], b, a, n, T, F, P, hb, _, hL, hn => by
  have hlen := congrArg List.length hL; simp only [jn, List.length_drop, List.length_append, List.length_cons, List.length_nil] at hlen hn hL; obtain ⟨m, hm, h⟩ := parts_body (one := oneF L d) hb [34] a a (n - b.length) ⟨T, F, P⟩ hL (by decide); rw [show n - b.length + b.length = n by omega] at h; obtain ⟨m, rfl⟩ : ∃ k, m = k + 1 := ⟨m - 1, by omega⟩
  refine ⟨P, ?_⟩; rw [h]; simp only [partsGo]; rw [if_pos (by omega), List.drop_take, hL, show L.length - 1 - a = b.length by omega, List.take_left]; simp
 | x :: r, b, a, n, T, F, P, hb, hr, hL, hn => by
  have hx := hr x List.mem_cons_self; have hjl : (jn b (x :: r)).length = b.length + x.t.length + 3 + (jn x.b r).length := by simp only [jn, List.length_append, List.length_cons]; omega
  have hlen := congrArg List.length hL; rw [List.length_drop, List.length_append, hjl] at hlen; rw [hjl] at hn; simp only [List.length_cons, List.length_nil] at hlen; have h1 : L.drop (a + b.length) = 92 :: 40 :: (x.t ++ (41 :: (jn x.b r ++ [34]))) := by rw [← List.drop_drop, hL]; simp [jn]
  obtain ⟨g1, h2⟩ := get_drop0 h1; obtain ⟨g2, h3⟩ := get_drop0 h2; have hs := hx.r (jn x.b r ++ [34]) L _ (by omega) h3; have h4 : L.drop (a + b.length + 1 + 1 + x.t.length) = 41 :: (jn x.b r ++ [34]) := by rw [← List.drop_drop, h3, List.drop_left]
  obtain ⟨g5, h5⟩ := get_drop0 h4; have hkl := hs.len (by omega); have hk : skipA L (a + b.length + 1 + 1 + x.t.length) = a + b.length + 1 + 1 + x.t.length := by unfold skipA; rw [h4]; rfl
  have hsk := (skipA_le L (a + b.length + 1 + 1) (by omega)).1; have hc : closeF (oneF L d) (L.length + 2) 1 (a + b.length + 2) = a + b.length + 1 + 1 + x.t.length + 1 := by
   have := close_walk hs 0 0 (L.length + 2 - x.k.length) (hx.w 0) (by omega); rw [show L.length + 2 - x.k.length + x.k.length = L.length + 2 by omega] at this; rw [show a + b.length + 2 = a + b.length + 1 + 1 by omega, this]; obtain ⟨m, hm⟩ : ∃ m, L.length + 2 - x.k.length = m + 1 := ⟨L.length + 2 - x.k.length - 1, by omega⟩
   rw [hm]; simp only [closeF, close_end h4]; rw [if_neg (by decide), if_pos (by decide)]; cases m <;> rfl
  have hL2 : L.drop a = b ++ (92 :: 40 :: (x.t ++ (41 :: (jn x.b r ++ [34])))) := by rw [hL]; simp [jn]
  obtain ⟨m, hm, h⟩ := parts_body (one := oneF L d) hb _ a a (n - b.length) ⟨T, F, P⟩ hL2 (by simp); rw [show n - b.length + b.length = n by omega] at h; obtain ⟨m, rfl⟩ : ∃ k, m = k + 1 := ⟨m - 1, by omega⟩
  obtain ⟨ps, hp⟩ := parts_jn r x.b _ m (T ++ [b]) (F ++ [x.t]) (P ++ [a + b.length + 2]) hx.b (fun y hy => hr y (List.mem_cons_of_mem _ hy)) h5 (by omega); refine ⟨ps, ?_⟩; rw [h]; simp only [partsGo]; rw [if_neg (by omega), if_neg (by rw [g1]; simp), if_neg (by rw [g2]; simp), hc]; have e1 : (L.take (a + b.length)).drop a = b := by rw [List.drop_take, hL2, Nat.add_sub_cancel_left, List.take_left]
  have e2 : (L.take (a + b.length + 1 + 1 + x.t.length + 1 - 1)).drop (a + b.length + 2) = x.t := by
   rw [List.drop_take, show a + b.length + 2 = a + b.length + 1 + 1 by omega, h3, show a + b.length + 1 + 1 + x.t.length + 1 - 1 - (a + b.length + 1 + 1) = x.t.length by omega, List.take_left]
  rw [e1, e2, hp]; simp
theorem quote_jn {b : List UInt8} {r : List Fp} (hb : BdQ b) (h47 : ∀ x ∈ r, FpOk 47 x) (hl : (34 :: (jn b r ++ [34])).length ≤ 16384) : ∃ ps, partsF (34 :: (jn b r ++ [34])) = (⟨b :: r.map Fp.b, r.map Fp.t, ps⟩, 0) := by
 have hL : (34 :: (jn b r ++ [34])).drop 1 = jn b r ++ 34 :: [] := rfl; obtain ⟨n, hn, hq⟩ := qGo_jn (f := 0) r b 1 [] hb h47 hL; obtain ⟨ps, hp⟩ := parts_jn r b 1 ((34 :: (jn b r ++ [34])).length + 1) [] [] [] hb h47 hL (by simp only [List.length_cons, List.length_append, List.length_nil]; omega); have hqq : quoteF (34 :: (jn b r ++ [34])) 48 0 = ((34 :: (jn b r ++ [34])).length, 0) := by
  show qGo _ (oneF _ 47) 0 _ 0 1 = _
  rw [qGo_mono n _ _ _ _ (by simp only [List.length_cons, List.length_append, List.length_nil]; omega) hq]; simp only [List.length_cons, List.length_append, List.length_nil]; congr 1; omega
 refine ⟨ps, ?_⟩; unfold partsF; rw [if_pos (by unfold okQ; rw [hqq]; simp only [Bool.and_eq_true, decide_eq_true_eq]; exact ⟨⟨hl, rfl⟩, trivial⟩), hp]; rfl
end Th
