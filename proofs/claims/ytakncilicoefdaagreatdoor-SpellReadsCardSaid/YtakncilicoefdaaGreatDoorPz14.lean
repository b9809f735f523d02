/- Lemmas and contracts. Conditions: those that each lemma names. -/
import Derived.Test.YtakncilicoefdaaGreatDoorPz12
set_option maxRecDepth 100000
set_option maxHeartbeats 4000000
namespace Th
open Go Go.Lib
abbrev TK := Nat × ByteArray
inductive ScD (L : List UInt8) (d : Nat) : Nat → List TK → Nat → Prop
 | nil {a b : Nat} (h : AL L a = AL L b) : ScD L d a [] b
 | cons {a b c : Nat} {t : Tf} {l : List TK} (h : AF L d a = (t, b, 0)) (hk : t.kind ≠ 0) (hr : ScD L d b l c) : ScD L d a (tk t :: l) c
theorem ScD.trans {L : List UInt8} {d a b c : Nat} {l m : List TK} (h1 : ScD L d a l b) (h2 : ScD L d b m c) : ScD L d a (l ++ m) c := by
 induction h1 with
 | nil h => cases h2 with
  | nil h' => exact .nil (h.trans h')
  | cons h' hk hr => exact .cons (by rw [Hf h]; exact h') hk hr
 | cons h hk hr ih => exact .cons h hk (ih h2)
def RD (d : Nat) (P : List UInt8) (ks : List TK) (R : List UInt8) : Prop := ∀ L o, o ≤ L.length → L.drop o = P ++ R → ScD L d o ks (o + P.length)
theorem RD.app {d : Nat} {P1 P2 R : List UInt8} {k1 k2 : List TK} (h1 : RD d P1 k1 (P2 ++ R)) (h2 : RD d P2 k2 R) : RD d (P1 ++ P2) (k1 ++ k2) R := by
 intro L o ho hL; rw [List.append_assoc] at hL; have s1 := h1 L o ho hL; have hlen := congrArg List.length hL; rw [List.length_drop, List.length_append] at hlen; have s2 := h2 L (o + P1.length) (by omega) (by rw [← List.drop_drop, hL, List.drop_left]); rw [List.length_append, ← Nat.add_assoc]; exact s1.trans s2
theorem Lv (d : Nat) (R : List UInt8) : RD d [] [] R := fun _ _ _ _ => .nil rfl
theorem Bb (d : Nat) (R : List UInt8) : RD d [32] [] R := by
 intro L o ho hL; refine .nil ?_; have e : L.drop (o + 1) = R := by rw [← List.drop_drop, hL]; rfl
 unfold AL; rw [show o + [(32 : UInt8)].length = o + 1 from rfl, e, hL]; simp [Ci, CI]; omega
theorem FO {d : Nat} {P R r : List UInt8} {c : UInt8} {k m : Nat} {x : ByteArray} (e : P ++ R = c :: r) (hc : Ci false (c :: r) = 0) (h34 : c ≠ 34) (ht : Bj (c :: r) = (k, m, P.length)) (hk : k ≠ 0) (hx : (⟨(P.drop m).toArray⟩ : ByteArray) = x) : RD d P [(k, x)] R := by
 intro L o ho hL; have hs : AL L o = o := by unfold AL; rw [hL, e, hc]; rfl
 have ho : AF L d o = (⟨k, x, o⟩, o + P.length, 0) := by
  rw [B9, hs]; unfold BG; rw [hL, e]; dsimp only; rw [if_neg h34, ht]; dsimp only; rw [if_neg hk, ← e, List.take_left, hx]
 exact .cons ho hk (.nil rfl)
structure Pc where
 p : List UInt8
 k : List TK
def CD : List Pc → List UInt8
 | [] => []
 | x :: r => x.p ++ CD r
def BH : List Pc → List TK
 | [] => []
 | x :: r => x.k ++ BH r
def SG (d : Nat) : List Pc → List UInt8 → Prop
 | [], _ => True
 | x :: r, R => RD d x.p x.k (CD r ++ R) ∧ SG d r R
theorem L1 {d : Nat} : ∀ {ps : List Pc} {R : List UInt8}, SG d ps R → RD d (CD ps) (BH ps) R
 | [], R, _ => Lv d R
 | _ :: _, _, ⟨h1, h2⟩ => h1.app (L1 h2)
/-! what may stand behind a text -/
def El : List UInt8 → Bool
 | [] => true
 | c :: _ => decide (c ∈ [(41 : UInt8), 93, 91, 32, 59, 58, 44, 125])
theorem Ha {R : List UInt8} (h : El R = true) : R = [] ∨ ∃ c r, R = c :: r ∧ (c = 41 ∨ c = 93 ∨ c = 91 ∨ c = 32 ∨ c = 59 ∨ c = 58 ∨ c = 44 ∨ c = 125) := by
 cases R with
 | nil => exact .inl rfl
 | cons c r =>
  refine .inr ⟨c, r, rfl, ?_⟩; simpa [El] using h
theorem G0 {R : List UInt8} (h : El R = true) : Bi Bz R = 0 := by
 rcases Ha h with rfl | ⟨c, r, rfl, hc⟩
 ·rfl
 rcases hc with rfl | rfl | rfl | rfl | rfl | rfl | rfl | rfl <;> simp [Bi, Bz, Bl, Bs]
theorem SV {R : List UInt8} (h : El R = true) : AM R = 0 := by
 rcases Ha h with rfl | ⟨c, r, rfl, hc⟩
 ·rfl
 rcases hc with rfl | rfl | rfl | rfl | rfl | rfl | rfl | rfl <;> simp [AM, Bl]
theorem Qg {s R : List UInt8} (hs : Bc s = true) (hR : Bi Bz R = 0) : AM (s ++ R) = s.length ∧ 0 < s.length := by
 cases s with
 | nil => cases hs
 | cons c s =>
  simp only [Bc, Bool.and_eq_true] at hs; rw [List.cons_append]; simp only [AM]; rw [if_pos hs.1, G6 _ _ _ hs.2, hR, List.length_cons]; omega
theorem Za {c : UInt8} (h : Bl c = true) : c ≠ 34 ∧ CI c = false ∧ c ≠ 35 := by
 have h1 : c ≠ 34 := by rintro rfl; cases h
 have h2 : c ≠ 35 := by rintro rfl; cases h
 simp only [Bl, Bool.or_eq_true, decide_eq_true_eq] at h; refine ⟨h1, ?_, h2⟩; simp only [CI, Bool.or_eq_false_iff, decide_eq_false_iff_not]; omega
theorem CC {d : Nat} {s R : List UInt8} (hs : Bc s = true) (hR : Bi Bz R = 0) : RD d s [(1, ⟨s.toArray⟩)] R := by
 obtain ⟨h1, h2⟩ := Qg hs hR; cases s with
 | nil => cases hs
 | cons c s =>
  have hc : Bl c = true := by simp only [Bc, Bool.and_eq_true] at hs; exact hs.1
  obtain ⟨h3, h4, h5⟩ := Za hc; refine FO (c := c) (r := s ++ R) rfl (by simp [Ci, h4, h5]) h3 (m := 0) ?_ (by decide) rfl; rw [List.cons_append] at h1; simp only [Bj]; rw [if_pos hc, h1]
theorem GW {d : Nat} {s R : List UInt8} (hs : Bc s = true) (hR : Bi Bz R = 0) : RD d (36 :: s) [(2, ⟨s.toArray⟩)] R := by
 obtain ⟨h1, h2⟩ := Qg hs hR; refine FO (c := 36) (r := s ++ R) rfl rfl (by decide) (m := 1) ?_ (by decide) rfl; simp only [Bj]; rw [if_neg (by decide), if_pos ⟨trivial, by omega⟩, h1, List.length_cons, Nat.add_comm 1]
theorem Zq {d : Nat} {R : List UInt8} (hR : El R = true) : RD d [46] [(6, ⟨#[46]⟩)] R := by
 refine FO (c := 46) (r := R) rfl rfl (by decide) (m := 0) ?_ (by decide) rfl; have h0 := SV hR; simp only [Bj]; rw [if_neg (by decide), if_neg (fun h => absurd h.1 (by decide)), if_neg (by omega), if_neg (by decide)]; rcases Ha hR with rfl | ⟨c, r, rfl, hc⟩
 ·rfl
 rcases hc with rfl | rfl | rfl | rfl | rfl | rfl | rfl | rfl <;> simp [Be, DY, oneL]
theorem YH (d : Nat) (R : List UInt8) : RD d [46, 46] [(6, ⟨#[46, 46]⟩)] R := by
 refine FO (c := 46) (r := 46 :: R) rfl rfl (by decide) (m := 0) ?_ (by decide) rfl; simp [Bj, Bl, Bs, Be, DY, AM]
def UK (c : UInt8) : Bool := decide (c ∈ [(40 : UInt8), 41, 91, 93, 123, 125, 59, 58, 44])
theorem A1 {c : UInt8} (hc : UK c = true) (d : Nat) (R : List UInt8) : RD d [c] [(6, ⟨#[c]⟩)] R := by
 simp only [UK, decide_eq_true_eq, List.mem_cons, List.not_mem_nil, or_false] at hc; rcases hc with rfl | rfl | rfl | rfl | rfl | rfl | rfl | rfl | rfl <;>
  exact FO (r := R) rfl rfl (by decide) (m := 0) (by simp [Bj, Bl, Bs, Be, DY, oneL]) (by decide) rfl
theorem WT {d : Nat} {R : List UInt8} (hR : R.head? ≠ some 61) : RD d [45] [(6, ⟨#[45]⟩)] R := by
 refine FO (c := 45) (r := R) rfl rfl (by decide) (m := 0) ?_ (by decide) rfl; cases R with
 | nil => rfl
 | cons c r =>
  have : c ≠ 61 := fun h => hR (by rw [h]; rfl)
  simp [Bj, Bl, Bs, Be, DY, oneL, this]
def Xd (s : List UInt8) : Bool := decide (s ∈ [[(124 : UInt8)], [44], [47, 47], [61, 61], [33, 61], [60], [60, 61], [62], [62, 61], [43], [45], [42], [47], [37], [61], [124, 61], [43, 61], [45, 61], [42, 61], [47, 61], [47, 47, 61]])
theorem Xp {s : List UInt8} (hs : Xd s = true) (d : Nat) (R : List UInt8) : RD d s [(6, ⟨s.toArray⟩)] (32 :: R) := by
 simp only [Xd, decide_eq_true_eq, List.mem_cons, List.not_mem_nil, or_false] at hs; rcases hs with rfl | rfl | rfl | rfl | rfl | rfl | rfl | rfl | rfl | rfl | rfl | rfl | rfl | rfl | rfl | rfl | rfl | rfl | rfl | rfl | rfl <;>
  exact FO rfl (by simp [Ci, CI]) (by decide) (m := 0) (by simp [Bj, Bl, Bs, Be, DY, oneL]) (by decide) rfl
/-! numbers -/
theorem UI {u : List UInt8} (h : Cw u = true) : ∀ c ∈ u, Bs c = true ∨ c = 46 ∨ c = 101 ∨ c = 69 ∨ c = 43 ∨ c = 45 := by
 obtain ⟨D, F, E, hF⟩ := Gh u h; have hd : ∀ {t : List UInt8}, B3 t = true → ∀ c ∈ t, Bs c = true := fun ht c hc => by
  rw [Cd] at ht; exact List.all_eq_true.1 ht.2 c hc
 intro c hc; rw [hF.cat, List.mem_append, List.mem_append] at hc; rcases hc with hc | hc | hc
 ·exact .inl (hd hF.d c hc)
 ·rcases hF.f with h1 | ⟨x, h1, h2⟩
  ·rw [h1] at hc; cases hc
  rw [h1] at hc; rcases List.mem_cons.1 hc with rfl | hc
  ·exact .inr (.inl rfl)
  exact .inl (hd h2 c hc)
 rcases hF.e with h1 | ⟨e, x, h1, h2, h3⟩
 ·rw [h1] at hc; cases hc
 rw [h1] at hc; rcases List.mem_cons.1 hc with rfl | hc
 ·rcases h2 with rfl | rfl
  ·exact .inr (.inr (.inl rfl))
  exact .inr (.inr (.inr (.inl rfl)))
 rcases GI x h3 with ⟨g, y, rfl, hg, hy⟩ | ⟨g, y, rfl, _, hy⟩
 ·rcases List.mem_cons.1 hc with rfl | hc
  ·rcases hg with rfl | rfl
   ·exact .inr (.inr (.inr (.inr (.inl rfl))))
   exact .inr (.inr (.inr (.inr (.inr rfl))))
  exact .inl (hd hy c hc)
 exact .inl (hd hy c hc)
theorem YL {u R : List UInt8} (h : Cw u = true) (hR : El R = true) : Dc (u ++ R) = u.length := by
 have h1 := Rm u R h; have h0 : 0 < Bq (u ++ R) := by
  cases u with
  | nil => simp [Cw, Cj, B3] at h
  | cons c x =>
   have := D2 c x h; simp [Bq, Bi, this]
 obtain ⟨h2, h3⟩ := PI (u ++ R) h0; rcases Nat.lt_or_ge u.length (Dc (u ++ R)) with hlt | hge
 ·exfalso
  rcases Ha hR with rfl | ⟨c, r, rfl, hc⟩
  ·rw [List.append_nil] at h3 hlt; omega
  have hm : c ∈ (u ++ c :: r).take (Dc (u ++ c :: r)) := by
   rw [List.take_append]; refine List.mem_append_right _ ?_; obtain ⟨k, hk⟩ : ∃ k, Dc (u ++ c :: r) - u.length = k + 1 := ⟨Dc (u ++ c :: r) - u.length - 1, by omega⟩
   rw [hk]; exact List.mem_cons_self
  have := UI h2 c hm; rcases hc with rfl | rfl | rfl | rfl | rfl | rfl | rfl | rfl <;> revert this <;> decide
 omega
theorem ZB {d : Nat} {u R : List UInt8} (h : Cw u = true) (hR : El R = true) : RD d u [(4, ⟨u.toArray⟩)] R := by
 have h1 := YL h hR; cases u with
 | nil => simp [Cw, Cj, B3] at h
 | cons c x =>
  have hd := D2 c x h; have hl : Bl c = false ∧ c ≠ 36 ∧ c ≠ 46 ∧ c ≠ 34 ∧ c ≠ 35 ∧ CI c = false := by
   have hd : 48 ≤ c.toNat ∧ c.toNat ≤ 57 := by simpa [Bs] using hd
   refine ⟨?_, ?_, ?_, ?_, ?_, ?_⟩
   ·simp only [Bl, Bool.or_eq_false_iff, decide_eq_false_iff_not]; omega
   ·rintro rfl; simp at hd
   ·rintro rfl; simp at hd
   ·rintro rfl; simp at hd
   ·rintro rfl; simp at hd
   simp only [CI, Bool.or_eq_false_iff, decide_eq_false_iff_not]; omega
  obtain ⟨h2, h3, h4, h5, h6, h7⟩ := hl; refine FO (c := c) (r := x ++ R) rfl (by simp [Ci, h6, h7]) h5 (m := 0) ?_ (by decide) rfl; rw [List.cons_append] at h1; simp only [Bj]; rw [if_neg (by rw [h2]; decide), if_neg (fun h => h3 h.1), if_neg (fun h => h4 h.1), if_pos hd, h1]
/-! brackets -/
def brk (s : Nat) (q : TK) : Nat := if q.1 = 6 ∧ q.2 = ⟨#[40]⟩ then s + 1 else if q.1 = 6 ∧ q.2 = ⟨#[41]⟩ then s - 1 else s
def Cx : Nat → List TK → Option Nat
 | s, [] => some s
 | 0, _ :: _ => none
 | s + 1, q :: r => Cx (brk (s + 1) q) r
def Bal (ks : List TK) : Prop := ∀ s, Cx (s + 1) ks = some (s + 1)
theorem Lm : ∀ (a b : List TK) (s t : Nat), Cx s a = some t → Cx s (a ++ b) = Cx t b
 | [], b, s, t, h => by injection h with h; rw [h]; rfl
 | _ :: _, _, 0, _, h => by cases h
 | q :: a, b, s + 1, t, h => Lm a b _ t h
theorem Bal.par {a : List TK} (ha : Bal a) : Bal ((6, ⟨#[40]⟩) :: (a ++ [(6, ⟨#[41]⟩)])) := fun s => by
 show Cx (s + 2) (a ++ _) = _
 rw [Lm a _ _ _ (ha (s + 1))]; rfl
theorem Kf : Bal [] := fun _ => rfl
theorem FH {q : TK} (h1 : q ≠ (6, ⟨#[40]⟩)) (h2 : q ≠ (6, ⟨#[41]⟩)) : Bal [q] := fun s => by
 show Cx (brk (s + 1) q) [] = _
 unfold brk; rw [if_neg (fun h => h1 (Prod.ext h.1 h.2)), if_neg (fun h => h2 (Prod.ext h.1 h.2))]; rfl
theorem Pe {L : List UInt8} {one : Nat → Tf × Nat × Nat} {f : Nat} : ∀ (n m o a e : Nat), n ≤ m → qGo L one f n o a = (e, 0) → qGo L one f m o a = (e, 0) := by
 intro n; induction n with
 | zero => intro m o a e _ h; exact absurd (show (20 : Nat) = 0 from congrArg Prod.snd h) (by decide)
 | succ n ih =>
  intro m o a e hm h; obtain ⟨m, rfl⟩ : ∃ k, m = k + 1 := ⟨m - 1, by omega⟩
  cases o with
  | zero =>
   simp only [qGo] at h ⊢; cases hc : L[a]? with
   | none => rw [hc] at h; exact absurd (show (20 : Nat) = 0 from congrArg Prod.snd h) (by decide)
   | some c =>
    rw [hc] at h; dsimp only at h ⊢; split
    ·rename_i h1; rw [if_pos h1] at h; exact h
    rename_i h1
    rw [if_neg h1] at h; split
    ·rename_i h2; rw [if_pos h2] at h; exact ih _ _ _ _ (by omega) h
    rename_i h2
    rw [if_neg h2] at h; split
    ·rename_i h3; rw [if_pos h3] at h; exact ih _ _ _ _ (by omega) h
    rename_i h3; rw [if_neg h3] at h; exact ih _ _ _ _ (by omega) h
  | succ o =>
   simp only [qGo] at h ⊢; split
   ·rename_i h1; rw [if_pos h1] at h; exact h
   rename_i h1
   rw [if_neg h1] at h; split
   ·rename_i h2; rw [if_pos h2] at h; exact h
   rename_i h2; rw [if_neg h2] at h; exact ih _ _ _ _ (by omega) h
theorem TH (s : Nat) (t : Tf) : (if t.kind = 6 ∧ t.text = ⟨#[40]⟩ then s + 2 else if t.kind = 6 ∧ t.text = ⟨#[41]⟩ then s else s + 1) = brk (s + 1) (tk t) := rfl
theorem Va {L : List UInt8} {d f : Nat} {a b : Nat} {ks : List TK} (h : ScD L d a ks b) : ∀ (s s' n e : Nat), Cx (s + 1) ks = some (s' + 1) → qGo L (AF L d) f n (s' + 1) b = (e, 0) → qGo L (AF L d) f (n + ks.length) (s + 1) a = (e, 0) := by
 induction h with
 | @nil a b h =>
  intro s s' n e hw hq; injection hw with hw; obtain rfl : s = s' := by omega
  cases n with
  | zero => exact hq
  | succ n =>
   simp only [qGo, List.length_nil, Nat.add_zero] at hq ⊢; rw [Hf h]; exact hq
 | @cons a b c t l h hk hr ih =>
  intro s s' n e hw hq; rw [List.length_cons, ← Nat.add_assoc]; simp only [qGo, h]; rw [if_neg (by simp), if_neg hk, TH]; have hw : Cx (brk (s + 1) (tk t)) l = some (s' + 1) := hw; obtain ⟨u, hu⟩ : ∃ u, brk (s + 1) (tk t) = u + 1 := by
   cases hb : brk (s + 1) (tk t) with
   | succ u => exact ⟨u, rfl⟩
   | zero =>
    rw [hb] at hw; cases l with
    | nil => cases hw
    | cons q r => cases hw
  rw [hu] at hw ⊢; exact ih u s' n e hw hq
theorem So {L : List UInt8} {d : Nat} {a b : Nat} {ks : List TK} (h : ScD L d a ks b) : ∀ (s s' n : Nat), Cx (s + 1) ks = some (s' + 1) → 0 < n → BN (AF L d) (n + ks.length) (s + 1) a = BN (AF L d) n (s' + 1) b := by
 induction h with
 | @nil a b h =>
  intro s s' n hw hn; injection hw with hw; obtain rfl : s = s' := by omega
  obtain ⟨n, rfl⟩ : ∃ k, n = k + 1 := ⟨n - 1, by omega⟩
  simp only [BN, List.length_nil, Nat.add_zero]; rw [Hf h]
 | @cons a b c t l h hk hr ih =>
  intro s s' n hw hn; rw [List.length_cons, ← Nat.add_assoc]; simp only [BN, h]; rw [TH]; have hw : Cx (brk (s + 1) (tk t)) l = some (s' + 1) := hw; obtain ⟨u, hu⟩ : ∃ u, brk (s + 1) (tk t) = u + 1 := by
   cases hb : brk (s + 1) (tk t) with
   | succ u => exact ⟨u, rfl⟩
   | zero =>
    rw [hb] at hw; cases l with
    | nil => cases hw
    | cons q r => cases hw
  rw [hu] at hw ⊢; exact ih u s' n hw hn
theorem ScD.len {L : List UInt8} {d a b : Nat} {l : List TK} (h : ScD L d a l b) : a ≤ L.length → AL L a + l.length ≤ AL L b := by
 induction h with
 | nil h => intro _; rw [h]; exact Nat.le_refl _
 | cons h hk hr ih =>
  intro ha; obtain ⟨h1, h2⟩ := C4 L _ ha; rw [B9] at h; have h3 := ME L (BK L d) (fun f hf => EX L d f hf) _ _ (Nat.le_refl _) h2; rw [h] at h3; have h4 := h3.fwd rfl hk; have h5 := h3.le; dsimp only at h4 h5; have h6 := ih h5; have h7 := (C4 L _ h5).1; rw [List.length_cons]; omega
/-! texts in quotes -/
inductive BdQ : List UInt8 → Prop
 | nil : BdQ []
 | one {c : UInt8} {r : List UInt8} (h1 : c ≠ 34) (h2 : c ≠ 92) (h : BdQ r) : BdQ (c :: r)
 | esc {c : UInt8} {r : List UInt8} (h1 : c ≠ 40) (h : BdQ r) : BdQ (92 :: c :: r)
theorem BdQ.app {a b : List UInt8} (ha : BdQ a) (hb : BdQ b) : BdQ (a ++ b) := by
 induction ha with
 | nil => exact hb
 | one h1 h2 _ ih => exact .one h1 h2 ih
 | esc h1 _ ih => exact .esc h1 ih
theorem YA {l : List UInt8} (h : ∀ c ∈ l, c ≠ 34 ∧ c ≠ 92) : BdQ l := by
 induction l with
 | nil => exact .nil
 | cons c l ih => exact .one (h c List.mem_cons_self).1 (h c List.mem_cons_self).2 (ih fun x hx => h x (List.mem_cons_of_mem _ hx))
theorem QQ (n : Nat) (h : n < 16) : DB n ≠ 34 ∧ DB n ≠ 92 := by
 have : ∀ n : Fin 16, DB n.val ≠ 34 ∧ DB n.val ≠ 92 := by decide
 exact this ⟨n, h⟩
theorem Yq (c : Nat) : BdQ (CA c) := by
 unfold CA; repeat' split
 ·rename_i h
  rcases h with rfl | rfl
  ·exact .esc (by decide) .nil
  exact .esc (by decide) .nil
 ·exact .esc (by decide) .nil
 ·exact .esc (by decide) .nil
 ·exact .esc (by decide) .nil
 ·exact .esc (by decide) .nil
 ·exact .esc (by decide) .nil
 ·have h1 := QQ (c / 16) (by omega)
  have h2 := QQ (c % 16) (by omega); exact .esc (by decide) (.one (by decide) (by decide) (.one (by decide) (by decide) (.one h1.1 h1.2 (.one h2.1 h2.2 .nil))))
 rename_i h _ _ _ _ _ h2
 refine YA fun x hx => ?_
 have := J0 c (by omega) (by omega) (by omega) x hx; exact ⟨by rintro rfl; exact this.2.1 rfl, by rintro rfl; exact this.2.2 rfl⟩
theorem Kd : ∀ (n : Nat) (l : List UInt8), l.length ≤ n → BdQ (Bk l) := by
 intro n; induction n with
 | zero => intro l h; obtain rfl : l = [] := List.eq_nil_of_length_eq_zero (by omega); exact .nil
 | succ n ih =>
  intro l h; by_cases hne : l = []
  ·subst hne; exact .nil
  have hw := decodeL_width l; have hl : 0 < l.length := List.length_pos_iff.2 hne; rw [Fo l hne]; exact (Yq _).app (ih _ (by rw [List.length_drop]; omega))
theorem Co {L R : List UInt8} {a : Nat} {c : UInt8} (h : L.drop a = c :: R) : L[a]? = some c ∧ L.drop (a + 1) = R := by
 refine ⟨?_, ?_⟩
 ·have := congrArg List.head? h
  rw [List.head?_drop] at this; exact this
 rw [← List.drop_drop, h]; rfl
theorem OZ {L : List UInt8} {one : Nat → Tf × Nat × Nat} {f : Nat} {B : List UInt8} (hB : BdQ B) : ∀ (R : List UInt8) (a n e : Nat), L.drop a = B ++ R → qGo L one f n 0 (a + B.length) = (e, 0) → qGo L one f (n + B.length) 0 a = (e, 0) := by
 induction hB with
 | nil => intro R a n e _ h; exact h
 | @one c r h1 h2 _ ih =>
  intro R a n e hL h; obtain ⟨g1, g2⟩ := Co hL; rw [List.length_cons, ← Nat.add_assoc]; simp only [qGo, g1]; rw [if_neg h1, if_pos h2]; exact ih R (a + 1) n e g2 (by rw [List.length_cons] at h; rw [show a + 1 + r.length = a + (r.length + 1) by omega]; exact h)
 | @esc c r h1 _ ih =>
  intro R a n e hL h; obtain ⟨g1, g2⟩ := Co hL; obtain ⟨g3, g4⟩ := Co g2; rw [List.length_cons, List.length_cons] at h ⊢; rw [show n + (r.length + 1 + 1) = n + 1 + r.length + 1 by omega]; simp only [qGo, g1]; rw [if_neg (by decide), if_neg (by simp), if_neg (by rw [g3]; intro hh; injection hh with hh; exact h1 hh)]; exact Pe (n + r.length) _ _ _ _ (by omega) (ih R (a + 2) n e g4 (by rw [show a + 2 + r.length = a + (r.length + 1 + 1) by omega]; exact h))
structure Fp where
 t : List UInt8
 k : List TK
 b : List UInt8
def jn : List UInt8 → List Fp → List UInt8
 | b, [] => b
 | b, x :: r => b ++ (92 :: 40 :: (x.t ++ (41 :: jn x.b r)))
structure FpOk (d : Nat) (x : Fp) : Prop where
 b : BdQ x.b
 r : ∀ R, RD d x.t x.k (41 :: R)
 w : Bal x.k
theorem NZ {L : List UInt8} {d a : Nat} {R : List UInt8} (hL : L.drop a = 41 :: R) : AF L d a = (⟨6, ⟨#[41]⟩, a⟩, a + 1, 0) := by
 rw [B9]; have hs : AL L a = a := by unfold AL; rw [hL]; rfl
 rw [hs]; unfold BG; rw [hL]; have ht : Bj (41 :: R) = (6, 0, 1) := by simp [Bj, Bl, Bs, Be, DY, oneL]
 dsimp only; rw [if_neg (by decide), ht]; rfl
theorem TG {L : List UInt8} {d f : Nat} : ∀ (r : List Fp) (b : List UInt8) (a : Nat) (R : List UInt8), BdQ b → (∀ x ∈ r, FpOk d x) → L.drop a = jn b r ++ 34 :: R → ∃ n, n ≤ (jn b r).length + 1 ∧ qGo L (AF L d) f n 0 a = (a + (jn b r).length + 1, 0)
 | [], b, a, R, hb, _, hL => by
  refine ⟨1 + b.length, by simp only [jn]; omega, ?_⟩; refine OZ hb (34 :: R) a 1 _ hL ?_; have : L.drop (a + b.length) = 34 :: R := by rw [← List.drop_drop, hL]; simp only [jn]; rw [List.drop_left]
  simp only [qGo, (Co this).1]; rw [if_pos trivial]; rfl
 | x :: r, b, a, R, hb, hr, hL => by
  have hx := hr x List.mem_cons_self; have hle : a ≤ L.length := by
   rcases Nat.lt_or_ge L.length a with h | h
   ·rw [List.drop_eq_nil_of_le (by omega)] at hL
    have := congrArg List.length hL; simp at this
   exact h
  have h1 : L.drop (a + b.length) = 92 :: 40 :: (x.t ++ (41 :: (jn x.b r ++ 34 :: R))) := by rw [← List.drop_drop, hL]; simp [jn]
  obtain ⟨g1, h2⟩ := Co h1; obtain ⟨g2, h3⟩ := Co h2; have hle3 : a + b.length + 1 + 1 ≤ L.length := by
   rcases Nat.lt_or_ge L.length (a + b.length + 1 + 1) with h | h
   ·rw [List.drop_eq_nil_of_le (by omega)] at h3
    have := congrArg List.length h3; simp at this
   exact h
  have hs := hx.r (jn x.b r ++ 34 :: R) L _ hle3 h3; have h4 : L.drop (a + b.length + 1 + 1 + x.t.length) = 41 :: (jn x.b r ++ 34 :: R) := by rw [← List.drop_drop, h3, List.drop_left]
  obtain ⟨g5, h5⟩ := Co h4; obtain ⟨n, hn, hq⟩ := TG r x.b (a + b.length + 1 + 1 + x.t.length + 1) R hx.b (fun y hy => hr y (List.mem_cons_of_mem _ hy)) h5; have hlen := hs.len hle3; have hk : AL L (a + b.length + 1 + 1 + x.t.length) = a + b.length + 1 + 1 + x.t.length := by unfold AL; rw [h4]; rfl
  have hsk := (C4 L _ hle3).1; have hjl : (jn b (x :: r)).length = b.length + x.t.length + 3 + (jn x.b r).length := by simp only [jn, List.length_append, List.length_cons]; omega
  refine ⟨n + 1 + x.k.length + 1 + b.length, by rw [hjl]; omega, ?_⟩; refine OZ hb _ a _ _ (by rw [hL]; simp only [jn, List.append_assoc, List.cons_append]; rfl) ?_; simp only [qGo, g1]; rw [if_neg (by decide), if_neg (by simp), if_pos g2]; refine Va hs 0 0 (n + 1) _ (hx.w 0) ?_; simp only [qGo, NZ h4]; rw [if_neg (by simp), if_neg (by decide), if_neg (by decide), if_pos (by decide), hq, hjl]; congr 1; omega
theorem Vr {d : Nat} {b : List UInt8} {r : List Fp} (hb : BdQ b) (hr : ∀ x ∈ r, FpOk d x) (R : List UInt8) : RD (d + 1) (34 :: (jn b r ++ [34])) [(5, ⟨(34 :: (jn b r ++ [34])).toArray⟩)] R := by
 intro L o ho hL; have hL2 : L.drop o = 34 :: (jn b r ++ 34 :: R) := by rw [hL]; simp
 obtain ⟨g, h1⟩ := Co hL2; obtain ⟨n, hn, hq⟩ := TG r b (o + 1) R hb hr h1; have hs : AL L o = o := by unfold AL; rw [hL2]; rfl
 have hll : (jn b r).length + 1 ≤ L.length := by
  have := congrArg List.length hL2; simp only [List.length_drop, List.length_cons, List.length_append] at this; omega
 have hqq : BK L (d + 1) o = (o + (34 :: (jn b r ++ [34])).length, 0) := by
  show qGo L (AF L d) o (L.length + 2) 0 (o + 1) = _
  rw [Pe n _ _ _ _ (by omega) (hq)]; simp only [List.length_cons, List.length_append, List.length_nil]; congr 1; omega
 have he : AF L (d + 1) o = (⟨5, ⟨(34 :: (jn b r ++ [34])).toArray⟩, o⟩, o + (34 :: (jn b r ++ [34])).length, 0) := by
  rw [B9, hs]; unfold BG; rw [hqq]; rw [show L.drop o = 34 :: (jn b r ++ [34] ++ R) by rw [hL]; rfl]; dsimp only; rw [if_pos rfl, if_neg (by simp), Nat.add_sub_cancel_left, show 34 :: (jn b r ++ [34] ++ R) = (34 :: (jn b r ++ [34])) ++ R from rfl, List.take_left]
 exact .cons he (show (5 : Nat) ≠ 0 by decide) (.nil rfl)
/-! the parts of such a text -/
theorem LV {L : List UInt8} {one : Nat → Tf × Nat × Nat} {B : List UInt8} (hB : BdQ B) : ∀ (R : List UInt8) (f a n : Nat) (r : PartsR), L.drop a = B ++ R → 0 < R.length → ∃ m, n ≤ m ∧ Bn L one (n + B.length) f a r = Bn L one m f (a + B.length) r := by
 induction hB with
 | nil => intro R f a n r _ _; exact ⟨n, Nat.le_refl _, rfl⟩
 | @one c t h1 h2 _ ih =>
  intro R f a n r hL hR; obtain ⟨g1, g2⟩ := Co hL; have hlen := congrArg List.length hL; simp only [List.length_drop, List.length_append, List.length_cons] at hlen; obtain ⟨m, hm, h⟩ := ih R f (a + 1) n r g2 hR; refine ⟨m, hm, ?_⟩; rw [List.length_cons, ← Nat.add_assoc]; simp only [Bn, g1]; rw [if_neg (by omega), if_pos (by intro h; injection h with h; exact h2 h), h, show a + 1 + t.length = a + (t.length + 1) by omega]
 | @esc c t h1 _ ih =>
  intro R f a n r hL hR; obtain ⟨g1, g2⟩ := Co hL; obtain ⟨g3, g4⟩ := Co g2; have hlen := congrArg List.length hL; simp only [List.length_drop, List.length_append, List.length_cons] at hlen; obtain ⟨m, hm, h⟩ := ih R f (a + 2) (n + 1) r g4 hR; refine ⟨m, by omega, ?_⟩; rw [List.length_cons, List.length_cons]; rw [show n + (t.length + 1 + 1) = (n + 1 + t.length) + 1 by omega]; simp only [Bn, g1]; rw [if_neg (by omega), if_neg (by simp), if_pos (by rw [g3]; intro h; injection h with h; exact h1 h), h, show a + 2 + t.length = a + (t.length + 1 + 1) by omega]
theorem K3 {L : List UInt8} {d : Nat} : ∀ (r : List Fp) (b : List UInt8) (a n : Nat) (T F : List (List UInt8)) (P : List Nat), BdQ b → (∀ x ∈ r, FpOk d x) → L.drop a = jn b r ++ [34] → (jn b r).length + 1 ≤ n →
  ∃ ps, Bn L (AF L d) n a a ⟨T, F, P⟩ = ⟨T ++ b :: r.map Fp.b, F ++ r.map Fp.t, ps⟩
 | [], b, a, n, T, F, P, hb, _, hL, hn => by
  have hlen := congrArg List.length hL; simp only [jn, List.length_drop, List.length_append, List.length_cons, List.length_nil] at hlen hn hL; obtain ⟨m, hm, h⟩ := LV (one := AF L d) hb [34] a a (n - b.length) ⟨T, F, P⟩ hL (by decide); rw [show n - b.length + b.length = n by omega] at h; obtain ⟨m, rfl⟩ : ∃ k, m = k + 1 := ⟨m - 1, by omega⟩
  refine ⟨P, ?_⟩; rw [h]; simp only [Bn]; rw [if_pos (by omega), List.drop_take, hL, show L.length - 1 - a = b.length by omega, List.take_left]; simp
 | x :: r, b, a, n, T, F, P, hb, hr, hL, hn => by
  have hx := hr x List.mem_cons_self; have hjl : (jn b (x :: r)).length = b.length + x.t.length + 3 + (jn x.b r).length := by simp only [jn, List.length_append, List.length_cons]; omega
  have hlen := congrArg List.length hL; rw [List.length_drop, List.length_append, hjl] at hlen; rw [hjl] at hn; simp only [List.length_cons, List.length_nil] at hlen; have h1 : L.drop (a + b.length) = 92 :: 40 :: (x.t ++ (41 :: (jn x.b r ++ [34]))) := by rw [← List.drop_drop, hL]; simp [jn]
  obtain ⟨g1, h2⟩ := Co h1; obtain ⟨g2, h3⟩ := Co h2; have hs := hx.r (jn x.b r ++ [34]) L _ (by omega) h3; have h4 : L.drop (a + b.length + 1 + 1 + x.t.length) = 41 :: (jn x.b r ++ [34]) := by rw [← List.drop_drop, h3, List.drop_left]
  obtain ⟨g5, h5⟩ := Co h4; have hkl := hs.len (by omega); have hk : AL L (a + b.length + 1 + 1 + x.t.length) = a + b.length + 1 + 1 + x.t.length := by unfold AL; rw [h4]; rfl
  have hsk := (C4 L (a + b.length + 1 + 1) (by omega)).1; have hc : BN (AF L d) (L.length + 2) 1 (a + b.length + 2) = a + b.length + 1 + 1 + x.t.length + 1 := by
   have := So hs 0 0 (L.length + 2 - x.k.length) (hx.w 0) (by omega); rw [show L.length + 2 - x.k.length + x.k.length = L.length + 2 by omega] at this; rw [show a + b.length + 2 = a + b.length + 1 + 1 by omega, this]; obtain ⟨m, hm⟩ : ∃ m, L.length + 2 - x.k.length = m + 1 := ⟨L.length + 2 - x.k.length - 1, by omega⟩
   rw [hm]; simp only [BN, NZ h4]; rw [if_neg (by decide), if_pos (by decide)]; cases m <;> rfl
  have hL2 : L.drop a = b ++ (92 :: 40 :: (x.t ++ (41 :: (jn x.b r ++ [34])))) := by rw [hL]; simp [jn]
  obtain ⟨m, hm, h⟩ := LV (one := AF L d) hb _ a a (n - b.length) ⟨T, F, P⟩ hL2 (by simp); rw [show n - b.length + b.length = n by omega] at h; obtain ⟨m, rfl⟩ : ∃ k, m = k + 1 := ⟨m - 1, by omega⟩
  obtain ⟨ps, hp⟩ := K3 r x.b _ m (T ++ [b]) (F ++ [x.t]) (P ++ [a + b.length + 2]) hx.b (fun y hy => hr y (List.mem_cons_of_mem _ hy)) h5 (by omega); refine ⟨ps, ?_⟩; rw [h]; simp only [Bn]; rw [if_neg (by omega), if_neg (by rw [g1]; simp), if_neg (by rw [g2]; simp), hc]; have e1 : (L.take (a + b.length)).drop a = b := by rw [List.drop_take, hL2, Nat.add_sub_cancel_left, List.take_left]
  have e2 : (L.take (a + b.length + 1 + 1 + x.t.length + 1 - 1)).drop (a + b.length + 2) = x.t := by
   rw [List.drop_take, show a + b.length + 2 = a + b.length + 1 + 1 by omega, h3, show a + b.length + 1 + 1 + x.t.length + 1 - 1 - (a + b.length + 1 + 1) = x.t.length by omega, List.take_left]
  rw [e1, e2, hp]; simp
end Th
namespace Th
open Go Go.Lib
theorem T5 {c : UInt8} {l u : List UInt8} (hk : (Bj (c :: (l ++ u))).1 ≠ 0) (h : (Bj (c :: (l ++ u))).2.2 ≤ (c :: l).length) : Bj (c :: l) = Bj (c :: (l ++ u)) := by
 rcases Eg c (l ++ u) with ⟨h1, _⟩ | ⟨k, n, h1, h2, h3, h4, h5, h6, h7⟩
 ·rw [h1] at hk; exact absurd rfl hk
 rw [h1] at h ⊢; have hn : n ≤ (c :: l).length := h; have htk : ∀ m, m ≤ (c :: l).length → (c :: (l ++ u)).take m = (c :: l).take m := fun m hm => by rw [← List.cons_append, List.take_append_of_le_length hm]
 have hle : (c :: l).length ≤ (c :: (l ++ u)).length := by simp
 rw [htk n hn] at h6; rcases Eg c l with ⟨g1, g2⟩ | ⟨k', n', g1, g2, g3, g4, g5, g6, g7⟩
 ·rw [g2 n h3 hn] at h6; exact absurd h6.symm h2
 have : n' = n := by
  rcases Nat.lt_trichotomy n' n with h8 | h8 | h8
  ·rw [g7 n h8 hn] at h6; exact absurd h6.symm h2
  ·exact h8
  have := h7 n' h8 (by omega); rw [htk n' g5, g6] at this; exact absurd this g2
 subst this; rw [g1, ← h6, g6]
theorem Nm {u : List UInt8} : ∀ (b : Bool) (l : List UInt8), l.length ≤ Ci b l → l.length ≤ Ci b (l ++ u)
 | _, [], _ => Nat.zero_le _
 | b, c :: l, h => by
  simp only [List.cons_append, Ci, List.length_cons] at h ⊢; split
  ·rename_i hc
   rw [if_pos hc] at h; have := Nm (u := u) (decide ((b = true ∨ c = 35) ∧ c ≠ 10)) l (by omega); omega
  rename_i hc
  rw [if_neg hc] at h; omega
theorem Vt {L T u : List UInt8} {p : Nat} (hL : L.drop p = T ++ u) {a : Nat} (ha : a ≤ T.length) (h : AL L (p + a) < p + T.length) : AL L (p + a) = p + AL T a := by
 have e : L.drop (p + a) = T.drop a ++ u := by rw [← List.drop_drop, hL, List.drop_append_of_le_length ha]
 unfold AL at h ⊢; rw [e] at h ⊢; rcases Nat.lt_or_ge (Ci false (T.drop a)) (T.drop a).length with h1 | h1
 ·rw [NR _ _ h1]; omega
 have := Nm (u := u) false _ h1; rw [List.length_drop] at this; omega
theorem LH {L : List UInt8} {one : Nat → Tf × Nat × Nat} (hone : ∀ a, a ≤ L.length → OneOk L a (one a)) {f : Nat} : ∀ (n o a e : Nat), (0 < o → a ≤ L.length) → qGo L one f n o a = (e, 0) → a < e := by
 intro n; induction n with
 | zero => intro o a e _ h; exact absurd (show (20 : Nat) = 0 from congrArg Prod.snd h) (by decide)
 | succ n ih =>
  intro o a e ha h; cases o with
  | zero =>
   simp only [qGo] at h; cases hc : L[a]? with
   | none => rw [hc] at h; exact absurd (show (20 : Nat) = 0 from congrArg Prod.snd h) (by decide)
   | some c =>
    rw [hc] at h; dsimp only at h; split at h
    ·injection h with h _; omega
    split at h
    ·have := ih 0 (a + 1) e (by omega) h; omega
    split at h
    ·rename_i h40
     have := (List.getElem?_eq_some_iff.1 h40).1; have := ih 1 (a + 2) e (by omega) h; omega
    have := ih 0 (a + 2) e (by omega) h; omega
  | succ o =>
   have hok := hone a (ha (by omega)); simp only [qGo] at h; by_cases h1 : (one a).2.2 ≠ 0
   ·rw [if_pos h1] at h; injection h with _ h; exact absurd h h1
   rw [if_neg h1] at h; by_cases h2 : (one a).1.kind = 0
   ·rw [if_pos h2] at h; exact absurd (show (20 : Nat) = 0 from congrArg Prod.snd h) (by decide)
   rw [if_neg h2] at h; have hf := hok.fwd (by omega) h2; have := ih _ _ e (fun _ => hok.le) h; omega
def RT (L T : List UInt8) (p d : Nat) : Prop := ∀ a, a ≤ T.length → ∀ t e, AF L d (p + a) = (t, p + e, 0) → t.kind ≠ 0 → e ≤ T.length → ∃ t', AF T d a = (t', e, 0) ∧ t'.kind = t.kind ∧ t'.text = t.text
theorem ZV {L T u : List UInt8} {p d : Nat} (hL : L.drop p = T ++ u) (h1 : RT L T p d) (f f' : Nat) : ∀ (n o a e n' : Nat), (0 < o → a ≤ T.length) → qGo L (AF L d) f n o (p + a) = (p + e, 0) → e ≤ T.length → e ≤ a + n' → qGo T (AF T d) f' n' o a = (e, 0) := by
 have hlen : p + T.length ≤ L.length ∨ T = [] := by
  have := congrArg List.length hL; rw [List.length_drop, List.length_append] at this; cases T with
  | nil => exact .inr rfl
  | cons c r => rw [List.length_cons] at *; left; omega
 have hg : ∀ x, x < T.length → L[p + x]? = T[x]? := fun x hx => by rw [← List.getElem?_drop, hL, List.getElem?_append_left hx]
 intro n; induction n with
 | zero => intro o a e n' _ h; exact absurd (show (20 : Nat) = 0 from congrArg Prod.snd h) (by decide)
 | succ n ih =>
  intro o a e n' ha h he hn; have hpa : 0 < o → p + a ≤ L.length := fun ho => by
   have := ha ho; rcases hlen with h | h
   ·omega
   subst h; have e1 : a = 0 := by simpa using this
   have e2 : e = 0 := by simpa using he
   subst e1 e2; have := congrArg List.length hL; rw [List.length_drop] at this; rcases Nat.lt_or_ge L.length p with h5 | h5
   ·exfalso
    obtain ⟨o, rfl⟩ : ∃ k, o = k + 1 := ⟨o - 1, by omega⟩
    have hL2 : L.length ≤ p + 0 := by omega
    have hx : AF L d (p + 0) = (noTf, p + 0 + Ci false (L.drop (p + 0)), 0) := by
     rw [B9]; unfold AL; rw [Oq (by omega)]
    simp only [qGo, hx] at h; rw [if_neg (by simp), if_pos (show noTf.kind = 0 from rfl)] at h; exact absurd (show (20 : Nat) = 0 from congrArg Prod.snd h) (by decide)
   omega
  have hlt := LH (CR L d) _ _ _ _ hpa h; obtain ⟨n', rfl⟩ : ∃ k, n' = k + 1 := ⟨n' - 1, by omega⟩
  cases o with
  | zero =>
   simp only [qGo] at h ⊢; rw [hg a (by omega)] at h; cases hc : T[a]? with
   | none => rw [hc] at h; exact absurd (show (20 : Nat) = 0 from congrArg Prod.snd h) (by decide)
   | some c =>
    rw [hc] at h; dsimp only at h ⊢; by_cases h34 : c = 34
    ·rw [if_pos h34] at h ⊢
     injection h with h _; rw [show e = a + 1 by omega]
    rw [if_neg h34] at h ⊢; by_cases h92 : c ≠ 92
    ·rw [if_pos h92] at h ⊢
     exact ih 0 (a + 1) e n' (by omega) h he (by omega)
    rw [if_neg h92] at h ⊢; by_cases h40 : L[p + a + 1]? = some 40
    ·rw [if_pos h40] at h
     have hl := LH (CR L d) _ 1 _ _ (fun _ => by have := (List.getElem?_eq_some_iff.1 h40).1; omega) h; have e40 : T[a + 1]? = some 40 := by rw [← hg (a + 1) (by omega)]; exact h40
     rw [if_pos e40]; exact ih 1 (a + 2) e n' (fun _ => by omega) h he (by omega)
    rw [if_neg h40] at h; have hl := LH (CR L d) _ 0 _ _ (by omega) h; have e40 : ¬ T[a + 1]? = some 40 := by rw [← hg (a + 1) (by omega)]; exact h40
    rw [if_neg e40]; exact ih 0 (a + 2) e n' (by omega) h he (by omega)
  | succ o =>
   have hal := ha (by omega); have hok := CR L d (p + a) (hpa (by omega)); simp only [qGo] at h ⊢; by_cases hA : (AF L d (p + a)).2.2 ≠ 0
   ·rw [if_pos hA] at h; injection h with _ h; exact absurd h hA
   rw [if_neg hA] at h; by_cases hB : (AF L d (p + a)).1.kind = 0
   ·rw [if_pos hB] at h; exact absurd (show (20 : Nat) = 0 from congrArg Prod.snd h) (by decide)
   rw [if_neg hB] at h; have hf := hok.fwd (by omega) hB; have hl := LH (CR L d) _ _ _ _ (fun _ => hok.le) h; obtain ⟨x, hx⟩ : ∃ x, (AF L d (p + a)).2.1 = p + x := ⟨(AF L d (p + a)).2.1 - p, by omega⟩
   obtain ⟨t', g1, g2, g3⟩ := h1 a hal (AF L d (p + a)).1 x (Prod.ext rfl (Prod.ext hx (by show (AF L d (p + a)).2.2 = 0; omega))) hB (by omega); rw [hx] at h; rw [g1, if_neg (by simp), if_neg (by rw [g2]; exact hB), g2, g3]; exact ih _ x e n' (fun _ => by omega) h he (by omega)
theorem ZF {L T u : List UInt8} {p : Nat} (hL : L.drop p = T ++ u) : ∀ d, RT L T p d := by
 have step : ∀ d, (∀ b e, b < T.length → BK L d (p + b) = (p + e, 0) → e ≤ T.length → BK T d b = (e, 0)) → RT L T p d := by
  intro d hq a ha t e h hk he; rw [B9] at h ⊢; have hs : AL L (p + a) < p + T.length := by
   unfold BG at h; cases hd : L.drop (AL L (p + a)) with
   | nil => rw [hd] at h; injection h with h _; rw [← h] at hk; exact absurd rfl hk
   | cons c r =>
    rw [hd] at h; dsimp only at h; have hb : AL L (p + a) < L.length := by
     rcases Nat.lt_or_ge (AL L (p + a)) L.length with h | h
     ·exact h
     rw [List.drop_eq_nil_of_le h] at hd; cases hd
    by_cases h34 : c = 34
    ·rw [if_pos h34] at h
     by_cases h3 : (BK L d (AL L (p + a))).2 ≠ 0
     ·rw [if_pos h3] at h; injection h with h _; rw [← h] at hk; exact absurd rfl hk
     rw [if_neg h3] at h; have := (EX L d _ hb).2 (by omega); injection h with _ h; injection h with h _; omega
    rw [if_neg h34] at h; by_cases h4 : (Bj (c :: r)).1 = 0
    ·rw [if_pos h4] at h; injection h with h _; rw [← h] at hk; exact absurd rfl hk
    rw [if_neg h4] at h; have := (Kh (c :: r)).2.1 h4; injection h with _ h; injection h with h _; omega
  have hsk := Vt hL ha hs; rw [hsk] at h hs; obtain ⟨b, hb⟩ : ∃ b, AL T a = b := ⟨_, rfl⟩
  rw [hb] at h hs ⊢; have e0 : L.drop (p + b) = T.drop b ++ u := by rw [← List.drop_drop, hL, List.drop_append_of_le_length (by omega)]
  unfold BG at h ⊢; rw [e0] at h; cases hd : T.drop b with
  | nil => rw [List.drop_eq_nil_iff] at hd; omega
  | cons c r =>
   have hlen : (c :: r).length = T.length - b := by rw [← hd, List.length_drop]
   rw [hd] at h; rw [List.cons_append] at h; dsimp only at h ⊢; by_cases h34 : c = 34
   ·rw [if_pos h34] at h ⊢
    by_cases h3 : (BK L d (p + b)).2 ≠ 0
    ·rw [if_pos h3] at h; injection h with h _; rw [← h] at hk; exact absurd rfl hk
    rw [if_neg h3] at h; injection h with h1 h2; injection h2 with h2 _; have hq2 := hq b e (by omega) (Prod.ext h2 (by omega)) he; rw [if_neg (by rw [hq2]; simp), hq2]; refine ⟨_, rfl, by rw [← h1], ?_⟩; rw [← h1, h2]; show (⟨_⟩ : ByteArray) = ⟨_⟩
    rw [show p + e - (p + b) = e - b by omega, ← List.cons_append, List.take_append_of_le_length (by omega)]
   rw [if_neg h34] at h ⊢; by_cases h4 : (Bj (c :: (r ++ u))).1 = 0
   ·rw [if_pos h4] at h; injection h with h _; rw [← h] at hk; exact absurd rfl hk
   rw [if_neg h4] at h; injection h with h1 h2; injection h2 with h2 _; have h2 : p + b + (Bj (c :: (r ++ u))).2.2 = p + e := h2; have ht := T5 h4 (by omega); rw [ht, if_neg h4]; refine ⟨_, Prod.ext rfl (Prod.ext (by show b + _ = e; omega) rfl), by rw [← h1], ?_⟩; rw [← h1]; have hn : (Bj (c :: (r ++ u))).2.2 ≤ (c :: r).length := by omega
   show (⟨_⟩ : ByteArray) = ⟨_⟩
   generalize (Bj (c :: (r ++ u))).2.2 = n at hn ⊢; rw [← List.cons_append, List.take_append_of_le_length hn]
 intro d; induction d with
 | zero => exact step 0 fun b e _ h => by injection h with _ h; cases h
 | succ d ih =>
  refine step (d + 1) fun b e hb h he => ?_
  show qGo T (AF T d) b (T.length + 2) 0 (b + 1) = _
  exact ZV hL ih (p + b) b _ 0 (b + 1) e _ (by omega) h he (by omega)
theorem XW {L : List UInt8} (hl : L.length ≤ 16384) {b e : Nat} (hb : b < L.length) (h34 : L[b]? = some 34) (h : BK L 48 b = (e, 0)) : okQ ((L.drop b).take (e - b)) = true := by
 obtain ⟨h1, h2⟩ := EX L 48 b hb; rw [h] at h1 h2; have h2 := h2 rfl; have hT : ((L.drop b).take (e - b)).length = e - b := by rw [List.length_take, List.length_drop]; dsimp only at h1; omega
 have hL : L.drop b = (L.drop b).take (e - b) ++ (L.drop b).drop (e - b) := (List.take_append_drop _ _).symm; have hq : BK ((L.drop b).take (e - b)) 48 0 = (e - b, 0) := by
  show qGo _ (AF _ 47) 0 _ 0 1 = _
  refine ZV hL (ZF hL 47) b 0 (L.length + 2) 0 1 (e - b) _ (by omega) ?_ (by omega) (by rw [hT]; omega); rw [show b + (e - b) = e by dsimp only at h2; omega]; exact h
 unfold okQ; rw [hq, hT]; simp only [Bool.and_eq_true, decide_eq_true_eq]; refine ⟨⟨by dsimp only at h1; omega, ?_⟩, trivial⟩; rw [List.getElem?_take, if_pos (by dsimp only at h2; omega), List.getElem?_drop]; exact h34
end Th
