/- Lemmas and contracts for the laws ReadParses, ReadBytes, part 17 of 50: RefMathB, Ref6P. Conditions: those that each lemma names. -/
import Derived.Test.YtbngjlkmpdccjaaGreatDoorPack11
import Derived.Test.YtbngjlkmpdccjaaGreatDoorPack3
import Derived.Test.YtbngjlkmpdccjaaGreatDoorPack12
namespace Go.Proofs.YtbngjlkmpdccjaaGreatDoor
open Go Go.RowKit Go.Proofs Th
theorem norm_high (neg : Bool) (m : Nat) (e : Int) (h : 64 < e) : norm neg m e = if m = 0 then ((0, 0), 0) else ((0, 0), 11) := by
  by_cases hm : m = 0
  · rw [if_pos hm, hm]; rfl
  · rw [if_neg hm]
    obtain ⟨a, k, ha, hk⟩ := exists_form m hm
    rw [hk, norm_of _ _ _ _ ha]
    unfold fin
    rw [if_pos (by omega)]
theorem norm_low (neg : Bool) (m n : Nat) (e : Int) (hlt : m < 10 ^ n) (h : e + n < -64) : norm neg m e = if m = 0 then ((0, 0), 0) else ((0, 0), 11) := by
  by_cases hm : m = 0
  · rw [if_pos hm, hm]; rfl
  · rw [if_neg hm]
    obtain ⟨a, k, ha, hk⟩ := exists_form m hm
    have h1 : 1 * 10 ^ k ≤ a * 10 ^ k := Nat.mul_le_mul_right _ (by omega)
    have h2 : 10 ^ k < 10 ^ n := by omega
    have h3 := (Nat.pow_lt_pow_iff_right (by omega : 1 < 10)).1 h2
    rw [hk, norm_of _ _ _ _ ha]
    unfold fin
    rw [if_pos (by omega)]
theorem powN_clamp (r : List UInt8) (h : AllDig r.reverse) : (powN r.reverse = clampN r.reverse ∧ powN r.reverse < 1000000) ∨ (1000000 ≤ powN r.reverse ∧ 1000000 ≤ clampN r.reverse) := by
  induction r with
  | nil => left; exact ⟨rfl, by decide⟩
  | cons c r ih =>
    rw [List.reverse_cons] at h ⊢
    have hr : AllDig r.reverse := fun d hd => h d (by simp at hd ⊢; left; exact hd)
    have hc := h c (by simp)
    rw [powN_snoc, clampN_snoc]
    have hb : digB c = true := by unfold digB; simp; exact hc
    have hle := clampN_le r.reverse
    have hd : dg c ≤ 9 := by unfold dg; omega
    unfold powS
    rw [hb]
    rcases ih hr with ⟨h1, h2⟩ | ⟨h1, h2⟩
    · rw [if_pos (by simpa using h2)]
      omega
    · rw [if_neg (by simp; omega)]
      omega
theorem powN_cl (l : List UInt8) (h : AllDig l) : (powN l = clampN l ∧ powN l < 1000000) ∨ (1000000 ≤ powN l ∧ 1000000 ≤ clampN l) := by
  have := powN_clamp l.reverse (by rwa [List.reverse_reverse])
  rwa [List.reverse_reverse] at this
theorem powN_skip (c : UInt8) (l : List UInt8) (h : digB c = false) : powN (c :: l) = powN l := by
  show l.foldl powS (powS 0 c) = l.foldl powS 0
  unfold powS
  rw [h]
  rfl
theorem negB_dig (l : List UInt8) (h : AllDig l) : negB l = false := by
  unfold negB
  rw [List.any_eq_false]
  intro c hc
  have := h c hc
  simp
  rintro rfl
  exact absurd this.1 (by decide)
theorem chkE_dig {neg en : Bool} {u x : List UInt8} (h : chkE neg u = some (en, x)) : en = neg ∧ x = u ∧ AllDig u := by
  unfold chkE at h
  split at h
  · cases h
  · rename_i h2
    injection h with h
    injection h with h3 h4
    refine ⟨h3.symm, h4.symm, ?_⟩
    have := nDig_le u
    have h5 := allDig_take u
    rwa [List.take_of_length_le (by omega)] at h5
def Alike (a b : Int) : Prop := a = b ∨ (1000000 ≤ a ∧ 1000000 ≤ b) ∨ (a ≤ -1000000 ∧ b ≤ -1000000)
theorem alike_of (neg : Bool) (l : List UInt8) (h : AllDig l) : Alike (if neg then -(powN l : Int) else powN l) (sg neg (clampN l)) := by
  unfold Alike sg
  rcases powN_cl l h with ⟨h1, h2⟩ | ⟨h1, h2⟩
  · left; rw [h1]
  · right; cases neg
    · left; simp; omega
    · right; simp; omega
theorem powR_alike (r x : List UInt8) (en : Bool) (h : expoP r = some (en, x)) : Alike (powR r) (sg en (clampN x)) := by
  unfold expoP at h
  split at h
  · rename_i h0
    subst h0
    injection h with h; injection h with h1 h2
    subst h1 h2
    left; rfl
  · split at h
    · rename_i h0 h1
      obtain ⟨c, t, rfl⟩ : ∃ c t, r = c :: t := by cases r with | nil => exact absurd rfl h0 | cons c t => exact ⟨c, t, rfl⟩
      have hc : c = 101 ∨ c = 69 := by simpa using h1
      have hdc : digB c = false := by rcases hc with rfl | rfl <;> decide
      have hnc : (c == 45) = false := by rcases hc with rfl | rfl <;> decide
      have hp : powR (c :: t) = powR t := by
        unfold powR
        rw [powN_skip c t hdc]
        unfold negB
        rw [List.any_cons, hnc, Bool.false_or]
      rw [hp]
      simp only [List.drop_succ_cons, List.drop_zero] at h
      split at h
      · rename_i h2
        obtain ⟨u, rfl⟩ : ∃ u, t = 45 :: u := by
          cases t with
          | nil => simp at h2
          | cons a u => simp at h2; subst h2; exact ⟨u, rfl⟩
        obtain ⟨rfl, rfl, hd⟩ := chkE_dig h
        have := alike_of true _ hd
        unfold powR
        rw [powN_skip 45 _ (by decide)]
        simpa [negB] using this
      · split at h
        · rename_i h2 h3
          obtain ⟨u, rfl⟩ : ∃ u, t = 43 :: u := by
            cases t with
            | nil => simp at h3
            | cons a u => simp at h3; subst h3; exact ⟨u, rfl⟩
          obtain ⟨rfl, hx, hd⟩ := chkE_dig (u := u) h
          subst hx
          have := alike_of false x hd
          have hn := negB_dig x hd
          unfold powR
          rw [powN_skip 43 x (by decide), show negB (43 :: x) = false by unfold negB at *; rw [List.any_cons, hn]; rfl]
          simpa using this
        · obtain ⟨rfl, rfl, hd⟩ := chkE_dig h
          have := alike_of false _ hd
          unfold powR
          rw [negB_dig _ hd]
          simpa using this
    · cases h
theorem norm_alike (neg : Bool) (m n : Nat) (a b f : Int) (hm : m < 10 ^ n) (hn : n ≤ 100000) (hf : 0 ≤ f ∧ f ≤ 100000) (h : Alike a b) : norm neg m (a - f) = norm neg m (b - f) := by
  rcases h with rfl | ⟨h1, h2⟩ | ⟨h1, h2⟩
  · rfl
  · rw [norm_high _ _ _ (by omega), norm_high _ _ _ (by omega)]
  · rw [norm_low _ _ n _ hm (by omega), norm_low _ _ n _ hm (by omega)]
end Go.Proofs.YtbngjlkmpdccjaaGreatDoor
namespace Th
open Go Go.Lib
def rawV (l : List UInt8) : Nat → Nat → List Tk
  | 0, _ => []
  | f + 1, a => if (nextT l a).sign = 255 ∨ (nextT l a).e ≠ 0 then [nextT l a] else nextT l a :: rawV l f (nextT l a).to_
structure RsOk (l : List UInt8) (rs : List Tk) : Prop where
  next : ∀ j (h : j < rs.length), rs[j].e = 0 → rs[j].sign ≠ 255 → ∃ h2 : j + 1 < rs.length, rs[j + 1] = nextT l rs[j].to_
  all : ∀ j (h : j < rs.length), ∃ a, a ≤ l.length ∧ rs[j] = nextT l a
theorem raw_ok (l : List UInt8) : ∀ (f a : Nat), a ≤ l.length → l.length - a < f → (rawV l f a)[0]? = some (nextT l a) ∧ RsOk l (rawV l f a) ∧ (rawV l f a).length ≤ l.length - a + 1
  | 0, a, _, h => by omega
  | f + 1, a, ha, hf => by
    by_cases hc : (nextT l a).sign = 255 ∨ (nextT l a).e ≠ 0
    · have e : rawV l (f + 1) a = [nextT l a] := by simp only [rawV]; rw [if_pos hc]
      rw [e]
      refine ⟨rfl, ⟨fun j h he hs => ?_, fun j h => ?_⟩, by simp⟩
      · obtain rfl : j = 0 := by simpa using h
        rcases hc with hc | hc
        · exact absurd hc hs
        · exact absurd he hc
      · obtain rfl : j = 0 := by simpa using h
        exact ⟨a, ha, rfl⟩
    · have e : rawV l (f + 1) a = nextT l a :: rawV l f (nextT l a).to_ := by simp only [rawV]; rw [if_neg hc]
      rw [e]
      have hs : (nextT l a).sign ≠ 255 := fun h => hc (Or.inl h)
      have he : (nextT l a).e = 0 := Classical.not_not.1 fun h => hc (Or.inr h)
      have hto := nextT_to l a ha
      have hw := nextT_weight l a he hs
      obtain ⟨h1, h2, h3⟩ := raw_ok l f (nextT l a).to_ hto.1 (by omega)
      obtain ⟨h0, h1⟩ := List.getElem?_eq_some_iff.1 h1
      refine ⟨rfl, ⟨fun j h he' hs' => ?_, fun j h => ?_⟩, by simp; omega⟩
      · cases j with
        | zero => exact ⟨by simpa using h0, by simpa using h1⟩
        | succ j =>
          obtain ⟨h4, h5⟩ := h2.next j (by simpa using h) (by simpa using he') (by simpa using hs')
          exact ⟨by simpa using h4, by simpa using h5⟩
      · cases j with
        | zero => exact ⟨a, ha, rfl⟩
        | succ j => simpa using h2.all j (by simpa using h)
section
variable (l : List UInt8) (rs : List Tk)
def tkE : Tk := ⟨255, 0, 0, 0, ⟨#[]⟩, 0, 0, 0⟩
def rk (i : Nat) : Tk := rs.getD i tkE
theorem rk_at (i : Nat) (h : i < rs.length) : rk rs i = rs[i] := by unfold rk; rw [List.getD_eq_getElem?_getD, List.getElem?_eq_getElem h]; rfl
theorem RsOk.rk_next {l : List UInt8} {rs : List Tk} (h : RsOk l rs) {i : Nat} (hi : i < rs.length) (he : (rk rs i).e = 0) (hs : (rk rs i).sign ≠ 255) : i + 1 < rs.length ∧ nextT l (rk rs i).to_ = rk rs (i + 1) := by
  rw [rk_at rs i hi] at he hs ⊢
  obtain ⟨h2, h3⟩ := h.next i hi he hs
  exact ⟨h2, by rw [rk_at rs (i + 1) h2, h3]⟩
def Goes (d i0 i : Nat) (X : List OJ → JV → Ph × List OJ × JV) : Prop :=
  i0 ≤ i ∧ ∃ c, c ≤ 2 * (i - i0) ∧ ∀ st v0 F, st.length = d → readP madeJ l (F + c) .val st v0 (rk rs i0) = readP madeJ l F (X st v0).1 (X st v0).2.1 (X st v0).2.2 (rk rs i)
def Fails (d i0 w : Nat) (e : Int) : Prop :=
  ∃ c, c ≤ 2 * (rs.length - i0) + 2 ∧ ∀ st v0 F, st.length = d → readP madeJ l (F + c) .val st v0 (rk rs i0) = (zeroJ, w, e)
variable {l rs}
theorem Goes.start (d i : Nat) : Goes l rs d i i (fun st v0 => (.val, st, v0)) := ⟨Nat.le_refl _, 0, by omega, fun st v0 F _ => rfl⟩
theorem Goes.step {d i0 i j k : Nat} {X Y : List OJ → JV → Ph × List OJ × JV} (h : Goes l rs d i0 i X) (hij : i ≤ j) (hk : k ≤ 2 * (j - i))
    (hs : ∀ st v0 F, st.length = d → readP madeJ l (F + k) (X st v0).1 (X st v0).2.1 (X st v0).2.2 (rk rs i) = readP madeJ l F (Y st v0).1 (Y st v0).2.1 (Y st v0).2.2 (rk rs j)) : Goes l rs d i0 j Y := by
  obtain ⟨h0, c, h1, h2⟩ := h
  refine ⟨by omega, k + c, by omega, fun st v0 F hst => ?_⟩
  rw [← Nat.add_assoc, h2 st v0 (F + k) hst, hs st v0 F hst]
theorem Goes.fail {d i0 i w k : Nat} {e : Int} {X : List OJ → JV → Ph × List OJ × JV} (h : Goes l rs d i0 i X) (hi : i ≤ rs.length) (hk : k ≤ 2)
    (hs : ∀ st v0 F, st.length = d → readP madeJ l (F + k) (X st v0).1 (X st v0).2.1 (X st v0).2.2 (rk rs i) = (zeroJ, w, e)) : Fails l rs d i0 w e := by
  obtain ⟨h0, c, h1, h2⟩ := h
  refine ⟨k + c, by omega, fun st v0 F hst => ?_⟩
  rw [← Nat.add_assoc, h2 st v0 (F + k) hst, hs st v0 F hst]
theorem Goes.value {d i0 i j : Nat} {v : JV} {o : OJ} {V : JV → JV} (h : Goes l rs d i0 i (fun st v0 => (.val, o :: st, V v0))) (k : Goes l rs (d + 1) i j (fun st _ => (.off, st, v))) : Goes l rs d i0 j (fun st _ => (.off, o :: st, v)) := by
  obtain ⟨h0, c, h1, h2⟩ := h
  obtain ⟨k0, c', k1, k2⟩ := k
  refine ⟨by omega, c' + c, by omega, fun st v0 F hst => ?_⟩
  rw [← Nat.add_assoc, h2 st v0 (F + c') hst]
  exact k2 (o :: st) (V v0) F (by rw [List.length_cons, hst])
theorem Goes.bad {d i0 i w : Nat} {e : Int} {o : OJ} {V : JV → JV} (h : Goes l rs d i0 i (fun st v0 => (.val, o :: st, V v0))) (hi : i ≤ rs.length) (k : Fails l rs (d + 1) i w e) : Fails l rs d i0 w e := by
  obtain ⟨h0, c, h1, h2⟩ := h
  obtain ⟨c', k1, k2⟩ := k
  refine ⟨c' + c, by omega, fun st v0 F hst => ?_⟩
  rw [← Nat.add_assoc, h2 st v0 (F + c') hst]
  exact k2 (o :: st) (V v0) F (by rw [List.length_cons, hst])
/-! what each token does -/
def faultE (t : Tk) (e : Int) : Int := if t.e ≠ 0 then t.e else e
section
variable (hR : RsOk l rs)
theorem fail_val {d i : Nat} (hi : i < rs.length) (h : (rk rs i).e ≠ 0 ∨ ((rk rs i).sign ≠ 0 ∧ (rk rs i).sign ≠ 91 ∧ (rk rs i).sign ≠ 123)) : Fails l rs d i (rk rs i).at_ (faultE (rk rs i) 60) := by
  refine (Goes.start d i).fail (k := 1) (by omega) (by omega) fun st v0 F hst => ?_
  unfold faultE
  by_cases he : (rk rs i).e ≠ 0
  · rw [if_pos he]; exact val_err madeJ l F st v0 _ he
  · rw [if_neg he]; exact val_sign madeJ l F st v0 _ (Classical.not_not.1 he) (h.resolve_left he)
theorem fail_deep {i : Nat} (hi : i < rs.length) (he : (rk rs i).e = 0) (h : (rk rs i).sign = 0 ∨ (rk rs i).sign = 91 ∨ (rk rs i).sign = 123) : Fails l rs 48 i (rk rs i).at_ (faultE (rk rs i) 31) := by
  refine (Goes.start 48 i).fail (k := 1) (by omega) (by omega) fun st v0 F hst => ?_
  unfold faultE
  rw [if_neg (by simp [he])]
  exact val_deep madeJ l F st v0 _ he h hst
include hR in
theorem go_tok {d i : Nat} (hi : i < rs.length) (hd : d ≠ 48) (he : (rk rs i).e = 0) (h : (rk rs i).sign = 0) : i + 1 < rs.length ∧ Goes l rs d i (i + 1) (fun st _ => (.off, st, (rk rs i).v)) := by
  obtain ⟨h1, h2⟩ := hR.rk_next hi he (by rw [h]; decide)
  exact ⟨h1, (Goes.start d i).step (k := 1) (by omega) (by omega) fun st v0 F hst => val_tok madeJ l F st v0 _ _ h2 he h (by rw [hst]; exact hd)⟩
def kdO (sg : Nat) : Int := if sg = 123 then 6 else 5
def endO (sg : Nat) : Nat := if sg = 123 then 125 else 93
include hR in
theorem go_empty {d i : Nat} (hi : i < rs.length) (hd : d ≠ 48) (he : (rk rs i).e = 0) (h : (rk rs i).sign = 91 ∨ (rk rs i).sign = 123) (he2 : (rk rs (i + 1)).e = 0) (h2 : (rk rs (i + 1)).sign = endO (rk rs i).sign) :
    i + 2 < rs.length ∧ Goes l rs d i (i + 2) (fun st _ => (.off, st, madeJ ⟨kdO (rk rs i).sign, [], []⟩)) := by
  obtain ⟨h3, h4⟩ := hR.rk_next hi he (by omega)
  obtain ⟨h5, h6⟩ := hR.rk_next h3 he2 (by rw [h2]; unfold endO; split <;> decide)
  refine ⟨h5, (Goes.start d i).step (k := 2) (by omega) (by omega) fun st v0 F hst => ?_⟩
  show readP madeJ l (F + 1 + 1) .val st v0 (rk rs i) = _
  rw [val_open madeJ l (F + 1) st v0 _ _ h4 he h (by rw [hst]; exact hd), if_pos ⟨he2, by
    unfold isShut
    rw [h2]
    unfold endO
    rcases h with h | h <;> rw [h] <;> rfl⟩]
  show readP madeJ l (F + 1) .end_ (⟨kdO (rk rs i).sign, [], []⟩ :: st) v0 (rk rs (i + 1)) = _
  rw [end_go madeJ l F v0 _ _ _ _ h6]
include hR in
theorem go_open_list {d i : Nat} (hi : i < rs.length) (hd : d ≠ 48) (he : (rk rs i).e = 0) (h : (rk rs i).sign = 91) (h2 : ¬ ((rk rs (i + 1)).e = 0 ∧ (rk rs (i + 1)).sign = 93)) :
    i + 1 < rs.length ∧ Goes l rs d i (i + 1) (fun st v0 => (.val, ⟨5, [], []⟩ :: st, v0)) := by
  obtain ⟨h3, h4⟩ := hR.rk_next hi he (by omega)
  refine ⟨h3, (Goes.start d i).step (k := 1) (by omega) (by omega) fun st v0 F hst => ?_⟩
  show readP madeJ l (F + 1) .val st v0 (rk rs i) = _
  rw [val_open madeJ l F st v0 _ _ h4 he (Or.inl h) (by rw [hst]; exact hd), h, if_neg (by
    rintro ⟨h5, h6⟩
    refine h2 ⟨h5, ?_⟩
    unfold isShut at h6
    simpa using h6), if_neg (by decide)]
include hR in
theorem go_open_map {d i : Nat} (hi : i < rs.length) (hd : d ≠ 48) (he : (rk rs i).e = 0) (h : (rk rs i).sign = 123) (h2 : ¬ ((rk rs (i + 1)).e = 0 ∧ (rk rs (i + 1)).sign = 125)) :
    i + 1 < rs.length ∧ Goes l rs d i (i + 1) (fun st v0 => (.key, ⟨6, [], []⟩ :: st, v0)) := by
  obtain ⟨h3, h4⟩ := hR.rk_next hi he (by omega)
  refine ⟨h3, (Goes.start d i).step (k := 1) (by omega) (by omega) fun st v0 F hst => ?_⟩
  show readP madeJ l (F + 1) .val st v0 (rk rs i) = _
  rw [val_open madeJ l F st v0 _ _ h4 he (Or.inr h) (by rw [hst]; exact hd), h, if_neg (by
    rintro ⟨h5, h6⟩
    refine h2 ⟨h5, ?_⟩
    unfold isShut at h6
    simpa using h6), if_pos rfl]
include hR in
theorem go_shut {d i0 i : Nat} {sg : Nat} {ks : List ByteArray} {li : List JV} {v : JV} (hg : Goes l rs d i0 i (fun st _ => (.off, ⟨kdO sg, ks, li⟩ :: st, v))) (hi : i < rs.length) (he : (rk rs i).e = 0) (h : (rk rs i).sign = endO sg) (hsg : sg = 91 ∨ sg = 123) :
    i + 1 < rs.length ∧ Goes l rs d i0 (i + 1) (fun st _ => (.off, st, madeJ ⟨kdO sg, ks, li ++ [v]⟩)) := by
  obtain ⟨h5, h6⟩ := hR.rk_next hi he (by rw [h]; unfold endO; split <;> decide)
  refine ⟨h5, hg.step (k := 2) (by omega) (by omega) fun st v0 F hst => ?_⟩
  show readP madeJ l (F + 1 + 1) .off (⟨kdO sg, ks, li⟩ :: st) v (rk rs i) = _
  rw [off_shut madeJ l (F + 1) v _ _ _ he (by rw [h]; unfold endO; split <;> decide) (by
    unfold isShut
    rw [h]
    rcases hsg with rfl | rfl <;> rfl), end_go madeJ l F v _ _ _ _ h6]
include hR in
theorem go_comma_list {d i0 i : Nat} {ks : List ByteArray} {li : List JV} {v : JV} (hg : Goes l rs d i0 i (fun st _ => (.off, ⟨5, ks, li⟩ :: st, v))) (hi : i < rs.length) (he : (rk rs i).e = 0) (h : (rk rs i).sign = 44) :
    i + 1 < rs.length ∧ Goes l rs d i0 (i + 1) (fun st _ => (.val, ⟨5, ks, li ++ [v]⟩ :: st, v)) := by
  obtain ⟨h5, h6⟩ := hR.rk_next hi he (by rw [h]; decide)
  exact ⟨h5, hg.step (k := 1) (by omega) (by omega) fun st v0 F hst => off_list madeJ l F v _ ⟨5, ks, li⟩ st _ h6 he h rfl⟩
include hR in
theorem go_comma_map {d i0 i : Nat} {ks : List ByteArray} {li : List JV} {v : JV} (hg : Goes l rs d i0 i (fun st _ => (.off, ⟨6, ks, li⟩ :: st, v))) (hi : i < rs.length) (he : (rk rs i).e = 0) (h : (rk rs i).sign = 44) :
    i + 1 < rs.length ∧ Goes l rs d i0 (i + 1) (fun st _ => (.key, ⟨6, ks, li ++ [v]⟩ :: st, v)) := by
  obtain ⟨h5, h6⟩ := hR.rk_next hi he (by rw [h]; decide)
  exact ⟨h5, hg.step (k := 1) (by omega) (by omega) fun st v0 F hst => off_pair madeJ l F v _ ⟨6, ks, li⟩ st _ h6 he h (show (6 : Int) ≠ 5 by decide)⟩
theorem fail_off {d i0 i : Nat} {sg : Nat} {ks : List ByteArray} {li : List JV} {v : JV} (hg : Goes l rs d i0 i (fun st _ => (.off, ⟨kdO sg, ks, li⟩ :: st, v))) (hi : i < rs.length) (hsg : sg = 91 ∨ sg = 123)
    (h1 : ¬ ((rk rs i).e = 0 ∧ (rk rs i).sign = endO sg)) (h2 : ¬ ((rk rs i).e = 0 ∧ (rk rs i).sign = 44)) : Fails l rs d i0 (rk rs i).at_ (faultE (rk rs i) 60) := by
  refine hg.fail (k := 1) (by omega) (by omega) fun st v0 F hst => ?_
  unfold faultE
  by_cases he : (rk rs i).e ≠ 0
  · rw [if_pos he]; exact off_err madeJ l F _ v _ he
  · have he0 : (rk rs i).e = 0 := Classical.not_not.1 he
    rw [if_neg he]
    refine off_bad madeJ l F v _ _ st he0 (fun h => h2 ⟨he0, h⟩) ?_
    have h3 : (rk rs i).sign ≠ endO sg := fun h => h1 ⟨he0, h⟩
    unfold isShut
    rcases hsg with rfl | rfl
    · show (decide ((5 : Int) = 5) && decide ((rk rs i).sign = 93) || decide ((5 : Int) = 6) && decide ((rk rs i).sign = 125)) = false
      rw [decide_eq_false (show ¬ (rk rs i).sign = 93 from h3)]; rfl
    · show (decide ((6 : Int) = 5) && decide ((rk rs i).sign = 93) || decide ((6 : Int) = 6) && decide ((rk rs i).sign = 125)) = false
      rw [decide_eq_false (show ¬ (rk rs i).sign = 125 from h3)]; rfl
theorem fail_key {d i0 i : Nat} {o : OJ} {V : JV → JV} (hg : Goes l rs d i0 i (fun st v0 => (.key, o :: st, V v0))) (hi : i < rs.length) (h : (rk rs i).sign ≠ 0 ∨ (rk rs i).e ≠ 0 ∨ (rk rs i).k ≠ 4) : Fails l rs d i0 (rk rs i).at_ (faultE (rk rs i) 60) := by
  refine hg.fail (k := 1) (by omega) (by omega) fun st v0 F hst => ?_
  unfold faultE
  by_cases he : (rk rs i).e ≠ 0
  · rw [if_pos he]; exact key_errS madeJ l F _ _ _ he
  · rw [if_neg he]
    exact key_bad madeJ l F _ _ _ (Classical.not_not.1 he) (by rcases h with h | h | h; exact Or.inl h; exact absurd h he; exact Or.inr h)
include hR in
theorem fail_colon {d i0 i : Nat} {o : OJ} {V : JV → JV} (hg : Goes l rs d i0 i (fun st v0 => (.key, o :: st, V v0))) (hi : i < rs.length) (he : (rk rs i).e = 0) (hs : (rk rs i).sign = 0) (hk : (rk rs i).k = 4)
    (h : ¬ ((rk rs (i + 1)).e = 0 ∧ (rk rs (i + 1)).sign = 58)) : Fails l rs d i0 (rk rs (i + 1)).at_ (faultE (rk rs (i + 1)) 60) := by
  obtain ⟨h5, h6⟩ := hR.rk_next hi he (by rw [hs]; decide)
  refine hg.fail (k := 1) (by omega) (by omega) fun st v0 F hst => ?_
  unfold faultE
  by_cases he2 : (rk rs (i + 1)).e ≠ 0
  · rw [if_pos he2]; exact key_err2 madeJ l F _ _ _ _ _ h6 he hs hk he2
  · have he0 : (rk rs (i + 1)).e = 0 := Classical.not_not.1 he2
    rw [if_neg he2]; exact key_bad2 madeJ l F _ _ _ _ _ h6 he hs hk he0 (fun h7 => h ⟨he0, h7⟩)
include hR in
theorem go_key {d i0 i : Nat} {ks : List ByteArray} {li : List JV} {V : JV → JV} (hg : Goes l rs d i0 i (fun st v0 => (.key, ⟨6, ks, li⟩ :: st, V v0))) (hi : i < rs.length) (he : (rk rs i).e = 0) (hs : (rk rs i).sign = 0) (hk : (rk rs i).k = 4)
    (he2 : (rk rs (i + 1)).e = 0) (hs2 : (rk rs (i + 1)).sign = 58) : i + 2 < rs.length ∧ Goes l rs d i0 (i + 2) (fun st v0 => (.val, ⟨6, ks ++ [(rk rs i).s], li⟩ :: st, V v0)) := by
  obtain ⟨h3, h4⟩ := hR.rk_next hi he (by rw [hs]; decide)
  obtain ⟨h5, h6⟩ := hR.rk_next h3 he2 (by rw [hs2]; decide)
  refine ⟨h5, hg.step (k := 1) (by omega) (by omega) fun st v0 F hst => ?_⟩
  have h7 := key_go madeJ l F (V v0) (rk rs i) ⟨6, ks, li⟩ st (rk rs (i + 1)) h4 he hs hk he2 hs2
  rw [h6] at h7
  exact h7
end
end
end Th
