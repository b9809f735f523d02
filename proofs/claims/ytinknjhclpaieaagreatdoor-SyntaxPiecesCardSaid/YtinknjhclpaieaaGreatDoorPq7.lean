/- Lemmas and contracts for the laws SyntaxPieces, part 7 of 48: Ref2R. Conditions: those that each lemma names. -/
import Derived.Test.YtinknjhclpaieaaGreatDoorPq4
import Derived.Test.YtinknjhclpaieaaGreatDoorPq3
import Derived.IntWalk
import Derived.Outline
set_option maxRecDepth 100000
set_option maxHeartbeats 4000000
namespace Th
open Go Go.Lib
def pieceV : List UInt8 → Option (Nat × Nat)
  | [] => none
  | c :: r => if c = 92 then (match escV r with | none => none | some (x, n) => some (x, n + 1)) else if c.toNat < 32 ∨ c = 34 then none else if badD (c :: r) then none else some (decodeL (c :: r))
theorem bodyV_piece (c : UInt8) (r : List UInt8) (hc : c ≠ 34) : bodyV (c :: r) = match pieceV (c :: r) with | none => none | some (x, n) => (bodyV ((c :: r).drop n)).map fun p => (encodeRune (x : Int) ++ p.1, p.2 + n) := by
  rw [bodyV_cons, if_neg hc]; simp only [pieceV]; by_cases h1 : c = 92
  · subst h1
    rw [if_neg (by decide), if_pos rfl, if_pos rfl]; cases escV r with
    | none => rfl
    | some p => obtain ⟨x, n⟩ := p; rfl
  rw [if_neg h1, if_neg h1]; by_cases h2 : c.toNat < 32
  · rw [if_pos h2, if_pos (Or.inl h2)]
  rw [if_neg h2, if_neg (show ¬ (c.toNat < 32 ∨ c = 34) by rintro (h | h); exact h2 h; exact hc h)]; by_cases h3 : badD (c :: r)
  · rw [if_pos h3, if_pos h3]
  rw [if_neg h3, if_neg h3, ← encode_decode (c :: r) (by simp) h3]
theorem pieceV_ok {l : List UInt8} {x n : Nat} (h : pieceV l = some (x, n)) : (x < 55296 ∨ (57343 < x ∧ x ≤ 1114111)) ∧ 1 ≤ n ∧ n ≤ l.length ∧ n ≤ 12 := by
  cases l with
  | nil => cases h
  | cons c r =>
    simp only [pieceV] at h; by_cases h1 : c = 92
    · rw [if_pos h1] at h
      cases he : escV r with
      | none => rw [he] at h; cases h
      | some p =>
        obtain ⟨y, k⟩ := p; rw [he] at h; have h2 := escV_ok he; injection h with h; injection h with e1 e2; subst e1 e2; rw [List.length_cons]; exact ⟨h2.1, by omega, by omega, by omega⟩
    rw [if_neg h1] at h; by_cases h2 : c.toNat < 32 ∨ c = 34
    · rw [if_pos h2] at h; cases h
    rw [if_neg h2] at h; by_cases h3 : badD (c :: r)
    · rw [if_pos h3] at h; cases h
    rw [if_neg h3] at h; injection h with h; have e1 : (decodeL (c :: r)).1 = x := by rw [h]
    have e2 : (decodeL (c :: r)).2 = n := by rw [h]
    have hle := decodeL_le (c :: r) (by simp); have hw := decodeL_width (c :: r); have h4 := width_four (c :: r); refine ⟨?_, by omega, by omega, by omega⟩; unfold badD at h3; rw [← e1]; rw [decodeL_N] at h3 ⊢; have k0 := ((c :: r).getD 0 0).toNat_lt; have k1 := ((c :: r).getD 1 0).toNat_lt; have k2 := ((c :: r).getD 2 0).toNat_lt; have k3 := ((c :: r).getD 3 0).toNat_lt; rcases decodeN_shape (c :: r).length ((c :: r).getD 0 0).toNat ((c :: r).getD 1 0).toNat ((c :: r).getD 2 0).toNat ((c :: r).getD 3 0).toNat with ⟨c, e⟩ | ⟨c1, c2, c3, cv, e⟩ | ⟨c1, c2, c3, c4, cv, cs, e⟩ | ⟨c1, c2, c3, c4, c5, cv, cw, e⟩ | e
    all_goals (rw [e] at h3 ⊢; dsimp only at h3 ⊢)
    · omega
    · omega
    · omega
    · omega
    exact absurd ⟨rfl, rfl⟩ h3
def hexI (c : UInt8) : Int := match hexV c with | some x => x | none => -1
def lowC (c : UInt8) : Nat := if 65 ≤ c.toNat ∧ c.toNat ≤ 70 then c.toNat + 32 else c.toNat
theorem hexI_at (c : UInt8) (k : Nat) (hk : k < 16) (h : (hexS k).toNat = lowC c) : hexI c = k := by
  have : ∀ n, n < 256 → ∀ k, k < 16 → (hexS k).toNat = lowC (UInt8.ofNat n) → hexI (UInt8.ofNat n) = k := by decide +kernel
  have h1 := this c.toNat c.toNat_lt k hk; simp only [UInt8.ofNat_toNat] at h1; exact h1 h
theorem hexI_none (c : UInt8) (h : ∀ k, k < 16 → (hexS k).toNat ≠ lowC c) : hexI c = -1 := by
  have : ∀ n, n < 256 → (∀ k, k < 16 → (hexS k).toNat ≠ lowC (UInt8.ofNat n)) → hexI (UInt8.ofNat n) = -1 := by decide +kernel
  have h1 := this c.toNat c.toNat_lt; simp only [UInt8.ofNat_toNat] at h1; exact h1 h
def unitV (l : List UInt8) : Int := if l.length < 6 ∨ l.getD 0 0 ≠ 92 ∨ l.getD 1 0 ≠ 117 then -1 else match fourV (l.drop 2) with | some x => x | none => -1
theorem unitV_bd (l : List UInt8) : -1 ≤ unitV l ∧ unitV l < 65536 := by
  unfold unitV; split
  · exact ⟨by decide, by decide⟩
  cases h : fourV (l.drop 2) with
  | none => exact ⟨by decide, by decide⟩
  | some x => have := fourV_lt h; simp only; omega
theorem decode_head (c : UInt8) (r : List UInt8) (h : ¬ badD (c :: r)) : ((decodeL (c :: r)).1 < 128 ↔ c.toNat < 128) ∧ (c.toNat < 128 → (decodeL (c :: r)).1 = c.toNat) := by
  unfold badD at h; rw [decodeL_N] at h ⊢; have hc : ((c :: r).getD 0 0) = c := rfl; rw [hc] at h ⊢; have k1 := ((c :: r).getD 1 0).toNat_lt; have k2 := ((c :: r).getD 2 0).toNat_lt; have k3 := ((c :: r).getD 3 0).toNat_lt; rcases decodeN_shape (c :: r).length c.toNat ((c :: r).getD 1 0).toNat ((c :: r).getD 2 0).toNat ((c :: r).getD 3 0).toNat with ⟨c, e⟩ | ⟨c1, c2, c3, cv, e⟩ | ⟨c1, c2, c3, c4, cv, cs, e⟩ | ⟨c1, c2, c3, c4, c5, cv, cw, e⟩ | e
  all_goals (rw [e] at h ⊢; dsimp only at h ⊢)
  · omega
  · omega
  · omega
  · omega
  exact absurd ⟨rfl, rfl⟩ h
theorem piece_plain (c : UInt8) (r : List UInt8) (h : c ≠ 92) : pieceV (c :: r) = if (firstS (c :: r)).1 < 32 ∨ (firstS (c :: r)).1 = 34 then none else some (firstS (c :: r)) := by
  simp only [pieceV]; rw [if_neg h]; unfold firstS; by_cases hb : badD (c :: r)
  · rw [if_pos (Or.inr hb : c :: r = [] ∨ badD (c :: r)), if_pos hb]
    simp
  rw [if_neg (show ¬ (c :: r = [] ∨ badD (c :: r)) by rintro (h | h); cases h; exact hb h), if_neg hb]; have hd := decode_head c r hb; have hc : c = 34 ↔ c.toNat = 34 := by
    constructor
    · rintro rfl; rfl
    intro h; rw [← UInt8.toNat_inj]; exact h
  by_cases h2 : c.toNat < 32 ∨ c = 34
  · have h3 := hd.2 (by rw [hc] at h2; omega)
    rw [if_pos h2, if_pos (by rw [h3, ← hc]; exact h2)]
  rw [if_neg h2, if_neg]; rintro h4; rw [hc] at h2; have := hd.2 (hd.1.1 (by omega)); omega
theorem len_drop2 (l : List UInt8) (h : l.length < 6) : fourV (l.drop 2) = none := by
  cases hf : fourV (l.drop 2) with
  | none => rfl
  | some x => have := fourV_len hf; rw [List.length_drop] at this; omega
def nonesC (c : UInt8) : Prop := c.toNat ≠ 34 ∧ c.toNat ≠ 92 ∧ c.toNat ≠ 47 ∧ c.toNat ≠ 98 ∧ c.toNat ≠ 102 ∧ c.toNat ≠ 110 ∧ c.toNat ≠ 114 ∧ c.toNat ≠ 116
def pieceU (a b : Int) : Option (Nat × Nat) := if a < 0 ∨ (56320 ≤ a ∧ a ≤ 57343) then none else if a < 55296 ∨ 57343 < a then some (a.toNat, 6) else if b < 56320 ∨ 57343 < b then none else some ((65536 + (a - 55296) * 1024 + b - 56320).toNat, 12)
theorem unit_any (l : List UInt8) : unitV l = if l.getD 0 0 = 92 ∧ l.getD 1 0 = 117 then (match fourV (l.drop 2) with | some x => (x : Int) | none => -1) else -1 := by
  unfold unitV; by_cases hl : l.length < 6
  · rw [if_pos (Or.inl hl), len_drop2 l hl]; simp
  by_cases h : l.getD 0 0 = 92 ∧ l.getD 1 0 = 117
  · rw [if_pos h, if_neg (by rintro (h1 | h1 | h1); exact hl h1; exact h1 h.1; exact h1 h.2)]
  rw [if_neg h, if_pos]; right
  by_cases h0 : l.getD 0 0 = 92
  · right; exact fun h1 => h ⟨h0, h1⟩
  left; exact h0
theorem unit_cons (c : UInt8) (r : List UInt8) : unitV (92 :: c :: r) = if c = 117 then (match fourV r with | some x => (x : Int) | none => -1) else -1 := by
  rw [unit_any]; show (if (92 : UInt8) = 92 ∧ c = 117 then (match fourV r with | some x => (x : Int) | none => -1) else -1) = _
  by_cases hc : c = 117
  · rw [if_pos ⟨rfl, hc⟩, if_pos hc]
  rw [if_neg (fun h => hc h.2), if_neg hc]
theorem u8n {c : UInt8} {n : Nat} (h : c.toNat ≠ n) (d : UInt8) (hd : d.toNat = n) : c ≠ d := by rintro rfl; exact h hd
theorem piece_unit (c : UInt8) (r : List UInt8) (h : nonesC c) : pieceV (92 :: c :: r) = pieceU (unitV (92 :: c :: r)) (unitV (r.drop 4)) := by
  obtain ⟨h1, h2, h3, h4, h5, h6, h7, h8⟩ := h; simp only [pieceV, escV, if_true]; rw [if_neg (by rintro (h | h | h); exact u8n h1 34 rfl h; exact u8n h2 92 rfl h; exact u8n h3 47 rfl h), if_neg (u8n h4 98 rfl), if_neg (u8n h5 102 rfl), if_neg (u8n h6 110 rfl), if_neg (u8n h7 114 rfl), if_neg (u8n h8 116 rfl), unit_cons]; unfold pieceU; by_cases hc : c = 117
  · rw [if_pos hc, if_pos hc]
    unfold uniV; cases hf : fourV r with
    | none => simp
    | some a =>
      have ha := fourV_lt hf; simp only; by_cases g1 : 56320 ≤ a ∧ a < 57344
      · rw [if_pos g1, if_pos (by omega)]
      rw [if_neg g1, if_neg (show ¬ ((a : Int) < 0 ∨ (56320 ≤ (a : Int) ∧ (a : Int) ≤ 57343)) by omega)]; by_cases g2 : a < 55296 ∨ 57344 ≤ a
      · rw [if_pos g2, if_pos (show ((a : Int) < 55296 ∨ 57343 < (a : Int)) by omega)]; rfl
      rw [if_neg g2, if_neg (show ¬ ((a : Int) < 55296 ∨ 57343 < (a : Int)) by omega), unit_any]; have e1 : (r.drop 4).getD 0 0 = r.getD 4 0 := by simp [List.getD_eq_getElem?_getD]
      have e2 : (r.drop 4).getD 1 0 = r.getD 5 0 := by simp [List.getD_eq_getElem?_getD]
      rw [e1, e2, List.drop_drop]; by_cases g3 : r.getD 4 0 = 92 ∧ r.getD 5 0 = 117
      · rw [if_pos g3, if_pos g3]
        cases hb : fourV (r.drop 6) with
        | none => simp
        | some b =>
          simp only; by_cases g4 : b < 56320 ∨ 57344 ≤ b
          · rw [if_pos g4, if_pos (by omega)]
          rw [if_neg g4, if_neg (by omega)]; have e : (65536 + ((a : Int) - 55296) * 1024 + (b : Int) - 56320).toNat = 65536 + (a - 55296) * 1024 + (b - 56320) := by omega
          rw [e]
      rw [if_neg g3, if_neg g3]; simp
  rw [if_neg hc, if_neg hc]; simp
theorem unit_short : unitV [92] = -1 := rfl
theorem piece_cand (c : UInt8) (r : List UInt8) (f t : Nat) (h : (f = 34 ∧ t = 34) ∨ (f = 92 ∧ t = 92) ∨ (f = 47 ∧ t = 47) ∨ (f = 98 ∧ t = 8) ∨ (f = 102 ∧ t = 12) ∨ (f = 110 ∧ t = 10) ∨ (f = 114 ∧ t = 13) ∨ (f = 116 ∧ t = 9)) (hc : c.toNat = f) : pieceV (92 :: c :: r) = some (t, 2) := by
  have key : ∀ d : UInt8, d.toNat = f → c = d := fun d hd => by rw [← UInt8.toNat_inj, hd, hc]
  rcases h with ⟨rfl, rfl⟩ | ⟨rfl, rfl⟩ | ⟨rfl, rfl⟩ | ⟨rfl, rfl⟩ | ⟨rfl, rfl⟩ | ⟨rfl, rfl⟩ | ⟨rfl, rfl⟩ | ⟨rfl, rfl⟩
  · rw [key 34 rfl]; rfl
  · rw [key 92 rfl]; rfl
  · rw [key 47 rfl]; rfl
  · rw [key 98 rfl]; rfl
  · rw [key 102 rfl]; rfl
  · rw [key 110 rfl]; rfl
  · rw [key 114 rfl]; rfl
  rw [key 116 rfl]; rfl
end Th
namespace Go.Proofs.YtinknjhclpaieaaGreatDoor
open Go Go.RowKit Go.Proofs Th
attribute [local go_sem] Above.cell
theorem hexj : ∀ (d : Nat), d < 16 → ∀ w : World, (Instr.index 9 (.string ⟨#[48, 49, 50, 51, 52, 53, 54, 55, 56, 57, 97, 98, 99, 100, 101, 102]⟩) (.int .i64 (d : Int))).run Tryz.prog w = .ok (.int .u8 ((hexS d).toNat : Int)) w := by
  intro d hd w; have : d = 0 ∨ d = 1 ∨ d = 2 ∨ d = 3 ∨ d = 4 ∨ d = 5 ∨ d = 6 ∨ d = 7 ∨ d = 8 ∨ d = 9 ∨ d = 10 ∨ d = 11 ∨ d = 12 ∨ d = 13 ∨ d = 14 ∨ d = 15 := by omega
  rcases this with rfl | rfl | rfl | rfl | rfl | rfl | rfl | rfl | rfl | rfl | rfl | rfl | rfl | rfl | rfl | rfl
  all_goals (clear hd; revert w; intro w; first | rfl | (show _ = _; kernel_rfl))
theorem ref2_digit (c : UInt8) (w : World) : Calls Tryz.prog 146 #[.int .u8 c.toNat] w fun r w' => r = .returned (.int .i64 (hexI c)) ∧ w' = w := by
  have hcl := c.toNat_lt; have HA := Keep.mk (hexI_at c); have HN := Keep.mk (hexI_none c); have key : ∀ (x : Nat), x < 256 → Keep (lowC c = x) → (65 ≤ c.toNat ∧ c.toNat ≤ 70 ∧ x = c.toNat + 32) ∨ ((c.toNat < 65 ∨ 70 < c.toNat) ∧ x = c.toNat) := by
    intro x _ h; have h := h.out; unfold lowC at h; split at h
    · left; omega
    right; omega
  obtain ⟨x, hx⟩ : ∃ x, lowC c = x := ⟨_, rfl⟩
  have hx2 : x < 256 := by rw [← hx]; unfold lowC; split <;> omega
  have hk := key x hx2 ⟨hx⟩; rw [hx] at HA HN; clear key hx; generalize c.toNat = cn at *; generalize hexI c = hc at *; rcases hk with ⟨h1, h2, rfl⟩ | ⟨h1 | h1, rfl⟩
  · go_enter Tryz.func146, Tryz.ntmps146
    go_wp2_with fail
    go_loopg [3] 16 (fun gk i wr => ∃ k : Nat, i = .int .i64 k ∧ k + gk = 16 ∧ Keep (∀ j, j < k → (hexS j).toNat ≠ (cn + 32)) ∧ wr = w)
    case atStart => exact ⟨0, rfl, by omega, ⟨fun j hj => absurd hj (Nat.not_lt_zero _)⟩, rfl⟩
    case round =>
      obtain ⟨k, rfl, hg, HJ, rfl⟩ := hrel; by_cases hk : k < 16
      · have hgk : gk ≠ 0 := by omega
        have hix := hexj k hk; have HK := Keep.mk (HA.out k hk); have HS := Keep.mk (fun (hne : (hexS k).toNat ≠ (cn + 32)) (j : Nat) (hj : j < k + 1) => show (hexS j).toNat ≠ (cn + 32) by
          rcases Nat.lt_or_ge j k with h | h
          · exact HJ.out j h
          obtain rfl : j = k := by omega
          exact hne)
        have hxl := (hexS k).toNat_lt; generalize (hexS k).toNat = z at *; by_cases hz : z = (cn + 32)
        · have HE := Keep.mk (HK.out hz)
          subst hz; clear HS HK HJ HN HA; go_wp2
          go_ret
          exact ⟨by rw [HE.out]; rfl, rfl⟩
        have HS2 := Keep.mk (HS.out hz); have hzb : ((z : Int) == ((cn + 32) : Nat)) = false := by simp; omega
        clear HS HK HJ; go_wp2
        go_roundg (gk - 1)
        case rel => exact ⟨k + 1, by go_num, by omega, HS2, rfl⟩
        case measure => omega
      obtain rfl : k = 16 := by omega
      have HE := Keep.mk (HN.out fun j hj => HJ.out j hj); clear HA HN HJ; go_wp2
      go_ret
      exact ⟨by rw [HE.out]; rfl, rfl⟩
  · go_enter Tryz.func146, Tryz.ntmps146
    go_wp2_with fail
    go_loopg [3] 16 (fun gk i wr => ∃ k : Nat, i = .int .i64 k ∧ k + gk = 16 ∧ Keep (∀ j, j < k → (hexS j).toNat ≠ x) ∧ wr = w)
    case atStart => exact ⟨0, rfl, by omega, ⟨fun j hj => absurd hj (Nat.not_lt_zero _)⟩, rfl⟩
    case round =>
      obtain ⟨k, rfl, hg, HJ, rfl⟩ := hrel; by_cases hk : k < 16
      · have hgk : gk ≠ 0 := by omega
        have hix := hexj k hk; have HK := Keep.mk (HA.out k hk); have HS := Keep.mk (fun (hne : (hexS k).toNat ≠ x) (j : Nat) (hj : j < k + 1) => show (hexS j).toNat ≠ x by
          rcases Nat.lt_or_ge j k with h | h
          · exact HJ.out j h
          obtain rfl : j = k := by omega
          exact hne)
        have hxl := (hexS k).toNat_lt; generalize (hexS k).toNat = z at *; by_cases hz : z = x
        · have HE := Keep.mk (HK.out hz)
          subst hz; clear HS HK HJ HN HA; go_wp2
          go_ret
          exact ⟨by rw [HE.out]; rfl, rfl⟩
        have HS2 := Keep.mk (HS.out hz); have hzb : ((z : Int) == (x : Nat)) = false := by simp; omega
        clear HS HK HJ; go_wp2
        go_roundg (gk - 1)
        case rel => exact ⟨k + 1, by go_num, by omega, HS2, rfl⟩
        case measure => omega
      obtain rfl : k = 16 := by omega
      have HE := Keep.mk (HN.out fun j hj => HJ.out j hj); clear HA HN HJ; go_wp2
      go_ret
      exact ⟨by rw [HE.out]; rfl, rfl⟩
  go_enter Tryz.func146, Tryz.ntmps146
  go_wp2_with fail
  go_loopg [3] 16 (fun gk i wr => ∃ k : Nat, i = .int .i64 k ∧ k + gk = 16 ∧ Keep (∀ j, j < k → (hexS j).toNat ≠ x) ∧ wr = w)
  case atStart => exact ⟨0, rfl, by omega, ⟨fun j hj => absurd hj (Nat.not_lt_zero _)⟩, rfl⟩
  case round =>
    obtain ⟨k, rfl, hg, HJ, rfl⟩ := hrel; by_cases hk : k < 16
    · have hgk : gk ≠ 0 := by omega
      have hix := hexj k hk; have HK := Keep.mk (HA.out k hk); have HS := Keep.mk (fun (hne : (hexS k).toNat ≠ x) (j : Nat) (hj : j < k + 1) => show (hexS j).toNat ≠ x by
        rcases Nat.lt_or_ge j k with h | h
        · exact HJ.out j h
        obtain rfl : j = k := by omega
        exact hne)
      have hxl := (hexS k).toNat_lt; generalize (hexS k).toNat = z at *; by_cases hz : z = x
      · have HE := Keep.mk (HK.out hz)
        subst hz; clear HS HK HJ HN HA; go_wp2
        go_ret
        exact ⟨by rw [HE.out]; rfl, rfl⟩
      have HS2 := Keep.mk (HS.out hz); have hzb : ((z : Int) == (x : Nat)) = false := by simp; omega
      clear HS HK HJ; go_wp2
      go_roundg (gk - 1)
      case rel => exact ⟨k + 1, by go_num, by omega, HS2, rfl⟩
      case measure => omega
    obtain rfl : k = 16 := by omega
    have HE := Keep.mk (HN.out fun j hj => HJ.out j hj); clear HA HN HJ; go_wp2
    go_ret
    exact ⟨by rw [HE.out]; rfl, rfl⟩
theorem get_n (s : ByteArray) (i : Nat) (h : i < s.size) : s.data.toList.getD i 0 = s[i] := by
  rw [List.getD_eq_getElem?_getD, List.getElem?_eq_getElem (by simpa using h)]; rfl
theorem ref2_unit (s : ByteArray) (hs : s.size ≤ 9223372036854775000) (w : World) : Calls Tryz.prog 145 #[.string s] w fun r w' => r = .returned (.int .i64 (unitV s.data.toList)) ∧ w' = w := by
  have HL := Keep.mk (size_listU s); by_cases h6 : s.size < 6
  · have HE := Keep.mk (show unitV s.data.toList = -1 by unfold unitV; rw [if_pos (Or.inl (by rw [HL.out]; exact h6))])
    have hb : (s.size : Int) < 6 := by omega
    clear HL; go_enter Tryz.func145, Tryz.ntmps145
    go_wp2
    go_ret
    exact ⟨by rw [HE.out]; rfl, rfl⟩
  have hb : ¬ (s.size : Int) < 6 := by omega
  have HU := Keep.mk (show unitV s.data.toList = if s.data.toList.getD 0 0 ≠ 92 ∨ s.data.toList.getD 1 0 ≠ 117 then -1 else match fourV (s.data.toList.drop 2) with | some x => (x : Int) | none => -1 by
    unfold unitV; rw [HL.out]; by_cases h : s.data.toList.getD 0 0 ≠ 92 ∨ s.data.toList.getD 1 0 ≠ 117
    · rw [if_pos (Or.inr h), if_pos h]
    rw [if_neg (by rintro (h2 | h2); exact h6 h2; exact h h2), if_neg h])
  rw [get_n s 0 (by omega), get_n s 1 (by omega)] at HU; have hc0 := s[0].toNat_lt; have hc1 := s[1].toNat_lt; by_cases h0 : s[0] = 92
  case neg =>
    have HE := Keep.mk (show unitV s.data.toList = -1 by rw [HU.out, if_pos (Or.inl h0)]); have hn : s[0].toNat ≠ 92 := fun h => h0 (by rw [← UInt8.toNat_inj]; exact h)
    have hb2 : ((s[0].toNat : Int) != 92) = true := by simp; omega
    clear HU HL h0; go_enter Tryz.func145, Tryz.ntmps145
    go_wp2
    go_ret
    exact ⟨by rw [HE.out]; rfl, rfl⟩
  case pos =>
  have hb2 : ((s[0].toNat : Int) != 92) = false := by rw [h0]; rfl
  by_cases h1 : s[1] = 117
  case neg =>
    have HE := Keep.mk (show unitV s.data.toList = -1 by rw [HU.out, if_pos (Or.inr h1)]); have hn : s[1].toNat ≠ 117 := fun h => h1 (by rw [← UInt8.toNat_inj]; exact h)
    have hb3 : ((s[1].toNat : Int) != 117) = true := by simp; omega
    clear HU HL h0 h1; go_enter Tryz.func145, Tryz.ntmps145
    go_wp2
    go_ret
    exact ⟨by rw [HE.out]; rfl, rfl⟩
  case pos =>
  have hb3 : ((s[1].toNat : Int) != 117) = false := by rw [h1]; rfl
  have HV := Keep.mk (show unitV s.data.toList = match fourV (s.data.toList.drop 2) with | some x => (x : Int) | none => -1 by
    rw [HU.out, if_neg (by rintro (h | h); exact h h0; exact h h1)])
  clear HU h0 h1; go_enter Tryz.func145, Tryz.ntmps145
  go_wp2_with fail
  go_loopg [3, 4] 4 (fun gk n i wr => ∃ (j x : Nat), j + gk = 6 ∧ 2 ≤ j ∧ i = .int .i64 j ∧ n = .int .i64 x ∧ x < 16 ^ (j - 2) ∧ Keep (fourV (s.data.toList.drop 2) = hexGo gk (s.data.toList.drop j) x) ∧ wr = w)
  case atStart => exact ⟨2, 0, by omega, by omega, rfl, rfl, by decide, ⟨rfl⟩, rfl⟩
  case round =>
    obtain ⟨j, x, hj, hj2, rfl, rfl, hx, HW, rfl⟩ := hrel; by_cases hlt : j < 6
    · have hgk : gk ≠ 0 := by omega
      obtain ⟨g2, rfl⟩ : ∃ g2, gk = g2 + 1 := ⟨gk - 1, by omega⟩
      have hjs : j < s.size := by omega
      have hx3 : x < 4096 := Nat.lt_of_lt_of_le hx (Nat.le_trans (Nat.pow_le_pow_right (by omega) (show j - 2 ≤ 3 by omega)) (by decide)); have HS := Keep.mk (hexGo_step g2 s.data.toList j x (by rw [HL.out]; exact hjs)); rw [← HW.out] at HS; have hc : s.data.toList[j]'(by rw [HL.out]; exact hjs) = s[j] := rfl; rw [hc] at HS; obtain ⟨c, hcx⟩ : ∃ c, s[j] = c := ⟨_, rfl⟩
      rw [hcx] at HS; have HD := Keep.mk (fun w => ref2_digit c w); have HH := Keep.mk (show hexI c = match hexV c with | some x => (x : Int) | none => -1 from rfl); clear hc HW; cases hv : hexV c with
      | none =>
        rw [hv] at HS HH; have HE := Keep.mk (show unitV s.data.toList = -1 by rw [HV.out, HS.out]); rw [show hexI c = -1 from HH.out] at HD; clear HV HS HH hv; go_wp2_with fail
        refine (HD.out _).mono ?_; rintro r w1 ⟨rfl, rfl⟩; go_wp2
        go_ret
        exact ⟨by rw [HE.out]; rfl, rfl⟩
      | some y =>
        rw [hv] at HS HH; have hy := hexV_lt hv; have HN := Keep.mk (show fourV (s.data.toList.drop 2) = hexGo g2 (s.data.toList.drop (j + 1)) (x * 16 + y) from HS.out); rw [show hexI c = y from HH.out] at HD; clear HS HH hv; go_wp2_with fail
        refine (HD.out _).mono ?_; rintro r w1 ⟨rfl, rfl⟩; go_wp2
        go_roundg g2
        case rel => exact ⟨j + 1, x * 16 + y, by omega, by omega, by go_num, by go_num, by rw [show j + 1 - 2 = (j - 2) + 1 by omega, Nat.pow_succ]; omega, HN, rfl⟩
        case measure => omega
    obtain rfl : gk = 0 := by omega
    have HE := Keep.mk (show unitV s.data.toList = x by rw [HV.out, HW.out]; rfl); clear HV HW; go_wp2
    go_ret
    exact ⟨by rw [HE.out]; rfl, rfl⟩
def fromS (k : Nat) : Nat := match k with | 0 => 34 | 1 => 92 | 2 => 47 | 3 => 98 | 4 => 102 | 5 => 110 | 6 => 114 | _ => 116
def toS (k : Nat) : Nat := match k with | 0 => 34 | 1 => 92 | 2 => 47 | 3 => 8 | 4 => 12 | 5 => 10 | 6 => 13 | _ => 9
theorem cand_any (k : Nat) (hk : k < 8) : (fromS k = 34 ∧ toS k = 34) ∨ (fromS k = 92 ∧ toS k = 92) ∨ (fromS k = 47 ∧ toS k = 47) ∨ (fromS k = 98 ∧ toS k = 8) ∨ (fromS k = 102 ∧ toS k = 12) ∨ (fromS k = 110 ∧ toS k = 10) ∨ (fromS k = 114 ∧ toS k = 13) ∨ (fromS k = 116 ∧ toS k = 9) := by
  revert hk; revert k; decide
theorem none_cand (c : UInt8) (h : ∀ j, j < 8 → c.toNat ≠ fromS j) : nonesC c := ⟨h 0 (by omega), h 1 (by omega), h 2 (by omega), h 3 (by omega), h 4 (by omega), h 5 (by omega), h 6 (by omega), h 7 (by omega)⟩
theorem fromj : ∀ (d : Nat), d < 8 → ∀ w : World, (Instr.index 9 (.string ⟨#[34, 92, 47, 98, 102, 110, 114, 116]⟩) (.int .i64 (d : Int))).run Tryz.prog w = .ok (.int .u8 (fromS d : Int)) w := by
  intro d hd w; have : d = 0 ∨ d = 1 ∨ d = 2 ∨ d = 3 ∨ d = 4 ∨ d = 5 ∨ d = 6 ∨ d = 7 := by omega
  rcases this with rfl | rfl | rfl | rfl | rfl | rfl | rfl | rfl
  all_goals (clear hd; revert w; intro w; first | rfl | (show _ = _; kernel_rfl))
structure TosAt (w : World) (g : Nat) (W : World) : Prop where
  at_ : ∀ n, n < 8 → W.cell? ⟨g, n, none⟩ = some (.int .i64 (toS n : Nat))
  lt : g < W.heap.size
  old : Below w.heap.size w W
theorem TosAt.below {w W W' : World} {g : Nat} (h : TosAt w g W) (hb : Below W.heap.size W W') : TosAt w g W' :=
  ⟨fun n hn => (hb.cell (p := ⟨g, n, none⟩) h.lt).trans (h.at_ n hn), Nat.lt_of_lt_of_le h.lt hb.size, up h.old hb⟩
def pieceRes : Option (Nat × Nat) → Value
  | some p => .tuple #[.int .i64 p.1, .int .i64 p.2]
  | none => .tuple #[.int .i64 0, .int .i64 0]
theorem ref2_piece (s : ByteArray) (h0 : 0 < s.size) (hs : s.size ≤ 9223372036854775000) (w : World) : Calls Tryz.prog 142 #[.string s] w fun r w' => r = .returned (pieceRes (pieceV s.data.toList)) ∧ Below w.heap.size w w' := by
  have hc0 := s[0].toNat_lt; have hl0 : s.data.toList = s[0] :: s.data.toList.drop 1 := by
    have := List.drop_eq_getElem_cons (l := s.data.toList) (i := 0) (by rw [size_listU]; exact h0); rw [List.drop_zero] at this; exact this
  by_cases h92 : s[0] = 92
  case neg =>
    have HP := Keep.mk (piece_plain s[0] (s.data.toList.drop 1) h92); rw [← hl0] at HP; have HF := Keep.mk (fun w => ref2_First s hs w); have hn : s[0].toNat ≠ 92 := fun h => h92 (by rw [← UInt8.toNat_inj]; exact h)
    have hb2 : ((s[0].toNat : Int) != 92) = true := by simp; omega
    obtain ⟨⟨a, n⟩, hfs⟩ : ∃ q, firstS s.data.toList = q := ⟨_, rfl⟩
    rw [hfs] at HP HF; clear h92 hl0 hfs; go_enter Tryz.func142, Tryz.ntmps142
    go_wp2_with fail
    refine (HF.out _).mono ?_; rintro r w1 ⟨rfl, hb1⟩; by_cases ha : a < 32 ∨ a = 34
    · have HE := Keep.mk (show pieceV s.data.toList = none by rw [HP.out, if_pos ha])
      have ha2 : decide ((a : Int) < 32) = true ∨ (decide ((a : Int) < 32) = false ∧ ((a : Int) == 34) = true) := by
        simp; omega
      clear HP ha; rcases ha2 with ha2 | ⟨ha2, ha3⟩
      all_goals
        go_wp2
        go_ret2
        exact ⟨by rw [HE.out]; rfl, hb1⟩
    have HE := Keep.mk (show pieceV s.data.toList = some (a, n) by rw [HP.out, if_neg ha]); have ha2 : decide ((a : Int) < 32) = false := by simp; omega
    have ha3 : ((a : Int) == 34) = false := by simp; omega
    clear HP ha; go_wp2
    go_ret2
    exact ⟨by rw [HE.out]; rfl, hb1⟩
  case pos =>
  have hb2 : ((s[0].toNat : Int) != 92) = false := by rw [h92]; rfl
  by_cases h1 : s.size = 1
  · have hl : s.data.toList = [92] := by
      rw [hl0, h92]; congr 1
      exact List.eq_nil_of_length_eq_zero (by rw [List.length_drop, size_listU]; omega)
    have HU := Keep.mk (fun w => ref2_unit s hs w); rw [hl] at HU; rw [unit_short] at HU; have HE := Keep.mk (show pieceV s.data.toList = none by rw [hl]; rfl); have hs1 : decide (1 < (s.size : Int)) = false := by simp; omega
    clear hl hl0 h92 h1; go_enter Tryz.func142, Tryz.ntmps142
    go_wp2_with fail
    refine (HU.out _).mono ?_; rintro r w1 ⟨rfl, rfl⟩; go_wp2
    go_ret2
    exact ⟨by rw [HE.out]; rfl, Below.refl _ _⟩
  have hs1 : decide (1 < (s.size : Int)) = true := by simp; omega
  have h2s : 1 < s.size := by omega
  have h2i : (1 : Int) < (s.size : Int) := by omega
  have hl1 : s.data.toList.drop 1 = s[1] :: s.data.toList.drop 2 := List.drop_eq_getElem_cons (l := s.data.toList) (i := 1) (by rw [size_listU]; exact h2s); have hll : s.data.toList = (92 : UInt8) :: s[1] :: s.data.toList.drop 2 := by
    have h := hl0; rw [hl1, h92] at h; exact h
  have hc1 := s[1].toNat_lt; have HC := Keep.mk (fun (j : Nat) (hj : j < 8) => piece_cand s[1] (s.data.toList.drop 2) (fromS j) (toS j) (cand_any j hj)); have HU := Keep.mk (piece_unit s[1] (s.data.toList.drop 2)); have HNC := Keep.mk (none_cand s[1]); rw [← hll] at HC HU; rw [List.drop_drop] at HU; clear hll hl1 hl0 h92 h1; have HUA := Keep.mk (fun w => ref2_unit s hs w); have HUB := Keep.mk (fun (h6 : 6 ≤ s.size) w => ref2_unit (s.extract 6 s.size) (by rw [ByteArray.size_extract]; omega) w); rw [show (s.extract 6 s.size).data.toList = s.data.toList.drop 6 from bx_to s 6] at HUB; have HBA := Keep.mk (unitV_bd s.data.toList); have HBB := Keep.mk (unitV_bd (s.data.toList.drop 6)); have HSH := Keep.mk (fun (h : s.size < 6) => show unitV s.data.toList = -1 by unfold unitV; rw [if_pos (Or.inl (by rw [size_listU]; exact h))]); generalize unitV s.data.toList = a at *; simp only [show 2 + 4 = 6 from rfl] at HU; generalize unitV (s.data.toList.drop 6) = b at *; go_enter Tryz.func142, Tryz.ntmps142
  go_upto_block 0 with fail
  refine wp_world (fun W => TosAt w w.heap.size W) ⟨fun n hn => ?_, by simp, al1 _ _⟩ ?_
  · have : n = 0 ∨ n = 1 ∨ n = 2 ∨ n = 3 ∨ n = 4 ∨ n = 5 ∨ n = 6 ∨ n = 7 := by omega
    rcases this with rfl | rfl | rfl | rfl | rfl | rfl | rfl | rfl <;> simp [go_sem, toS]
  rintro W0 HW0; replace HW0 := Keep.mk HW0; go_cut [8] (fun _ wx => Keep (∀ j, j < 8 → s[1].toNat ≠ fromS j) ∧ Keep (Below w.heap.size w wx))
  case first =>
    go_wp2_with fail
    go_loopg [8] 8 (fun gk i wr => ∃ k : Nat, i = .int .i64 k ∧ k + gk = 8 ∧ Keep (∀ j, j < k → s[1].toNat ≠ fromS j) ∧ Keep (TosAt w w.heap.size wr))
    case atStart => exact ⟨0, rfl, by omega, ⟨fun j hj => absurd hj (Nat.not_lt_zero _)⟩, HW0⟩
    case round =>
      obtain ⟨k, rfl, hg, HJ, HW⟩ := hrel; by_cases hk : k < 8
      · have hgk : gk ≠ 0 := by omega
        have hix := fromj k hk; have hto := HW.out.at_ k hk; have hlt := HW.out.lt; have HK := Keep.mk (HC.out k hk); have HS := Keep.mk (fun (hne : s[1].toNat ≠ fromS k) (j : Nat) (hj : j < k + 1) => show s[1].toNat ≠ fromS j by
          rcases Nat.lt_or_ge j k with h | h
          · exact HJ.out j h
          obtain rfl : j = k := by omega
          exact hne)
        generalize fromS k = z at *; generalize toS k = z2 at *; go_upto_region 12 with fail
        refine wp_region_above (by kernel_rfl) (by kernel_rfl) ?_; repeat (go_big_quiet_step (fail))
        refine wpQuiet_nil ?_; rintro _ ⟨x, rfl⟩; have HW1 := Keep.mk (HW.out.below x.property); by_cases hz : s[1].toNat = z
        · have HE := Keep.mk (HK.out hz)
          have hzb : ((z : Int) == (s[1].toNat : Int)) = true := by simp; omega
          have hto1 := (x.property.cell (p := ⟨w.heap.size, k, none⟩) hlt).trans hto; clear HS HK HJ HC HU HNC HUA HUB HBA HBB HSH; go_wp2
          go_ret2
          exact ⟨by rw [HE.out]; rfl, HW1.out.old⟩
        have HS2 := Keep.mk (HS.out hz); have hzb : ((z : Int) == (s[1].toNat : Int)) = false := by simp; omega
        clear HS HK HJ; go_wp2
        go_roundg (gk - 1)
        case rel => exact ⟨k + 1, by go_num, by omega, HS2, HW1⟩
        case measure => omega
      obtain rfl : k = 8 := by omega
      go_wp2_with fail
      go_meet
      exact ⟨HJ, ⟨HW.out.old⟩⟩
  case rest =>
    obtain ⟨HJ, HW⟩ := hcut; have HP := Keep.mk (HU.out (HNC.out HJ.out)); clear HU HNC HJ HC HW0; have ha := HBA.out; by_cases c1 : a < 0 ∨ (56320 ≤ a ∧ a ≤ 57343)
    · have HE := Keep.mk (show pieceV s.data.toList = none by rw [HP.out]; unfold pieceU; rw [if_pos c1])
      have c2 : decide (a < 0) = true ∨ (decide (a < 0) = false ∧ decide (56320 ≤ a) = true ∧ decide (a ≤ 57343) = true) := by simp; omega
      clear HP c1 ha; rcases c2 with c2 | ⟨c2, c3, c4⟩
      all_goals
        go_wp2_with fail
        refine (HUA.out _).mono ?_; rintro r w1 ⟨rfl, rfl⟩; go_wp2
        go_ret2
        exact ⟨by rw [HE.out]; rfl, HW.out⟩
    have c2 : decide (a < 0) = false := by simp; omega
    have c3 : decide (56320 ≤ a) = false ∨ (decide (56320 ≤ a) = true ∧ decide (a ≤ 57343) = false) := by simp; omega
    by_cases c4 : a < 55296 ∨ 57343 < a
    · have HE := Keep.mk (show pieceV s.data.toList = some (a.toNat, 6) by rw [HP.out]; unfold pieceU; rw [if_neg c1, if_pos c4])
      have HN := Keep.mk (show ((a.toNat : Nat) : Int) = a from Int.toNat_of_nonneg (by omega)); have c5 : decide (a < 55296) = true ∨ (decide (a < 55296) = false ∧ decide (57343 < a) = true) := by simp; omega
      clear HP c1 ha c4; rcases c3 with c3 | ⟨c3, c6⟩
      all_goals
        rcases c5 with c5 | ⟨c5, c7⟩
        all_goals
          go_wp2_with fail
          refine (HUA.out _).mono ?_; rintro r w1 ⟨rfl, rfl⟩; go_wp2
          go_ret2
          exact ⟨by rw [HE.out]; simp only [pieceRes]; rw [HN.out]; rfl, HW.out⟩
    have c5 : decide (a < 55296) = false := by simp; omega
    have c6 : decide (57343 < a) = false := by simp; omega
    have c7 : decide (56320 ≤ a) = false := by simp; omega
    have hb := HBB.out; have h6 : 6 ≤ s.size := by
      rcases Nat.lt_or_ge s.size 6 with h | h
      · have := HSH.out h; omega
      exact h
    have HUB2 := Keep.mk (HUB.out h6); by_cases d1 : b < 56320 ∨ 57343 < b
    · have HE := Keep.mk (show pieceV s.data.toList = none by rw [HP.out]; unfold pieceU; rw [if_neg c1, if_neg c4, if_pos d1])
      have d2 : decide (b < 56320) = true ∨ (decide (b < 56320) = false ∧ decide (57343 < b) = true) := by simp; omega
      clear HP c1 ha c4 c3 hb d1; rcases d2 with d2 | ⟨d2, d3⟩
      all_goals
        go_wp2_with fail
        refine (HUA.out _).mono ?_; rintro r w1 ⟨rfl, rfl⟩; go_wp2_with fail
        refine (HUB2.out _).mono ?_; rintro r w1 ⟨rfl, rfl⟩; go_wp2
        go_ret2
        exact ⟨by rw [HE.out]; rfl, HW.out⟩
    have HE := Keep.mk (show pieceV s.data.toList = some ((65536 + (a - 55296) * 1024 + b - 56320).toNat, 12) by rw [HP.out]; unfold pieceU; rw [if_neg c1, if_neg c4, if_neg d1]); have HN := Keep.mk (show (((65536 + (a - 55296) * 1024 + b - 56320).toNat : Nat) : Int) = 65536 + (a - 55296) * 1024 + b - 56320 from Int.toNat_of_nonneg (by omega)); have d2 : decide (b < 56320) = false := by simp; omega
    have d3 : decide (57343 < b) = false := by simp; omega
    have a1 : 55296 ≤ a := by omega
    have a2 : a ≤ 57343 := by omega
    have b1 : 56320 ≤ b := by omega
    have b2 : b ≤ 57343 := by omega
    clear HP c1 ha c4 c3 hb d1; go_wp2_with fail
    refine (HUA.out _).mono ?_; rintro r w1 ⟨rfl, rfl⟩; go_wp2_with fail
    refine (HUB2.out _).mono ?_; rintro r w1 ⟨rfl, rfl⟩; go_wp2
    go_ret2
    exact ⟨by rw [HE.out]; simp only [pieceRes]; rw [HN.out]; rfl, HW.out⟩
theorem map_map_body {o : Option (List UInt8 × Nat)} (a b : List UInt8) (i n : Nat) : (o.map fun p => (b ++ p.1, p.2 + n)).map (fun p => (a ++ p.1, p.2 + i)) = o.map fun p => ((a ++ b) ++ p.1, p.2 + (i + n)) := by
  cases o with
  | none => rfl
  | some p => simp [Nat.add_assoc, Nat.add_comm n i]
theorem rune_bytes (x : Nat) (h : x < 55296 ∨ (57343 < x ∧ x ≤ 1114111)) (w : World) : Calls Tryz.prog 143 #[.int .i64 x] w fun r w' => ∃ b : ByteArray, r = .returned (.string b) ∧ b.data.toList = Lib.encodeRune (x : Int) ∧ b.size ≤ 4 ∧ Below w.heap.size w w' := by
  have hc := ref2_Char (x : Int) w; rw [charS_rune h] at hc; refine (calls_str hc).mono ?_; rintro r w' ⟨b, rfl, h1, h2, h3⟩; exact ⟨b, rfl, h1, by rw [h2]; exact encodeRune_le _, h3⟩
theorem ref2_Read (s : ByteArray) (hs : s.size ≤ 1000000000) (w : World) : Calls Tryz.prog 136 #[.string s] w fun r w' => ∃ b : ByteArray, r = .returned (.tuple #[.string b, .int .i64 (readQ s.data.toList).2.1, .int .i64 (readQ s.data.toList).2.2]) ∧ b.data.toList = (readQ s.data.toList).1 ∧ Below w.heap.size w w' := by
  have HL := Keep.mk (size_listU s); by_cases he : s.size = 0
  · have HE := Keep.mk (show readQ s.data.toList = ([], 0, 20) by rw [show s.data.toList = [] from List.eq_nil_of_length_eq_zero (by have := HL.out; omega)]; rfl)
    have hb : ((s.size : Int) == 0) = true := by rw [beq_iff_eq]; omega
    clear HL he; go_enter Tryz.func136, Tryz.ntmps136
    go_wp2
    go_ret3
    exact ⟨⟨#[]⟩, by rw [HE.out]; rfl, by rw [HE.out], Below.refl _ _⟩
  have h0 : 0 < s.size := by omega
  have hb : ((s.size : Int) == 0) = false := by rw [beq_eq_false_iff_ne]; omega
  have hl0 : s.data.toList = s[0] :: s.data.toList.drop 1 := by
    have := List.drop_eq_getElem_cons (l := s.data.toList) (i := 0) (by have := HL.out; omega); rw [List.drop_zero] at this; exact this
  have HR := Keep.mk (show readQ s.data.toList = if s[0] = 34 then (match bodyV (s.data.toList.drop 1) with | some (t, k) => ((t, k + 1, 0) : List UInt8 × Nat × Int) | none => ([], 0, 20)) else ([], 0, 20) by
    conv => lhs; rw [hl0]
    rfl)
  have hc0 := s[0].toNat_lt; clear hl0; by_cases h34 : s[0] = 34
  case neg =>
    have HE := Keep.mk (show readQ s.data.toList = ([], 0, 20) by rw [HR.out, if_neg h34]); have hn : s[0].toNat ≠ 34 := fun h => h34 (by rw [← UInt8.toNat_inj]; exact h)
    have hb2 : ((s[0].toNat : Int) != 34) = true := by simp; omega
    clear HR HL h34; go_enter Tryz.func136, Tryz.ntmps136
    go_wp2
    go_ret3
    exact ⟨⟨#[]⟩, by rw [HE.out]; rfl, by rw [HE.out], Below.refl _ _⟩
  case pos =>
  have hb2 : ((s[0].toNat : Int) != 34) = false := by rw [h34]; rfl
  have HV := Keep.mk (show readQ s.data.toList = match bodyV (s.data.toList.drop 1) with | some (t, k) => ((t, k + 1, 0) : List UInt8 × Nat × Int) | none => ([], 0, 20) by rw [HR.out, if_pos h34]); clear HR h34; go_enter Tryz.func136, Tryz.ntmps136
  go_upto_block 0 with fail
  go_cut [5, 6] (fun t5 t6 wx => ∃ (t : ByteArray) (a : Nat), t5 = .string t ∧ t6 = .int .i64 a ∧ 1 ≤ a ∧ a ≤ s.size ∧ Keep (bodyV (s.data.toList.drop 1) = (bodyV (s.data.toList.drop a)).map (fun p => (t.data.toList ++ p.1, p.2 + (a - 1)))) ∧ (a = s.size ∨ Keep (∃ h : a < s.size, s[a] = 34)) ∧ Keep (Below w.heap.size w wx))
  case first =>
    go_wp2_with fail
    go_loopg [5, 6] (s.size + 1) (fun gk t5 t6 wr => ∃ (t : ByteArray) (a : Nat), t5 = .string t ∧ t6 = .int .i64 a ∧ 1 ≤ a ∧ a ≤ s.size ∧ s.size - a < gk ∧ t.size ≤ 4 * a ∧ Keep (bodyV (s.data.toList.drop 1) = (bodyV (s.data.toList.drop a)).map (fun p => (t.data.toList ++ p.1, p.2 + (a - 1)))) ∧ Keep (Below w.heap.size w wr))
    case atStart =>
      refine ⟨⟨#[]⟩, 1, rfl, rfl, Nat.le_refl _, by omega, by omega, by decide, ⟨?_⟩, ⟨Below.refl _ _⟩⟩; cases bodyV (s.data.toList.drop 1) with
      | none => rfl
      | some p => rfl
    case round =>
      obtain ⟨t, a, rfl, rfl, ha1, ha, hgk0, ht, HB, HW⟩ := hrel; by_cases hlt : a < s.size
      · have hgk : gk ≠ 0 := by omega
        have hla : s.data.toList.drop a = s[a] :: s.data.toList.drop (a + 1) := List.drop_eq_getElem_cons (l := s.data.toList) (i := a) (by have := HL.out; omega); have hca := s[a].toNat_lt; by_cases hq : s[a] = 34
        · have hqb : ((s[a].toNat : Int) != 34) = false := by rw [hq]; rfl
          have HQ : Keep (∃ h : a < s.size, s[a] = 34) := ⟨hlt, hq⟩; clear hla hq; go_wp2_with fail
          go_meet
          exact ⟨t, a, rfl, rfl, ha1, ha, HB, Or.inr HQ, HW⟩
        have hqn : s[a].toNat ≠ 34 := fun h => hq (by rw [← UInt8.toNat_inj]; exact h)
        have hqb : ((s[a].toNat : Int) != 34) = true := by simp; omega
        have hTl : (s.extract a s.size).data.toList = s.data.toList.drop a := bx_to s a; have hTs : (s.extract a s.size).size = s.size - a := by rw [ByteArray.size_extract]; omega
        have HPC := Keep.mk (fun w => ref2_piece (s.extract a s.size) (by omega) (by omega) w); have HBP := Keep.mk (bodyV_piece s[a] (s.data.toList.drop (a + 1)) hq); rw [hTl] at HPC; rw [← hla] at HBP; have HOK := Keep.mk (fun x n => pieceV_ok (l := s.data.toList.drop a) (x := x) (n := n)); clear hla hq hTl hTs; obtain ⟨q, hq2⟩ : ∃ q, pieceV (s.data.toList.drop a) = q := ⟨_, rfl⟩
        rw [hq2] at HPC HBP; have HQ2 := Keep.mk hq2; clear hq2; cases q with
        | none =>
          have HE := Keep.mk (show readQ s.data.toList = ([], 0, 20) by rw [HV.out, HB.out, HBP.out]; rfl); clear HBP HB HV HQ2 HOK; go_wp2_with fail
          refine (HPC.out _).mono ?_; rintro r w1 ⟨rfl, hb1⟩; have HB1 := Keep.mk (up HW.out hb1); clear hb1 HW; simp only [pieceRes]; go_wp2
          go_ret3
          exact ⟨⟨#[]⟩, by rw [HE.out]; rfl, by rw [HE.out], HB1.out⟩
        | some q =>
          obtain ⟨x, n⟩ := q; obtain ⟨hx, hn1, hn2, hn3⟩ := HOK.out x n HQ2.out; have hn4 : n ≤ s.size - a := by rw [List.length_drop, HL.out] at hn2; exact hn2
          have HN := Keep.mk (show bodyV (s.data.toList.drop a) = (bodyV (s.data.toList.drop (a + n))).map fun p => (Lib.encodeRune (x : Int) ++ p.1, p.2 + n) by rw [HBP.out]; simp only [List.drop_drop]); have HCH := Keep.mk (fun w => rune_bytes x hx w); clear HBP HQ2 HOK hn2 hx; have hnb : ((n : Int) == 0) = false := by simp; omega
          go_wp2_with fail
          refine (HPC.out _).mono ?_; rintro r w1 ⟨rfl, hb1⟩; have HB1 := Keep.mk (up HW.out hb1); clear hb1 HW; simp only [pieceRes]; go_wp2_with fail
          refine (HCH.out _).mono ?_; rintro r w2 ⟨b, rfl, hbl, hbs, hb2⟩; have HB2 := Keep.mk (up HB1.out hb2); have HN2 := Keep.mk (show bodyV (s.data.toList.drop 1) = (bodyV (s.data.toList.drop (a + n))).map (fun p => ((t ++ b).data.toList ++ p.1, p.2 + (a + n - 1))) by
            rw [HB.out, HN.out, map_map_body, ba_append, hbl, show a - 1 + n = a + n - 1 by omega])
          clear hb2 HB1 HB HN hbl; have hsz : (t ++ b).size = t.size + b.size := ByteArray.size_append; go_wp2
          go_roundg (gk - 1)
          case rel => exact ⟨t ++ b, a + n, rfl, by go_num, by omega, by omega, by omega, by omega, HN2, HB2⟩
          case measure => omega
      obtain rfl : a = s.size := by omega
      go_wp2_with fail
      go_meet
      exact ⟨t, s.size, rfl, rfl, ha1, ha, HB, Or.inl rfl, HW⟩
  case rest =>
    obtain ⟨t, a, rfl, rfl, ha1, ha, HB, hor, HW⟩ := hcut; rcases hor with rfl | HQ
    · have HE := Keep.mk (show readQ s.data.toList = ([], 0, 20) by
        rw [HV.out, HB.out, List.drop_eq_nil_of_le (by rw [HL.out]; exact Nat.le_refl _)]; rfl)
      clear HB HV; go_wp2
      go_ret3
      exact ⟨⟨#[]⟩, by rw [HE.out]; rfl, by rw [HE.out], HW.out⟩
    have HE := Keep.mk (show readQ s.data.toList = (t.data.toList, a + 1, 0) by
      obtain ⟨hlt, hq⟩ := HQ.out; have hla : s.data.toList.drop a = s[a] :: s.data.toList.drop (a + 1) := List.drop_eq_getElem_cons (l := s.data.toList) (i := a) (by have := HL.out; omega); rw [HV.out, HB.out, hla, hq, bodyV_cons, if_pos rfl]; simp only [Option.map_some, List.append_nil]; rw [show 1 + (a - 1) + 1 = a + 1 by omega])
    have hlt : a < s.size := HQ.out.1; clear HB HV HQ; go_wp2
    go_ret3
    exact ⟨t, by rw [HE.out]; rfl, by rw [HE.out], HW.out⟩
end Go.Proofs.YtinknjhclpaieaaGreatDoor
