/- Lemmas and contracts for the laws CalcLengths, part 8 of 37: Made. Conditions: those that each lemma names. -/
import Derived.Test.YtnkokhpadcgfbaaGreatDoorPack6
namespace Go.Proofs.YtnkokhpadcgfbaaGreatDoor
open Go Go.RowKit Go.Proofs Th
attribute [local go_sem] Above.cell
def numRes (p : (Int × Int) × Int) : Value := .tuple #[.agg #[.int .i64 p.1.1, .int .i64 p.1.2], .int .i64 p.2]
theorem made_zero (neg : Bool) (e : Int) (w : World) : Calls Tryz.prog 73 #[.bool neg, .int .u64 0, .int .u64 0, .int .i64 e] w fun r w' => r = .returned (numRes ((0, 0), 0)) ∧ Below w.heap.size w w' := by
  go_enter Tryz.func73, Tryz.ntmps73
  go_wp2_with fail
  refine (num_zero _).mono ?_
  rintro r w1 ⟨rfl, hb⟩
  obtain ⟨hc, hf⟩ := bcell hb
  go_wp2
  refine bodyPost_ret (v := numRes ((0, 0), 0)) ?_ rfl ⟨rfl, ?_⟩
  · simp [numRes, results, Tryz.results73, go_sem, hc]
  · exact (((((Below.refl _ _).alloc (Nat.le_refl _) _).trans (hb.mono (by simp))).setCell (by simp) _).setCell (by simp) _)
theorem num_res {p q : (Int × Int) × Int} (h : p = q) : Ending.returned (numRes p) = .returned (numRes q) := by rw [h]
set_option maxRecDepth 100000 in
theorem made_some (neg : Bool) (hi lo e : Int) (V : Nat) (hV : V = wide hi lo) (h0 : 0 ≤ hi) (h1 : hi < 18446744073709551616) (l0 : 0 ≤ lo) (l1 : lo < 18446744073709551616) (hv : V ≠ 0) (e0 : -4611686018427387904 ≤ e) (e1 : e ≤ 4611686018427387904)
    (hz : (hi == 0) = false ∨ (hi = 0 ∧ (lo == 0) = false)) (w : World) (hg : Glob w) : Calls Tryz.prog 73 #[.bool neg, .int .u64 hi, .int .u64 lo, .int .i64 e] w fun r w' =>
    r = .returned (numRes (norm neg V e)) ∧ Below w.heap.size w w' := by
  have HV := Keep.mk hv
  have HL := Keep.mk (wide_lt hi lo h1 l1)
  rw [← hV] at HL
  have HS := Keep.mk hV
  clear hv hV
  rcases hz with hz | ⟨rfl, hz⟩
  all_goals
    go_enter Tryz.func73, Tryz.ntmps73
    go_wp2_with fail
    go_loopw [1, 2, 3] (fun a b c wr => ∃ (x y f : Int) (k : Nat), 0 ≤ x ∧ x < 18446744073709551616 ∧ 0 ≤ y ∧ y < 18446744073709551616 ∧ Keep (wide x y ≠ 0) ∧ Keep (wide x y * 10 ^ k = V) ∧ Keep (f = e + k) ∧ a = .int .u64 x ∧ b = .int .u64 y ∧ c = .int .i64 f ∧
      Below (w.alloc (.cells #[.int .i64 0, .int .i64 0] 23)).heap.size (w.alloc (.cells #[.int .i64 0, .int .i64 0] 23)) wr) (fun a b _ _ => wide (intOf a) (intOf b))
    case atStart => exact ⟨_, lo, e, 0, h0, h1, l0, l1, ⟨by rw [← HS.out]; exact HV.out⟩, ⟨by rw [HS.out]; simp⟩, ⟨by simp⟩, rfl, rfl, rfl, Below.refl _ _⟩
    case round =>
      obtain ⟨x, y, f, k, x0, x1, y0, y1, hn, hk, hf, rfl, rfl, rfl, hb⟩ := hrel
      have hk39 := pow_small k _ V hn.out hk.out HL.out
      have f0 : -4611686018427387904 ≤ f := by have := hf.out; omega
      have f1 : f ≤ 4611686018427387944 := by have := hf.out; omega
      clear h0 h1 l0 l1 e0 e1 hz HS
      have HM := Keep.mk (wide_mod x y x0 y0)
      by_cases hm : wide x y % 10 = 0
      · have hd : (dm10 (x % 10) y != 0) = false := by rw [HM.out, hm]; rfl
        have HD := Keep.mk (wide_div x y x0 y0)
        have HB := Keep.mk (dq10_bd x y x0 y0 y1)
        have HMM := Keep.mk hm
        clear hm
        go_wp2_with (go_at_call 116; refine (div64_ten' _ _ (by omega) (by omega) y0 y1 _).mono ?_; rintro r w1 ⟨rfl, hb1⟩)
        refine ⟨⟨x / 10, dq10 (x % 10) y, f + 1, k + 1, by omega, by omega, HB.out.1, HB.out.2, ⟨?_⟩, ⟨?_⟩, ⟨?_⟩, rfl, rfl, rfl, hb.trans (hb1.mono hb.size)⟩, ?_⟩
        · rw [HD.out]; have := HMM.out; have := hn.out; omega
        · have h2 := HMM.out; have h3 := hk.out; rw [HD.out, Nat.pow_succ, Nat.mul_comm (10 ^ k), ← Nat.mul_assoc, show wide x y / 10 * 10 = wide x y by omega]; exact h3
        · have := hf.out; omega
        · simp only [intOf]; rw [HD.out]; have := HMM.out; have := hn.out; omega
      · have hd : (dm10 (x % 10) y != 0) = true := by rw [HM.out]; simp; omega
        have hfin : norm neg V e = norm neg (wide x y) f := by rw [← hk.out, norm_shift, hf.out]
        have hc18 : wr.cell? ⟨2, 18, none⟩ = some (.int .u64 ((10 ^ 18 : Nat) : Int)) := (hg.below (((Below.refl _ _).alloc (Nat.le_refl _) _).trans (hb.mono (by simp)))).tens 18 (by omega)
        rcases made_cases neg x y f x0 y0 hm with ⟨t0, hr⟩ | ⟨t0, t1, hr⟩ | ⟨t0, t1, t2, hr⟩ | ⟨t0, t1, t2, t3, hr⟩ | ⟨t0, t1, t2, t3, y2, hr⟩
        case inr.inr.inr.inr =>
          have HRR := Keep.mk (hfin.trans hr)
          clear hr hm hfin
          go_wp2_with fail
          refine (div64_ten' _ _ (by omega) (by omega) y0 y1 _).mono ?_
          rintro r w1 ⟨rfl, hb1⟩
          have hb2 := hb.trans (hb1.mono hb.size)
          have c18 := hb1.cell (p := ⟨2, 18, none⟩) (lt_of_cell hc18)
          rw [hc18] at c18
          obtain ⟨hc, hf'⟩ := bcell hb2
          cases neg
          · go_wp2
            refine bodyPost_ret (v := numRes ((y, f), 0)) ?_ rfl ⟨num_res HRR.out.symm, ?_⟩
            · simp [numRes, results, Tryz.results73, go_sem, hc]
            · exact (((((Below.refl _ _).alloc (Nat.le_refl _) _).trans (hb2.mono (by simp))).setCell (by simp) _).setCell (by simp) _)
          · go_wp2
            refine bodyPost_ret (v := numRes ((-y, f), 0)) ?_ rfl ⟨num_res HRR.out.symm, ?_⟩
            · simp [numRes, results, Tryz.results73, go_sem, hc]
            · exact (((((Below.refl _ _).alloc (Nat.le_refl _) _).trans (hb2.mono (by simp))).setCell (by simp) _).setCell (by simp) _)
        all_goals
          have HRR := Keep.mk (hfin.trans hr)
          clear hr hm hfin
          go_wp2_with fail
          refine (div64_ten' _ _ (by omega) (by omega) y0 y1 _).mono ?_
          rintro r w1 ⟨rfl, hb1⟩
          have hb2 := hb.trans (hb1.mono hb.size)
          have c18 := hb1.cell (p := ⟨2, 18, none⟩) (lt_of_cell hc18)
          rw [hc18] at c18
          obtain ⟨hc, hf'⟩ := bcell hb2
          go_wp2_with (go_at_call 70; refine (num_zero _).mono ?_; rintro r w2 ⟨rfl, hb3⟩; have hb4 := hb2.trans (hb3.mono hb2.size); obtain ⟨hc2, hf2⟩ := bcell hb4)
          refine bodyPost_ret (v := numRes ((0, 0), 11)) ?_ rfl ⟨num_res HRR.out.symm, ?_⟩
          · simp [numRes, results, Tryz.results73, go_sem, hc2]
          · exact (((((Below.refl _ _).alloc (Nat.le_refl _) _).trans (hb4.mono (by simp))).setCell (by simp) _).setCell (by simp) _)
theorem num_made (neg : Bool) (hi lo e : Int) (h0 : 0 ≤ hi) (h1 : hi < 18446744073709551616) (l0 : 0 ≤ lo) (l1 : lo < 18446744073709551616) (e0 : -4611686018427387904 ≤ e) (e1 : e ≤ 4611686018427387904) (w : World) (hg : Glob w) :
    Calls Tryz.prog 73 #[.bool neg, .int .u64 hi, .int .u64 lo, .int .i64 e] w fun r w' => r = .returned (numRes (norm neg (wide hi lo) e)) ∧ Below w.heap.size w w' := by
  by_cases hv : wide hi lo = 0
  · have a : hi = 0 ∧ lo = 0 := by unfold wide at hv; omega
    obtain ⟨rfl, rfl⟩ := a
    exact made_zero neg e w
  · refine made_some neg hi lo e _ rfl h0 h1 l0 l1 hv e0 e1 ?_ w hg
    by_cases hz : hi = 0
    · right; refine ⟨hz, ?_⟩; simp; intro h; subst hz; subst h; exact hv rfl
    · left; simpa using hz
end Go.Proofs.YtnkokhpadcgfbaaGreatDoor
