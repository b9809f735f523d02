/- Lemmas and contracts for the laws ReadParses, ReadBytes, part 8 of 50: Made, MakeMath. Conditions: those that each lemma names. -/
import Derived.Test.YtbngjlkmpdccjaaGreatDoorPack6
import Derived.Test.YtbngjlkmpdccjaaGreatDoorPack7
import Derived.Maps.Views
namespace Go.Proofs.YtbngjlkmpdccjaaGreatDoor
open Go Go.RowKit Go.Proofs Th
attribute [local go_sem] Above.cell
def numRes (p : (Int × Int) × Int) : Value := .tuple #[.agg #[.int .i64 p.1.1, .int .i64 p.1.2], .int .i64 p.2]
theorem made_zero (neg : Bool) (e : Int) (w : World) : Calls Tryz.prog 54 #[.bool neg, .int .u64 0, .int .u64 0, .int .i64 e] w fun r w' => r = .returned (numRes ((0, 0), 0)) ∧ Below w.heap.size w w' := by
  go_enter Tryz.func54, Tryz.ntmps54
  go_wp2_with fail
  refine (num_zero _).mono ?_
  rintro r w1 ⟨rfl, hb⟩
  obtain ⟨hc, hf⟩ := bcell hb
  go_wp2
  refine bodyPost_ret (v := numRes ((0, 0), 0)) ?_ rfl ⟨rfl, ?_⟩
  · simp [numRes, results, Tryz.results54, go_sem, hc]
  · exact (((((Below.refl _ _).alloc (Nat.le_refl _) _).trans (hb.mono (by simp))).setCell (by simp) _).setCell (by simp) _)
theorem num_res {p q : (Int × Int) × Int} (h : p = q) : Ending.returned (numRes p) = .returned (numRes q) := by rw [h]
set_option maxRecDepth 100000 in
theorem made_some (neg : Bool) (hi lo e : Int) (V : Nat) (hV : V = wide hi lo) (h0 : 0 ≤ hi) (h1 : hi < 18446744073709551616) (l0 : 0 ≤ lo) (l1 : lo < 18446744073709551616) (hv : V ≠ 0) (e0 : -4611686018427387904 ≤ e) (e1 : e ≤ 4611686018427387904)
    (hz : (hi == 0) = false ∨ (hi = 0 ∧ (lo == 0) = false)) (w : World) (hg : Glob w) : Calls Tryz.prog 54 #[.bool neg, .int .u64 hi, .int .u64 lo, .int .i64 e] w fun r w' =>
    r = .returned (numRes (norm neg V e)) ∧ Below w.heap.size w w' := by
  have HV := Keep.mk hv
  have HL := Keep.mk (wide_lt hi lo h1 l1)
  rw [← hV] at HL
  have HS := Keep.mk hV
  clear hv hV
  rcases hz with hz | ⟨rfl, hz⟩
  all_goals
    go_enter Tryz.func54, Tryz.ntmps54
    go_wp2_with fail
    go_loopw [1, 2, 3] (fun a b c wr => ∃ (x y f : Int) (k : Nat), 0 ≤ x ∧ x < 18446744073709551616 ∧ 0 ≤ y ∧ y < 18446744073709551616 ∧ Keep (wide x y ≠ 0) ∧ Keep (wide x y * 10 ^ k = V) ∧ Keep (f = e + k) ∧ a = .int .u64 x ∧ b = .int .u64 y ∧ c = .int .i64 f ∧
      Below (w.alloc (.cells #[.int .i64 0, .int .i64 0] 24)).heap.size (w.alloc (.cells #[.int .i64 0, .int .i64 0] 24)) wr) (fun a b _ _ => wide (intOf a) (intOf b))
    case atStart => exact ⟨_, lo, e, 0, h0, h1, l0, l1, ⟨by rw [← HS.out]; exact HV.out⟩, ⟨by rw [HS.out]; simp⟩, ⟨by simp⟩, rfl, rfl, rfl, Below.refl _ _⟩
    case round =>
      obtain ⟨x, y, f, k, x0, x1, y0, y1, hn, hk, hf, rfl, rfl, rfl, hb⟩ := hrel
      have hk39 := pow_small k _ V hn.out hk.out HL.out
      have f0 : -4611686018427387904 ≤ f := by have := hf.out; omega
      have f1 : f ≤ 4611686018427387944 := by have := hf.out; omega
      clear h0 h1 l0 l1 e0 e1 hz HS
      have HM := Keep.mk (wide_mod x y x0 y0)
      by_cases hm : wide x y % 10 = 0
      · have hd : (dm10 (x % 10) y != 0) = false := by rw [HM.out, hm]; rfl
        have HD := Keep.mk (wide_div x y x0 y0)
        have HB := Keep.mk (dq10_bd x y x0 y0 y1)
        have HMM := Keep.mk hm
        clear hm
        go_wp2_with (go_at_call 78; refine (div64_ten' _ _ (by omega) (by omega) y0 y1 _).mono ?_; rintro r w1 ⟨rfl, hb1⟩)
        refine ⟨⟨x / 10, dq10 (x % 10) y, f + 1, k + 1, by omega, by omega, HB.out.1, HB.out.2, ⟨?_⟩, ⟨?_⟩, ⟨?_⟩, rfl, rfl, rfl, hb.trans (hb1.mono hb.size)⟩, ?_⟩
        · rw [HD.out]; have := HMM.out; have := hn.out; omega
        · have h2 := HMM.out; have h3 := hk.out; rw [HD.out, Nat.pow_succ, Nat.mul_comm (10 ^ k), ← Nat.mul_assoc, show wide x y / 10 * 10 = wide x y by omega]; exact h3
        · have := hf.out; omega
        · simp only [intOf]; rw [HD.out]; have := HMM.out; have := hn.out; omega
      · have hd : (dm10 (x % 10) y != 0) = true := by rw [HM.out]; simp; omega
        have hfin : norm neg V e = norm neg (wide x y) f := by rw [← hk.out, norm_shift, hf.out]
        have hc18 : wr.cell? ⟨3, 18, none⟩ = some (.int .u64 ((10 ^ 18 : Nat) : Int)) := (hg.below (((Below.refl _ _).alloc (Nat.le_refl _) _).trans (hb.mono (by simp)))).tens 18 (by omega)
        rcases made_cases neg x y f x0 y0 hm with ⟨t0, hr⟩ | ⟨t0, t1, hr⟩ | ⟨t0, t1, t2, hr⟩ | ⟨t0, t1, t2, t3, hr⟩ | ⟨t0, t1, t2, t3, y2, hr⟩
        case inr.inr.inr.inr =>
          have HRR := Keep.mk (hfin.trans hr)
          clear hr hm hfin
          go_wp2_with fail
          refine (div64_ten' _ _ (by omega) (by omega) y0 y1 _).mono ?_
          rintro r w1 ⟨rfl, hb1⟩
          have hb2 := hb.trans (hb1.mono hb.size)
          have c18 := hb1.cell (p := ⟨3, 18, none⟩) (lt_of_cell hc18)
          rw [hc18] at c18
          obtain ⟨hc, hf'⟩ := bcell hb2
          cases neg
          · go_wp2
            refine bodyPost_ret (v := numRes ((y, f), 0)) ?_ rfl ⟨num_res HRR.out.symm, ?_⟩
            · simp [numRes, results, Tryz.results54, go_sem, hc]
            · exact (((((Below.refl _ _).alloc (Nat.le_refl _) _).trans (hb2.mono (by simp))).setCell (by simp) _).setCell (by simp) _)
          · go_wp2
            refine bodyPost_ret (v := numRes ((-y, f), 0)) ?_ rfl ⟨num_res HRR.out.symm, ?_⟩
            · simp [numRes, results, Tryz.results54, go_sem, hc]
            · exact (((((Below.refl _ _).alloc (Nat.le_refl _) _).trans (hb2.mono (by simp))).setCell (by simp) _).setCell (by simp) _)
        all_goals
          have HRR := Keep.mk (hfin.trans hr)
          clear hr hm hfin
          go_wp2_with fail
          refine (div64_ten' _ _ (by omega) (by omega) y0 y1 _).mono ?_
          rintro r w1 ⟨rfl, hb1⟩
          have hb2 := hb.trans (hb1.mono hb.size)
          have c18 := hb1.cell (p := ⟨3, 18, none⟩) (lt_of_cell hc18)
          rw [hc18] at c18
          obtain ⟨hc, hf'⟩ := bcell hb2
          go_wp2_with (go_at_call 50; refine (num_zero _).mono ?_; rintro r w2 ⟨rfl, hb3⟩; have hb4 := hb2.trans (hb3.mono hb2.size); obtain ⟨hc2, hf2⟩ := bcell hb4)
          refine bodyPost_ret (v := numRes ((0, 0), 11)) ?_ rfl ⟨num_res HRR.out.symm, ?_⟩
          · simp [numRes, results, Tryz.results54, go_sem, hc2]
          · exact (((((Below.refl _ _).alloc (Nat.le_refl _) _).trans (hb4.mono (by simp))).setCell (by simp) _).setCell (by simp) _)
theorem num_made (neg : Bool) (hi lo e : Int) (h0 : 0 ≤ hi) (h1 : hi < 18446744073709551616) (l0 : 0 ≤ lo) (l1 : lo < 18446744073709551616) (e0 : -4611686018427387904 ≤ e) (e1 : e ≤ 4611686018427387904) (w : World) (hg : Glob w) :
    Calls Tryz.prog 54 #[.bool neg, .int .u64 hi, .int .u64 lo, .int .i64 e] w fun r w' => r = .returned (numRes (norm neg (wide hi lo) e)) ∧ Below w.heap.size w w' := by
  by_cases hv : wide hi lo = 0
  · have a : hi = 0 ∧ lo = 0 := by unfold wide at hv; omega
    obtain ⟨rfl, rfl⟩ := a
    exact made_zero neg e w
  · refine made_some neg hi lo e _ rfl h0 h1 l0 l1 hv e0 e1 ?_ w hg
    by_cases hz : hi = 0
    · right; refine ⟨hz, ?_⟩; simp; intro h; subst hz; subst h; exact hv rfl
    · left; simpa using hz
end Go.Proofs.YtbngjlkmpdccjaaGreatDoor
namespace Th
open Go Go.Lib Go.Maps
theorem kd_inj {a b : ByteArray} (h : a.data.toList = b.data.toList) : a = b := ByteArray.ext (Array.toList_inj.1 h)
def kLit (k : ByteArray) : Lit := .string k.data.toList
theorem kLit_inj {a b : ByteArray} (h : kLit a = kLit b) : a = b := by
  unfold kLit at h
  injection h with h
  exact kd_inj h
theorem kLit_key (k : ByteArray) : WideAt.IsKeyLit (kLit k) := by
  unfold kLit; first | exact trivial | (simp [WideAt.IsKeyLit])
section
variable {H : Type}
def lastM (ks : List ByteArray) : Nat → DataW H
  | 0 => .map []
  | n + 1 => (lastM ks n).put (kLit (ks.getD n ⟨#[]⟩)) (.lit (.int .i64 n))
def lastIx (ks : List ByteArray) : Nat → ByteArray → Nat
  | 0, _ => 0
  | n + 1, k => if ks.getD n ⟨#[]⟩ = k then n else lastIx ks n k
theorem lastM_isMap (ks : List ByteArray) : ∀ n, IsMap (lastM (H := H) ks n)
  | 0 => isMap_empty
  | n + 1 => (lastM_isMap ks n).put _ _
theorem lastM_tidy (ks : List ByteArray) : ∀ n, Tidy (lastM (H := H) ks n)
  | 0 => tidy_empty
  | n + 1 => (lastM_tidy ks n).put (kLit_key _) _
theorem size_lastM (ks : List ByteArray) : ∀ n, Maps.size (lastM (H := H) ks n) ≤ n
  | 0 => Nat.le_refl _
  | n + 1 => by
    have := size_lastM ks n
    unfold lastM
    rw [size_put (lastM_tidy ks n)]
    split <;> omega
theorem has_lastM (ks : List ByteArray) : ∀ (n : Nat) (kl : Lit), Maps.has (lastM (H := H) ks n) kl = true ↔ ∃ j, j < n ∧ kl = kLit (ks.getD j ⟨#[]⟩)
  | 0, kl => by simp [lastM, Maps.has]
  | n + 1, kl => by
    unfold lastM
    by_cases h : kl = kLit (ks.getD n ⟨#[]⟩)
    · subst h
      rw [has_put_same (lastM_isMap ks n) (kLit_key _)]
      exact ⟨fun _ => ⟨n, by omega, rfl⟩, fun _ => rfl⟩
    · rw [has_put_other h, has_lastM ks n kl]
      constructor
      · rintro ⟨j, hj, e⟩; exact ⟨j, by omega, e⟩
      · rintro ⟨j, hj, e⟩
        by_cases hjn : j = n
        · subst hjn; exact absurd e h
        · exact ⟨j, by omega, e⟩
theorem at_lastM (ks : List ByteArray) : ∀ (n : Nat) (k : ByteArray) (z : DataW H), (∃ j, j < n ∧ ks.getD j ⟨#[]⟩ = k) → (lastM ks n).atKey (kLit k) z = .lit (.int .i64 (lastIx ks n k))
  | 0, k, z, ⟨_, h, _⟩ => by omega
  | n + 1, k, z, ⟨j, hj, e⟩ => by
    unfold lastM lastIx
    by_cases h : ks.getD n ⟨#[]⟩ = k
    · rw [h, atKey_put_same (lastM_isMap ks n) (kLit_key _), if_pos rfl]
    · rw [atKey_put_other (fun e => h (kLit_inj e).symm), if_neg h]
      refine at_lastM ks n k z ⟨j, ?_, e⟩
      rcases Nat.lt_or_ge j n with h1 | h1
      · exact h1
      · obtain rfl : j = n := by omega
        exact absurd e h
theorem lastIx_lt (ks : List ByteArray) : ∀ (n : Nat) (k : ByteArray), (∃ j, j < n ∧ ks.getD j ⟨#[]⟩ = k) → lastIx ks n k < n ∧ ks.getD (lastIx ks n k) ⟨#[]⟩ = k
  | 0, k, ⟨_, h, _⟩ => by omega
  | n + 1, k, ⟨j, hj, e⟩ => by
    unfold lastIx
    by_cases h : ks.getD n ⟨#[]⟩ = k
    · rw [if_pos h]; exact ⟨by omega, h⟩
    · rw [if_neg h]
      have := lastIx_lt ks n k ⟨j, by
        rcases Nat.lt_or_ge j n with h1 | h1
        · exact h1
        · obtain rfl : j = n := by omega
          exact absurd e h, e⟩
      exact ⟨by omega, this.2⟩
end
theorem sorted_unique {α : Type} (lt : α → α → Prop) (irr : ∀ a, ¬ lt a a) (tr : ∀ a b c, lt a b → lt b c → lt a c) : ∀ (a b : List α), a.Pairwise lt → b.Pairwise lt → (∀ x, x ∈ a ↔ x ∈ b) → a = b
  | [], [], _, _, _ => rfl
  | [], y :: b, _, _, h => by have := (h y).2 (by simp); cases this
  | x :: a, [], _, _, h => by have := (h x).1 (by simp); cases this
  | x :: a, y :: b, ha, hb, h => by
    obtain ⟨ha1, ha2⟩ := List.pairwise_cons.1 ha
    obtain ⟨hb1, hb2⟩ := List.pairwise_cons.1 hb
    have hxy : x = y := by
      rcases List.mem_cons.1 ((h x).1 (by simp)) with e | h1
      · exact e
      · rcases List.mem_cons.1 ((h y).2 (by simp)) with e | h2
        · exact e.symm
        · exact absurd (tr _ _ _ (ha1 y h2) (hb1 x h1)) (irr x)
    subst hxy
    rw [sorted_unique lt irr tr a b ha2 hb2 (fun z => ⟨fun hz => by
      rcases List.mem_cons.1 ((h z).1 (by simp [hz])) with e | h1
      · subst e; exact absurd (ha1 z hz) (irr z)
      · exact h1, fun hz => by
      rcases List.mem_cons.1 ((h z).2 (by simp [hz])) with e | h1
      · subst e; exact absurd (hb1 z hz) (irr z)
      · exact h1⟩)]
/-! keys, sorted, each once -/
def nubB : List (List UInt8) → List (List UInt8)
  | [] => []
  | x :: r => if x ∈ r then nubB r else x :: nubB r
theorem mem_nubB : ∀ (l : List (List UInt8)) (x : List UInt8), x ∈ nubB l ↔ x ∈ l
  | [], x => by simp [nubB]
  | y :: r, x => by
    unfold nubB
    by_cases h : y ∈ r
    · rw [if_pos h, mem_nubB r x, List.mem_cons]
      exact ⟨Or.inr, fun hx => hx.elim (fun e => by subst e; exact h) id⟩
    · rw [if_neg h, List.mem_cons, List.mem_cons, mem_nubB r x]
theorem nodup_nubB : ∀ (l : List (List UInt8)), (nubB l).Nodup
  | [] => List.nodup_nil
  | y :: r => by
    unfold nubB
    by_cases h : y ∈ r
    · rw [if_pos h]; exact nodup_nubB r
    · rw [if_neg h]
      exact List.nodup_cons.2 ⟨fun hy => h ((mem_nubB r y).1 hy), nodup_nubB r⟩
def sortB (l : List (List UInt8)) : List (List UInt8) := l.mergeSort fun x y => decide (x ≤ y)
theorem mem_sortB (l : List (List UInt8)) (x : List UInt8) : x ∈ sortB l ↔ x ∈ l := (List.mergeSort_perm l _).mem_iff
theorem sortB_strict (l : List (List UInt8)) (h : l.Nodup) : (sortB l).Pairwise (· < ·) := by
  have h1 : (sortB l).Pairwise (fun a b => decide (a ≤ b) = true) := List.pairwise_mergeSort (fun a b c h1 h2 => by simp only [decide_eq_true_eq] at *; exact List.le_trans h1 h2)
    (fun a b => by simp only [Bool.or_eq_true, decide_eq_true_eq]; exact List.le_total a b) l
  have h2 : (sortB l).Nodup := (List.mergeSort_perm l _).nodup_iff.2 h
  refine (h1.and h2).imp fun {a b} h => ?_
  have h3 : a ≤ b := of_decide_eq_true h.1
  exact Std.lt_of_le_of_ne h3 h.2
theorem sortB_same (a b : List (List UInt8)) (ha : a.Nodup) (hb : b.Nodup) (h : ∀ x, x ∈ a ↔ x ∈ b) : sortB a = sortB b :=
  sorted_unique (· < ·) (fun a => List.lt_irrefl a) (fun a b c h1 h2 => List.lt_trans h1 h2) _ _ (sortB_strict a ha) (sortB_strict b hb) (fun x => by rw [mem_sortB, mem_sortB]; exact h x)
def toB (l : List UInt8) : ByteArray := ⟨l.toArray⟩
theorem toB_list (l : List UInt8) : (toB l).data.toList = l := rfl
theorem toB_back (k : ByteArray) : toB k.data.toList = k := kd_inj rfl
def keysJ (ks : List ByteArray) : List ByteArray := (sortB (nubB (ks.map fun k => k.data.toList))).map toB
theorem mem_keysJ (ks : List ByteArray) (k : ByteArray) : k ∈ keysJ ks ↔ k ∈ ks := by
  unfold keysJ
  rw [List.mem_map]
  constructor
  · rintro ⟨x, hx, rfl⟩
    rw [mem_sortB, mem_nubB, List.mem_map] at hx
    obtain ⟨k', hk, rfl⟩ := hx
    rw [toB_back]; exact hk
  · intro h
    exact ⟨k.data.toList, by rw [mem_sortB, mem_nubB, List.mem_map]; exact ⟨k, h, rfl⟩, toB_back k⟩
theorem keysJ_of (ks : List ByteArray) (acc : List ByteArray) (h1 : acc.Nodup) (h2 : ∀ k, k ∈ acc ↔ k ∈ ks) : (sortB (acc.map fun k => k.data.toList)).map toB = keysJ ks := by
  unfold keysJ
  rw [sortB_same (acc.map fun k => k.data.toList) (nubB (ks.map fun k => k.data.toList)) ?_ (nodup_nubB _) ?_]
  · refine List.Pairwise.map _ (fun a b h e => h (kd_inj e)) h1
  · intro x
    rw [mem_nubB, List.mem_map, List.mem_map]
    exact ⟨fun ⟨k, hk, e⟩ => ⟨k, (h2 k).1 hk, e⟩, fun ⟨k, hk, e⟩ => ⟨k, (h2 k).2 hk, e⟩⟩
def badL : List JV → Int
  | [] => 0
  | v :: r => if rightJ v ≠ 0 then rightJ v else badL r
def makeJ (ks : List ByteArray) (l : List JV) : JV × Int :=
  if ks.length ≠ l.length then (zeroJ, 2) else if ks.all (fun k => validD k.data.toList) = false then (zeroJ, 30) else if badL l ≠ 0 then (zeroJ, badL l)
  else if rightJ (.mk 6 0 0 ⟨#[]⟩ ((keysJ ks).map fun k => l.getD (lastIx ks ks.length k) zeroJ) (keysJ ks)) ≠ 0 then (zeroJ, rightJ (.mk 6 0 0 ⟨#[]⟩ ((keysJ ks).map fun k => l.getD (lastIx ks ks.length k) zeroJ) (keysJ ks)))
  else (.mk 6 0 0 ⟨#[]⟩ ((keysJ ks).map fun k => l.getD (lastIx ks ks.length k) zeroJ) (keysJ ks), 0)
theorem badL_get : ∀ (l : List JV) (j : Nat) (h : j < l.length), (∀ i (hi : i < l.length), i < j → rightJ l[i] = 0) → rightJ l[j] ≠ 0 → badL l = rightJ l[j]
  | v :: r, 0, _, _, h0 => by
    have h0 : rightJ v ≠ 0 := h0
    show (if rightJ v ≠ 0 then rightJ v else badL r) = rightJ v
    rw [if_pos h0]
  | v :: r, j + 1, h, h1, h0 => by
    have hv : rightJ v = 0 := h1 0 (by simp) (by omega)
    simp only [badL]
    rw [if_neg (by rw [hv]; simp)]
    exact badL_get r j (by simpa using h) (fun i hi hij => h1 (i + 1) (by rw [List.length_cons]; omega) (by omega)) h0
theorem badL_zero : ∀ (l : List JV), (∀ i (hi : i < l.length), rightJ l[i] = 0) → badL l = 0
  | [], _ => rfl
  | v :: r, h => by
    have hv : rightJ v = 0 := h 0 (by simp)
    simp only [badL]
    rw [if_neg (by rw [hv]; simp)]
    exact badL_zero r (fun i hi => h (i + 1) (by rw [List.length_cons]; omega))
end Th
