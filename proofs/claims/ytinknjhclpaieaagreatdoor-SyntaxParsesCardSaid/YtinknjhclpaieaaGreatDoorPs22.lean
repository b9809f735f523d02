/- Lemmas and contracts for the laws SyntaxParses, part 22 of 50: R9E. Conditions: those that each lemma names. -/
import Derived.Test.YtinknjhclpaieaaGreatDoorPs18
import Derived.Test.YtinknjhclpaieaaGreatDoorPs19
set_option maxRecDepth 100000
set_option maxHeartbeats 8000000
namespace Go.Proofs.YtinknjhclpaieaaGreatDoor
open Go Go.RowKit Go.Proofs Th
attribute [local go_sem] Above.cell
def ROnePost (w : World) (t : Tf × Nat × Nat) (r : Ending) (w' : World) : Prop := r = .returned (.tuple #[tokV t.1, .int .i64 (t.2.1 : Int), .int .i64 (t.2.2 : Int)]) ∧ Below w.heap.size w w'
def RQuotePost (w : World) (q : Nat × Nat) (r : Ending) (w' : World) : Prop := r = .returned (.tuple #[.int .i64 (q.1 : Int), .int .i64 (q.2 : Int)]) ∧ Below w.heap.size w w'
structure ROne (w W : World) : Prop where
  b : Box W w.heap.size [.int .i64 0, .string ⟨#[]⟩, .int .i64 0]
  u : Below w.heap.size w W
theorem ROne.below {w W W2 : World} (h : ROne w W) (hb : Below W.heap.size W W2) : ROne w W2 := ⟨h.b.below hb h.b.lt, h.u.trans (hb.mono h.u.size)⟩
theorem three_set {w W : World} (h : Below w.heap.size w W) (a b c : Value) : Below w.heap.size w (((W.setCell ⟨w.heap.size, 0, none⟩ a).setCell ⟨w.heap.size, 1, none⟩ b).setCell ⟨w.heap.size, 2, none⟩ c) :=
  st1 (st1 (st1 h _ _ _ (Nat.le_refl _)) _ _ _ (Nat.le_refl _)) _ _ _ (Nat.le_refl _)
theorem al_three {w W : World} (h : Below w.heap.size w W) (hs : w.heap.size ≤ W.heap.size) (a b c : Value) (o : Obj) : Below w.heap.size w ((((W.setCell ⟨w.heap.size, 0, none⟩ a).setCell ⟨w.heap.size, 1, none⟩ b).setCell ⟨w.heap.size, 2, none⟩ c).alloc o) :=
  (three_set h a b c).trans ((al1 _ o).mono (by simpa using hs))
theorem r9_one (s : ByteArray) (hs : s.size ≤ 1000000) (d : Nat) (k : Int)
    (hQ : ∀ (W : World) (b : Nat), b < s.size → Calls Tryz.prog 33 #[.string s, .int .i64 (b : Int), .int .i64 k] W fun r w' => RQuotePost W (quoteF s.data.toList d b) r w')
    (a : Nat) (ha : a ≤ s.size) (w : World) : Calls Tryz.prog 19 #[.string s, .int .i64 (a : Int), .int .i64 k] w fun r w' => ROnePost w (oneF s.data.toList d a) r w' := by
  have HL := Keep.mk (size_listU s); obtain ⟨b, hb⟩ : ∃ b, skipA s.data.toList a = b := ⟨_, rfl⟩
  have hbs : b ≤ s.size := by rw [← hb, ← HL.out]; exact (skipA_le _ _ (by rw [HL.out]; exact ha)).2
  have HO := Keep.mk (show oneF s.data.toList d a = oneG s.data.toList (quoteF s.data.toList d) b by rw [oneF_eq, hb]); have HK := Keep.mk (fun W => r9_skip s (by omega) a ha W); rw [hb] at HK; have HQ := Keep.mk hQ; clear hQ hb ha; go_enter Tryz.func19, Tryz.ntmps19
  go_wp2_with fail
  refine calls_world (fun W => ROne w W) ⟨Box.new [.int .i64 0, .string ⟨#[]⟩, .int .i64 0] _ rfl, al1 _ _⟩ ?_; rintro W0 hS; have HS := Keep.mk hS; clear hS; refine (HK.out W0).mono ?_; rintro r w1 ⟨rfl, rfl⟩; clear HK; obtain ⟨r0, rf0, r1, rf1, r2, rf2, rl⟩ := HS.out.b.q3l; by_cases hend : b = s.size
  · have hbe : ((b : Int) == (s.size : Int)) = true := by rw [beq_iff_eq]; omega
    have HE := Keep.mk (show oneF s.data.toList d a = (noTf, s.size, 0) by
      rw [HO.out]; unfold oneG; rw [List.drop_eq_nil_of_le (by rw [HL.out]; omega), hend])
    subst hend; clear HO HQ; go_wp2
    refine bodyPost_ret (v := .tuple #[.agg #[.int .i64 0, .string ⟨#[]⟩, .int .i64 0], .int .i64 (s.size : Int), .int .i64 0]) ?_ rfl ?_
    · simp [results, Tryz.results19, go_sem, r0, r1, r2]
    rw [HE.out]; exact ⟨rfl, three_set HS.out.u _ _ _⟩
  have hlt : b < s.size := by omega
  have hbe : ((b : Int) == (s.size : Int)) = false := by rw [beq_eq_false_iff_ne]; omega
  have hat := at_r9 s b hlt; obtain ⟨xr, hdl⟩ : ∃ xr, s.data.toList.drop b = s[b] :: xr := by
    obtain ⟨hl, he⟩ := List.getElem?_eq_some_iff.1 hat; exact ⟨_, by rw [List.drop_eq_getElem_cons hl, he]⟩
  by_cases h34 : s[b] = 34
  · have f34 : ((s[b].toNat : Int) == 34) = true := by rw [h34]; rfl
    obtain ⟨⟨q1, q2⟩, hq⟩ : ∃ q, quoteF s.data.toList d b = q := ⟨_, rfl⟩
    have HC := Keep.mk (HQ.out w1 b hlt); have HE := Keep.mk (show oneF s.data.toList d a = if q2 ≠ 0 then (noTf, q1, q2) else (⟨5, ⟨((s.data.toList.drop b).take (q1 - b)).toArray⟩, b⟩, q1, 0) by
      rw [HO.out]; unfold oneG; rw [hdl, h34, hq]; rfl)
    have hqk := quoteF_ok s.data.toList d b (by rw [HL.out]; exact hlt); rw [hq, HL.out] at hqk; rw [hq] at HC; dsimp only at hqk; clear hq HO HQ h34 hdl hat; go_wp2_with fail
    refine HC.out.mono ?_; rintro r w4 ⟨rfl, hb4⟩; clear r0 r1 r2 rf0 rf1 rf2 rl; replace HS := Keep.mk (HS.out.below hb4); clear hb4 HC; obtain ⟨r0, rf0, r1, rf1, r2, rf2, rl⟩ := HS.out.b.q3l; by_cases hq2 : q2 = 0
    · subst hq2
      have hbq := hqk.2 rfl; have hqs := hqk.1; clear hqk; go_wp2
      refine bodyPost_ret (v := .tuple #[.agg #[.int .i64 5, .string (s.extract b q1), .int .i64 b], .int .i64 (q1 : Int), .int .i64 0]) ?_ rfl ?_
      · simp [results, Tryz.results19, go_sem, r0, r1, r2]
      rw [HE.out, if_neg (fun h => h rfl)]; exact ⟨by rw [← ext_one s b q1]; rfl, three_set HS.out.u _ _ _⟩
    have hne : ¬ (q2 : Int) = 0 := by omega
    clear hqk; go_wp2
    refine bodyPost_ret (v := .tuple #[.agg #[.int .i64 0, .string ⟨#[]⟩, .int .i64 0], .int .i64 (q1 : Int), .int .i64 (q2 : Int)]) ?_ rfl ?_
    · simp [results, Tryz.results19, go_sem, r0, r1, r2]
    rw [HE.out, if_pos hq2]; exact ⟨rfl, three_set HS.out.u _ _ _⟩
  have e34 := nb (n := 34) rfl h34; have f34 := nbf (n := 34) rfl h34; have HLG := Keep.mk (r9_long s (by omega) b hlt w1); obtain ⟨F, hF⟩ : ∃ F, longF (s.data.toList.drop b) = F := ⟨_, rfl⟩
  have hFl := longF_le (s.data.toList.drop b); rw [List.length_drop, HL.out, hF] at hFl; rw [hF] at HLG; rw [hdl] at hF; have HTN := Keep.mk (fun (hz : ∀ i, 1 ≤ i → i ≤ F → plainF ((s[b] :: xr).take i) = 0) => show oneF s.data.toList d a = (noTf, b, 60) by
    rw [HO.out]; unfold oneG; rw [hdl]; dsimp only; rw [if_neg h34, tok_none s[b] xr (by rw [hF]; exact hz), if_pos rfl])
  have HTF := Keep.mk (fun (m : Nat) (h1 : 1 ≤ m) (h2 : m ≤ F) (hk : plainF ((s[b] :: xr).take m) ≠ 0) (hz : ∀ i, m < i → i ≤ F → plainF ((s[b] :: xr).take i) = 0) =>
    show oneF s.data.toList d a = (⟨plainF ((s[b] :: xr).take m), ⟨(((s[b] :: xr).take m).drop (if plainF ((s[b] :: xr).take m) = 2 ∨ plainF ((s[b] :: xr).take m) = 3 then 1 else 0)).toArray⟩, b⟩, b + m, 0) by
      rw [HO.out]; unfold oneG; rw [hdl]; dsimp only; rw [if_neg h34, tok_found s[b] xr m h1 (by rw [hF]; exact h2) hk (by rw [hF]; exact hz), if_neg hk])
  have HXT := Keep.mk (fun (m : Nat) => show (s.extract b (b + m)).data.toList = (s[b] :: xr).take m by rw [ext_one, ba_mk, hdl, show b + m - b = m from by omega]); have hxr : s.data.toList.drop (b + 1) = xr := by rw [← List.drop_drop, hdl]; rfl
  have HXT1 := Keep.mk (fun (g : Nat) => show s.extract (b + 1) (b + (g + 1)) = ⟨(((s[b] :: xr).take (g + 1)).drop 1).toArray⟩ by
    rw [ext_one, hxr, show b + (g + 1) - (b + 1) = g from by omega]; rfl)
  clear HO HQ hF hat h34 hxr; go_wp2_with fail
  refine HLG.out.mono ?_; rintro r w2 ⟨rfl, rfl⟩; clear HLG; go_wp2_with fail
  go_loopg [11] F (fun gk v11 wr => v11 = .int .i64 (b + gk : Nat) ∧ gk ≤ F ∧ Keep (ROne w wr) ∧ Keep (∀ i, gk < i → i ≤ F → plainF ((s[b] :: xr).take i) = 0))
  case atStart => exact ⟨by go_num, Nat.le_refl _, HS, ⟨fun i h1 h2 => absurd h1 (by omega)⟩⟩
  case round =>
    clear HS; clear r0 r1 r2 rf0 rf1 rf2 rl; obtain ⟨rfl, hgF, HS, HZ⟩ := hrel; obtain ⟨r0, rf0, r1, rf1, r2, rf2, rl⟩ := HS.out.b.q3l; cases gk with
    | zero =>
      have HE := Keep.mk (HTN.out (fun i h1 h2 => HZ.out i h1 h2)); have hnb : ¬ (b : Int) < ((b + 0 : Nat) : Int) := by omega
      clear HTN HTF HZ HXT; go_wp2
      refine bodyPost_ret (v := .tuple #[.agg #[.int .i64 0, .string ⟨#[]⟩, .int .i64 0], .int .i64 (b : Int), .int .i64 60]) ?_ rfl ?_
      · simp [results, Tryz.results19, go_sem, r0, r1, r2]
      rw [HE.out]; exact ⟨rfl, three_set HS.out.u _ _ _⟩
    | succ g =>
      have hx : (s.extract b (b + (g + 1))).data.toList = (s[b] :: xr).take (g + 1) := HXT.out (g + 1); have hxz : (s.extract b (b + (g + 1))).size = g + 1 := by
        have := congrArg List.length hx; rw [size_listU, List.length_take, ← hdl, List.length_drop, HL.out] at this; omega
      obtain ⟨kk, hkk⟩ : ∃ kk, plainF ((s[b] :: xr).take (g + 1)) = kk := ⟨_, rfl⟩
      have HP := Keep.mk (fun W => r9_plain (s.extract b (b + (g + 1))) (by omega) (by omega) W); rw [hx, hkk] at HP; have hbe2 : b + (g + 1) ≤ s.size := by omega
      go_wp2_with fail
      refine (HP.out _).mono ?_; rintro r w5 ⟨rfl, hb5⟩; clear r0 r1 r2 rf0 rf1 rf2 rl; replace HS := Keep.mk (HS.out.below hb5); clear hb5 HP; obtain ⟨r0, rf0, r1, rf1, r2, rf2, rl⟩ := HS.out.b.q3l; by_cases hk0 : kk = 0
      · subst hk0
        have HM : Keep (∀ i, g < i → i ≤ F → plainF ((s[b] :: xr).take i) = 0) := ⟨fun i h1 h2 => by
          by_cases h : i = g + 1
          · rw [h]; exact hkk
          exact HZ.out i (by omega) h2⟩
        clear hkk hx hxz HTN HTF HZ HXT HXT1; go_wp2
        go_roundg g
        case rel => exact ⟨by go_num, by omega, HS, HM⟩
        case measure => omega
      have HE := Keep.mk (HTF.out (g + 1) (by omega) hgF (by rw [hkk]; exact hk0) (fun i h1 h2 => HZ.out i h1 h2)); rw [hkk] at HE; have hnk : ¬ (kk : Int) = 0 := by omega
      have HX0 := Keep.mk (show s.extract b (b + (g + 1)) = ⟨(((s[b] :: xr).take (g + 1)).drop 0).toArray⟩ from ba_inj hx); have HX1 := Keep.mk (HXT1.out g); clear hkk hx hxz HTN HTF HZ HXT HXT1; by_cases h2 : kk = 2
      · have e2 : (kk : Int) = 2 := by omega
        subst h2; have HE2 := Keep.mk (show oneF s.data.toList d a = (⟨2, s.extract (b + 1) (b + (g + 1)), b⟩, b + (g + 1), 0) by rw [HE.out, if_pos (Or.inl rfl), ← HX1.out]); clear HE; go_wp2
        refine bodyPost_ret (v := .tuple #[.agg #[.int .i64 (2 : Int), .string (s.extract (b + 1) (b + (g + 1))), .int .i64 b], .int .i64 ((b + (g + 1) : Nat) : Int), .int .i64 0]) ?_ rfl ?_
        · simp [results, Tryz.results19, go_sem, r0, r1, r2, rl, World.cell?_alloc_lt]
        rw [HE2.out]; exact ⟨rfl, al_three HS.out.u HS.out.u.size _ _ _ _⟩
      have e2 : ¬ (kk : Int) = 2 := by omega
      have f2 : ((kk : Int) == 2) = false := by rw [beq_eq_false_iff_ne]; exact e2
      by_cases h3 : kk = 3
      · subst h3
        have HE2 := Keep.mk (show oneF s.data.toList d a = (⟨3, s.extract (b + 1) (b + (g + 1)), b⟩, b + (g + 1), 0) by rw [HE.out, if_pos (Or.inr rfl), ← HX1.out]); clear HE; go_wp2
        refine bodyPost_ret (v := .tuple #[.agg #[.int .i64 (3 : Int), .string (s.extract (b + 1) (b + (g + 1))), .int .i64 b], .int .i64 ((b + (g + 1) : Nat) : Int), .int .i64 0]) ?_ rfl ?_
        · simp [results, Tryz.results19, go_sem, r0, r1, r2, rl, World.cell?_alloc_lt]
        rw [HE2.out]; exact ⟨rfl, al_three HS.out.u HS.out.u.size _ _ _ _⟩
      have e3 : ¬ (kk : Int) = 3 := by omega
      have f3 : ((kk : Int) == 3) = false := by rw [beq_eq_false_iff_ne]; exact e3
      have HE2 := Keep.mk (show oneF s.data.toList d a = (⟨kk, s.extract b (b + (g + 1)), b⟩, b + (g + 1), 0) by rw [HE.out, if_neg (fun h => h.elim h2 h3), ← HX0.out]); clear HE; go_wp2
      refine bodyPost_ret (v := .tuple #[.agg #[.int .i64 (kk : Int), .string (s.extract b (b + (g + 1))), .int .i64 b], .int .i64 ((b + (g + 1) : Nat) : Int), .int .i64 0]) ?_ rfl ?_
      · simp [results, Tryz.results19, go_sem, r0, r1, r2, rl, World.cell?_alloc_lt]
      rw [HE2.out]; exact ⟨rfl, al_three HS.out.u HS.out.u.size _ _ _ _⟩
end Go.Proofs.YtinknjhclpaieaaGreatDoor
