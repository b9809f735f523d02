/- Lemmas and contracts for the laws SyntaxBrackets, SyntaxJoins, SyntaxSides, part 17 of 44: TokE, SynEv. Conditions: those that each lemma names. -/
import Derived.Test.YtnhnpahoppbniaaDoorPb14
import Derived.Test.YtnhnpahoppbniaaDoorPb9
import Derived.Test.YtnhnpahoppbniaaDoorPb15
namespace Th
open Go Go.Lib
theorem qGo_err (L : List UInt8) (one : Nat → Tf × Nat × Nat) (hone : ∀ a, (one a).2.2 = 0 ∨ (one a).2.2 = 20 ∨ (one a).2.2 = 31 ∨ (one a).2.2 = 60) (f : Nat) : ∀ (n o a : Nat), (qGo L one f n o a).2 = 0 ∨ (qGo L one f n o a).2 = 20 ∨ (qGo L one f n o a).2 = 31 ∨ (qGo L one f n o a).2 = 60 := by
  intro n
  induction n with
  | zero => intro o a; exact Or.inr (Or.inl rfl)
  | succ n ih =>
    intro o a
    cases o with
    | zero =>
      simp only [qGo]
      cases L[a]? with
      | none => exact Or.inr (Or.inl rfl)
      | some c =>
        dsimp only
        repeat' split
        all_goals first | exact Or.inl rfl | exact ih _ _
    | succ o =>
      simp only [qGo]
      split
      · exact hone a
      · split
        · exact Or.inr (Or.inl rfl)
        · exact ih _ _
theorem oneG_err (L : List UInt8) (q : Nat → Nat × Nat) (hq : ∀ f, (q f).2 = 0 ∨ (q f).2 = 20 ∨ (q f).2 = 31 ∨ (q f).2 = 60) (a : Nat) : (oneG L q a).2.2 = 0 ∨ (oneG L q a).2.2 = 20 ∨ (oneG L q a).2.2 = 31 ∨ (oneG L q a).2.2 = 60 := by
  unfold oneG
  cases L.drop a with
  | nil => exact Or.inl rfl
  | cons c r =>
    dsimp only
    split
    · split
      · exact hq a
      · exact Or.inl rfl
    · split
      · exact Or.inr (Or.inr (Or.inr rfl))
      · exact Or.inl rfl
theorem oneF_err (L : List UInt8) : ∀ (d a : Nat), (oneF L d a).2.2 = 0 ∨ (oneF L d a).2.2 = 20 ∨ (oneF L d a).2.2 = 31 ∨ (oneF L d a).2.2 = 60 := by
  intro d
  induction d with
  | zero => intro a; exact oneG_err L _ (fun f => Or.inr (Or.inr (Or.inl rfl))) _
  | succ d ih => intro a; exact oneG_err L _ (fun f => qGo_err L _ ih f _ 0 _) _
end Th
namespace Go.Proofs.YtnhnpahoppbniaaDoor
open Go Go.RowKit Go.Proofs Th
attribute [local go_sem] Above.cell
def GlobX (w : World) : Prop := ∃ m : Int, w.cell? ⟨0, 0, none⟩ = some (.int .i64 m)
theorem GlobX.upd {w w' : World} {p : Nat} {s : ByteArray} {cs : List Value} (h : GlobX w) (hB : Box w p (.string s :: cs)) (hu : Upd p w w') : GlobX w' := by
  obtain ⟨m, hm⟩ := h
  have hp : (0 : Nat) ≠ p := by
    rintro rfl
    have h0 := hB.cell 0 _ rfl
    rw [hm] at h0; cases h0
  exact ⟨m, (cell_block (hu.block _ (lt_of_cell hm) hp)).trans hm⟩
theorem GlobX.below {w w' : World} (h : GlobX w) (hb : Below w.heap.size w w') : GlobX w' := by
  obtain ⟨m, hm⟩ := h
  exact ⟨m, (hb.cell (p := ⟨0, 0, none⟩) (lt_of_cell hm)).trans hm⟩
def tokV (t : Tf) : Value := .agg #[.int .i64 (t.kind : Int), .string t.text, .int .i64 (t.at_ : Int)]
def NextPost (w : World) (p : Nat) (s : ByteArray) (t : Tf × Nat × Nat) (r : Ending) (w' : World) : Prop :=
  r = .returned (.tuple #[tokV t.1, .int .i64 (if t.2.2 = 0 then 0 else (t.2.1 : Int)), .int .i64 (t.2.2 : Int)]) ∧ ∃ j : Nat, ScP w w' p s j ∧ j ≤ s.size ∧ (t.2.2 = 0 → j = t.2.1)
def InnerPost (w : World) (p : Nat) (s : ByteArray) (d f n o a : Nat) (r : Ending) (w' : World) : Prop :=
  ∃ (j : Nat) (x e : Int), r = .returned (.tuple #[.int .i64 x, .int .i64 e]) ∧ ScP w w' p s j ∧ j ≤ s.size ∧
    ((e = 0 ∧ x = 0 ∧ ∃ n', n' ≤ n ∧ s.size + 2 ≤ n' + j ∧ a < j ∧ qGo s.data.toList (oneF s.data.toList d) f n' 0 j = qGo s.data.toList (oneF s.data.toList d) f n (o + 1) a ∧ ∀ m, n ≤ m → closeF (oneF s.data.toList d) m (o + 1) a = j) ∨
     (e = 240 ∧ qGo s.data.toList (oneF s.data.toList d) f n (o + 1) a = (f, 20)) ∨
     (e ≠ 0 ∧ e ≠ 240 ∧ ∃ q : Nat × Nat, qGo s.data.toList (oneF s.data.toList d) f n (o + 1) a = q ∧ x = q.1 ∧ e = q.2))
theorem closeF_zero (one : Nat → Tf × Nat × Nat) (m a : Nat) : closeF one m 0 a = a := by cases m <;> rfl
theorem qGo_step (L : List UInt8) (one : Nat → Tf × Nat × Nat) (f g o a : Nat) : qGo L one f (g + 1) (o + 1) a = if (one a).2.2 ≠ 0 then ((one a).2.1, (one a).2.2) else if (one a).1.kind = 0 then (f, 20)
    else qGo L one f g (if (one a).1.kind = 6 ∧ (one a).1.text = ⟨#[40]⟩ then o + 2 else if (one a).1.kind = 6 ∧ (one a).1.text = ⟨#[41]⟩ then o else o + 1) (one a).2.1 := rfl
theorem closeF_step (one : Nat → Tf × Nat × Nat) (m o a : Nat) : closeF one (m + 1) (o + 1) a = closeF one m (if (one a).1.kind = 6 ∧ (one a).1.text = ⟨#[40]⟩ then o + 2 else if (one a).1.kind = 6 ∧ (one a).1.text = ⟨#[41]⟩ then o else o + 1) (one a).2.1 := rfl
theorem three_below (w : World) (o : Obj) (a b c : Value) : Below w.heap.size w ((((w.alloc o).setCell ⟨w.heap.size, 0, none⟩ a).setCell ⟨w.heap.size, 1, none⟩ b).setCell ⟨w.heap.size, 2, none⟩ c) :=
  st1 (st1 (st1 (al1 _ _) _ _ _ (Nat.le_refl _)) _ _ _ (Nat.le_refl _)) _ _ _ (Nat.le_refl _)
theorem lb_ne {a : ByteArray} {l : List UInt8} (h : ¬ a = ⟨l.toArray⟩) : (a.toList == l) = false := by
  rw [ba_list, beq_eq_false_iff_ne]; intro h2; exact h (ba_inj h2)
structure InnerS (w W : World) (p : Nat) (s : ByteArray) (d f n o a : Nat) (g o1 j : Nat) : Prop where
  sc : ScP w W p s j
  le : j ≤ s.size
  ge : a ≤ j
  gn : g ≤ n
  ob : o1 + g ≤ n + 1 + o
  room : s.size + 2 ≤ g + j
  fwd : a < j ∨ o1 ≠ 0
  q : qGo s.data.toList (oneF s.data.toList d) f g o1 j = qGo s.data.toList (oneF s.data.toList d) f n (o + 1) a
  c : ∀ m, g ≤ m → closeF (oneF s.data.toList d) (m + (n - g)) (o + 1) a = closeF (oneF s.data.toList d) m o1 j
  glob : GlobX W
def nextO (tk : Nat) (tx : ByteArray) (o1 : Nat) : Nat := if tk = 6 ∧ tx = ⟨#[40]⟩ then o1 + 2 else if tk = 6 ∧ tx = ⟨#[41]⟩ then o1 else o1 + 1
theorem InnerS.step {w W W2 : World} {p : Nat} {s : ByteArray} {d f n o a g o1 j : Nat} (h : InnerS w W p s d f n o a (g + 1) (o1 + 1) j) {tk ta te : Nat} {tx : ByteArray} (ht : oneF s.data.toList d j = (⟨tk, tx, ta⟩, te, 0)) (hk : tk ≠ 0) (hsc : ScP w W2 p s te) (hG : GlobX W2) : InnerS w W2 p s d f n o a g (nextO tk tx o1) te := by
  have hok := oneF_ok s.data.toList d j (by rw [size_listU]; exact h.le)
  have hf := hok.fwd (by rw [ht]) (by rw [ht]; exact hk)
  have hl := hok.le
  rw [ht] at hf hl
  rw [size_listU] at hl
  dsimp only at hf hl
  have hq := h.q
  have hg := h.gn
  have hge := h.ge
  have hroom := h.room
  rw [qGo_step, ht] at hq
  dsimp only at hq
  rw [if_neg (fun h => h rfl), if_neg hk] at hq
  have hob := h.ob
  refine ⟨hsc, hl, by omega, by omega, by unfold nextO; split <;> (try split) <;> omega, by omega, Or.inl (by omega), hq, fun m hm => ?_, hG⟩
  have hc := h.c (m + 1) (by omega)
  rw [closeF_step, ht, show m + 1 + (n - (g + 1)) = m + (n - g) from by omega] at hc
  exact hc
set_option maxRecDepth 100000 in
set_option maxHeartbeats 4000000 in
theorem tok_inner (p : Nat) (s : ByteArray) (_hs : s.size ≤ 1000000) (d : Nat) (k : Int) (hk0 : 0 ≤ k) (hk : k ≤ 100)
    (hN : ∀ (W : World) (j : Nat), Box W p [.string s, .int .i64 j] → j ≤ s.size → GlobX W → Calls Tryd.prog 15 #[.pointer (some ⟨p, 0, none⟩), .int .i64 (k + 1)] W fun r w' => NextPost W p s (oneF s.data.toList d j) r w')
    (f n a : Nat) (ha : a ≤ s.size) (hn : s.size + 2 ≤ n + a) (hnn : n ≤ 2000000) (w : World) (hB : Box w p [.string s, .int .i64 a]) (hG : GlobX w) :
    Calls Tryd.prog 30 #[.pointer (some ⟨p, 0, none⟩), .int .i64 k] w fun r w' => InnerPost w p s d f n 0 a r w' := by
  have HL := Keep.mk (size_listU s)
  have HN := Keep.mk hN
  have HS0 := Keep.mk (show InnerS w w p s d f n 0 a n 1 a from ⟨⟨hB, Upd.refl p w⟩, ha, Nat.le_refl _, Nat.le_refl _, by omega, hn, Or.inr (by decide), rfl, fun m _ => by rw [Nat.sub_self]; rfl, hG⟩)
  clear hN ha hn hB hG
  go_enter Tryd.func30, Tryd.ntmps30
  go_wp2_with fail
  go_loopg [6] n (fun gk v6 wr => ∃ (o1 j : Nat), v6 = .int .i64 o1 ∧ Keep (InnerS w wr p s d f n 0 a gk o1 j))
  case atStart => exact ⟨1, a, rfl, HS0⟩
  case round =>
    clear HS0
    obtain ⟨o1, j, rfl, HS⟩ := hrel
    cases o1 with
    | zero =>
      go_wp2
      refine bodyPost_ret (v := .tuple #[.int .i64 0, .int .i64 0]) ?_ rfl ?_
      · simp [results, Tryd.results30, go_sem]
      · have hg := HS.out.gn
        refine ⟨j, 0, 0, rfl, HS.out.sc, HS.out.le, Or.inl ⟨rfl, rfl, gk, hg, HS.out.room, by have := HS.out.fwd; omega, HS.out.q, fun m hm => ?_⟩⟩
        have := HS.out.c (m - (n - gk)) (by omega)
        rw [show m - (n - gk) + (n - gk) = m from by omega] at this
        rw [this]
        exact closeF_zero _ _ _
    | succ o1 =>
      have hroom := HS.out.room
      have hle := HS.out.le
      obtain ⟨g, rfl⟩ : ∃ g, gk = g + 1 := ⟨gk - 1, by omega⟩
      obtain ⟨t, ht⟩ : ∃ t, oneF s.data.toList d j = t := ⟨_, rfl⟩
      have HC := Keep.mk (HN.out wr j HS.out.sc.b HS.out.le HS.out.glob)
      have hok := oneF_ok s.data.toList d j (by rw [HL.out]; exact hle)
      have herr := oneF_err s.data.toList d j
      have hq := HS.out.q
      have hcl := fun m (hm : g + 1 ≤ m + 1) => HS.out.c (m + 1) hm
      have hgn := HS.out.gn
      rw [qGo_step, ht] at hq
      simp only [closeF_step, ht] at hcl
      rw [ht] at HC hok herr
      have HLN := Keep.mk HL.out
      obtain ⟨⟨tk, tx, ta⟩, te, er⟩ := t
      dsimp only at hq hcl herr
      have ho : 0 < ((o1 : Int) + 1) := by omega
      have hoklen := hok.le
      rw [HL.out] at hoklen
      dsimp only at hoklen
      by_cases her : er = 0
      · subst her
        by_cases hk0 : tk = 0
        · subst hk0
          have HQ := Keep.mk hq
          clear hq hcl hok herr ht hroom hle hgn hoklen
          go_wp2_with fail
          refine HC.out.mono ?_
          rintro r w1 ⟨hr, j1, hs1, hl1, _⟩
          simp only [tokV, if_true] at hr
          subst hr
          have HS1 := Keep.mk (show ScP w w1 p s j1 from ⟨hs1.b, HS.out.sc.u.trans hs1.u⟩)
          have HL1 := Keep.mk hl1
          clear hs1 hl1
          go_wp2
          refine bodyPost_ret (v := .tuple #[.int .i64 0, .int .i64 240]) ?_ rfl ?_
          · simp [results, Tryd.results30, go_sem]
          · exact ⟨j1, _, _, rfl, HS1.out.above (by first | exact al1 _ _ | exact three_below _ _ _ _ _), HL1.out, Or.inr (Or.inl ⟨rfl, HQ.out.symm.trans (by rw [if_neg (fun h => h rfl)]; exact if_pos trivial)⟩)⟩
        · have hnk : ¬ (tk : Int) = 0 := by omega
          have hob : o1 ≤ 2000000 := by have := HS.out.ob; omega
          clear hq hcl hok herr hroom hle hgn hoklen
          by_cases h6 : tk = 6
          · subst h6
            by_cases h40 : tx = ⟨#[40]⟩
            · subst h40
              have hno : nextO 6 ⟨#[40]⟩ o1 = o1 + 2 := rfl
              have HST := Keep.mk (fun W2 (h1 : ScP w W2 p s te) (h2 : GlobX W2) => show InnerS w W2 p s d f n 0 a g (o1 + 2) te by
                have := HS.out.step ht hk0 h1 h2
                rwa [hno] at this)
              clear ht hno
              go_wp2_with fail
              refine HC.out.mono ?_
              rintro r w1 ⟨hr, j1, hs1, hl1, he1⟩
              obtain rfl : te = j1 := (he1 rfl).symm
              simp only [tokV, if_true] at hr
              subst hr
              have HS1 := Keep.mk (show ScP w w1 p s te from ⟨hs1.b, HS.out.sc.u.trans hs1.u⟩)
              have HG1 := Keep.mk (HS.out.glob.upd HS.out.sc.b hs1.u)
              clear hs1 hl1 he1
              go_wp2
              go_roundg g
              case rel => exact ⟨o1 + 2, te, by go_num, ⟨HST.out _ (HS1.out.above (by first | exact al1 _ _ | exact three_below _ _ _ _ _)) (HG1.out.below (by first | exact al1 _ _ | exact three_below _ _ _ _ _))⟩⟩
              case measure => omega
            · have b40 := lb_ne h40
              by_cases h41 : tx = ⟨#[41]⟩
              · subst h41
                have hno : nextO 6 ⟨#[41]⟩ o1 = o1 := rfl
                have HST := Keep.mk (fun W2 (h1 : ScP w W2 p s te) (h2 : GlobX W2) => show InnerS w W2 p s d f n 0 a g (o1) te by
                  have := HS.out.step ht hk0 h1 h2
                  rwa [hno] at this)
                clear ht hno
                go_wp2_with fail
                refine HC.out.mono ?_
                rintro r w1 ⟨hr, j1, hs1, hl1, he1⟩
                obtain rfl : te = j1 := (he1 rfl).symm
                simp only [tokV, if_true] at hr
                subst hr
                have HS1 := Keep.mk (show ScP w w1 p s te from ⟨hs1.b, HS.out.sc.u.trans hs1.u⟩)
                have HG1 := Keep.mk (HS.out.glob.upd HS.out.sc.b hs1.u)
                clear hs1 hl1 he1
                go_wp2
                go_roundg g
                case rel => exact ⟨o1, te, by go_num, ⟨HST.out _ (HS1.out.above (by first | exact al1 _ _ | exact three_below _ _ _ _ _)) (HG1.out.below (by first | exact al1 _ _ | exact three_below _ _ _ _ _))⟩⟩
                case measure => omega
              · have b41 := lb_ne h41
                have hno : nextO 6 tx o1 = o1 + 1 := by unfold nextO; rw [if_neg (fun h => h40 h.2), if_neg (fun h => h41 h.2)]
                have HST := Keep.mk (fun W2 (h1 : ScP w W2 p s te) (h2 : GlobX W2) => show InnerS w W2 p s d f n 0 a g (o1 + 1) te by
                  have := HS.out.step ht hk0 h1 h2
                  rwa [hno] at this)
                clear ht hno
                go_wp2_with fail
                refine HC.out.mono ?_
                rintro r w1 ⟨hr, j1, hs1, hl1, he1⟩
                obtain rfl : te = j1 := (he1 rfl).symm
                simp only [tokV, if_true] at hr
                subst hr
                have HS1 := Keep.mk (show ScP w w1 p s te from ⟨hs1.b, HS.out.sc.u.trans hs1.u⟩)
                have HG1 := Keep.mk (HS.out.glob.upd HS.out.sc.b hs1.u)
                clear hs1 hl1 he1
                go_wp2
                go_roundg g
                case rel => exact ⟨o1 + 1, te, by go_num, ⟨HST.out _ (HS1.out.above (by first | exact al1 _ _ | exact three_below _ _ _ _ _)) (HG1.out.below (by first | exact al1 _ _ | exact three_below _ _ _ _ _))⟩⟩
                case measure => omega
          · have h6' : ¬ (tk : Int) = 6 := by omega
            have hno : nextO tk tx o1 = o1 + 1 := by unfold nextO; rw [if_neg (fun h => h6 h.1), if_neg (fun h => h6 h.1)]
            have HST := Keep.mk (fun W2 (h1 : ScP w W2 p s te) (h2 : GlobX W2) => show InnerS w W2 p s d f n 0 a g (o1 + 1) te by
              have := HS.out.step ht hk0 h1 h2
              rwa [hno] at this)
            clear ht hno
            go_wp2_with fail
            refine HC.out.mono ?_
            rintro r w1 ⟨hr, j1, hs1, hl1, he1⟩
            obtain rfl : te = j1 := (he1 rfl).symm
            simp only [tokV, if_true] at hr
            subst hr
            have HS1 := Keep.mk (show ScP w w1 p s te from ⟨hs1.b, HS.out.sc.u.trans hs1.u⟩)
            have HG1 := Keep.mk (HS.out.glob.upd HS.out.sc.b hs1.u)
            clear hs1 hl1 he1
            go_wp2
            go_roundg g
            case rel => exact ⟨o1 + 1, te, by go_num, ⟨HST.out _ (HS1.out.above (by first | exact al1 _ _ | exact three_below _ _ _ _ _)) (HG1.out.below (by first | exact al1 _ _ | exact three_below _ _ _ _ _))⟩⟩
            case measure => omega
      · have HQ := Keep.mk (hq.symm.trans (if_pos her))
        have hne : ¬ (er : Int) = 0 := by omega
        have hne2 : ¬ (er : Int) = 240 := by omega
        clear hq hcl hok herr ht hroom hle hgn hoklen
        go_wp2_with fail
        refine HC.out.mono ?_
        rintro r w1 ⟨hr, j1, hs1, hl1, _⟩
        simp only [tokV, if_neg her] at hr
        subst hr
        have HS1 := Keep.mk (show ScP w w1 p s j1 from ⟨hs1.b, HS.out.sc.u.trans hs1.u⟩)
        have HL1 := Keep.mk hl1
        clear hs1 hl1
        go_wp2
        refine bodyPost_ret (v := .tuple #[.int .i64 (te : Int), .int .i64 (er : Int)]) ?_ rfl ?_
        · simp [results, Tryd.results30, go_sem]
        · exact ⟨j1, _, _, rfl, HS1.out.above (by first | exact al1 _ _ | exact three_below _ _ _ _ _), HL1.out, Or.inr (Or.inr ⟨hne, hne2, _, HQ.out, rfl, rfl⟩)⟩
end Go.Proofs.YtnhnpahoppbniaaDoor
namespace Th
open Go Go.Lib
def argA (t : Tf) : Nat := if strength t = 2 then 2 else strength t + 1
def topA (t : Tf) : Nat := if strength t = 2 then 1 else if strength t = 3 ∨ strength t = 6 then strength t - 1 else strength t
theorem strength_le8 (t : Tf) : strength t ≤ 8 := by
  unfold strength
  repeat' split
  all_goals omega
theorem ev_binary (E : Env) (k i : Nat) : evP E (.binary k) i = bindP (evP E .minus i) fun n j => evP E (.binLoop k 8 n) j := by rw [evP_step]; rfl
theorem ev_filter {E : Env} {i : Nat} (h : ¬ isT E i 1 ⟨#[100, 101, 102]⟩) : evP E .filter i = bindP (evP E (.binary 1) i) fun n j => if isT E j 6 ⟨#[124]⟩ then bindP (evP E .filter (j + 1)) fun m k => okP (nodeJ 8 ⟨#[]⟩ n m) k else okP n j := by
  rw [evP_step]; simp only [stepP]; rw [if_neg h]
theorem loop_stop {E : Env} {k top i : Nat} {n : NJ} (h : strength (tokAt E i) < k ∨ top < strength (tokAt E i) ∨ strength (tokAt E i) = 0) : evP E (.binLoop k top n) i = some (.ok n i) := by
  rw [evP_step]; simp only [stepP]; rw [if_pos h]; rfl
theorem loop_go {E : Env} {k top i : Nat} {n : NJ} (h : ¬ (strength (tokAt E i) < k ∨ top < strength (tokAt E i) ∨ strength (tokAt E i) = 0)) :
    evP E (.binLoop k top n) i = bindP (evP E (.binary (argA (tokAt E i))) (i + 1)) fun m j => evP E (.binLoop k (topA (tokAt E i)) (joinedJ (tokAt E i) n m)) j := by
  rw [evP_step]; simp only [stepP]
  rw [if_neg h]
  unfold argA topA
  by_cases h4 : strength (tokAt E i) = 2
  · rw [if_pos h4, if_pos h4, if_pos h4]
  · rw [if_neg h4, if_neg h4, if_neg h4]
    by_cases h5 : strength (tokAt E i) = 3 ∨ strength (tokAt E i) = 6
    · rw [if_pos h5, if_pos h5]
    · rw [if_neg h5, if_neg h5]
def Nxt (q : Nat × ByteArray) : Prop := q.1 ≠ 3 ∧ q ≠ (6, ⟨#[63]⟩) ∧ q ≠ (6, ⟨#[91]⟩) ∧ q ≠ (6, ⟨#[46]⟩) ∧ q ≠ (1, ⟨#[97, 115]⟩)
instance (q : Nat × ByteArray) : Decidable (Nxt q) := by unfold Nxt; exact inferInstance
structure Atom (E : Env) (i : Nat) (n : NJ) (j : Nat) : Prop where
  m : evP E .minus i = some (.ok n j)
  d : ¬ isT E i 1 ⟨#[100, 101, 102]⟩
theorem ev_term {E : Env} {i j : Nat} {n : NJ} {q : Nat × ByteArray} (h0 : tk (tokAt E i) = q) (hq : q ≠ (6, ⟨#[45]⟩) ∧ q ≠ (1, ⟨#[100, 101, 102]⟩)) (hf : evP E .first i = some (.ok n j)) (h2 : Nxt (tk (tokAt E j))) : Atom E i n j := by
  obtain ⟨n1, n2, n3, n4, n5⟩ := h2
  have h4 : evP E (.termLoop n) j = some (.ok n j) := by
    rw [evP_step]; simp only [stepP]
    rw [if_neg (show ¬ (tokAt E j).kind = 3 from n1), if_neg (fun h => n2 (isT_tk.1 h)), if_neg (fun h => n3 (isT_tk.1 h)), if_neg (fun h => n4 (isT_tk.1 h))]; rfl
  have h5 : evP E .term i = some (.ok n j) := by
    rw [evP_step]; simp only [stepP]
    rw [hf]; exact h4
  refine ⟨?_, fun h => hq.2 (by rw [← h0]; exact isT_tk.1 h)⟩
  rw [evP_step]; simp only [stepP]
  rw [if_neg (fun h => hq.1 (by rw [← h0]; exact isT_tk.1 h)), h5]
  show (if isT E j 1 ⟨#[97, 115]⟩ then _ else _) = _
  rw [if_neg (fun h => n5 (isT_tk.1 h))]; rfl
theorem ev_sign {E : Env} {i : Nat} {s : ByteArray} (h0 : tk (tokAt E i) = (6, s)) : evP E .first i = evP E (.sign s) i := by
  have hk : (tokAt E i).kind = 6 := congrArg Prod.fst h0
  have ht : (tokAt E i).text = s := congrArg Prod.snd h0
  rw [evP_step]; simp only [stepP]
  rw [if_neg (by omega), if_neg (by omega), if_neg (by omega), if_neg (by omega), if_neg (by omega), if_pos hk, ht]
theorem ev_atom {E : Env} {i j : Nat} {n : NJ} (h0 : tk (tokAt E i) = (6, ⟨#[40]⟩)) (hf : evP E .filter (i + 1) = some (.ok n j)) (h1 : tk (tokAt E j) = (6, ⟨#[41]⟩)) (h2 : Nxt (tk (tokAt E (j + 1)))) : Atom E i n (j + 1) := by
  refine ev_term h0 (by decide) ?_ h2
  rw [ev_sign h0, evP_step]; simp only [stepP]
  rw [if_neg (by decide), if_neg (by decide), if_pos trivial, hf]
  show wantP E j 6 ⟨#[41]⟩ _ = _
  unfold wantP
  rw [if_pos (isT_tk.2 h1)]; rfl
theorem ev_array {E : Env} {i j : Nat} {n : NJ} (h0 : tk (tokAt E i) = (6, ⟨#[91]⟩)) (hf : evP E .filter (i + 1) = some (.ok n j)) (h1 : tk (tokAt E j) = (6, ⟨#[93]⟩)) (h2 : Nxt (tk (tokAt E (j + 1)))) : Atom E i (kidsJ 15 [n]) (j + 1) := by
  refine ev_term h0 (by decide) ?_ h2
  have hb : ¬ isT E (i + 1) 6 ⟨#[93]⟩ := fun h => by
    rw [bar_dead (by rw [isT_tk.1 h]; decide)] at hf; cases hf
  rw [ev_sign h0, evP_step]; simp only [stepP]
  rw [if_neg (by decide), if_neg (by decide), if_neg (by decide), if_pos trivial, if_neg hb, hf]
  show wantP E j 6 ⟨#[93]⟩ _ = _
  unfold wantP
  rw [if_pos (isT_tk.2 h1)]; rfl
theorem bin_one {E : Env} {k i j : Nat} {n : NJ} (hm : evP E .minus i = some (.ok n j)) (h : strength (tokAt E j) < k ∨ strength (tokAt E j) = 0) : evP E (.binary k) i = some (.ok n j) := by
  rw [ev_binary, hm]
  exact loop_stop (h.imp id .inr)
theorem bin_two {E : Env} {k i j e : Nat} {x y : NJ} (hx : evP E .minus i = some (.ok x j)) (h0 : strength (tokAt E j) ≠ 0) (hk : k ≤ strength (tokAt E j)) (hy : evP E (.binary (argA (tokAt E j))) (j + 1) = some (.ok y e)) :
    evP E (.binary k) i = evP E (.binLoop k (topA (tokAt E j)) (joinedJ (tokAt E j) x y)) e := by
  have := strength_le8 (tokAt E j)
  rw [ev_binary, hx]
  show evP E (.binLoop k 8 x) j = _
  rw [loop_go (by omega), hy]; rfl
def joinK (q : Nat × ByteArray) (a b : NJ) : NJ := if q = (6, ⟨#[124]⟩) then nodeJ 8 ⟨#[]⟩ a b else joinedJ ⟨q.1, q.2, 0⟩ a b
def strK (q : Nat × ByteArray) : Nat := strength ⟨q.1, q.2, 0⟩
theorem str_tk {t : Tf} {q : Nat × ByteArray} (h : tk t = q) : strength t = strK q := strength_tk h
theorem join_tk {t : Tf} {q : Nat × ByteArray} (h : tk t = q) (hq : q ≠ (6, ⟨#[124]⟩)) (a b : NJ) : joinedJ t a b = joinK q a b := by unfold joinK; rw [if_neg hq]; exact joined_tk h a b
theorem pipe_str : strK (6, ⟨#[124]⟩) = 0 := by decide
def EndQ (q : Nat × ByteArray) : Prop := strK q = 0 ∧ q ≠ (6, ⟨#[124]⟩)
instance (q : Nat × ByteArray) : Decidable (EndQ q) := by unfold EndQ; exact inferInstance
theorem filter_end {E : Env} {i e : Nat} {n : NJ} (hd : ¬ isT E i 1 ⟨#[100, 101, 102]⟩) (h : evP E (.binary 1) i = some (.ok n e)) (he : tk (tokAt E e) ≠ (6, ⟨#[124]⟩)) : evP E .filter i = some (.ok n e) := by
  rw [ev_filter hd, h]
  show (if isT E e 6 ⟨#[124]⟩ then _ else _) = _
  rw [if_neg (fun h => he (isT_tk.1 h))]; rfl
theorem filter_pipe {E : Env} {i j e : Nat} {n m : NJ} (hd : ¬ isT E i 1 ⟨#[100, 101, 102]⟩) (h : evP E (.binary 1) i = some (.ok n j)) (hj : tk (tokAt E j) = (6, ⟨#[124]⟩)) (hm : evP E .filter (j + 1) = some (.ok m e)) : evP E .filter i = some (.ok (nodeJ 8 ⟨#[]⟩ n m) e) := by
  rw [ev_filter hd, h]
  show (if isT E j 6 ⟨#[124]⟩ then _ else _) = _
  rw [if_pos (isT_tk.2 hj), hm]; rfl
theorem ev_one {E : Env} {i e : Nat} {x : NJ} (hx : Atom E i x e) (he : EndQ (tk (tokAt E e))) : evP E .filter i = some (.ok x e) :=
  filter_end hx.d (bin_one hx.m (.inr ((str_tk rfl).trans he.1))) he.2
theorem ev_two {E : Env} {i j e : Nat} {x y : NJ} {q : Nat × ByteArray} (hx : Atom E i x j) (hq : tk (tokAt E j) = q) (hs : q = (6, ⟨#[124]⟩) ∨ strK q ≠ 0) (hy : Atom E (j + 1) y e) (he : EndQ (tk (tokAt E e))) : evP E .filter i = some (.ok (joinK q x y) e) := by
  have he0 : strength (tokAt E e) = 0 := (str_tk rfl).trans he.1
  by_cases hp : q = (6, ⟨#[124]⟩)
  · subst hp
    exact filter_pipe hx.d (bin_one hx.m (.inr ((str_tk hq).trans pipe_str))) hq (ev_one hy he)
  · have hs : strK q ≠ 0 := hs.resolve_left hp
    have h1 := str_tk hq
    refine filter_end hx.d ?_ he.2
    rw [bin_two hx.m (by omega) (by omega) (bin_one hy.m (.inr he0)), loop_stop (.inr (.inr he0)), join_tk hq hp]
theorem ev_right {E : Env} {i j l e : Nat} {x y z : NJ} {q r : Nat × ByteArray} (hx : Atom E i x j) (hq : tk (tokAt E j) = q) (hs : q = (6, ⟨#[124]⟩) ∨ strK q ≠ 0) (hy : Atom E (j + 1) y l) (hr : tk (tokAt E l) = r) (hr0 : r = (6, ⟨#[124]⟩) ∨ strK r ≠ 0) (hz : Atom E (l + 1) z e) (he : EndQ (tk (tokAt E e)))
    (h : q = (6, ⟨#[124]⟩) ∨ strK q < strK r ∨ strK q = 2 ∧ strK r = 2) : evP E .filter i = some (.ok (joinK q x (joinK r y z)) e) := by
  have he0 : strength (tokAt E e) = 0 := (str_tk rfl).trans he.1
  by_cases hp : q = (6, ⟨#[124]⟩)
  · subst hp
    exact filter_pipe hx.d (bin_one hx.m (.inr ((str_tk hq).trans pipe_str))) hq (ev_two hy hr hr0 hz he)
  · have hs : strK q ≠ 0 := hs.resolve_left hp
    have h := h.resolve_left hp
    have h1 := str_tk hq
    have h2 := str_tk hr
    have hp2 : r ≠ (6, ⟨#[124]⟩) := fun hh => by rw [hh, pipe_str] at h; omega
    refine filter_end hx.d ?_ he.2
    rw [bin_two hx.m (by omega) (by omega) (e := e) (y := joinK r y z), loop_stop (.inr (.inr he0)), join_tk hq hp]
    rw [bin_two hy.m (by omega) (by unfold argA; split <;> omega) (bin_one hz.m (.inr he0)), loop_stop (.inr (.inr he0)), join_tk hr hp2]
theorem ev_left {E : Env} {i j l e : Nat} {x y z : NJ} {q r : Nat × ByteArray} (hx : Atom E i x j) (hq : tk (tokAt E j) = q) (hs : q ≠ (6, ⟨#[124]⟩) ∧ strK q ≠ 0) (hy : Atom E (j + 1) y l) (hr : tk (tokAt E l) = r) (hr0 : r = (6, ⟨#[124]⟩) ∨ strK r ≠ 0) (hz : Atom E (l + 1) z e) (he : EndQ (tk (tokAt E e)))
    (h : strK r < strK q ∨ strK q = strK r ∧ strK q ≠ 2 ∧ strK q ≠ 3 ∧ strK q ≠ 6) : evP E .filter i = some (.ok (joinK r (joinK q x y) z) e) := by
  have he0 : strength (tokAt E e) = 0 := (str_tk rfl).trans he.1
  obtain ⟨hp, hs⟩ := hs
  have h1 := str_tk hq
  have h2 := str_tk hr
  have hxy : evP E (.binary 1) i = evP E (.binLoop 1 (topA (tokAt E j)) (joinK q x y)) l := by
    rw [bin_two hx.m (by omega) (by omega) (bin_one hy.m (k := argA (tokAt E j)) (.inl (by unfold argA; split <;> omega))), join_tk hq hp]
  by_cases hp2 : r = (6, ⟨#[124]⟩)
  · subst hp2
    rw [loop_stop (.inr (.inr (by rw [h2, pipe_str])))] at hxy
    have := filter_pipe hx.d hxy hr (ev_one hz he)
    rw [this]; unfold joinK; rw [if_pos rfl]
  · have hr0 : strK r ≠ 0 := hr0.resolve_left hp2
    refine filter_end hx.d ?_ he.2
    have ht : ¬ topA (tokAt E j) < strength (tokAt E l) := by
      unfold topA
      split
      · omega
      · split <;> omega
    rw [hxy, loop_go (by omega), bin_one hz.m (.inr he0)]
    show evP E (.binLoop 1 _ _) e = _
    rw [loop_stop (.inr (.inr he0)), join_tk hr hp2]
theorem ev_form {E : Env} {i j l : Nat} {x y : NJ} {q r : Nat × ByteArray} (hx : Atom E i x j) (hq : tk (tokAt E j) = q) (hy : Atom E (j + 1) y l) (hr : tk (tokAt E l) = r) (h : strK q = 6 ∧ strK r = 6) : ∃ n, evP E .filter i = some (.ok n l) := by
  have h1 := str_tk hq
  have h2 := str_tk hr
  refine ⟨joinedJ (tokAt E j) x y, filter_end hx.d ?_ fun hh => ?_⟩
  · have ht : topA (tokAt E j) = 5 := by unfold topA; rw [if_neg (by omega), if_pos (by omega)]; omega
    rw [bin_two hx.m (by omega) (by omega) (bin_one hy.m (k := argA (tokAt E j)) (.inl (by unfold argA; split <;> omega))), loop_stop (.inr (.inl (by omega)))]
  · rw [hr] at hh; rw [hh, pipe_str] at h; omega
/-! texts -/
def Flt (P : List UInt8) (n : NJ) : Prop := ∃ l, scanF P = (l, 0, 0) ∧ evP (envOf P 0) .filter 0 = some (.ok n l.length)
theorem Flt.uniq {P : List UInt8} {n m : NJ} (h1 : Flt P n) (h2 : Flt P m) : n = m := by
  obtain ⟨_, _, h1⟩ := h1
  obtain ⟨_, _, h2⟩ := h2
  rw [h1] at h2
  injection h2 with h2
  injection h2
theorem envOf_l {P : List UInt8} {l : List Tf} {x : Nat × Nat} (h : scanF P = (l, x)) (b : Nat) : (envOf P b).l = l := by unfold envOf; rw [h]
theorem ev_whole (E : Env) : evP E .whole 0 = bindP (evP E .filter 0) fun n j => if j < E.l.length then failP E j 60 else okP n j := by rw [evP_step]; rfl
theorem flt_whole {P : List UInt8} {l : List Tf} {n : NJ} {j : Nat} (h : scanF P = (l, 0, 0)) (hw : evP (envOf P 0) .whole 0 = some (.ok n j)) : Flt P n := by
  refine ⟨l, h, ?_⟩
  rw [ev_whole, envOf_l h] at hw
  cases hf : evP (envOf P 0) .filter 0 with
  | none => rw [hf] at hw; cases hw
  | some r =>
    rw [hf] at hw
    cases r with
    | bad a e => cases hw
    | ok m k =>
      obtain ⟨f, hff⟩ := of_evP hf
      have hb := (bd_all f _ _ _ (show JobIn (envOf P 0) 0 .filter from Nat.zero_le _) m k hff).2
      rw [envOf_l h] at hb
      replace hw : (if k < l.length then failP (envOf P 0) k 60 else okP m k) = some (.ok n j) := hw
      split at hw
      · cases hw
      · cases hw
        rw [show l.length = j by omega]
theorem whole_flt {P : List UInt8} {n : NJ} (h : Flt P n) : ∃ j, evP (envOf P 0) .whole 0 = some (.ok n j) := by
  obtain ⟨l, h1, h2⟩ := h
  refine ⟨l.length, ?_⟩
  rw [ev_whole, h2, envOf_l h1]
  show (if l.length < l.length then _ else _) = _
  rw [if_neg (Nat.lt_irrefl _)]; rfl
theorem tk_at {E : Env} {A B : List (Nat × ByteArray)} {q : Nat × ByteArray} {i : Nat} (h : E.l.map tk = A ++ q :: B) (hi : i = A.length) : tk (tokAt E i) = q := by
  have h2 : (E.l.map tk)[i]? = some q := by rw [h, hi, List.getElem?_append_right (Nat.le_refl _), Nat.sub_self]; rfl
  rw [List.getElem?_map] at h2
  unfold tokAt
  rw [List.getD_eq_getElem?_getD]
  cases he : E.l[i]? with
  | none => rw [he] at h2; cases h2
  | some t => rw [he] at h2; injection h2
theorem tk_end {E : Env} {A : List (Nat × ByteArray)} {i : Nat} (h : E.l.map tk = A) (hi : i = A.length) : tk (tokAt E i) = (0, ⟨#[]⟩) := by
  rw [tok_end (by rw [hi, ← h, List.length_map]; exact Nat.le_refl _)]; rfl
theorem ext_of {E E' : Env} {A C : List (Nat × ByteArray)} (h : E'.l.map tk = A ++ (E.l.map tk ++ C)) (hC : Stop (C.headD (0, ⟨#[]⟩))) : Ext E E' A.length := by
  have hlen := congrArg List.length h
  simp only [List.length_map, List.length_append] at hlen
  refine ⟨fun i hi => ?_, ?_, by omega⟩
  · refine tk_at (A := A ++ (E.l.take i).map tk) (B := (E.l.drop (i + 1)).map tk ++ C) ?_ ?_
    · rw [h, List.append_assoc]
      congr 1
      rw [show tk (tokAt E i) :: ((E.l.drop (i + 1)).map tk ++ C) = (E.l.drop i).map tk ++ C by rw [List.drop_eq_getElem_cons hi, List.map_cons, List.cons_append]; unfold tokAt; rw [List.getD_eq_getElem?_getD, List.getElem?_eq_getElem hi]; rfl, ← List.append_assoc, ← List.map_append, List.take_append_drop]
    · rw [List.length_append, List.length_map, List.length_take]; omega
  · cases C with
    | nil => rw [tk_end h (by rw [List.append_nil, List.length_append, List.length_map])]; exact .inl rfl
    | cons q C => rw [tk_at (A := A ++ E.l.map tk) (by rw [h, List.append_assoc]) (by rw [List.length_append, List.length_map])]; exact hC
theorem flt_in {P : List UInt8} {n : NJ} {l : List Tf} (hl : scanF P = (l, 0, 0)) (hP : evP (envOf P 0) .filter 0 = some (.ok n l.length)) {E : Env} {A C : List (Nat × ByteArray)} (h : E.l.map tk = A ++ (l.map tk ++ C)) (hC : Stop (C.headD (0, ⟨#[]⟩))) : evP E .filter A.length = some (.ok n (A.length + l.length)) := by
  have hX : Ext (envOf P 0) E A.length := ext_of (by rw [envOf_l hl]; exact h) hC
  exact (ev_tr hX (show JobX _ _ _ 0 .filter from Nat.zero_le _) hP).2
theorem atom_in {P : List UInt8} {n : NJ} {l : List Tf} (hl : scanF P = (l, 0, 0)) (hP : evP (envOf P 0) .filter 0 = some (.ok n l.length)) {E : Env} {A C : List (Nat × ByteArray)} {i j : Nat} (h : E.l.map tk = A ++ ((6, ⟨#[40]⟩) :: (l.map tk ++ (6, ⟨#[41]⟩) :: C))) (hC : Nxt (C.headD (0, ⟨#[]⟩))) (hi : i = A.length) (hj : j = i + l.length + 2) : Atom E i n j := by
  have hf := flt_in hl hP (A := A ++ [(6, ⟨#[40]⟩)]) (C := (6, ⟨#[41]⟩) :: C) (by rw [h, List.append_assoc]; rfl) (.inr (.inl rfl))
  rw [List.length_append, List.length_singleton, ← hi] at hf
  have e : E.l.map tk = (A ++ ((6, ⟨#[40]⟩) :: l.map tk)) ++ (6, ⟨#[41]⟩) :: C := by rw [h, List.append_assoc]; rfl
  have e2 : E.l.map tk = (A ++ ((6, ⟨#[40]⟩) :: l.map tk) ++ [(6, ⟨#[41]⟩)]) ++ C := by rw [e, List.append_assoc _ [_]]; rfl
  rw [show j = i + 1 + l.length + 1 by omega]
  refine ev_atom (tk_at h hi) hf (tk_at e (by simp only [List.length_append, List.length_cons, List.length_map]; omega)) ?_
  cases C with
  | nil => rw [tk_end e2 (by simp only [List.length_append, List.length_cons, List.length_map, List.length_nil]; omega)]; exact hC
  | cons q C => rw [tk_at e2 (by simp only [List.length_append, List.length_cons, List.length_map, List.length_nil]; omega)]; exact hC
theorem rsc_open (R : List UInt8) : RSc [40] [(6, ⟨#[40]⟩)] R := rsc_tok (c := 40) (r := R) rfl rfl (by decide) (m := 0) (by simp [tokP, letF, isDg, signN, twoL, oneL]) (by decide) rfl
theorem rsc_close (R : List UInt8) : RSc [41] [(6, ⟨#[41]⟩)] R := rsc_tok (c := 41) (r := R) rfl rfl (by decide) (m := 0) (by simp [tokP, letF, isDg, signN, twoL, oneL]) (by decide) rfl
theorem rsc_opn (R : List UInt8) : RSc [91] [(6, ⟨#[91]⟩)] R := rsc_tok (c := 91) (r := R) rfl rfl (by decide) (m := 0) (by simp [tokP, letF, isDg, signN, twoL, oneL]) (by decide) rfl
theorem rsc_cls (R : List UInt8) : RSc [93] [(6, ⟨#[93]⟩)] R := rsc_tok (c := 93) (r := R) rfl rfl (by decide) (m := 0) (by simp [tokP, letF, isDg, signN, twoL, oneL]) (by decide) rfl
def par (P : List UInt8) : List UInt8 := 40 :: (P ++ [10, 41])
theorem rsc_par {P : List UInt8} {l : List Tf} (h : scanF P = (l, 0, 0)) (R : List UInt8) : RSc (par P) ((6, ⟨#[40]⟩) :: (l.map tk ++ [(6, ⟨#[41]⟩)])) R := by
  have := (rsc_open ((P ++ [10]) ++ [41] ++ R)).app ((rsc_flt h ([41] ++ R)).app (rsc_close R))
  rw [List.append_assoc P] at this
  exact this
theorem flt_par {P : List UInt8} {n : NJ} (h : Flt P n) (hP : P.length ≤ 16000) : Flt (par P) n := by
  obtain ⟨l, h1, h2⟩ := h
  obtain ⟨m, h3, h4⟩ := scan_rsc (rsc_par h1 []) (by unfold par; simp only [List.length_append, List.length_cons, List.length_nil]; omega)
  have hl : m.length = l.length + 2 := by have := congrArg List.length h4; simpa using this
  refine ⟨m, h3, ?_⟩
  rw [hl]
  have hE := h4
  rw [← envOf_l h3 0] at hE
  have ha : Atom (envOf (par P) 0) 0 n (l.length + 2) := atom_in h1 h2 (A := []) (C := []) hE (by decide) rfl (by omega)
  exact ev_one ha (by rw [tk_end hE (by simp)]; decide)
theorem flt_arr {P : List UInt8} {n : NJ} (h : Flt P n) (hP : P.length ≤ 16000) : Flt (91 :: (P ++ [10, 93])) (kidsJ 15 [n]) := by
  obtain ⟨l, h1, h2⟩ := h
  have hs := (rsc_opn ((P ++ [10]) ++ [93] ++ [])).app ((rsc_flt h1 ([93] ++ [])).app (rsc_cls []))
  rw [List.append_assoc P] at hs
  have hs : RSc (91 :: (P ++ [10, 93])) ([(6, ⟨#[91]⟩)] ++ (l.map tk ++ [(6, ⟨#[93]⟩)])) [] := hs
  obtain ⟨m, h3, h4⟩ := scan_rsc hs (by simp only [List.length_append, List.length_cons, List.length_nil]; omega)
  have hl : m.length = l.length + 2 := by have := congrArg List.length h4; simpa using this
  refine ⟨m, h3, ?_⟩
  rw [hl]
  have hE : (envOf (91 :: (P ++ [10, 93])) 0).l.map tk = [(6, ⟨#[91]⟩)] ++ (l.map tk ++ [(6, ⟨#[93]⟩)]) := by rw [envOf_l h3]; exact h4
  have hf := flt_in h1 h2 (A := [(6, ⟨#[91]⟩)]) hE (.inr (.inr rfl))
  rw [show [(6, (⟨#[91]⟩ : ByteArray))].length + l.length = l.length + 1 from Nat.add_comm _ _] at hf
  have he : tk (tokAt (envOf (91 :: (P ++ [10, 93])) 0) (l.length + 2)) = (0, ⟨#[]⟩) := tk_end hE (by simp)
  have ha : Atom (envOf (91 :: (P ++ [10, 93])) 0) 0 (kidsJ 15 [n]) (l.length + 2) := ev_array (tk_at (A := []) hE rfl) hf (tk_at (A := (6, ⟨#[91]⟩) :: l.map tk) (B := []) hE (by simp)) (by rw [he]; decide)
  exact ev_one ha (by rw [he]; decide)
theorem flt_head {P : List UInt8} {n : NJ} (h : Flt P n) : ∃ c r, P = c :: r ∧ c ≠ 61 := by
  obtain ⟨l, h1, h2⟩ := h
  obtain ⟨b, h3, h4, h5⟩ := scanF_sc h1
  have hE : (envOf P 0).l = l := envOf_l h1 0
  cases P with
  | nil =>
    exfalso
    have hl : l = [] := by
      have := h3.le (Nat.zero_le _)
      have e0 : skipA ([] : List UInt8) b = 0 := h5
      rw [e0] at this
      exact List.eq_nil_of_length_eq_zero (by omega)
    rw [bar_dead (bar_end (by rw [hE, hl]; rfl))] at h2
    cases h2
  | cons c r =>
    refine ⟨c, r, rfl, fun hc => ?_⟩
    subst hc
    have hk : (tokP (61 :: r)).1 = 6 ∧ (tokP (61 :: r)).2.1 = 0 ∧ ((61 :: r).take (tokP (61 :: r)).2.2 = [61] ∨ (61 :: r).take (tokP (61 :: r)).2.2 = [61, 61]) := by
      rcases r with _ | ⟨d, r⟩
      · decide
      · by_cases hd : d = 61
        · subst hd; simp [tokP, letF, isDg, signN, twoL]
        · simp [tokP, letF, isDg, signN, twoL, oneL, hd]
    obtain ⟨k1, k2, k3⟩ := hk
    have ho : oneF (61 :: r) 48 0 = (⟨6, ⟨((61 :: r).take (tokP (61 :: r)).2.2).toArray⟩, 0⟩, (tokP (61 :: r)).2.2, 0) := by
      rw [oneF_eq, show skipA (61 :: r) 0 = 0 from rfl]
      unfold oneG
      rw [List.drop_zero]
      dsimp only
      rw [if_neg (by decide), k1, if_neg (by decide), k2, Nat.zero_add]; rfl
    cases h3 with
    | nil h => rw [show skipA (61 :: r) 0 = 0 from rfl, h5] at h; cases h
    | @cons a b' c' t l' h hk hr =>
      rw [ho] at h
      injection h with h _
      have ht : tk (tokAt (envOf (61 :: r) 0) 0) = (6, ⟨((61 :: r).take (tokP (61 :: r)).2.2).toArray⟩) := tk_at (A := []) (by rw [hE, List.map_cons, ← h]; rfl) rfl
      rw [bar_dead (by rw [ht]; rcases k3 with k | k <;> rw [k] <;> decide)] at h2
      cases h2
theorem flt_pipe {P : List UInt8} {n : NJ} (h : Flt P n) (hP : P.length ≤ 16000) : ∃ m e : Int, Flt (49 :: 124 :: P) (nodeJ 8 ⟨#[]⟩ (.mk 2 ⟨#[]⟩ m e [] []) n) := by
  obtain ⟨c, r, hc, h61⟩ := flt_head h
  obtain ⟨l, h1, h2⟩ := h
  have s1 : RSc [49] [(4, ⟨#[49]⟩)] ([124] ++ (P ++ [])) := rsc_tok (c := 49) (r := 124 :: P) (by rw [List.append_nil]; rfl) rfl (by decide) (m := 0) (by simp [tokP, letF, isDg, numN, digN, runB, dotN, expN]) (by decide) rfl
  have s2 : RSc [124] [(6, ⟨#[124]⟩)] (P ++ []) := rsc_tok (c := 124) (r := P) (by rw [List.append_nil]; rfl) rfl (by decide) (m := 0) (by rw [hc]; simp [tokP, letF, isDg, signN, twoL, oneL, h61]) (by decide) rfl
  have s3 := rsc_any (u := []) (.inl rfl) h1
  have s4 : RSc (49 :: 124 :: P) ([(4, ⟨#[49]⟩)] ++ ([(6, ⟨#[124]⟩)] ++ l.map tk)) [] := RSc.app (P1 := [49]) (P2 := [124] ++ P) (by rw [List.append_assoc]; exact s1) (s2.app s3)
  obtain ⟨m, h3, h4⟩ := scan_rsc s4 (by simp only [List.length_cons]; omega)
  have hl : m.length = 2 + l.length := by have := congrArg List.length h4; simp at this; omega
  refine ⟨(parseN [49]).1.1, (parseN [49]).1.2, m, h3, ?_⟩
  rw [hl]
  have hE : (envOf (49 :: 124 :: P) 0).l.map tk = [(4, ⟨#[49]⟩), (6, ⟨#[124]⟩)] ++ (l.map tk ++ []) := by rw [envOf_l h3, List.append_nil]; exact h4
  have hf := flt_in h1 h2 (A := [(4, ⟨#[49]⟩), (6, ⟨#[124]⟩)]) hE (.inl rfl)
  have t0 : tk (tokAt (envOf (49 :: 124 :: P) 0) 0) = (4, ⟨#[49]⟩) := tk_at (A := []) hE rfl
  have t1 : tk (tokAt (envOf (49 :: 124 :: P) 0) 1) = (6, ⟨#[124]⟩) := tk_at (A := [(4, ⟨#[49]⟩)]) hE rfl
  have ha : Atom (envOf (49 :: 124 :: P) 0) 0 (.mk 2 ⟨#[]⟩ (parseN [49]).1.1 (parseN [49]).1.2 [] []) 1 := by
    refine ev_term t0 (by decide) ?_ (by rw [t1]; decide)
    have hk : (tokAt (envOf (49 :: 124 :: P) 0) 0).kind = 4 := congrArg Prod.fst t0
    have ht : (tokAt (envOf (49 :: 124 :: P) 0) 0).text = ⟨#[49]⟩ := congrArg Prod.snd t0
    rw [evP_step]; simp only [stepP]
    rw [if_neg (by omega), if_neg (by omega), if_neg (by omega), if_pos hk, ht]
    rw [if_neg (by decide), if_neg (by decide)]; rfl
  exact filter_pipe ha.d (bin_one ha.m (.inr ((str_tk t1).trans pipe_str))) t1 hf
structure SgOk (sg : List UInt8) (q : Nat × ByteArray) : Prop where
  r : ∀ R, RSc sg [q] (40 :: R)
  n : Nxt q
  s : q = (6, ⟨#[124]⟩) ∨ strK q ≠ 0
  e : sg.length ≤ 10
theorem flt_two {a b sg : List UInt8} {x y : NJ} {q : Nat × ByteArray} (ha : Flt a x) (hb : Flt b y) (hs : SgOk sg q) (hla : a.length ≤ 2000) (hlb : b.length ≤ 2000) : Flt (par a ++ (sg ++ par b)) (joinK q x y) := by
  obtain ⟨la, a1, a2⟩ := ha
  obtain ⟨lb, b1, b2⟩ := hb
  have hle := hs.e
  have hr := (rsc_par a1 (sg ++ par b ++ [])).app ((hs.r ((b ++ [10, 41]) ++ [])).app (rsc_par b1 []))
  obtain ⟨m, h3, h4⟩ := scan_rsc hr (by unfold par; simp only [List.length_append, List.length_cons, List.length_nil]; omega)
  have hE := h4
  rw [← envOf_l h3 0] at hE
  refine ⟨m, h3, ?_⟩
  rw [show m.length = la.length + 3 + lb.length + 2 by have := congrArg List.length h4; simp at this; omega]
  have A1 : Atom (envOf (par a ++ (sg ++ par b)) 0) 0 x (la.length + 2) := atom_in a1 a2 (A := []) (C := q :: ((6, ⟨#[40]⟩) :: (lb.map tk ++ [(6, ⟨#[41]⟩)]))) (by rw [hE]; simp) hs.n rfl (by omega)
  have T1 : tk (tokAt (envOf (par a ++ (sg ++ par b)) 0) (la.length + 2)) = q := tk_at (A := (6, ⟨#[40]⟩) :: (la.map tk ++ [(6, ⟨#[41]⟩)])) (B := ((6, ⟨#[40]⟩) :: (lb.map tk ++ [(6, ⟨#[41]⟩)]))) (by rw [hE]; simp) (by simp)
  have A2 : Atom (envOf (par a ++ (sg ++ par b)) 0) (la.length + 2 + 1) y (la.length + 3 + lb.length + 2) := atom_in b1 b2 (A := (6, ⟨#[40]⟩) :: (la.map tk ++ [(6, ⟨#[41]⟩), q])) (C := []) (by rw [hE]; simp) (by decide) (by simp) (by omega)
  exact ev_two A1 T1 hs.s A2 (by rw [tk_end hE (by simp; omega)]; decide)
end Th
