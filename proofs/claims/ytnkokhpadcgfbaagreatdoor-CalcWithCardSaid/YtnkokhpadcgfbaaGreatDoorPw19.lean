/- Lemmas and contracts for the laws CalcWith, part 19 of 50: Ref3. Conditions: those that each lemma names. -/
import Derived.Test.YtnkokhpadcgfbaaGreatDoorPw14
import Derived.Test.YtnkokhpadcgfbaaGreatDoorPw9
import Derived.Test.YtnkokhpadcgfbaaGreatDoorPw18
import Derived.Outline
import Derived.Deep.CutBlock
import Derived.Deep.DeepCutAuto
import Derived.WalkLawsBesides
import Derived.IntWalk
namespace Go.Proofs.YtnkokhpadcgfbaaGreatDoor
open Go Go.RowKit Go.Proofs Th
attribute [local go_sem] Above.cell
theorem depthL_take (l : List JV) (k : Nat) (h : k < l.length) : depthL (l.take (k + 1)) = max (depthL (l.take k)) (depthJ l[k]) := by
  have : ∀ a b : List JV, depthL (a ++ b) = max (depthL a) (depthL b) := by
    intro a b
    induction a with
    | nil => simp [depthL]
    | cons x a ih => simp only [List.cons_append, depthL, ih]; omega
  rw [List.take_succ_eq_append_getElem h, this]
  simp [depthL]
theorem depthL_take_le (l : List JV) (k : Nat) : depthL (l.take k) ≤ depthL l := by
  have : ∀ a b : List JV, depthL (a ++ b) = max (depthL a) (depthL b) := by
    intro a b
    induction a with
    | nil => simp [depthL]
    | cons x a ih => simp only [List.cons_append, depthL, ih]; omega
  have h := this (l.take k) (l.drop k)
  rw [List.take_append_drop] at h
  omega
theorem depth_count : ∀ (t : JV), depthJ t ≤ countJ t
  | .mk k m e s l ks => by
    have h : ∀ l : List JV, (∀ x ∈ l, depthJ x ≤ countJ x) → depthL l ≤ countL l := by
      intro l
      induction l with
      | nil => intro _; exact Nat.le_refl _
      | cons x l ih =>
        intro h
        have h1 := ih (fun y hy => h y (by simp [hy]))
        have h2 := h x (by simp)
        show max _ _ ≤ _ + _
        omega
    have := h l (fun x hx => depth_count x)
    show 1 + depthL l ≤ 1 + countL l
    omega
theorem box_new6 {w : World} {t : TypeId} (k m e : Int) (s : ByteArray) (A : Option Addr) (n c : Nat) (A' : Option Addr) (n' c' : Nat) : Box (w.alloc (.cells #[.int .i64 k, .int .i64 m, .int .i64 e, .string s, .slice A n c, .slice A' n' c'] t)) w.heap.size (cells6 k m e s A n c A' n' c') :=
  Box.new (cells6 k m e s A n c A' n' c') t rfl
set_option maxRecDepth 100000 in
theorem ref3_DepthD : ∀ (n : Nat) (t : JV), countJ t ≤ n → depthJ t ≤ 1000000 → ∀ (w : World) (cs : List Value), JAt w w.heap.size t cs →
    Calls Tryz.prog 91 #[.agg cs.toArray] w fun r w' => r = .returned (.int .i64 (depthJ t)) ∧ Below w.heap.size w w' := by
  intro n
  induction n with
  | zero => intro t h; cases t; unfold countJ at h; omega
  | succ n ih =>
    intro t hn hn1 w cs hJ
    cases t with
    | mk k m e s l ks =>
      obtain ⟨A, c, A', c', rfl, hk, hm, he, hs, hK, hV⟩ := hJ.open
      show Calls _ _ #[.agg #[.int .i64 k, .int .i64 m, .int .i64 e, .string s, .slice A l.length c, .slice A' ks.length c']] w _
      have hcn := countL_get l
      have hcl : countL l ≤ n := by have : 1 + countL l ≤ n + 1 := hn; omega
      have HD := Keep.mk (show depthJ (.mk k m e s l ks) = 1 + depthL l from rfl)
      have hdl : depthL l ≤ 1000000 := by have := HD.out; omega
      clear hn1
      have hlc := hV.le
      have hcc := hV.cap
      go_enter Tryz.func91, Tryz.ntmps91
      go_upto_block 0 with fail
      refine wp_world (fun W => Box W w.heap.size (cells6 k m e s A l.length c A' ks.length c') ∧ ValsAt W w.heap.size A c l ∧ Below w.heap.size w W) ⟨box_new6 .., hV.below (al1 _ _) (Nat.le_refl _), al1 _ _⟩ ?_
      rintro W0 ⟨HX, HV, HB⟩
      replace HX := Keep.mk HX
      replace HV := Keep.mk HV
      replace HB := Keep.mk HB
      clear hJ hV
      go_wp2_with fail
      go_loopg [3, 4] l.length (fun gk d i wr => ∃ (j : Nat), j + gk = l.length ∧ i = .int .i64 j ∧ d = .int .i64 (depthL (l.take j)) ∧ Keep (Box wr w.heap.size (cells6 k m e s A l.length c A' ks.length c')) ∧ Keep (ValsAt wr w.heap.size A c l) ∧ Keep (Below w.heap.size w wr))
      case atStart => exact ⟨0, by omega, rfl, by rw [List.take_zero]; rfl, HX, HV, HB⟩
      case round =>
        clear HX HV HB
        obtain ⟨j, hj, rfl, rfl, HX, HV, HB⟩ := hrel
        have x4 := HX.out.cell 4 _ rfl
        have xl := HX.out.lt
        by_cases hlt : j < l.length
        · have hgk : gk ≠ 0 := by omega
          have HS := Keep.mk (depthL_take l j hlt)
          have hdj : depthJ l[j] ≤ 1000000 := by have h1 := depthL_take l j hlt; have h2 := depthL_take_le l (j + 1); omega
          have hcj := hcn j hlt
          obtain ⟨g, o, k1, m1, e1, s1, A1, n1, c1, A2, n2, c2, rfl, hg, hJj, y0, y1, y2, y3, y4, y5⟩ := HV.out.elem j hlt
          have HC := Keep.mk (ih l[j] (by omega) hdj wr _ (hJj.more HB.out.size))
          have hd2 : depthL (l.take j) ≤ 1000000 := by
            have := depthL_take_le l j; omega
          clear hJj
          obtain ⟨dj, hdd⟩ : ∃ x, depthJ l[j] = x := ⟨_, rfl⟩
          rw [hdd] at HC HS hdj
          clear hdd
          generalize depthL (l.take j) = d0 at *
          by_cases hgt : d0 < dj
          · have HE := Keep.mk (show depthL (l.take (j + 1)) = dj by rw [HS.out]; omega)
            clear HS
            go_wp2_with fail
            refine (HC.out).mono ?_
            rintro r w1 ⟨rfl, hb1⟩
            go_wp2
            go_roundg (gk - 1)
            case rel => exact ⟨j + 1, by omega, by go_num, by rw [HE.out], ⟨HX.out.below hb1 xl⟩, ⟨HV.out.below hb1 HB.out.size⟩, ⟨up HB.out hb1⟩⟩
            case measure => omega
          · have HE := Keep.mk (show depthL (l.take (j + 1)) = d0 by rw [HS.out]; omega)
            clear HS
            go_wp2_with fail
            refine (HC.out).mono ?_
            rintro r w1 ⟨rfl, hb1⟩
            go_wp2
            go_roundg (gk - 1)
            case rel => exact ⟨j + 1, by omega, by go_num, by rw [HE.out], ⟨HX.out.below hb1 xl⟩, ⟨HV.out.below hb1 HB.out.size⟩, ⟨up HB.out hb1⟩⟩
            case measure => omega
        · have HE := Keep.mk (show depthL (l.take j) = depthL l by rw [List.take_of_length_le (by omega)])
          rw [HE.out]
          go_wp2
          go_ret
          exact ⟨by rw [HD.out]; rfl, HB.out⟩
end Go.Proofs.YtnkokhpadcgfbaaGreatDoor
namespace Go.Proofs.YtnkokhpadcgfbaaGreatDoor
open Go Go.RowKit Go.Proofs Th
attribute [local go_sem] Above.cell
def keyOk (ks : List ByteArray) (j : Nat) : Bool := Lib.validD (ks.getD j ⟨#[]⟩).data.toList && (decide (j = 0) || Op.bytesLess (ks.getD (j - 1) ⟨#[]⟩).data.toList (ks.getD j ⟨#[]⟩).data.toList)
theorem rise_iff : ∀ (ks : List ByteArray), riseK ks = true ↔ ∀ j, j < ks.length → keyOk ks j = true
  | [] => by simp [riseK]
  | [a] => by
    simp only [riseK, List.length_singleton]
    constructor
    · intro h j hj
      obtain rfl : j = 0 := by omega
      simp [keyOk, h]
    · intro h
      have := h 0 (by omega)
      simpa [keyOk] using this
  | a :: b :: r => by
    rw [show riseK (a :: b :: r) = (Lib.validD a.data.toList && Op.bytesLess a.data.toList b.data.toList && riseK (b :: r)) from rfl, Bool.and_eq_true, Bool.and_eq_true, rise_iff (b :: r)]
    constructor
    · rintro ⟨⟨h1, h2⟩, h3⟩ j hj
      cases j with
      | zero => simp [keyOk, h1]
      | succ j =>
        have h4 := h3 j (by simpa using hj)
        cases j with
        | zero =>
          simp only [keyOk, List.getD_cons_zero, decide_true, Bool.true_or, Bool.and_true] at h4
          simp [keyOk, h2, h4]
        | succ j => simpa [keyOk] using h4
    · intro h
      have h0 := h 0 (by simp)
      have h1 := h 1 (by simp)
      simp only [keyOk, List.getD_cons_zero, decide_true, Bool.true_or, Bool.and_true] at h0
      simp [keyOk] at h1
      refine ⟨⟨h0, h1.2⟩, fun j hj => ?_⟩
      cases j with
      | zero => simp [keyOk, h1.1]
      | succ j =>
        have h4 := h (j + 2) (by simpa using hj)
        simpa [keyOk] using h4
structure PlainOf (k m e : Int) (s : ByteArray) (n n' : Nat) (pm pe : Int) (ps : ByteArray) (q q' : Nat) : Prop where
  num : pm = (if k = 3 then m else 0) ∧ pe = (if k = 3 then e else 0)
  txt : ps = if k = 4 then s else ⟨#[]⟩
  lst : q = if k = 5 ∨ k = 6 then n else 0
  key : q' = if k = 6 then n' else 0
theorem one_kind (k m e : Int) (s : ByteArray) (l : List JV) (ks : List ByteArray) (h : k < 0 ∨ 6 < k) : okOne (.mk k m e s l ks) = false := by
  simp only [okOne]
  rw [decide_eq_false (show ¬ (0 ≤ k ∧ k ≤ 6) by omega)]
  rfl
theorem one_named (m e : Int) (s : ByteArray) (l : List JV) (ks : List ByteArray) (h : ks.length ≠ l.length) : okOne (.mk 6 m e s l ks) = false := by
  unfold okOne
  simp [h]
theorem one_val {k m e : Int} {s : ByteArray} {l : List JV} {ks : List ByteArray} {pm pe : Int} {ps : ByteArray} {q q' : Nat} (hp : PlainOf k m e s l.length ks.length pm pe ps q q') (h0 : 0 ≤ k) (h6 : k ≤ 6) (hn : k = 6 → ks.length = l.length) :
    okOne (.mk k m e s l ks) = (riseK ks && ((pm == m && pe == e) && (ps.toList == s.toList) && decide (q = l.length) && decide (q' = ks.length) && right m e && Lib.validD s.data.toList)) := by
  obtain ⟨⟨rfl, rfl⟩, rfl, rfl, rfl⟩ := hp
  have e1 : ((if k = 3 then m else 0) == m && (if k = 3 then e else 0) == e) = (decide (k = 3) || (decide (m = 0) && decide (e = 0))) := by
    by_cases hk : k = 3
    · rw [if_pos hk, if_pos hk, decide_eq_true hk, beq_self_eq_true, beq_self_eq_true]; rfl
    · rw [if_neg hk, if_neg hk, decide_eq_false hk, Bool.false_or, Bool.eq_iff_iff]
      simp only [Bool.and_eq_true, beq_iff_eq, decide_eq_true_eq]
      exact ⟨fun ⟨a, b⟩ => ⟨a.symm, b.symm⟩, fun ⟨a, b⟩ => ⟨a.symm, b.symm⟩⟩
  have e2 : ((if k = 4 then s else ⟨#[]⟩ : ByteArray).toList == s.toList) = (decide (k = 4) || decide (s.size = 0)) := by
    by_cases hk : k = 4
    · rw [if_pos hk, decide_eq_true hk, beq_self_eq_true]; rfl
    · rw [if_neg hk, decide_eq_false hk, Bool.eq_iff_iff, ba_list, ba_list]
      simp only [beq_iff_eq, Bool.false_or, decide_eq_true_eq]
      rw [← size_listU s]
      constructor
      · intro h; rw [← h]; rfl
      · intro h; exact (List.eq_nil_of_length_eq_zero h).symm
  have e3 : decide ((if k = 5 ∨ k = 6 then l.length else 0) = l.length) = (decide (5 ≤ k) || decide (l.length = 0)) := by
    by_cases hk : k = 5 ∨ k = 6
    · rw [if_pos hk, decide_eq_true rfl, decide_eq_true (by omega)]; rfl
    · rw [if_neg hk, decide_eq_false (show ¬ 5 ≤ k by omega), Bool.false_or, Bool.eq_iff_iff, decide_eq_true_eq, decide_eq_true_eq]; omega
  have e4 : decide ((if k = 6 then ks.length else 0) = ks.length) = (decide (k = 6) || decide (ks.length = 0)) := by
    by_cases hk : k = 6
    · rw [if_pos hk, decide_eq_true rfl, decide_eq_true hk]; rfl
    · rw [if_neg hk, decide_eq_false hk, Bool.false_or, Bool.eq_iff_iff, decide_eq_true_eq, decide_eq_true_eq]; omega
  have e5 : (decide (k ≠ 6) || decide (ks.length = l.length)) = true := by
    by_cases hk : k = 6
    · simp [hn hk]
    · simp [hk]
  rw [e1, e2, e3, e4]
  simp only [okOne]
  rw [decide_eq_true (show 0 ≤ k ∧ k ≤ 6 from ⟨h0, h6⟩), e5]
  generalize (decide (k = 3) || (decide (m = 0) && decide (e = 0))) = b1
  generalize (decide (k = 4) || decide (s.size = 0)) = b2
  generalize (decide (5 ≤ k) || decide (l.length = 0)) = b3
  generalize (decide (k = 6) || decide (ks.length = 0)) = b4
  generalize riseK ks = b5
  cases b1 <;> cases b2 <;> cases b3 <;> cases b4 <;> cases b5 <;> simp
end Go.Proofs.YtnkokhpadcgfbaaGreatDoor
namespace Go.Proofs.YtnkokhpadcgfbaaGreatDoor
open Go Go.RowKit Go.Proofs Th
attribute [local go_sem] Above.cell
set_option maxRecDepth 100000 in
theorem ref3_one_kind (k m e : Int) (s : ByteArray) (l : List JV) (ks : List ByteArray) (A : Option Addr) (n c : Nat) (A' : Option Addr) (n' c' : Nat) (h : k < 0 ∨ 6 < k) (w : World) :
    Calls Tryz.prog 145 #[.agg #[.int .i64 k, .int .i64 m, .int .i64 e, .string s, .slice A n c, .slice A' n' c']] w fun r w' => r = .returned (.bool (okOne (.mk k m e s l ks))) ∧ Below w.heap.size w w' := by
  have HE := Keep.mk (one_kind k m e s l ks h)
  have b0 : (k == 0) = false := by simp; omega
  have b1 : (k == 1) = false := by simp; omega
  have b2 : (k == 2) = false := by simp; omega
  have b3 : (k == 3) = false := by simp; omega
  have b4 : (k == 4) = false := by simp; omega
  have b5 : (k == 5) = false := by simp; omega
  have b6 : (k == 6) = false := by simp; omega
  clear h
  go_enter Tryz.func145, Tryz.ntmps145
  go_wp2
  go_ret
  exact ⟨by rw [HE.out]; rfl, al2 _ _ _⟩
set_option maxRecDepth 100000 in
theorem ref3_one_named (m e : Int) (s : ByteArray) (l : List JV) (ks : List ByteArray) (A : Option Addr) (n c : Nat) (A' : Option Addr) (n' c' : Nat) (h : ks.length ≠ l.length) (hn : n = l.length) (hn' : n' = ks.length) (w : World) :
    Calls Tryz.prog 145 #[.agg #[.int .i64 6, .int .i64 m, .int .i64 e, .string s, .slice A n c, .slice A' n' c']] w fun r w' => r = .returned (.bool (okOne (.mk 6 m e s l ks))) ∧ Below w.heap.size w w' := by
  have HE := Keep.mk (one_named m e s l ks h)
  have b : ((n' : Int) != (n : Int)) = true := by simp; omega
  clear h hn hn'
  go_enter Tryz.func145, Tryz.ntmps145
  go_wp2
  go_ret
  exact ⟨by rw [HE.out]; rfl, by first | exact al2 _ _ _ | exact st1 (st1 (al2 _ _ _) _ _ _ (by omega)) _ _ _ (by omega)⟩
set_option maxRecDepth 100000 in
set_option maxHeartbeats 4000000 in
theorem ref3_one_ok (k m e : Int) (s : ByteArray) (l : List JV) (ks : List ByteArray) (A : Option Addr) (n c : Nat) (A' : Option Addr) (n' c' : Nat) (h0 : 0 ≤ k) (h6 : k ≤ 6) (hn : n = l.length) (hn' : n' = ks.length) (hkn : k = 6 → ks.length = l.length)
    (hm : I64 m) (hs : s.size ≤ 140737488351232) (hnc : n ≤ 140737488351232) (w : World) (hK : StrsAt w w.heap.size A' c' ks) :
    Calls Tryz.prog 145 #[.agg #[.int .i64 k, .int .i64 m, .int .i64 e, .string s, .slice A n c, .slice A' n' c']] w fun r w' => r = .returned (.bool (okOne (.mk k m e s l ks))) ∧ Below w.heap.size w w' := by
  have hkl := hK.le
  have hkc := hK.cap
  have HKN := Keep.mk hkn
  have HN := Keep.mk hn
  have HN' := Keep.mk hn'
  have HK2 : Keep (k = 6 → n' = n) := ⟨fun h => by have := hkn h; omega⟩
  rw [← hn'] at hkl
  clear hn hn' hkn
  go_enter Tryz.func145, Tryz.ntmps145
  go_upto_block 0 with fail
  refine wp_world (fun W => Box W (w.heap.size + 1) (cells6 k 0 0 ⟨#[]⟩ none 0 0 none 0 0) ∧ Box W w.heap.size (cells6 k m e s A n c A' n' c') ∧ StrsAt W w.heap.size A' c' ks ∧ Below w.heap.size w W) ⟨Box.new (cells6 k 0 0 ⟨#[]⟩ none 0 0 none 0 0) _ (by simp), box_new6 .. |>.alloc _, hK.below (al2 _ _ _) (Nat.le_refl _), al2 _ _ _⟩ ?_
  clear hK
  rintro W0 ⟨Hp, Hx, HK, HB⟩
  replace Hp := Keep.mk Hp
  replace Hx := Keep.mk Hx
  replace HK := Keep.mk HK
  replace HB := Keep.mk HB
  go_cut [] (fun wx => ∃ (pm pe : Int) (ps : ByteArray) (Ap : Option Addr) (q cp : Nat) (Ap' : Option Addr) (q' cp' : Nat), Keep (PlainOf k m e s n n' pm pe ps q q') ∧ q ≤ n ∧ q' ≤ n' ∧ Keep (Box wx (w.heap.size + 1) (cells6 k pm pe ps Ap q cp Ap' q' cp')) ∧ Keep (Box wx w.heap.size (cells6 k m e s A n c A' n' c')) ∧ Keep (StrsAt wx w.heap.size A' c' ks) ∧ Keep (Below w.heap.size w wx))
  case first =>
    have x1 := Hx.out.cell 1 _ rfl
    have x2 := Hx.out.cell 2 _ rfl
    have x3 := Hx.out.cell 3 _ rfl
    have x4 := Hx.out.cell 4 _ rfl
    have x5 := Hx.out.cell 5 _ rfl
    have p1 := Hp.out.cell 1 _ rfl
    have p2 := Hp.out.cell 2 _ rfl
    have p3 := Hp.out.cell 3 _ rfl
    have p4 := Hp.out.cell 4 _ rfl
    have p5 := Hp.out.cell 5 _ rfl
    have q1 := Hp.out.froz 1
    have q2 := Hp.out.froz 2
    have q3 := Hp.out.froz 3
    have q4 := Hp.out.froz 4
    have q5 := Hp.out.froz 5
    have hk7 : k = 0 ∨ k = 1 ∨ k = 2 ∨ k = 3 ∨ k = 4 ∨ k = 5 ∨ k = 6 := by omega
    rcases hk7 with rfl | rfl | rfl | rfl | rfl | rfl | rfl
    · go_wp2_with fail
      go_meet
      exact ⟨0, 0, ⟨#[]⟩, none, 0, 0, none, 0, 0, ⟨⟨rfl, rfl⟩, rfl, rfl, rfl⟩, by omega, by omega, Hp, Hx, HK, HB⟩
    · go_wp2_with fail
      go_meet
      exact ⟨0, 0, ⟨#[]⟩, none, 0, 0, none, 0, 0, ⟨⟨rfl, rfl⟩, rfl, rfl, rfl⟩, by omega, by omega, Hp, Hx, HK, HB⟩
    · go_wp2_with fail
      go_meet
      exact ⟨0, 0, ⟨#[]⟩, none, 0, 0, none, 0, 0, ⟨⟨rfl, rfl⟩, rfl, rfl, rfl⟩, by omega, by omega, Hp, Hx, HK, HB⟩
    · go_wp2_with fail
      go_meet
      exact ⟨m, e, ⟨#[]⟩, none, 0, 0, none, 0, 0, ⟨⟨rfl, rfl⟩, rfl, rfl, rfl⟩, by omega, by omega, ⟨(Hp.out.set (by simp [cells6]) _).set (by simp [cells6]) _⟩, ⟨(Hx.out.other (by omega) _).other (by omega) _⟩, ⟨(HK.out.below (below_set (by omega) _) (Nat.le_refl _)).below (below_set (by omega) _) (Nat.le_refl _)⟩, ⟨st1 (st1 HB.out _ _ _ (by omega)) _ _ _ (by omega)⟩⟩
    · go_wp2_with fail
      go_meet
      exact ⟨0, 0, s, none, 0, 0, none, 0, 0, ⟨⟨rfl, rfl⟩, rfl, rfl, rfl⟩, by omega, by omega, ⟨Hp.out.set (by simp [cells6]) _⟩, ⟨Hx.out.other (by omega) _⟩, ⟨HK.out.below (below_set (by omega) _) (Nat.le_refl _)⟩, ⟨st1 HB.out _ _ _ (by omega)⟩⟩
    · go_wp2_with fail
      go_meet
      exact ⟨0, 0, ⟨#[]⟩, A, n, c, none, 0, 0, ⟨⟨rfl, rfl⟩, rfl, rfl, rfl⟩, by omega, by omega, ⟨Hp.out.set (by simp [cells6]) _⟩, ⟨Hx.out.other (by omega) _⟩, ⟨HK.out.below (below_set (by omega) _) (Nat.le_refl _)⟩, ⟨st1 HB.out _ _ _ (by omega)⟩⟩
    · have hb6 : ((n' : Int) != (n : Int)) = false := by have := HK2.out rfl; simp; omega
      go_wp2_with fail
      go_meet
      exact ⟨0, 0, ⟨#[]⟩, A, n, c, A', n', c', ⟨⟨rfl, rfl⟩, rfl, rfl, rfl⟩, by omega, by omega, ⟨(Hp.out.set (by simp [cells6]) _).set (by simp [cells6]) _⟩, ⟨(Hx.out.other (by omega) _).other (by omega) _⟩, ⟨(HK.out.below (below_set (by omega) _) (Nat.le_refl _)).below (below_set (by omega) _) (Nat.le_refl _)⟩, ⟨st1 (st1 HB.out _ _ _ (by omega)) _ _ _ (by omega)⟩⟩
  case rest =>
    clear Hp Hx HK HB
    obtain ⟨pm, pe, ps, Ap, q, cp, Ap', q', cp', HP, hq, hq', Hp, Hx, HK, HB⟩ := hcut
    go_upto_block 1 with fail
    go_cut [] (fun wx => Keep (riseK ks = true) ∧ Keep (Box wx (w.heap.size + 1) (cells6 k pm pe ps Ap q cp Ap' q' cp')) ∧ Keep (Box wx w.heap.size (cells6 k m e s A n c A' n' c')) ∧ Keep (Below w.heap.size w wx))
    case first =>
      go_wp2_with fail
      go_loopg [4] n' (fun gk i wr => ∃ j : Nat, j + gk = n' ∧ i = .int .i64 j ∧ Keep (∀ x, x < j → keyOk ks x = true) ∧ Keep (Box wr (w.heap.size + 1) (cells6 k pm pe ps Ap q cp Ap' q' cp')) ∧ Keep (Box wr w.heap.size (cells6 k m e s A n c A' n' c')) ∧ Keep (StrsAt wr w.heap.size A' c' ks) ∧ Keep (Below w.heap.size w wr))
      case atStart => exact ⟨0, by omega, rfl, ⟨by omega⟩, Hp, Hx, HK, HB⟩
      case round =>
        clear Hp Hx HK HB
        obtain ⟨j, hj, rfl, HO, Hp, Hx, HK, HB⟩ := hrel
        have x5 := Hx.out.cell 5 _ rfl
        have xl := Hx.out.lt
        by_cases hlt : j < n'
        · have hgk : gk ≠ 0 := by omega
          have hjk : j < ks.length := by have := HN'.out; omega
          obtain ⟨g, o, rfl, hg, hc⟩ := HK.out.at_ (by omega)
          have hwl := HB.out.size
          have hg2 : g < wr.heap.size := by omega
          have cj := hc j hjk
          have hsz := HK.out.small _ (List.getElem_mem hjk)
          have HKO := Keep.mk (show keyOk ks j = (Lib.validD (ks[j]).data.toList && (decide (j = 0) || Op.bytesLess (ks.getD (j - 1) ⟨#[]⟩).data.toList (ks[j]).data.toList)) by
            unfold keyOk; rw [List.getD_eq_getElem?_getD, List.getElem?_eq_getElem hjk]; rfl)
          have HC := Keep.mk (fun w => ref2_Right ks[j] (by omega) w)
          have HBAD := Keep.mk (fun h : keyOk ks j = false => show okOne (.mk k m e s l ks) = false by
            have h2 := HP.out
            rw [HN.out, HN'.out] at h2
            rw [one_val h2 h0 h6 HKN.out]
            have : riseK ks = false := by
              cases hr : riseK ks
              · rfl
              · have := (rise_iff ks).1 hr j hjk; rw [h] at this; cases this
            rw [this]; rfl)
          have HOK := Keep.mk (fun h : keyOk ks j = true => show ∀ x, x < j + 1 → keyOk ks x = true by
            intro x hx
            by_cases hxj : x < j
            · exact HO.out x hxj
            · obtain rfl : x = j := by omega
              exact h)
          rcases Nat.eq_zero_or_pos j with rfl | hj0
          · have cj0 : wr.cell? ⟨g, o, none⟩ = some (.string ks[0]) := cj
            clear hc cj
            rw [decide_eq_true rfl, Bool.true_or, Bool.and_true] at HKO
            generalize ks[0] = kb at *
            cases hv : Lib.validD kb.data.toList
            · have HF := Keep.mk (HBAD.out (by rw [HKO.out, hv]))
              rw [hv] at HC
              go_wp2_with fail
              refine wp_region_above (by kernel_rfl) (by kernel_rfl) ?_
              repeat (go_big_quiet_step ((go_at_call 134; exact calls_above (HC.out _))))
              refine wpQuiet_nil ?_
              rintro _ ⟨y, rfl⟩
              go_wp2
              go_ret
              exact ⟨by rw [HF.out]; rfl, up HB.out y.property⟩
            · have HF := Keep.mk (HOK.out (by rw [HKO.out, hv]))
              rw [hv] at HC
              go_wp2_with fail
              refine wp_region_above (by kernel_rfl) (by kernel_rfl) ?_
              repeat (go_big_quiet_step ((go_at_call 134; exact calls_above (HC.out _))))
              refine wpQuiet_nil ?_
              rintro _ ⟨y, rfl⟩
              go_wp2
              go_roundg (gk - 1)
              case rel => exact ⟨1, by omega, by go_num, HF, ⟨Hp.out.below y.property Hp.out.lt⟩, ⟨Hx.out.below y.property Hx.out.lt⟩, ⟨HK.out.below y.property HB.out.size⟩, ⟨up HB.out y.property⟩⟩
              case measure => omega
          · have hj1 : j - 1 < ks.length := by omega
            have cj1 := hc (j - 1) hj1
            rw [decide_eq_false (by omega), Bool.false_or, List.getD_eq_getElem?_getD, List.getElem?_eq_getElem hj1] at HKO
            obtain ⟨kp, hkp⟩ : ∃ b, ks[j - 1] = b := ⟨_, rfl⟩
            rw [hkp] at cj1 HKO
            simp only [Option.getD_some] at HKO
            obtain ⟨i, hi⟩ : ∃ i : Nat, (j : Int) - 1 = i := ⟨j - 1, by omega⟩
            have hie : j - 1 = i := by omega
            rw [hie] at cj1
            have hin : i < n' := by omega
            have wi : IntKind.i64.wrap (i : Int) = i := IntWalk.i64_in _ (by omega)
            have wj : IntKind.i64.wrap ((j : Int) - 1) = i := by rw [hi]; exact wi
            have hj0' : (0 : Int) < j := by omega
            clear hc hie hkp hj1
            rw [← ba_list kp, ← ba_list ks[j]] at HKO
            generalize ks[j] = kb at *
            cases hv : Lib.validD kb.toList
            · have HF := Keep.mk (HBAD.out (by rw [HKO.out, hv]; rfl))
              rw [← ba_list kb, hv] at HC
              go_wp2_with fail
              refine wp_region_above (by kernel_rfl) (by kernel_rfl) ?_
              repeat (go_big_quiet_step ((go_at_call 134; exact calls_above (HC.out _))))
              refine wpQuiet_nil ?_
              rintro _ ⟨y, rfl⟩
              go_wp2
              go_ret
              exact ⟨by rw [HF.out]; rfl, up HB.out y.property⟩
            · cases hw : Op.bytesLess kp.toList kb.toList
              · have HF := Keep.mk (HBAD.out (by rw [HKO.out, hv, hw]; rfl))
                rw [← ba_list kb, hv] at HC
                go_wp2_with fail
                refine wp_region_above (by kernel_rfl) (by kernel_rfl) ?_
                repeat (go_big_quiet_step ((go_at_call 134; exact calls_above (HC.out _))))
                refine wpQuiet_nil ?_
                rintro _ ⟨y, rfl⟩
                go_wp2
                go_ret
                exact ⟨by rw [HF.out]; rfl, up HB.out y.property⟩
              · have HF := Keep.mk (HOK.out (by rw [HKO.out, hv, hw]; rfl))
                rw [← ba_list kb, hv] at HC
                go_wp2_with fail
                refine wp_region_above (by kernel_rfl) (by kernel_rfl) ?_
                repeat (go_big_quiet_step ((go_at_call 134; exact calls_above (HC.out _))))
                refine wpQuiet_nil ?_
                rintro _ ⟨y, rfl⟩
                go_wp2
                go_roundg (gk - 1)
                case rel => exact ⟨j + 1, by omega, by go_num, HF, ⟨Hp.out.below y.property Hp.out.lt⟩, ⟨Hx.out.below y.property Hx.out.lt⟩, ⟨HK.out.below y.property HB.out.size⟩, ⟨up HB.out y.property⟩⟩
                case measure => omega
        · have HR := Keep.mk (show riseK ks = true from (rise_iff ks).2 fun x hx => HO.out x (by have := HN'.out; omega))
          go_wp2_with fail
          go_meet
          exact ⟨HR, Hp, Hx, HB⟩
    case rest =>
      clear Hp Hx HK HB
      obtain ⟨HR, Hp, Hx, HB⟩ := hcut
      have HE := Keep.mk (show okOne (.mk k m e s l ks) = ((pm == m && pe == e) && (ps.toList == s.toList) && ((q : Int) == n) && ((q' : Int) == n') && right m e && Lib.validD s.data.toList) by
        have h := HP.out
        rw [HN.out, HN'.out] at h
        rw [one_val h h0 h6 HKN.out, HR.out, HN.out, HN'.out, Bool.true_and]
        congr 1; congr 1; congr 1
        · congr 1
          rw [Bool.eq_iff_iff, decide_eq_true_eq, beq_iff_eq]; omega
        · rw [Bool.eq_iff_iff, decide_eq_true_eq, beq_iff_eq]; omega)
      clear HR HP
      have x1 := Hx.out.cell 1 _ rfl
      have x2 := Hx.out.cell 2 _ rfl
      have x3 := Hx.out.cell 3 _ rfl
      have x4 := Hx.out.cell 4 _ rfl
      have x5 := Hx.out.cell 5 _ rfl
      have p1 := Hp.out.cell 1 _ rfl
      have p2 := Hp.out.cell 2 _ rfl
      have p3 := Hp.out.cell 3 _ rfl
      have p4 := Hp.out.cell 4 _ rfl
      have p5 := Hp.out.cell 5 _ rfl
      cases hb1 : (pm == m && pe == e)
      · rw [hb1] at HE
        go_wp2
        go_ret
        exact ⟨by rw [HE.out]; rfl, HB.out⟩
      · cases hb2 : (ps.toList == s.toList)
        · rw [hb1, hb2] at HE
          go_wp2
          go_ret
          exact ⟨by rw [HE.out]; rfl, HB.out⟩
        · cases hb3 : ((q : Int) == n)
          · rw [hb1, hb2, hb3] at HE
            go_wp2
            go_ret
            exact ⟨by rw [HE.out]; rfl, HB.out⟩
          · cases hb4 : ((q' : Int) == n')
            · rw [hb1, hb2, hb3, hb4] at HE
              go_wp2
              go_ret
              exact ⟨by rw [HE.out]; rfl, HB.out⟩
            · rw [hb1, hb2, hb3, hb4] at HE
              go_wp2_with fail
              refine (ref_Right m e hm _).mono ?_
              cases hb5 : right m e
              · rw [hb5] at HE
                rintro r w1 ⟨rfl, hb⟩
                go_wp2
                go_ret
                exact ⟨by rw [HE.out]; rfl, up HB.out hb⟩
              · rw [hb5] at HE
                rintro r w1 ⟨rfl, hb⟩
                replace Hx := Keep.mk (Hx.out.below hb Hx.out.lt)
                clear x1 x2 x3 x4 x5 p1 p2 p3 p4 p5
                have x3 := Hx.out.cell 3 _ rfl
                go_wp2_with fail
                refine (ref2_Right s (by omega) _).mono ?_
                rintro r w2 ⟨rfl, hb2⟩
                go_wp2
                go_ret
                exact ⟨by rw [HE.out]; rfl, up (up HB.out hb) hb2⟩
end Go.Proofs.YtnkokhpadcgfbaaGreatDoor
namespace Go.Proofs.YtnkokhpadcgfbaaGreatDoor
open Go Go.RowKit Go.Proofs Th
attribute [local go_sem] Above.cell
theorem ref3_one {k m e : Int} {s : ByteArray} {l : List JV} {ks : List ByteArray} {w : World} {cs : List Value} (hJ : JAt w w.heap.size (.mk k m e s l ks) cs) :
    Calls Tryz.prog 145 #[.agg cs.toArray] w fun r w' => r = .returned (.bool (okOne (.mk k m e s l ks))) ∧ Below w.heap.size w w' := by
  obtain ⟨A, c, A', c', rfl, hk, hm, he, hs, hK, hV⟩ := hJ.open
  have hlc := hV.le
  have hcc := hV.cap
  show Calls _ _ #[.agg #[.int .i64 k, .int .i64 m, .int .i64 e, .string s, .slice A l.length c, .slice A' ks.length c']] w _
  by_cases h : k < 0 ∨ 6 < k
  · exact ref3_one_kind k m e s l ks A _ c A' _ c' h w
  · by_cases h2 : k = 6 ∧ ks.length ≠ l.length
    · obtain ⟨rfl, h2⟩ := h2
      exact ref3_one_named m e s l ks A _ c A' _ c' h2 rfl rfl w
    · exact ref3_one_ok k m e s l ks A _ c A' _ c' (by omega) (by omega) rfl rfl (fun h3 => Decidable.byContradiction fun h4 => h2 ⟨h3, h4⟩) hm hs (by omega) w hK
theorem allL_take (l : List JV) (k : Nat) (h : k < l.length) : allL (l.take (k + 1)) = (allL (l.take k) && allJ l[k]) := by
  have : ∀ a b : List JV, allL (a ++ b) = (allL a && allL b) := by
    intro a b
    induction a with
    | nil => simp [allL]
    | cons x a ih => simp only [List.cons_append, allL, ih, Bool.and_assoc]
  rw [List.take_succ_eq_append_getElem h, this]
  simp [allL]
theorem allL_false (l : List JV) (k : Nat) (h : k < l.length) (hf : allJ l[k] = false) : allL l = false := by
  have : ∀ a b : List JV, allL (a ++ b) = (allL a && allL b) := by
    intro a b
    induction a with
    | nil => simp [allL]
    | cons x a ih => simp only [List.cons_append, allL, ih, Bool.and_assoc]
  have h1 := this (l.take (k + 1)) (l.drop (k + 1))
  rw [List.take_append_drop, allL_take l k h, hf, Bool.and_false, Bool.false_and] at h1
  exact h1
set_option maxRecDepth 100000 in
theorem ref3_allD : ∀ (n : Nat) (t : JV), countJ t ≤ n → ∀ (w : World) (cs : List Value), JAt w w.heap.size t cs →
    Calls Tryz.prog 92 #[.agg cs.toArray] w fun r w' => r = .returned (.bool (allJ t)) ∧ Below w.heap.size w w' := by
  intro n
  induction n with
  | zero => intro t h; cases t; unfold countJ at h; omega
  | succ n ih =>
    intro t hn w cs hJ
    cases t with
    | mk k m e s l ks =>
      have HJ := Keep.mk hJ
      obtain ⟨A, c, A', c', rfl, hk, hm, he, hs, hK, hV⟩ := hJ.open
      show Calls _ _ #[.agg #[.int .i64 k, .int .i64 m, .int .i64 e, .string s, .slice A l.length c, .slice A' ks.length c']] w _
      have hcn := countL_get l
      have hcl : countL l ≤ n := by have : 1 + countL l ≤ n + 1 := hn; omega
      have HD := Keep.mk (show allJ (.mk k m e s l ks) = (okOne (.mk k m e s l ks) && allL l) from rfl)
      have hlc := hV.le
      have hcc := hV.cap
      go_enter Tryz.func92, Tryz.ntmps92
      go_upto_block 0 with fail
      refine wp_world (fun W => Box W w.heap.size (cells6 k m e s A l.length c A' ks.length c') ∧ ValsAt W w.heap.size A c l ∧ Below w.heap.size w W) ⟨box_new6 .., hV.below (al1 _ _) (Nat.le_refl _), al1 _ _⟩ ?_
      rintro W0 ⟨HX, HV, HB⟩
      replace HX := Keep.mk HX
      replace HV := Keep.mk HV
      replace HB := Keep.mk HB
      clear hJ hV
      go_wp2_with fail
      go_loopg [3] l.length (fun gk i wr => ∃ (j : Nat), j + gk = l.length ∧ i = .int .i64 j ∧ Keep (allL (l.take j) = true) ∧ Keep (Box wr w.heap.size (cells6 k m e s A l.length c A' ks.length c')) ∧ Keep (ValsAt wr w.heap.size A c l) ∧ Keep (Below w.heap.size w wr))
      case atStart => exact ⟨0, by omega, rfl, ⟨rfl⟩, HX, HV, HB⟩
      case round =>
        clear HX HV HB
        obtain ⟨j, hj, rfl, HA, HX, HV, HB⟩ := hrel
        have x4 := HX.out.cell 4 _ rfl
        have xl := HX.out.lt
        by_cases hlt : j < l.length
        · have hgk : gk ≠ 0 := by omega
          have HS := Keep.mk (allL_take l j hlt)
          have HF := Keep.mk (allL_false l j hlt)
          have hcj := hcn j hlt
          obtain ⟨g, o, k1, m1, e1, s1, A1, n1, c1, A2, n2, c2, rfl, hg, hJj, y0, y1, y2, y3, y4, y5⟩ := HV.out.elem j hlt
          have HC := Keep.mk (ih l[j] (by omega) wr _ (hJj.more HB.out.size))
          clear hJj
          cases hb : allJ l[j]
          · have HE := Keep.mk (show allJ (.mk k m e s l ks) = false by rw [HD.out, HF.out hb, Bool.and_false])
            rw [hb] at HC
            clear hb
            go_wp2_with fail
            refine (HC.out).mono ?_
            rintro r w1 ⟨rfl, hb1⟩
            go_wp2
            go_ret
            exact ⟨by rw [HE.out]; rfl, up HB.out hb1⟩
          · have HE := Keep.mk (show allL (l.take (j + 1)) = true by rw [HS.out, HA.out, hb]; rfl)
            rw [hb] at HC
            clear hb
            go_wp2_with fail
            refine (HC.out).mono ?_
            rintro r w1 ⟨rfl, hb1⟩
            go_wp2
            go_roundg (gk - 1)
            case rel => exact ⟨j + 1, by omega, by go_num, HE, ⟨HX.out.below hb1 xl⟩, ⟨HV.out.below hb1 HB.out.size⟩, ⟨up HB.out hb1⟩⟩
            case measure => omega
        · have HE := Keep.mk (show allL l = true by have := HA.out; rw [List.take_of_length_le (by omega)] at this; exact this)
          have x0 := HX.out.cell 0 _ rfl
          have x1 := HX.out.cell 1 _ rfl
          have x2 := HX.out.cell 2 _ rfl
          have x3 := HX.out.cell 3 _ rfl
          have x5 := HX.out.cell 5 _ rfl
          go_wp2_with fail
          refine (ref3_one ((HJ.out.keep HB.out (Nat.le_refl _)).more HB.out.size)).mono ?_
          rintro r w1 ⟨rfl, hb1⟩
          go_wp2
          go_ret
          exact ⟨by rw [HD.out, HE.out, Bool.and_true]; rfl, up HB.out hb1⟩
set_option maxRecDepth 100000 in
theorem ref3_RightD (t : JV) (hn : depthJ t ≤ 1000000) (w : World) (cs : List Value) (hJ : JAt w w.heap.size t cs) :
    Calls Tryz.prog 46 #[.agg cs.toArray] w fun r w' => r = .returned (.int .i64 (rightJ t)) ∧ Below w.heap.size w w' := by
  have HJ := Keep.mk hJ
  have HR := Keep.mk (show rightJ t = if 48 < depthJ t then 31 else if allJ t then 0 else 30 from rfl)
  have hdc := hn
  have HC := Keep.mk (ref3_DepthD _ t (Nat.le_refl _) hn)
  have HA := Keep.mk (ref3_allD _ t (Nat.le_refl _))
  generalize depthJ t = d at *
  generalize allJ t = b at *
  generalize rightJ t = rr at *
  cases t with
  | mk k m e s l ks =>
    obtain ⟨A, c, A', c', rfl, hk, hm, he, hs, hK, hV⟩ := hJ.open
    show Calls _ _ #[.agg #[.int .i64 k, .int .i64 m, .int .i64 e, .string s, .slice A l.length c, .slice A' ks.length c']] w _
    clear hJ hV hK
    go_enter Tryz.func46, Tryz.ntmps46
    go_wp2_with fail
    refine calls_world (fun W => Box W w.heap.size (cells6 k m e s A l.length c A' ks.length c') ∧ JAt W W.heap.size (.mk k m e s l ks) (cells6 k m e s A l.length c A' ks.length c') ∧ Below w.heap.size w W) ⟨box_new6 .., (HJ.out.keep (al1 _ _) (Nat.le_refl _)).more (al1 _ _).size, al1 _ _⟩ ?_
    clear HJ
    rintro W0 ⟨HX, HJ, HB⟩
    replace HX := Keep.mk HX
    replace HJ := Keep.mk HJ
    replace HB := Keep.mk HB
    refine (HC.out _ _ HJ.out).mono ?_
    rintro r w1 ⟨rfl, hb1⟩
    replace HX := Keep.mk (HX.out.below hb1 HX.out.lt)
    replace HJ := Keep.mk ((HJ.out.keep hb1 (Nat.le_refl _)).more hb1.size)
    replace HB := Keep.mk (up HB.out hb1)
    clear hb1
    by_cases hd : 48 < d
    · have HE := Keep.mk (show rr = 31 by rw [HR.out, if_pos hd])
      have hd2 : (48 : Int) < d := by omega
      clear HR
      go_wp2
      go_ret
      exact ⟨by rw [HE.out]; rfl, HB.out⟩
    · have hd2 : ¬ (48 : Int) < d := by omega
      have x0 := HX.out.cell 0 _ rfl
      have x1 := HX.out.cell 1 _ rfl
      have x2 := HX.out.cell 2 _ rfl
      have x3 := HX.out.cell 3 _ rfl
      have x4 := HX.out.cell 4 _ rfl
      have x5 := HX.out.cell 5 _ rfl
      go_wp2_with fail
      refine (HA.out _ _ HJ.out).mono ?_
      cases b
      · have HE := Keep.mk (show rr = 30 by rw [HR.out, if_neg hd]; rfl)
        clear HR
        rintro r w2 ⟨rfl, hb2⟩
        go_wp2
        go_ret
        exact ⟨by rw [HE.out]; rfl, up HB.out hb2⟩
      · have HE := Keep.mk (show rr = 0 by rw [HR.out, if_neg hd]; rfl)
        clear HR
        rintro r w2 ⟨rfl, hb2⟩
        go_wp2
        go_ret
        exact ⟨by rw [HE.out]; rfl, up HB.out hb2⟩
theorem ref3_Right (t : JV) (hn : countJ t ≤ 1000000) (w : World) (cs : List Value) (hJ : JAt w w.heap.size t cs) :
    Calls Tryz.prog 46 #[.agg cs.toArray] w fun r w' => r = .returned (.int .i64 (rightJ t)) ∧ Below w.heap.size w w' :=
  ref3_RightD t (by have := depth_count t; omega) w cs hJ
end Go.Proofs.YtnkokhpadcgfbaaGreatDoor
namespace Go.Proofs.YtnkokhpadcgfbaaGreatDoor
open Go Go.RowKit Go.Proofs Th
attribute [local go_sem] Above.cell
theorem keysN_take (ks : List ByteArray) (j : Nat) (h : j < ks.length) : keysN (ks.take (j + 1)) = keysN (ks.take j) + 1 + ks[j].size := by
  have : ∀ a b : List ByteArray, keysN (a ++ b) = keysN a + keysN b := by
    intro a b
    induction a with
    | nil => simp [keysN]
    | cons x a ih => simp only [List.cons_append, keysN, ih]; omega
  rw [List.take_succ_eq_append_getElem h, this]
  simp only [keysN]; omega
theorem sizeL_take (l : List JV) (j : Nat) (h : j < l.length) : sizeL (l.take (j + 1)) = sizeL (l.take j) + sizeJ l[j] := by
  have : ∀ a b : List JV, sizeL (a ++ b) = sizeL a + sizeL b := by
    intro a b
    induction a with
    | nil => simp [sizeL]
    | cons x a ih => simp only [List.cons_append, sizeL, ih]; omega
  rw [List.take_succ_eq_append_getElem h, this]
  simp only [sizeL]; omega
set_option maxRecDepth 100000 in
set_option maxHeartbeats 4000000 in
theorem ref3_Bulk : ∀ (n : Nat) (t : JV), countJ t ≤ n → ∀ (most : Nat), most ≤ 1000000 → ∀ (w : World) (cs : List Value), JAt w w.heap.size t cs →
    Calls Tryz.prog 18 #[.agg cs.toArray, .int .i64 most] w fun r w' => ∃ b : Nat, r = .returned (.int .i64 b) ∧ (b ≤ most → b = sizeJ t) ∧ b ≤ most + 140737488351252 ∧ Below w.heap.size w w' := by
  intro n
  induction n with
  | zero => intro t h; cases t; unfold countJ at h; omega
  | succ n ih =>
    intro t hn most hmost w cs hJ
    cases t with
    | mk k m e s l ks =>
      obtain ⟨A, c, A', c', rfl, hk, hm, he, hs, hK, hV⟩ := hJ.open
      show Calls _ _ #[.agg #[.int .i64 k, .int .i64 m, .int .i64 e, .string s, .slice A l.length c, .slice A' ks.length c'], _] w _
      have hcn := countL_get l
      have hcl : countL l ≤ n := by have : 1 + countL l ≤ n + 1 := hn; omega
      have HD := Keep.mk (show sizeJ (.mk k m e s l ks) = 1 + s.size + keysN ks + sizeL l from rfl)
      have hlc := hV.le
      have hcc := hV.cap
      have hkl := hK.le
      have hkc := hK.cap
      by_cases hkm : most < ks.length
      · have hkm2 : (most : Int) < ks.length := by omega
        go_enter Tryz.func18, Tryz.ntmps18
        go_wp2
        go_ret
        exact ⟨most + 1, by rfl, by omega, by omega, al1 _ _⟩
      · have hkm2 : ¬ (most : Int) < ks.length := by omega
        go_enter Tryz.func18, Tryz.ntmps18
        go_upto_block 0 with fail
        refine wp_world (fun W => Box W w.heap.size (cells6 k m e s A l.length c A' ks.length c') ∧ ValsAt W w.heap.size A c l ∧ StrsAt W w.heap.size A' c' ks ∧ Below w.heap.size w W) ⟨box_new6 .., hV.below (al1 _ _) (Nat.le_refl _), hK.below (al1 _ _) (Nat.le_refl _), al1 _ _⟩ ?_
        rintro W0 ⟨HX, HV, HK, HB⟩
        replace HX := Keep.mk HX
        replace HV := Keep.mk HV
        replace HK := Keep.mk HK
        replace HB := Keep.mk HB
        clear hJ hV hK
        have x5 := HX.out.cell 5 _ rfl
        have x4 := HX.out.cell 4 _ rfl
        have xl := HX.out.lt
        go_cut [5] (fun s5 wx => ∃ b : Nat, s5 = .int .i64 b ∧ b ≤ most + 140737488351252 ∧ Keep (b ≤ most → b = 1 + s.size + keysN ks) ∧ W0 = wx)
        case first =>
          go_wp2_with fail
          go_loop [5, 6] (fun b i => ∃ j b' : Nat, i = .int .i64 j ∧ j ≤ ks.length ∧ b = .int .i64 b' ∧ b' ≤ most + 140737488351252 ∧ Keep (b' = 1 + s.size + keysN (ks.take j))) (fun _ i => ks.length - (intOf i).toNat)
          case atStart => exact ⟨0, 1 + s.size, rfl, by omega, by go_num, by omega, ⟨by rw [List.take_zero]; simp [keysN]⟩⟩
          case round =>
            obtain ⟨j, b', rfl, hj, rfl, hb, HE⟩ := hrel
            by_cases hlt : j < ks.length
            · by_cases hbm : b' ≤ most
              · obtain ⟨g, o, rfl, hg, hc⟩ := HK.out.at_ (by omega)
                have cj := hc j hlt
                have hsz := HK.out.small _ (List.getElem_mem hlt)
                have HS := Keep.mk (keysN_take ks j hlt)
                clear hc
                generalize ks[j] = kb at *
                go_wp2
                go_round
                case rel => exact ⟨j + 1, b' + 1 + kb.size, by go_num, by omega, by go_num, by omega, ⟨by rw [HS.out, HE.out]; omega⟩⟩
                case measure => simp [intOf]; omega
              · have hbm2 : ¬ (b' : Int) ≤ most := by omega
                go_wp2_with fail
                go_meet
                exact ⟨b', rfl, hb, ⟨fun h => absurd h hbm⟩, rfl⟩
            · go_wp2_with fail
              go_meet
              exact ⟨b', rfl, hb, ⟨fun _ => by have := HE.out; rw [List.take_of_length_le (by omega)] at this; exact this⟩, rfl⟩
        case rest =>
          obtain ⟨b0, rfl, hb0, HE0, rfl⟩ := hcut
          clear x4 x5 xl
          go_wp2_with fail
          go_loopg [5, 7] l.length (fun gk b i wr => ∃ j b' : Nat, j + gk = l.length ∧ i = .int .i64 j ∧ b = .int .i64 b' ∧ b' ≤ most + 140737488351252 ∧ Keep (b' ≤ most → b' = 1 + s.size + keysN ks + sizeL (l.take j)) ∧ Keep (Box wr w.heap.size (cells6 k m e s A l.length c A' ks.length c')) ∧ Keep (ValsAt wr w.heap.size A c l) ∧ Keep (Below w.heap.size w wr))
          case atStart => exact ⟨0, b0, by omega, rfl, rfl, hb0, ⟨fun h => by rw [List.take_zero]; have := HE0.out h; simp [sizeL]; exact this⟩, HX, HV, HB⟩
          case round =>
            clear HX HV HB HE0 hb0
            obtain ⟨j, b', hj, rfl, rfl, hb, HE, HX, HV, HB⟩ := hrel
            have x4 := HX.out.cell 4 _ rfl
            have xl := HX.out.lt
            by_cases hlt : j < l.length
            · by_cases hbm : b' ≤ most
              · have hgk : gk ≠ 0 := by omega
                have HS := Keep.mk (sizeL_take l j hlt)
                have hcj := hcn j hlt
                obtain ⟨g, o, k1, m1, e1, s1, A1, n1, c1, A2, n2, c2, rfl, hg, hJj, y0, y1, y2, y3, y4, y5⟩ := HV.out.elem j hlt
                obtain ⟨rm, hrm⟩ : ∃ x : Nat, (most : Int) - b' = x := ⟨most - b', by omega⟩
                have hrm2 : rm + b' = most := by omega
                have HC := Keep.mk (ih l[j] (by omega) rm (by omega) wr _ (hJj.more HB.out.size))
                clear hJj
                generalize sizeJ l[j] = z at *
                go_wp2_with fail
                refine (HC.out).mono ?_
                rintro r w1 ⟨b1, rfl, hb1, hb2, hbl⟩
                have HB1 := Keep.mk hb1
                clear hb1
                go_wp2
                go_roundg (gk - 1)
                case rel => exact ⟨j + 1, b' + b1, by omega, by go_num, by go_num, by omega, ⟨fun h => by have h1 := HE.out hbm; have h2 := HB1.out (by omega); rw [HS.out, h2]; omega⟩, ⟨HX.out.below hbl xl⟩, ⟨HV.out.below hbl HB.out.size⟩, ⟨up HB.out hbl⟩⟩
                case measure => omega
              · have hbm2 : ¬ (b' : Int) ≤ most := by omega
                go_wp2
                go_ret
                exact ⟨b', rfl, fun h => absurd h hbm, hb, HB.out⟩
            · go_wp2
              go_ret
              exact ⟨b', rfl, fun h => by rw [HD.out, HE.out h, List.take_of_length_le (by omega)], hb, HB.out⟩
end Go.Proofs.YtnkokhpadcgfbaaGreatDoor
