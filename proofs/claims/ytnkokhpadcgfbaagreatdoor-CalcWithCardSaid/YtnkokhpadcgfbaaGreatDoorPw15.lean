/- Lemmas and contracts for the laws CalcWith, part 15 of 50: RefLong. Conditions: those that each lemma names. -/
import Derived.Test.YtnkokhpadcgfbaaGreatDoorPw12
import Derived.Test.YtnkokhpadcgfbaaGreatDoorPw5
import Derived.Test.YtnkokhpadcgfbaaGreatDoorPw13
import Derived.Deep.CutBlock
import Derived.Deep.DeepCutAuto
namespace Go.Proofs.YtnkokhpadcgfbaaGreatDoor
open Go Go.RowKit Go.Proofs Th
structure Two (w wr : World) (neg : Bool) (A : Option Addr) (c : Nat) (ds : List Nat) (e : Int) : Prop where
  x : Box wr w.heap.size [.bool neg, .slice A ds.length c, .int .i64 e]
  r : Box wr (w.heap.size + 1) [.int .i64 0, .int .i64 0]
  ints : IntsAt wr w.heap.size A c ds
  old : Below w.heap.size w wr
theorem Two.start (neg : Bool) (A : Option Addr) (c : Nat) (ds : List Nat) (e : Int) (w : World) (hI : IntsAt w w.heap.size A c ds) (t t' : TypeId) :
    Two w ((w.alloc (.cells #[.bool neg, .slice A ds.length c, .int .i64 e] t)).alloc (.cells #[.int .i64 0, .int .i64 0] t')) neg A c ds e :=
  ⟨(Box.new [.bool neg, .slice A ds.length c, .int .i64 e] _ rfl).alloc _, Box.new [.int .i64 0, .int .i64 0] _ (by simp), hI.below (al2 w _ _) (Nat.le_refl _), al2 w _ _⟩
theorem Two.tail {w wr : World} {neg : Bool} {g o c : Nat} {d : Nat} {ds : List Nat} {e : Int} (h : Two w wr neg (some ⟨g, o, none⟩) c (d :: ds) e) :
    Two w (wr.setCell ⟨w.heap.size, 1, none⟩ (.slice (if c = 1 then some ⟨g, o, none⟩ else some ⟨g, o + 1, none⟩) ds.length (c - 1))) neg (if c = 1 then some ⟨g, o, none⟩ else some ⟨g, o + 1, none⟩) (c - 1) ds e :=
  ⟨h.x.set (by simp) _, h.r.other (by omega) _, h.ints.tail.set (Nat.le_refl _) _, st1 h.old _ _ _ (Nat.le_refl _)⟩
theorem Two.init {w wr : World} {neg : Bool} {A : Option Addr} {c : Nat} {rest : List Nat} {x : Nat} {e : Int} (h : Two w wr neg A c (rest ++ [x]) e) :
    Two w ((wr.setCell ⟨w.heap.size, 1, none⟩ (.slice A rest.length c)).setCell ⟨w.heap.size, 2, none⟩ (.int .i64 (e + 1))) neg A c rest (e + 1) := by
  have hi := h.ints.init rest.length (by simp)
  rw [List.take_left] at hi
  exact ⟨(h.x.set (by simp) _).set (by simp) _, (h.r.other (by omega) _).other (by omega) _, (hi.set (Nat.le_refl _) _).set (Nat.le_refl _) _, st1 (st1 h.old _ _ _ (Nat.le_refl _)) _ _ _ (Nat.le_refl _)⟩
structure Lead (w wr : World) (neg : Bool) (ds : List Nat) (e : Int) (A' : Option Addr) (c' : Nat) (ds' : List Nat) : Prop where
  two : Two w wr neg A' c' ds' e
  dig : Digs ds'
  len : ds'.length ≤ 1000000
  same : val ds' = val ds
structure Trail (w wr : World) (neg : Bool) (ds : List Nat) (e : Int) (A' : Option Addr) (c' : Nat) (ds' : List Nat) (e' : Int) : Prop where
  two : Two w wr neg A' c' ds' e'
  dig : Digs ds'
  len : ds'.length ≤ 1000000
  head : ds'.head? ≠ some 0
  e0 : -1000000000 ≤ e'
  e1 : e' + ds'.length ≤ 1001000000
  same : norm neg (val ds') e' = norm neg (val ds) e
theorem snoc_of {ds : List Nat} (h : ds ≠ []) : ∃ t x, ds = t ++ [x] := ⟨ds.dropLast, ds.getLast h, (List.dropLast_concat_getLast h).symm⟩
set_option maxRecDepth 100000 in
set_option maxHeartbeats 1000000 in
theorem ref_short (neg : Bool) (A : Option Addr) (c : Nat) (ds : List Nat) (e : Int) (hd : Digs ds) (hl : ds.length ≤ 1000000) (e0 : -1000000000 ≤ e) (e1 : e ≤ 1000000000) (w : World) (hI : IntsAt w w.heap.size A c ds) :
    Calls Tryz.prog 148 #[.agg #[.bool neg, .slice A ds.length c, .int .i64 e]] w fun r w' => r = .returned (numRes (norm neg (val ds) e)) ∧ Below w.heap.size w w' := by
  have HS := Keep.mk (Two.start neg A c ds e w hI 162 23)
  clear hI
  go_enter Tryz.func148, Tryz.ntmps148
  go_upto_block 0 with fail
  go_cut [] (fun wx => ∃ (A' : Option Addr) (c' : Nat) (ds' : List Nat), Keep (Lead w wx neg ds e A' c' ds') ∧ Keep (ds'.head? ≠ some 0))
  case first =>
    go_wp2_with fail
    go_loopg [] ds.length (fun gk wr => ∃ (A' : Option Addr) (c' : Nat) (ds' : List Nat), Keep (ds'.length = gk) ∧ Keep (Lead w wr neg ds e A' c' ds'))
    case atStart => exact ⟨A, c, ds, ⟨rfl⟩, ⟨HS.out, hd, hl, rfl⟩⟩
    case round =>
      obtain ⟨A', c', ds', HK, HL⟩ := hrel
      have T := HL.out.two
      have x1 := T.x.cell 1 _ rfl
      have f1 := T.x.froz 1
      have lt0 := T.x.lt
      cases ds' with
      | nil =>
        clear T
        go_wp2_with fail
        go_meet
        exact ⟨A', c', [], HL, ⟨by simp⟩⟩
      | cons d t =>
        obtain ⟨g, o, rfl, hg, hc⟩ := T.ints.at_ (by simp)
        have hc0 := hc 0 (by simp)
        have hg2 := Nat.lt_of_lt_of_le hg T.old.size
        have hcap := T.ints.le
        have hcm := T.ints.cap
        unfold maxLen at hcm
        simp only [List.getElem_cons_zero, Nat.add_zero] at hc0
        simp only [List.length_cons] at x1 hcap
        clear hc
        obtain rfl : t.length + 1 = gk := HK.out
        clear HK
        have hl6 := HL.out.len
        simp only [List.length_cons] at hl6
        by_cases hd0 : d = 0
        · subst hd0
          have T2 := T.tail
          have HV := Keep.mk (show val t = val ds by rw [← HL.out.same, val_zero_cons])
          have HD := Keep.mk HL.out.dig.tail
          clear T
          by_cases hc1 : c' = 1
          · rw [if_pos hc1] at T2
            have HT2 := Keep.mk T2
            clear T2
            subst hc1
            have ht : t = [] := List.eq_nil_of_length_eq_zero (by omega)
            subst ht
            go_wp2_with fail
            go_roundg 0
            case rel => exact ⟨_, _, [], ⟨rfl⟩, ⟨HT2.out, HD.out, by simp, HV.out⟩⟩
            case measure => simp
          · rw [if_neg hc1] at T2
            have HT2 := Keep.mk T2
            clear T2
            go_wp2_with fail
            go_roundg t.length
            case rel => exact ⟨_, _, t, ⟨rfl⟩, ⟨HT2.out, HD.out, by omega, HV.out⟩⟩
            case measure => omega
        · have hdb : ((d : Int) == 0) = false := by simpa using hd0
          clear T
          have HD0 := Keep.mk hd0
          clear hd0
          go_wp2_with fail
          go_meet
          exact ⟨_, _, d :: t, HL, ⟨by simpa using HD0.out⟩⟩
  case rest =>
    obtain ⟨A1, c1, ds1, HL1, HH1⟩ := hcut
    go_upto_block 2 with fail
    go_cut [] (fun wx => ∃ (A' : Option Addr) (c' : Nat) (ds' : List Nat) (e' : Int), Keep (Trail w wx neg ds e A' c' ds' e') ∧ Keep (ds' ≠ [] → val ds' % 10 ≠ 0))
    case first =>
      go_wp2_with fail
      go_loopg [] ds1.length (fun gk wr => ∃ (A' : Option Addr) (c' : Nat) (ds' : List Nat) (e' : Int), Keep (ds'.length = gk) ∧ Keep (Trail w wr neg ds e A' c' ds' e'))
      case atStart =>
        have L := HL1.out
        exact ⟨A1, c1, ds1, e, ⟨rfl⟩, ⟨L.two, L.dig, L.len, HH1.out, e0, by have := L.len; omega, by rw [L.same]⟩⟩
      case round =>
        obtain ⟨A', c', ds', e', HK, HL⟩ := hrel
        have T := HL.out.two
        have x1 := T.x.cell 1 _ rfl
        have x2 := T.x.cell 2 _ rfl
        have f1 := T.x.froz 1
        have f2 := T.x.froz 2
        have lt0 := T.x.lt
        have g0 := HL.out.e0
        have g1 := HL.out.e1
        by_cases hn : ds' = []
        · subst hn
          clear T
          go_wp2_with fail
          go_meet
          exact ⟨A', c', [], e', HL, ⟨fun h => absurd rfl h⟩⟩
        · obtain ⟨t, x, rfl⟩ := snoc_of hn
          clear hn
          obtain ⟨g, o, rfl, hg, hc⟩ := T.ints.at_ (by simp)
          have hc0 := hc t.length (by simp)
          have hg2 := Nat.lt_of_lt_of_le hg T.old.size
          have hcap := T.ints.le
          have hcm := T.ints.cap
          unfold maxLen at hcm
          simp only [List.getElem_concat_length] at hc0
          simp only [List.length_append, List.length_cons, List.length_nil, Nat.zero_add] at x1 hcap g1
          clear hc
          obtain rfl : t.length + 1 = gk := by have := HK.out; simpa using this
          clear HK
          have hl6 := HL.out.len
          simp only [List.length_append, List.length_cons, List.length_nil, Nat.zero_add] at hl6
          by_cases hx0 : x = 0
          · subst hx0
            have HT2 := Keep.mk T.init
            have HV := Keep.mk (show norm neg (val t) (e' + 1) = norm neg (val ds) e by
              rw [← HL.out.same, val_snoc, ← norm_step]; simp)
            have HD := Keep.mk (show Digs t from fun d hd => HL.out.dig d (by simp [hd]))
            have HH := Keep.mk (show t.head? ≠ some 0 from fun h => HL.out.head (by cases t with | nil => cases h | cons a b => simpa using h))
            clear T
            go_wp2_with fail
            go_roundg t.length
            case rel => exact ⟨_, _, t, _, ⟨rfl⟩, ⟨HT2.out, HD.out, by omega, HH.out, by omega, by omega, HV.out⟩⟩
            case measure => omega
          · have hdb : ((x : Int) == 0) = false := by simpa using hx0
            have HE := Keep.mk (show val (t ++ [x]) % 10 ≠ 0 by
              have := HL.out.dig x (by simp)
              rw [val_snoc]; omega)
            clear T hx0
            go_wp2_with fail
            go_meet
            exact ⟨_, _, t ++ [x], e', HL, ⟨fun _ => HE.out⟩⟩
    case rest =>
      obtain ⟨A2, c2, ds2, e2, HL, HE⟩ := hcut
      have T := HL.out.two
      have x0 := T.x.cell 0 _ rfl
      have x1 := T.x.cell 1 _ rfl
      have x2 := T.x.cell 2 _ rfl
      have s0 := T.r.cell 0 _ rfl
      have s1 := T.r.cell 1 _ rfl
      have r0 := T.r.froz 0
      have r1 := T.r.froz 1
      have lt0 := T.x.lt
      have lt1 := T.r.lt
      have B := T.old
      cases ds2 with
      | nil =>
        have HR := Keep.mk (show norm neg (val ds) e = ((0, 0), 0) by rw [← HL.out.same]; rfl)
        clear T HL
        go_wp2_with fail
        refine bodyPost_ret (v := numRes ((0, 0), 0)) ?_ rfl ⟨num_res HR.out.symm, st1 (st1 B _ _ _ (by omega)) _ _ _ (by omega)⟩
        simp [numRes, results, Tryz.results148, go_sem, s0, s1]
      | cons d t =>
        have hcap := T.ints.le
        have hcm := T.ints.cap
        unfold maxLen at hcm
        have hd0 : d ≠ 0 := fun h => HL.out.head (by simp [h])
        have hsame := HL.out.same
        rcases short_cases neg (d :: t) e2 HL.out.dig d t rfl hd0 (HE.out (by simp)) with ⟨hlen, hr⟩ | ⟨hlen, hx, hr⟩ | ⟨hlen, h0, h1, hv, hr⟩
        · have HR := Keep.mk (hsame.symm.trans hr)
          have hlb : decide (18 < ((d :: t).length : Int)) = true := by simp only [decide_eq_true_eq]; omega
          clear hr hsame T HL hd0 HE
          generalize (d :: t).length = N at *
          go_wp2_with fail
          refine bodyPost_ret (v := numRes ((0, 0), 11)) ?_ rfl ⟨num_res HR.out.symm, st1 (st1 B _ _ _ (by omega)) _ _ _ (by omega)⟩
          simp [numRes, results, Tryz.results148, go_sem, s0, s1]
        · have HR := Keep.mk (hsame.symm.trans hr)
          clear hr hsame T HL HE
          have hlb : decide (18 < ((d :: t).length : Int)) = false := by simp only [decide_eq_false_iff_not]; omega
          have hn1 : ((d :: t).length : Int) ≤ 18 := by omega
          have hn0 : 1 ≤ ((d :: t).length : Int) := by simp only [List.length_cons]; omega
          generalize (d :: t).length = N at *
          rcases hx with hx | hx
          all_goals
            go_wp2_with fail
            refine bodyPost_ret (v := numRes ((0, 0), 11)) ?_ rfl ⟨num_res HR.out.symm, st1 (st1 B _ _ _ (by omega)) _ _ _ (by omega)⟩
            simp [numRes, results, Tryz.results148, go_sem, s0, s1]
        · have HR := Keep.mk (hsame.symm.trans hr)
          have hlb : decide (18 < ((d :: t).length : Int)) = false := by simp only [decide_eq_false_iff_not]; omega
          have hn1 : ((d :: t).length : Int) ≤ 18 := by omega
          have hn0 : 1 ≤ ((d :: t).length : Int) := by simp only [List.length_cons]; omega
          obtain ⟨g, o, rfl, hg, hc⟩ := T.ints.at_ (by simp)
          have hg2 := Nat.lt_of_lt_of_le hg T.old.size
          have HC := Keep.mk hc
          have HD := Keep.mk HL.out.dig
          clear hr hsame T HL hd0 HE hc
          generalize hds : d :: t = xs at *
          clear hds
          go_wp2_with fail
          go_loop [4, 5] (fun m i => ∃ k : Nat, k ≤ xs.length ∧ i = .int .i64 k ∧ m = .int .i64 (val (xs.take k))) (fun _ i => xs.length - (intOf i).toNat)
          case atStart => exact ⟨0, Nat.zero_le _, rfl, rfl⟩
          case round =>
            obtain ⟨k, hk, rfl, rfl⟩ := hrel
            have HB := Keep.mk (show val (xs.take k) < 1000000000000000000 by
              have h := val_lt _ (HD.out.take k)
              rw [List.length_take] at h
              have h2 : (10 : Nat) ^ (min k xs.length) ≤ 10 ^ 18 := Nat.pow_le_pow_right (by omega) (by omega)
              omega)
            by_cases hlt : k < xs.length
            · have hck := HC.out k hlt
              have HV := Keep.mk (show val (xs.take (k + 1)) = val (xs.take k) * 10 + xs[k] by rw [List.take_succ_eq_append_getElem hlt, val_snoc])
              have h9 := HD.out _ (List.getElem_mem hlt)
              have HW := Keep.mk (show val (xs.take k) < 100000000000000000 by
                have h := val_lt _ (HD.out.take k)
                rw [List.length_take] at h
                have h2 : (10 : Nat) ^ (min k xs.length) ≤ 10 ^ 17 := Nat.pow_le_pow_right (by omega) (by omega)
                omega)
              generalize xs[k] = y at *
              have hw := HW.out
              generalize val (xs.take k) = q at *
              go_wp2
              go_round
              case rel => exact ⟨k + 1, by omega, by go_num, by rw [HV.out]; go_num⟩
              case measure => simp [intOf]; omega
            · have HE := Keep.mk (show val (xs.take k) = val xs by rw [List.take_of_length_le (by omega)])
              have hb := HB.out
              generalize val (xs.take k) = q at *
              have hq := HE.out
              rw [← hq] at HR
              clear hq
              cases neg
              · have HR2 := Keep.mk (show norm false (val ds) e = (((q : Int), e2), 0) by have h := HR.out; rw [if_neg (by decide)] at h; exact h)
                clear HR
                go_wp2
                refine bodyPost_ret (v := numRes ((q, e2), 0)) ?_ rfl ⟨num_res HR2.out.symm, st1 (st1 B _ _ _ (by omega)) _ _ _ (by omega)⟩
                simp [numRes, results, Tryz.results148, go_sem, s0, s1]
              · have HR2 := Keep.mk (show norm true (val ds) e = ((-(q : Int), e2), 0) by have h := HR.out; rw [if_pos rfl] at h; exact h)
                clear HR
                go_wp2
                refine bodyPost_ret (v := numRes ((-q, e2), 0)) ?_ rfl ⟨num_res HR2.out.symm, st1 (st1 B _ _ _ (by omega)) _ _ _ (by omega)⟩
                simp [numRes, results, Tryz.results148, go_sem, s0, s1]
end Go.Proofs.YtnkokhpadcgfbaaGreatDoor
namespace Go.Proofs.YtnkokhpadcgfbaaGreatDoor
open Go Go.RowKit Go.Proofs Th
structure Lng (w wr : World) (neg : Bool) (n : Nat) (e : Int) (k : Nat) (v : Value) (xs : List Nat) : Prop where
  x : Box wr (w.heap.size + 2) [.bool neg, v, .int .i64 e]
  r : Box wr (w.heap.size + 1) [.bool false, .slice none 0 0, .int .i64 0]
  own : OwnInts wr (w.heap.size + 3) v xs
  same : digs n = digs k ++ xs
  old : Below w.heap.size w wr
  len : xs.length ≤ 20
theorem digs_len (n : Nat) (h : n ≤ 9223372036854775808) : (digs n).length ≤ 19 := length_digs_le n 19 (by omega)
theorem long_step {n k : Nat} {xs : List Nat} (hk : k ≠ 0) (hn : n ≤ 9223372036854775808) (h : digs n = digs k ++ xs) : digs n = digs (k / 10) ++ (k % 10 :: xs) ∧ xs.length + 1 ≤ 19 := by
  have h1 : digs n = digs (k / 10) ++ (k % 10 :: xs) := by rw [h, digs_pos k hk]; simp
  have h2 := digs_len n hn
  rw [h1] at h2
  simp at h2
  exact ⟨h1, by omega⟩
set_option maxRecDepth 100000 in
theorem ref_long_pos (m e : Int) (h0 : 0 ≤ m) (h1 : m ≤ 9223372036854775807) (w : World) :
    Calls Tryz.prog 147 #[.agg #[.int .i64 m, .int .i64 e]] w fun r w' => ∃ A c, r = .returned (longV false A c (digs m.natAbs) e) ∧ IntsAt w' w'.heap.size A c (digs m.natAbs) ∧ Below w.heap.size w w' := by
  obtain ⟨n, rfl⟩ := Int.eq_ofNat_of_zero_le h0
  have hn : n ≤ 9223372036854775808 := by omega
  rw [Int.natAbs_natCast]
  have hnb : decide ((n : Int) < 0) = false := by simp
  go_enter Tryz.func147, Tryz.ntmps147
  go_wp2_with fail
  go_loopg [4, 5] n (fun gk m d wr => ∃ (v : Value) (xs : List Nat), m = .int .i64 gk ∧ gk ≤ 9223372036854775807 ∧ Keep (Lng w wr false n e gk v xs))
  case atStart =>
    refine ⟨.slice none 0 0, [], rfl, by omega, ⟨?_, ?_, OwnInts.nil _ _, by simp, al3 _ _ _ _, by simp⟩⟩
    · exact Box.new [.bool false, .slice none 0 0, .int .i64 e] _ (by simp)
    · refine Box.alloc ?_ _
      exact Box.new [.bool false, .slice none 0 0, .int .i64 0] _ (by simp)
  case round =>
    obtain ⟨v, xs, rfl, hgk, HL⟩ := hrel
    have L := HL.out
    have x1 := L.x.cell 1 _ rfl
    have f1 := L.x.froz 1
    have lt := L.x.lt
    by_cases hz : gk = 0
    · subst hz
      have x0 := L.x.cell 0 _ rfl
      have x2 := L.x.cell 2 _ rfl
      have r0 := L.r.cell 0 _ rfl
      have r1 := L.r.cell 1 _ rfl
      have r2 := L.r.cell 2 _ rfl
      have q0 := L.r.froz 0
      have q1 := L.r.froz 1
      have q2 := L.r.froz 2
      obtain ⟨A, c, rfl, hI⟩ := L.own.ints
      have hs := L.same
      rw [digs_zero, List.nil_append] at hs
      subst hs
      have HO := Keep.mk L.own
      have B := L.old
      clear L HL hI
      go_wp2
      refine bodyPost_ret (v := longV false A c (digs n) e) ?_ rfl ⟨A, c, rfl, ?_, st1 (st1 (st1 B _ _ _ (by omega)) _ _ _ (by omega)) _ _ _ (by omega)⟩
      · simp [longV, results, Tryz.results147, go_sem, r0, r1, r2]
      · exact (((HO.out.set (by omega) _).set (by omega) _).set (by omega) _).read
    · have hgb : ((gk : Int) != 0) = true := by simpa using hz
      have HO := Keep.mk L.own
      obtain ⟨A, c, rfl, hI⟩ := L.own.ints
      have HI := Keep.mk hI
      have hl := L.len
      have ⟨s1, s2⟩ := long_step hz hn L.same
      have HS := Keep.mk s1
      have hlt : 0 < gk := by omega
      have hB := L.old.size
      have HX := Keep.mk (L.x.alloc (.cells #[.int .i64 ((gk % 10 : Nat) : Int)] 3))
      have HR := Keep.mk (L.r.alloc (.cells #[.int .i64 ((gk % 10 : Nat) : Int)] 3))
      have HB := Keep.mk (up L.old (al1 wr (.cells #[.int .i64 ((gk % 10 : Nat) : Int)] 3)))
      clear L hI s1
      go_wp2_with (at_builtin; refine wpList_append_ints rfl (.tmp 23) (.tmp 25) rfl (w.heap.size + 3) _ [gk % 10] rfl (OwnInts.one _ rfl (by omega)) wr.heap.size A xs.length c xs rfl rfl (HI.out.below ((Below.refl _ _).alloc (Nat.le_refl _) _) (Nat.le_refl _)) (by simp; omega) (by simp; omega) ?_; intro v1 w1 hown1 hb1; obtain ⟨A1, c1, rfl, hI1⟩ := hown1.ints; have HO1 := Keep.mk hown1; have bx := HX.out.below hb1 (by omega); have br := HR.out.below hb1 (by omega); have x1' := bx.cell 1 _ rfl; have f1' := bx.froz 1; have lt' := bx.lt; have HX1 := Keep.mk bx; have HR1 := Keep.mk br; have HB1 := Keep.mk hb1; clear hown1 hI1 bx br hb1 HX HR)
      go_roundg (gk / 10)
      case rel => exact ⟨_, [gk % 10] ++ xs, by go_num, by omega, ⟨HX1.out.set (by simp) _, HR1.out.other (by omega) _, HO1.out.set (by omega) _, HS.out, st1 (HB.out.trans (HB1.out.mono (by omega))) _ _ _ (by omega), by simp; omega⟩⟩
      case measure => omega
set_option maxRecDepth 100000 in
theorem ref_long_neg (m e : Int) (h0 : m < 0) (h1 : -9223372036854775808 ≤ m) (w : World) :
    Calls Tryz.prog 147 #[.agg #[.int .i64 m, .int .i64 e]] w fun r w' => ∃ A c, r = .returned (longV true A c (digs m.natAbs) e) ∧ IntsAt w' w'.heap.size A c (digs m.natAbs) ∧ Below w.heap.size w w' := by
  obtain ⟨n, hm⟩ := Int.eq_ofNat_of_zero_le (show 0 ≤ -m by omega)
  obtain rfl : m = -(n : Int) := by omega
  have hn : n ≤ 9223372036854775808 := by omega
  rw [Int.natAbs_neg, Int.natAbs_natCast]
  clear hm
  have hnp : 0 < n := by omega
  have hnb : decide (-(n : Int) < 0) = true := decide_eq_true h0
  go_enter Tryz.func147, Tryz.ntmps147
  go_wp2_with fail
  go_loopg [4, 5] n (fun gk m d wr => ∃ (v : Value) (xs : List Nat), m = .int .i64 (-(gk : Int)) ∧ gk ≤ 9223372036854775808 ∧ Keep (Lng w wr true n e gk v xs))
  case atStart =>
    refine ⟨.slice none 0 0, [], rfl, by omega, ⟨?_, ?_, OwnInts.nil _ _, by simp, al3 _ _ _ _, by simp⟩⟩
    · exact Box.new [.bool true, .slice none 0 0, .int .i64 e] _ (by simp)
    · refine Box.alloc ?_ _
      exact Box.new [.bool false, .slice none 0 0, .int .i64 0] _ (by rw [World.size_alloc])
  case round =>
    obtain ⟨v, xs, rfl, hgk, HL⟩ := hrel
    have L := HL.out
    have x1 := L.x.cell 1 _ rfl
    have f1 := L.x.froz 1
    have lt := L.x.lt
    by_cases hz : gk = 0
    · subst hz
      have x0 := L.x.cell 0 _ rfl
      have x2 := L.x.cell 2 _ rfl
      have r0 := L.r.cell 0 _ rfl
      have r1 := L.r.cell 1 _ rfl
      have r2 := L.r.cell 2 _ rfl
      have q0 := L.r.froz 0
      have q1 := L.r.froz 1
      have q2 := L.r.froz 2
      obtain ⟨A, c, rfl, hI⟩ := L.own.ints
      have hs := L.same
      rw [digs_zero, List.nil_append] at hs
      subst hs
      have HO := Keep.mk L.own
      have B := L.old
      clear L HL hI
      go_wp2
      refine bodyPost_ret (v := longV true A c (digs n) e) ?_ rfl ⟨A, c, rfl, ?_, st1 (st1 (st1 B _ _ _ (by omega)) _ _ _ (by omega)) _ _ _ (by omega)⟩
      · simp [longV, results, Tryz.results147, go_sem, r0, r1, r2]
      · exact (((HO.out.set (by omega) _).set (by omega) _).set (by omega) _).read
    · have hgb : ((-(gk : Int)) != 0) = true := by rw [bne_iff_ne]; omega
      have ht : (-(gk : Int)).tmod 10 = -((gk % 10 : Nat) : Int) := by rw [Int.neg_tmod]; rfl
      have hq : (-(gk : Int)).tdiv 10 = -((gk / 10 : Nat) : Int) := by rw [Int.neg_tdiv]; rfl
      have hr9 : gk % 10 ≤ 9 := by omega
      have hqlt : gk / 10 < gk := by omega
      have HO := Keep.mk L.own
      obtain ⟨A, c, rfl, hI⟩ := L.own.ints
      have HI := Keep.mk hI
      have hl := L.len
      have ⟨s1, s2⟩ := long_step hz hn L.same
      have HS := Keep.mk s1
      have hB := L.old.size
      generalize gk % 10 = r at *
      generalize gk / 10 = q at *
      have HX := Keep.mk (L.x.alloc (.cells #[.int .i64 (r : Int)] 3))
      have HR := Keep.mk (L.r.alloc (.cells #[.int .i64 (r : Int)] 3))
      have HB := Keep.mk (up L.old (al1 wr (.cells #[.int .i64 (r : Int)] 3)))
      clear L HL hI s1 hz
      by_cases hr0 : r = 0
      · subst hr0
        go_wp2_with (at_builtin; refine wpList_append_ints rfl (.tmp 23) (.tmp 25) rfl (w.heap.size + 3) _ [0] rfl (OwnInts.one _ rfl (by omega)) wr.heap.size A xs.length c xs rfl rfl (HI.out.below ((Below.refl _ _).alloc (Nat.le_refl _) _) (Nat.le_refl _)) (by simp; omega) (by simp; omega) ?_; intro v1 w1 hown1 hb1; obtain ⟨A1, c1, rfl, hI1⟩ := hown1.ints; have HO1 := Keep.mk hown1; have bx := HX.out.below hb1 (by omega); have br := HR.out.below hb1 (by omega); have x1' := bx.cell 1 _ rfl; have f1' := bx.froz 1; have lt' := bx.lt; have HX1 := Keep.mk bx; have HR1 := Keep.mk br; have HB1 := Keep.mk hb1; clear hown1 hI1 bx br hb1 HX HR)
        go_roundg q
        case rel => exact ⟨_, [0] ++ xs, by go_num, by omega, ⟨HX1.out.set (by simp) _, HR1.out.other (by omega) _, HO1.out.set (by omega) _, HS.out, st1 (HB.out.trans (HB1.out.mono (by omega))) _ _ _ (by omega), by simp; omega⟩⟩
        case measure => omega
      · have hrp : 0 < r := by omega
        clear hr0
        go_wp2_with (at_builtin; refine wpList_append_ints rfl (.tmp 23) (.tmp 25) rfl (w.heap.size + 3) _ [r] rfl (OwnInts.one _ rfl (by omega)) wr.heap.size A xs.length c xs rfl rfl (HI.out.below ((Below.refl _ _).alloc (Nat.le_refl _) _) (Nat.le_refl _)) (by simp; omega) (by simp; omega) ?_; intro v1 w1 hown1 hb1; obtain ⟨A1, c1, rfl, hI1⟩ := hown1.ints; have HO1 := Keep.mk hown1; have bx := HX.out.below hb1 (by omega); have br := HR.out.below hb1 (by omega); have x1' := bx.cell 1 _ rfl; have f1' := bx.froz 1; have lt' := bx.lt; have HX1 := Keep.mk bx; have HR1 := Keep.mk br; have HB1 := Keep.mk hb1; clear hown1 hI1 bx br hb1 HX HR)
        go_roundg q
        case rel => exact ⟨_, [r] ++ xs, by go_num, by omega, ⟨HX1.out.set (by simp) _, HR1.out.other (by omega) _, HO1.out.set (by omega) _, HS.out, st1 (HB.out.trans (HB1.out.mono (by omega))) _ _ _ (by omega), by simp; omega⟩⟩
        case measure => omega
theorem ref_long (m e : Int) (hm : I64 m) (w : World) :
    Calls Tryz.prog 147 #[.agg #[.int .i64 m, .int .i64 e]] w fun r w' => ∃ A c, r = .returned (longV (decide (m < 0)) A c (digs m.natAbs) e) ∧ IntsAt w' w'.heap.size A c (digs m.natAbs) ∧ Below w.heap.size w w' := by
  by_cases h : m < 0
  · rw [decide_eq_true h]; exact ref_long_neg m e h hm.lo w
  · rw [decide_eq_false h]; exact ref_long_pos m e (by omega) hm.hi w
end Go.Proofs.YtnkokhpadcgfbaaGreatDoor
