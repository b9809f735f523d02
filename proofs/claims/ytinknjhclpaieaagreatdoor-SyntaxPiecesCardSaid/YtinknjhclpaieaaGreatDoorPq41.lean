/- Lemmas and contracts for the laws SyntaxPieces, part 41 of 48: R9P, SynL. Conditions: those that each lemma names. -/
import Derived.Test.YtinknjhclpaieaaGreatDoorPq40
import Derived.Test.YtinknjhclpaieaaGreatDoorPq22
set_option maxRecDepth 100000
set_option maxHeartbeats 4000000
namespace Go.Proofs.YtinknjhclpaieaaGreatDoor
open Go Go.RowKit Go.Proofs Th
set_option maxRecDepth 8000
attribute [local go_sem] aops aopsD stepA chkD disj aguard isWant aop aval abuil acall acallP acallR argsIV valOf aput startS mkS numb look upd toIV allIV zeroFV aload setSeg afill aelems cellsOf toSl toVal valsOf aidx abin ainR FV.ok IV.one IV.er IV.erA IV.er1 iI sI bI nodeIV nodesIV tokIV parIV faultV resP lift AThen ABlock AEnd resL resV rload rcOf imsOf oneV nodeJ kidsJ strJ knownJ selfJ noNJ noTf foot owns pruneS Value.oneCell'
attribute [local go_sem] ti_node ti_tok ti_par ti_fault ti_nodes ti_toks ti_strs ti_ints ti_str ti_int ti_num ti_errno
theorem filtF_str (M : List Nat) (d : Nat) (l : List ByteArray) (h : d ∈ M) : filtF M (strC d l) = strC d l := by cases l; rfl; exact if_pos h
theorem filtF_int (M : List Nat) (d : Nat) (l : List Nat) (h : d ∈ M) : filtF M (intC d l) = intC d l := by cases l; rfl; exact if_pos h
theorem filtO_str (M : List Nat) (l : List ByteArray) : filtO M (strR l) = strR l := by cases l <;> rfl
theorem filtO_int (M : List Nat) (l : List Nat) : filtO M (intR l) = intR l := by cases l <;> rfl
theorem ba_emp : ByteArray.empty = ⟨#[]⟩ := rfl
theorem filtF_im (M : List Nat) (x : IV) : filtF M (.im x) = .im x := rfl
theorem filtF_own (M : List Nat) (k n : Nat) : filtF M (.own k n) = if k ∈ M then .own k n else .junk := rfl
theorem filtF_ptr (M : List Nat) (k n : Nat) : filtF M (.ptr k n) = if k ∈ M then .ptr k n else .junk := rfl
theorem filtF_junk (M : List Nat) : filtF M .junk = .junk := rfl
theorem filtO_none (M : List Nat) : filtO M .none = .none := rfl
theorem filtO_box (M : List Nat) (cs : List FV) : filtO M (.box cs) = .box (cs.map (filtF M)) := rfl
theorem filtO_row (M : List Nat) (t z : Nat) (es : List (List IV)) : filtO M (.row t z es) = .row t z es := rfl
theorem strC_nil (d : Nat) : strC d [] = .im (.sl [] true) := rfl
theorem strC_cons (d : Nat) (x : ByteArray) (r : List ByteArray) : strC d (x :: r) = .own d (x :: r).length := rfl
theorem strR_nil : strR [] = .none := rfl
theorem strR_cons (x : ByteArray) (r : List ByteArray) : strR (x :: r) = .row 9 1 ((x :: r).map fun x => [sI x]) := rfl
theorem intC_nil (d : Nat) : intC d [] = .im (.sl [] true) := rfl
theorem intC_cons (d : Nat) (x : Nat) (r : List Nat) : intC d (x :: r) = .own d (x :: r).length := rfl
theorem intR_nil : intR [] = .none := rfl
theorem intR_cons (x : Nat) (r : List Nat) : intR (x :: r) = .row 3 1 ((x :: r).map fun (x : Nat) => [iI x]) := rfl
attribute [local go_sem] ba_emp strC_nil strC_cons strR_nil strR_cons intC_nil intC_cons intR_nil intR_cons List.map_append List.map_cons List.map_nil List.length_map
attribute [local go_sem] filtF_str filtF_int filtO_str filtO_int filtF_im filtF_own filtF_ptr filtF_junk filtO_none filtO_box filtO_row
theorem r_one (s : ByteArray) (hs : s.size ≤ 50000) (a : Nat) (ha : a ≤ s.size) : ACalls Tryz.prog GX 19 none [sI s, iI a, iI 1] (.ret (.tup [.agg (tokIV (oneF (toL s) 47 a).1), iI (oneF (toL s) 47 a).2.1, iI (oneF (toL s) 47 a).2.2]) []) :=
  ACalls.lib2 (us := [.string s, .int .i64 a, .int .i64 1]) ⟨_, Tryz.func19, rfl, rfl⟩ fun W S hG => (r9_oneD s (by omega) 47 (by omega) 1 (by omega) a ha W).mono fun e W' ⟨he, hb⟩ =>
    ⟨⟨_, he, fun S' => rep_tup (us := [_, _, _]) (RepL.cons (rep_agg (us := [_, _, _]) (RepL.cons (.v _) (RepL.cons (.v _) (RepL.cons (.v _) (RepL.nil _ _))))) (RepL.cons (.v _) (RepL.cons (.v _) (RepL.nil _ _))))⟩, hb⟩
theorem r_quoted (s : ByteArray) (hs : s.size ≤ 50000) (h0 : 0 < s.size) : ACalls Tryz.prog GX 33 none [sI s, iI 0, iI 0] (.ret (.tup [iI (quoteF (toL s) 48 0).1, iI (quoteF (toL s) 48 0).2]) []) :=
  ACalls.lib2 (us := [.string s, .int .i64 0, .int .i64 0]) ⟨_, Tryz.func33, rfl, rfl⟩ fun W S hG => (r9_quotedD s (by omega) 0 h0 W).mono fun e W' ⟨he, hb⟩ =>
    ⟨⟨_, he, fun S' => rep_tup (us := [_, _]) (RepL.cons (.v _) (RepL.cons (.v _) (RepL.nil _ _)))⟩, hb⟩
theorem ext_join (s : ByteArray) (f a b : Nat) (h1 : f ≤ a) (h2 : a ≤ b) : s.extract f a ++ s.extract a b = s.extract f b := by
  apply ba_inj; rw [ByteArray.data_append, Array.toList_append, ext_list, ext_list, ext_list]; have e : s.data.toList.drop a = (s.data.toList.drop f).drop (a - f) := by rw [List.drop_drop]; congr 1; omega
  rw [e, ← List.take_add]; congr 1; omega
theorem ext_none (s : ByteArray) (f : Nat) : s.extract f f = ⟨#[]⟩ := by
  apply ba_inj; rw [ext_list, Nat.sub_self]; rfl
theorem rparts_no (s : ByteArray) (hs : s.size ≤ 50000) (hok : ¬ okQ (toL s) = true) : ACalls Tryz.prog GX 135 none [sI s] (.ret (.tup [.sl [] false, .sl [] false, .sl [] false, iI 20]) []) := by
  have gk := gkX; have hz : (toL s).length = s.size := toL_len s; refine ACalls.enter Tryz.func135 rfl rfl gk Tryz.ntmps135 fun X F => ?_
  by_cases b1 : s.size < 2
  · have b1I : (s.size : Int) < 2 := by omega
    apply Ar F; go_simp; apply Ar F; go_simp; (repeat apply Aq); refine At (by go_simp) ?_; apply Ar F; go_simp; apply Au; go_simp
  have b1I : ¬ (s.size : Int) < 2 := by omega
  by_cases b2 : 16384 < s.size
  · have b2I : (16384 : Int) < (s.size : Int) := by omega
    apply Ar F; go_simp; apply Ar F; go_simp; (repeat apply Aq); refine At (by go_simp) ?_; apply Ar F; go_simp; apply Au; go_simp
  have b2I : ¬ (16384 : Int) < (s.size : Int) := by omega
  obtain ⟨c, hc⟩ : ∃ c, (toL s)[0]? = some c := ⟨_, List.getElem?_eq_getElem (by rw [hz]; omega)⟩
  have hcs : s.data.toList[0]? = some c := hc; by_cases b3 : c = 34
  · subst b3
    apply Ar F; go_simp; apply Ar F; go_simp; (repeat apply Aq); refine Af (by go_simp) ?_; apply As; go_simp; have cq := r_quoted s hs (by omega); have hq2 : ¬ quoteF (toL s) 48 0 = (s.size, 0) := fun h => hok (by unfold okQ; rw [hz, decide_eq_true (by omega : s.size ≤ 16384), decide_eq_true hc, decide_eq_true h]; rfl)
    obtain ⟨⟨qx, qe⟩, hqq⟩ : ∃ p, quoteF (toL s) 48 0 = p := ⟨_, rfl⟩
    rw [hqq] at cq hq2; dsimp only at cq; clear hqq; apply Ar F; go_simp; refine ⟨_, cq, ?_⟩; go_simp; by_cases b4 : qe = 0
    · subst b4
      have b5 : ¬ (qx : Int) = (s.size : Int) := fun h => hq2 (by rw [show qx = s.size from by omega])
      apply Ar F; go_simp; (repeat apply Aq); refine At (by go_simp) ?_; apply Ar F; go_simp; apply Au; go_simp
    have b4I : ¬ (qe : Int) = 0 := by omega
    apply Ar F; go_simp; (repeat apply Aq); refine At (by go_simp) ?_; apply Ar F; go_simp; apply Au; go_simp
  have m34 : ¬ c.toNat = 34 := fun e => b3 (UInt8.toNat_inj.1 e)
  have m34I : ¬ (c.toNat : Int) = 34 := by omega
  apply Ar F; go_simp; apply Ar F; go_simp; (repeat apply Aq); refine At (by go_simp) ?_; apply Ar F; go_simp; apply Au; go_simp
theorem rparts_ok (s : ByteArray) (hs : s.size ≤ 50000) (hok : okQ (toL s) = true) (T2 F2 : List ByteArray) (Pl2 : List Nat) (h0 : partsGo (toL s) (oneF (toL s) 47) (s.size + 1) 1 1 ⟨[], [], []⟩ = ⟨T2.map toL, F2.map toL, Pl2⟩) : ACalls Tryz.prog GX 135 none [sI s] (.ret (.tup [.sl (T2.map fun x => [sI x]) false, .sl (F2.map fun x => [sI x]) false, .sl (Pl2.map fun (n : Nat) => [iI n]) false, iI 0]) []) := by
  have gk := gkX; obtain ⟨hq1, hq2, hpath⟩ := okQ_path hok; have hone : ∀ a, a ≤ (toL s).length → OneOk (toL s) a (oneF (toL s) 47 a) := fun a ha => oneF_ok _ _ _ ha
  have hz : (toL s).length = s.size := toL_len s; have hend0 := hpath.end_ hone; rw [hz] at hend0 hq1; have b1I : ¬ (s.size : Int) < 2 := by omega
  have b2I : ¬ (16384 : Int) < (s.size : Int) := by omega
  have hcs0 : s.data.toList[0]? = some 34 := hq2; have cq := r_quoted s hs (by omega); have hq3 : quoteF (toL s) 48 0 = (s.size, 0) := by
    unfold okQ at hok; simp only [Bool.and_eq_true, decide_eq_true_eq] at hok; rw [← hz]; exact hok.2
  rw [hq3] at cq; dsimp only at cq; clear hq3 hok; have hsI := rng ((s.size : Int) - 1) (by omega); refine ACalls.enter Tryz.func135 rfl rfl gk Tryz.ntmps135 fun X F => ?_
  apply Ar F; go_simp; apply Ar F; go_simp; (repeat apply Aq); refine Af (by go_simp) ?_; apply As; go_simp; apply Ar F; go_simp; refine ⟨_, cq, ?_⟩; go_simp; apply Ar F; go_simp; (repeat apply Aq); refine Af (by go_simp) ?_; apply As; go_simp; apply Ar F; go_simp; apply Ar F; go_simp; apply Ar F; go_simp; apply Ar F; go_simp; (repeat apply Aq); apply Ab; (repeat apply Aq); refine AW.loopP [0, 8, 9, 10, 11, 12] [1000, 112, 120, 124] (by decide) (fun g st => ∃ (T F : List ByteArray) (Pl : List Nat) (fr at_ : Nat), st = mkS [(0, .im (sI s)), (8, strC 112 T), (9, strC 120 F), (10, intC 124 Pl), (11, .im (sI (s.extract fr at_))), (12, .im (iI at_))] [(1000, .none), (112, strR T), (120, strR F), (124, intR Pl)] ∧ PathQ (toL s) (oneF (toL s) 47) at_ ∧ fr ≤ at_ ∧ F.length = T.length ∧ Pl.length = T.length ∧ T.length ≤ at_ ∧ s.size + 1 ≤ g + at_ ∧ partsGo (toL s) (oneF (toL s) 47) g fr at_ ⟨T.map toL, F.map toL, Pl⟩ = ⟨T2.map toL, F2.map toL, Pl2⟩) (s.size + 1) ?_ ?_
  · refine ⟨[], [], [], 1, 1, ?_, hpath, Nr _, rfl, rfl, Nat.zero_le _, by omega, h0⟩
    have z0 := ext_none s 1; go_simp
  rintro g st ⟨T, F1, Pl, fr, at_, rfl, hp, hfr, hF, hP, hT, hg, h⟩; have hend := hp.end_ hone; rw [hz] at hend; obtain ⟨hend, hq34⟩ := hend; rcases g with _ | g
  · omega
  rw [partsGo, hz] at h; have hk2 : ∀ n, n ≤ at_ → n + 3 ≤ 1000000000 := fun n hn => by omega
  by_cases ha : at_ + 1 < s.size
  · rw [if_neg (by omega)] at h
    have haI : (at_ : Int) < (s.size : Int) - 1 := by omega
    obtain ⟨c, hc⟩ : ∃ c, (toL s)[at_]? = some c := ⟨_, List.getElem?_eq_getElem (by rw [hz]; omega)⟩
    have hcs : s.data.toList[at_]? = some c := hc; have h34 : c ≠ 34 := fun e => by have := hq34.2 (by rw [hc, e]); omega
    have hr1 := rng ((at_ : Int) + 1) (by omega); have hr2 := rng ((at_ : Int) + 2) (by omega); have hp1 : (0 : Int) ≤ (at_ : Int) + 1 := by omega
    have y1 : (at_ : Int) + 1 ≤ (s.size : Int) := by omega
    have y2 : ((at_ : Int) + 1).toNat = at_ + 1 := by omega
    have y3 : ((at_ : Int) + 2).toNat = at_ + 2 := by omega
    have y4 : (s.extract fr at_).size ≤ s.size := by rw [ByteArray.size_extract]; omega
    have y5 : (s.extract at_ (at_ + 1)).size ≤ s.size := by rw [ByteArray.size_extract]; omega
    have y6 : (s.extract at_ (at_ + 2)).size ≤ s.size := by rw [ByteArray.size_extract]; omega
    have y7 : (s.extract fr at_).size + (s.extract at_ (at_ + 1)).size ≤ 9223372036854775807 := by omega
    have y8 : (s.extract fr at_).size + (s.extract at_ (at_ + 2)).size ≤ 9223372036854775807 := by omega
    have y9 : (at_ : Int) ≤ (at_ : Int) + 1 := by omega
    have yA : (at_ : Int) ≤ (at_ : Int) + 2 := by omega
    have yB : min at_ s.size - fr + (min (at_ + 2) s.size - at_) ≤ 9223372036854775807 := by omega
    have yD : min at_ s.size ≤ 9223372036854775806 + fr := by omega
    clear y4 y5 y6; rw [hc] at h; apply Ar F; go_simp; (repeat apply Aq); refine At (by go_simp) ?_; apply As; go_simp; (repeat apply Aq); apply Ab; by_cases c92 : c = 92
    · subst c92
      rw [if_neg (by simp)] at h; obtain ⟨c2, hc2⟩ : ∃ c2, (toL s)[at_ + 1]? = some c2 := ⟨_, List.getElem?_eq_getElem (by rw [hz]; omega)⟩
      have hcs2 : s.data.toList[at_ + 1]? = some c2 := hc2; have hcd2 : ∀ hh, s.data[at_ + 1]'hh = c2 := fun hh => by have := hcs2; rw [Array.getElem?_toList, Array.getElem?_eq_getElem hh] at this; exact Oi this
      rw [hc2] at h; apply Ar F; go_simp; (repeat apply Aq); refine Af (by go_simp) ?_; apply As; go_simp; by_cases c40 : c2 = 40
      · subst c40
        rw [if_neg (by simp)] at h; obtain ⟨sp, slt, sle⟩ := hp.sub hone hc hc2; rw [hz] at sp slt sle; have hcl : ∃ n, n ≤ s.size + 2 ∧ qGo (toL s) (oneF (toL s) 47) 0 n 1 (at_ + 2) = (s.size, 0) := by
          obtain ⟨n, hn, hq⟩ := hp; rw [hz] at hn hq; cases n with
          | zero => exact absurd (show (20 : Nat) = 0 from congrArg Prod.snd hq) (by decide)
          | succ n =>
            simp only [qGo] at hq; rw [hc] at hq; dsimp only at hq; rw [if_neg (by decide), if_neg (by decide), if_pos hc2] at hq; exact ⟨n, by omega, hq⟩
        obtain ⟨nn, hnn, hqq⟩ := hcl; obtain ⟨j, hj⟩ : ∃ j, closeF (oneF (toL s) 47) (s.size + 2) 1 (at_ + 2) = j := ⟨_, rfl⟩
        rw [hj] at h sp slt sle; rw [sub_toL, sub_toL] at h; dsimp only at h; rw [show [toL (s.extract fr at_)] = [s.extract fr at_].map toL from rfl, show [toL (s.extract (at_ + 2) (j - 1))] = [s.extract (at_ + 2) (j - 1)].map toL from rfl, ← List.map_append, ← List.map_append] at h; have e3 := rng ((j : Int) - 1) (by omega); have e4 : (at_ : Int) + 2 ≤ (j : Int) - 1 := by omega
        have e5 : (j : Int) - 1 ≤ (s.size : Int) := by omega
        have e7 : ((j : Int) - 1).toNat = j - 1 := by omega
        have e8 : (0 : Int) ≤ (at_ : Int) + 2 := by omega
        apply Ar F; go_simp; (repeat apply Aq); refine Af (by go_simp) ?_; apply As; go_simp; apply Ar F; go_simp; apply Ar F; go_simp; apply Ar F; go_simp; (repeat apply Aq); apply Ab; (repeat apply Aq); refine AW.loopP [0, 8, 9, 10, 11, 12, 13, 14] [1000, 112, 120, 124] (by decide) (fun n st => ∃ (o at2 mm : Nat), st = mkS [(0, .im (sI s)), (8, strC 112 T), (9, strC 120 F1), (10, intC 124 Pl), (11, .im (sI (s.extract fr at_))), (12, .im (iI at2)), (13, .im (iI ((at_ : Int) + 2))), (14, .im (iI o))] [(1000, .none), (112, strR T), (120, strR F1), (124, intR Pl)] ∧ at2 ≤ s.size ∧ o + n ≤ s.size + 4 ∧ qGo (toL s) (oneF (toL s) 47) 0 n o at2 = (s.size, 0) ∧ n ≤ mm ∧ closeF (oneF (toL s) 47) mm o at2 = j) (nn) ?_ ?_
        · refine ⟨1, at_ + 2, s.size + 2, ?_, by omega, by omega, hqq, hnn, hj⟩
          go_simp
        rintro n st ⟨o, at2, mm, rfl, ha2, hon, hq, hmm, hcl⟩; rcases o with _ | o
        · obtain rfl : at2 = j := by cases mm <;> exact hcl
          clear hcl hq; apply Ar F; go_simp; (repeat apply Aq); refine Af (by go_simp) ?_; apply Ae; go_simp; rcases T with _ | ⟨ta, T⟩
          rotate_left
          obtain ⟨fa, F1, rfl⟩ : ∃ x y, F1 = x :: y := List.exists_cons_of_length_pos (by rw [hF]; exact Nat.succ_pos _)
          obtain ⟨pa, Pl, rfl⟩ : ∃ x y, Pl = x :: y := List.exists_cons_of_length_pos (by rw [hP]; exact Nat.succ_pos _)
          have hF1 : F1.length = T.length := by simpa using hF
          have hP1 : Pl.length = T.length := by simpa using hP
          rotate_left
          obtain rfl : F1 = [] := List.eq_nil_of_length_eq_zero hF; obtain rfl : Pl = [] := List.eq_nil_of_length_eq_zero hP
          all_goals
            try (have hk3 : T.length ≤ 999999998 := by have := hk2 _ hT; simp only [lB] at this hT; omega)
            try (have hk4 : F1.length ≤ 999999998 := by simp only [lB] at hF hT; omega)
            try (have hk5 : Pl.length ≤ 999999998 := by simp only [lB] at hP hT; omega)
            apply Ar F; go_simp; apply Ar F; go_simp; apply Ar F; go_simp; apply Ar F; go_simp; refine ⟨g, by omega, _, _, _, at2, at2, ?_, sp, by omega, by first | exact hF | rfl | (simp only [lA, lB, lC] at hF ⊢; omega), by first | exact hP | rfl | (simp only [lA, lB, lC] at hP ⊢; omega), by (try simp only [lA, lB, lC] at hT ⊢); omega, by omega, h⟩; go_simp
        rcases n with _ | n
        · exact absurd (show (20 : Nat) = 0 from congrArg Prod.snd hq) (by decide)
        rcases mm with _ | mm
        · omega
        have hpos : (0 : Int) < (o : Int) + 1 := by omega
        have hro := rng ((o : Int) + 1 + 1) (by omega); have hro2 := rng ((o : Int)) (by omega); have c1 := r_one s hs at2 ha2; have ho := hone at2 (by rw [hz]; exact ha2); simp only [qGo] at hq; simp only [closeF] at hcl; obtain ⟨⟨⟨k, tx, ap⟩, en, ee⟩, hone2⟩ : ∃ q, oneF (toL s) 47 at2 = q := ⟨_, rfl⟩
        rw [hone2] at hq hcl c1 ho; have hle := ho.le; rw [hz] at hle; dsimp only at hq hcl c1 hle; clear ho hone2; rw [if_neg (fun hh => by rw [if_pos hh] at hq; exact hh (congrArg Prod.snd hq))] at hq; rw [if_neg (fun hh => by rw [if_pos hh] at hq; exact absurd (show (20 : Nat) = 0 from congrArg Prod.snd hq) (by decide))] at hq; apply Ar F; go_simp; (repeat apply Aq); refine At (by go_simp) ?_; apply As; go_simp; (repeat apply Aq); apply Ab; apply Ar F; go_simp; refine ⟨_, c1, ?_⟩; go_simp; by_cases k6 : k = 6
        · subst k6
          by_cases t40 : tx = ⟨#[40]⟩
          · subst t40
            rw [if_pos ⟨rfl, rfl⟩] at hq hcl; apply Ar F; go_simp; (repeat apply Aq); refine At (by go_simp) ?_; apply Ar F; go_simp; apply Ar F; go_simp; (repeat apply Aq); refine Af (by go_simp) ?_; apply As; go_simp; apply Ar F; go_simp; refine ⟨n, by omega, o + 1 + 1, en, ?_, hle, by omega, hq, mm, by omega, hcl⟩; go_simp
          rw [if_neg (fun hh => t40 hh.2)] at hq hcl; by_cases t41 : tx = ⟨#[41]⟩
          · subst t41
            rw [if_pos ⟨rfl, rfl⟩] at hq hcl; apply Ar F; go_simp; (repeat apply Aq); refine Af (by go_simp) ?_; apply As; go_simp; apply Ar F; go_simp; (repeat apply Aq); refine At (by go_simp) ?_; apply Ar F; go_simp; apply Ar F; go_simp; refine ⟨n, by omega, o, en, ?_, hle, by omega, hq, mm, by omega, hcl⟩; go_simp
          rw [if_neg (fun hh => t41 hh.2)] at hq hcl; apply Ar F; go_simp; (repeat apply Aq); refine Af (by go_simp) ?_; apply As; go_simp; apply Ar F; go_simp; (repeat apply Aq); refine Af (by go_simp) ?_; apply As; go_simp; apply Ar F; go_simp; refine ⟨n, by omega, o + 1, en, ?_, hle, by omega, hq, mm, by omega, hcl⟩; go_simp
        have k6I : ¬ (k : Int) = 6 := by omega
        rw [if_neg (fun hh => k6 hh.1), if_neg (fun hh => k6 hh.1)] at hq hcl; apply Ar F; go_simp; (repeat apply Aq); refine Af (by go_simp) ?_; apply As; go_simp; apply Ar F; go_simp; (repeat apply Aq); refine Af (by go_simp) ?_; apply As; go_simp; apply Ar F; go_simp; refine ⟨n, by omega, o + 1, en, ?_, hle, by omega, hq, mm, by omega, hcl⟩; go_simp
      rw [if_pos (by simpa using c40)] at h; have m40 : ¬ c2.toNat = 40 := fun e => c40 (UInt8.toNat_inj.1 e)
      have m40I : ¬ (c2.toNat : Int) = 40 := by omega
      have pe := hp.esc hc (by rw [hc2]; simpa using c40); have hend2 := pe.end_ hone; rw [hz] at hend2; have z1 : (at_ : Int) + 2 ≤ (s.size : Int) := by omega
      have z2 := ext_join s fr at_ (at_ + 2) hfr (by omega); apply Ar F; go_simp; (repeat apply Aq); refine At (by go_simp) ?_; apply Ar F; go_simp; apply Ar F; go_simp; apply Ae; go_simp; refine ⟨g, by omega, _, _, _, fr, at_ + 2, ?_, pe, by omega, by first | exact hF | rfl | (simp only [lA, lB, lC] at hF ⊢; omega), by first | exact hP | rfl | (simp only [lA, lB, lC] at hP ⊢; omega), by (try simp only [lA, lB, lC] at hT ⊢); omega, by omega, h⟩; go_simp
    rw [if_pos (by simpa using c92)] at h; have m92 : ¬ c.toNat = 92 := fun e => c92 (UInt8.toNat_inj.1 e)
    have m92I : ¬ (c.toNat : Int) = 92 := by omega
    have z2 := ext_join s fr at_ (at_ + 1) hfr (by omega); apply Ar F; go_simp; (repeat apply Aq); refine At (by go_simp) ?_; apply Ar F; go_simp; apply Ar F; go_simp; apply Ae; go_simp; refine ⟨g, by omega, _, _, _, fr, at_ + 1, ?_, hp.char hc h34 c92, by omega, by first | exact hF | rfl | (simp only [lA, lB, lC] at hF ⊢; omega), by first | exact hP | rfl | (simp only [lA, lB, lC] at hP ⊢; omega), by (try simp only [lA, lB, lC] at hT ⊢); omega, by omega, h⟩; go_simp
  rw [if_pos (by omega)] at h; have haI : ¬ (at_ : Int) < (s.size : Int) - 1 := by omega
  obtain rfl : at_ = s.size - 1 := by omega
  rw [sub_toL, show [toL (s.extract fr (s.size - 1))] = [s.extract fr (s.size - 1)].map toL from rfl, ← List.map_append] at h; injection h with h1 h2 h3; obtain rfl := toL_inj h1; obtain rfl := toL_inj h2; subst h3; clear h1 h2; apply Ar F; go_simp; (repeat apply Aq); refine Af (by go_simp) ?_; apply Ae; go_simp; rcases T with _ | ⟨ta, T⟩
  rotate_left
  obtain ⟨fa, F1, rfl⟩ : ∃ x y, F1 = x :: y := List.exists_cons_of_length_pos (by rw [hF]; exact Nat.succ_pos _)
  obtain ⟨pa, Pl, rfl⟩ : ∃ x y, Pl = x :: y := List.exists_cons_of_length_pos (by rw [hP]; exact Nat.succ_pos _)
  have hF1 : F1.length = T.length := by simpa using hF
  have hP1 : Pl.length = T.length := by simpa using hP
  rotate_left
  obtain rfl : F1 = [] := List.eq_nil_of_length_eq_zero hF; obtain rfl : Pl = [] := List.eq_nil_of_length_eq_zero hP
  all_goals
    try (have hk3 : T.length ≤ 999999998 := by have := hk2 _ hT; simp only [lB] at this hT; omega)
    try (have hk4 : F1.length ≤ 999999998 := by simp only [lB] at hF hT; omega)
    try (have hk5 : Pl.length ≤ 999999998 := by simp only [lB] at hP hT; omega)
    apply Ar F; go_simp; apply Au; go_simp
theorem partsR (s : ByteArray) (T F : List ByteArray) (Pl : List Nat) (e : Nat) (hs : s.size ≤ 50000) (h : partsF (toL s) = (⟨T.map toL, F.map toL, Pl⟩, e)) : ACalls Tryz.prog GX 135 none [sI s] (.ret (.tup [.sl (T.map fun x => [sI x]) false, .sl (F.map fun x => [sI x]) false, .sl (Pl.map fun (n : Nat) => [iI n]) false, iI e]) []) := by
  unfold partsF at h; by_cases hok : okQ (toL s) = true
  · rw [if_pos hok] at h
    injection h with h1 h2; subst h2; exact rparts_ok s hs hok T F Pl h1
  rw [if_neg hok] at h; injection h with h1 h2; injection h1 with h3 h4 h5; subst h2; subst h5; obtain rfl : T = [] := by cases T; rfl; cases h3
  obtain rfl : F = [] := by cases F; rfl; cases h4
  exact rparts_no s hs hok
open Go Go.RowKit Go.Proofs Th
theorem syn_go (f : Nat) : IHP GX f := syn_all gkX numX scanX partsX quoteX f
theorem whole_go (E : Env) (hE : EB E) (f : Nat) (r : PR NJ) (h : runP f E .whole 0 = some r) : ACalls Tryz.prog GX 11 (some (parIV E 0)) [] (resP E r) := syn_go f f (Nr f) E hE .whole 0 r h
end Go.Proofs.YtinknjhclpaieaaGreatDoor
