/- Lemmas and contracts for the laws SyntaxPieces, part 38 of 48: R10F, SynJ. Conditions: those that each lemma names. -/
import Derived.Test.YtinknjhclpaieaaGreatDoorPq35
set_option maxRecDepth 100000
set_option maxHeartbeats 8000000
namespace Go.Proofs.YtinknjhclpaieaaGreatDoor
open Go Go.RowKit Go.Proofs Th
set_option maxRecDepth 8000
attribute [local go_sem] aops aopsD stepA chkD disj aguard isWant aop aval abuil acall acallP acallR argsIV valOf aput startS mkS numb look upd toIV allIV zeroFV aload setSeg afill aelems cellsOf toSl toVal valsOf aidx abin ainR FV.ok IV.one IV.er IV.erA IV.er1 iI sI bI nodeIV nodesIV tokIV parIV faultV resP lift AThen ABlock AEnd resL resV rload rcOf imsOf oneV nodeJ kidsJ strJ knownJ selfJ noNJ noTf foot owns pruneS filtF filtO Value.oneCell'
attribute [local go_sem] ti_node ti_tok ti_par ti_fault ti_nodes ti_toks ti_strs ti_ints ti_str ti_int ti_num ti_errno
attribute [local go_sem] rdrIV ti_rdr St.next sel
attribute [local go_sem] resR zeroN nodesIV_append nodesIV_len kidC rowC nodeF
attribute [local go_sem] List.map_append List.map_cons List.map_nil List.length_map joinQ_nil joinQ_one joinQ_two
variable {G : World → CS → Prop}
def RScanP (G : World → CS → Prop) : Prop := ∀ s : ByteArray, s.size ≤ 50000 → ACalls Tryz.prog G 13 none [sI s] (.ret (.tup [.sl ((scanF (toL s)).1.map tokIV) false, iI (scanF (toL s)).2.1, iI (scanF (toL s)).2.2]) [])
def RPartsP (G : World → CS → Prop) : Prop := ∀ (s : ByteArray) (T F : List ByteArray) (Pl : List Nat) (e : Nat), s.size ≤ 50000 → partsF (toL s) = (⟨T.map toL, F.map toL, Pl⟩, e) → ACalls Tryz.prog G 135 none [sI s] (.ret (.tup [.sl (T.map fun x => [sI x]) false, .sl (F.map fun x => [sI x]) false, .sl (Pl.map fun (n : Nat) => [iI n]) false, iI e]) [])
def RQuoteP (G : World → CS → Prop) : Prop := ∀ s : ByteArray, s.size ≤ 1000000 → ACalls Tryz.prog G 136 none [sI s] (.ret (.tup [sI ⟨(readQ (toL s)).1.toArray⟩, iI (readQ (toL s)).2.1, iI (readQ (toL s)).2.2]) [])
theorem failR_i (E : Env) (s : St) (e : Nat) : (failR E s e).i = E.l.length := by unfold failR; split <;> rfl
theorem r_own (f : Nat) (IH : IHR G f) (s : ByteArray) (a b c : Nat) (hs : s.size ≤ 50000) (hb : a + b + c + s.size ≤ 1000000) (g : Nat) (hg : g ≤ f) (m : NJ) (own : St) (h : runR g (envOf (toL s) (a + b + c)) .whole ⟨0, 0, 0⟩ = some (m, own)) :
    ACalls Tryz.prog G 14 (some [.sl ((scanF (toL s)).1.map tokIV) false, iI 0, iI ((a : Int) + (b : Int) + (c : Int)), iI s.size, iI 0, iI 0]) [] (.ret (.agg (nodeIV m)) (rdrIV (envOf (toL s) (a + b + c)) own)) := by
  have cw := IH g hg _ (envOf_eb _ _ hs hb) _ _ _ h; have e : rdrIV (envOf (toL s) (a + b + c)) ⟨0, 0, 0⟩ = [.sl ((scanF (toL s)).1.map tokIV) false, iI 0, iI ((a : Int) + (b : Int) + (c : Int)), iI s.size, iI 0, iI 0] := by
    unfold rdrIV envOf; rw [toL_len]; simp only [Int.natCast_add]; rfl
  rw [← e]; exact cw
theorem r_text (gk : GK G) (f : Nat) (IH : IHR G f) (E : Env) (hE : EB E) (s : St) (hSc : RScanP G) (hPt : RPartsP G) (hQ : RQuoteP G) (w5 : (tokAt E s.i).kind = 5) (r : NJ × St) (h : stepR (runR f) E (.text) s = some r) : ACalls Tryz.prog G 130 (some (rdrIV E s)) [] (resR E r) := by
  simp only [stepR] at h; have hi := tok_lt' (E := E) (i := s.i) (by rw [w5]; decide); have hts := hE.tx _ (by rw [tok_lt hi]; exact List.getElem_mem hi : tokAt E s.i ∈ E.l); have hqu := hE.qu _ (by rw [tok_lt hi]; exact List.getElem_mem hi : tokAt E s.i ∈ E.l) w5; have hbe := hE.be; have htk := tok_lt hi; obtain ⟨t, ht⟩ : ∃ t, tokAt E s.i = t := ⟨_, rfl⟩
  rw [ht] at h hts hqu w5 htk; have htk2 := htk.symm; clear htk; obtain ⟨⟨⟨T0, F0, Pl⟩, pe⟩, hp⟩ : ∃ p, partsF (toL t.text) = p := ⟨_, rfl⟩
  have hpo := partsF_ok (toL t.text); have hsu := partsF_sum (toL t.text); rw [show t.text.data.toList = toL t.text from rfl, hp] at h; rw [hp, toL_len] at hpo hsu; obtain ⟨T, rfl⟩ := toL_all T0; obtain ⟨Fs, rfl⟩ := toL_all F0; have cp := hPt t.text T Fs Pl pe hts hp; dsimp only at h hsu; rw [List.length_map] at hsu; have hTF : T.length = 0 ∨ T.length = Fs.length + 1 := by
    have := parts_len (toL t.text); rw [hp] at this; rcases this with ⟨h1, _⟩ | h1
    · left; have := congrArg List.length h1; simpa using this
    right; simpa only [List.length_map] using h1
  clear hp; have hT : ∀ t ∈ T, t.size ≤ 50000 := fun t ht => by have := hpo.tx (toL t) (List.mem_map_of_mem ht); rw [toL_len] at this; omega
  have hPF : Pl.length = Fs.length := by have := hpo.len; simpa only [List.length_map] using this
  have hFs : ∀ (k : Nat) (h1 : k < Fs.length) (h2 : k < Pl.length), Pl[k] + Fs[k].size ≤ t.text.size := fun k h1 h2 => by
    obtain ⟨_, h3⟩ := hpo.at_ (k := k) (by simpa only [List.length_map] using h1); simpa only [List.getElem_map, toL_len] using h3
  have hTl : T.length ≤ 100000 := by omega
  have hr := rng ((s.i : Int) + 1) (by have := hE.len; omega); clear hpo hsu; refine ACalls.enter Tryz.func130 rfl rfl gk Tryz.ntmps130 fun X F => ?_
  apply Ar F; go_simp; (repeat apply Aq); refine Ad F [0, 1, 2, 3, 4, 5, 6, 7, 8, 9, 10, 11] [(3, 10), (7, 10), (8, 10), (9, 10)] mixed (by kernel_rfl) ?_; go_simp; apply Ar F; go_simp; refine ⟨_, cp, ?_⟩; go_simp; apply Ar F; go_simp; apply Ar F; go_simp; (repeat apply Aq); apply Ab; (repeat apply Aq); refine AW.loopP [0, 2, 3, 4, 5, 6, 8, 9] [1000, 2, 3, 8, 72] (by decide) (fun g st => ∃ (k : Nat) (kids : List NJ), st = mkS [(0, .ptr 1000 0), (2, .ptr 2 0), (3, .ptr 3 0), (4, .im (.sl (T.map fun x => [sI x]) false)), (5, .im (.sl (Fs.map fun x => [sI x]) false)), (6, .im (.sl (Pl.map fun (n : Nat) => [iI n]) false)), (8, .ptr 8 0), (9, .im (iI k))] [(1000, .box ((rdrIV E s).map .im)), (2, .box zeroN), (3, .box ((tokIV t).map .im)), (8, .box [.im (iI 4), .im (sI ⟨#[]⟩), .im (iI 0), .im (iI 0), kidC 72 kids, .im (.sl [] true)]), (72, rowC kids)] ∧ g ≤ f ∧ k ≤ T.length ∧ kids.length ≤ 2 * k ∧ runR g E (.parts ((T.drop k).map toL) ((Fs.drop k).map toL) (Pl.drop k) kids) s = some r) (f) ?_ ?_
  · refine ⟨0, [], ?_, Nr f, Nat.zero_le _, Nat.zero_le _, h⟩
    go_simp
  rintro g st ⟨k, kids, rfl, hg, hk, hl, h⟩; rcases g with _ | g
  · cases h
  simp only [runR, stepR] at h; rcases kids with _ | ⟨ka, _ | ⟨kb, kids⟩⟩
  · try (have hk2 : kids.length ≤ 999999997 := by simp only [lB] at hl; omega)
    try (have hk3 : kids.length ≤ 999999996 := by simp only [lB] at hl; omega)
    by_cases hkt : k < T.length
    · rw [List.drop_eq_getElem_cons hkt, List.map_cons] at h
      dsimp only at h; have htk := hT T[k] (List.getElem_mem hkt); have hkI : (k : Int) < (T.length : Int) := by omega
      have cq := hQ (⟨#[34]⟩ ++ T[k] ++ ⟨#[34]⟩) (by rw [size_q]; omega); rw [toL_q] at cq; obtain ⟨⟨qs, qn, qe⟩, hq⟩ : ∃ p, readQ (textQ (toL T[k])) = p := ⟨_, rfl⟩
      rw [hq] at h cq; dsimp only at h cq; rw [toL_len] at h; clear hq; have z1 : 1 + T[k].size ≤ 9223372036854775807 := by omega
      have z2 : 1 + T[k].size ≤ 9223372036854775806 := by omega
      have z4 := rng ((T[k].size : Int) + 2) (by omega); have z5 := rng ((k : Int) + 1) (by omega); apply Ar F; go_simp; (repeat apply Aq); refine At (by go_simp) ?_; apply As; go_simp; (repeat apply Aq); apply Ab; apply Ar F; go_simp; refine ⟨_, cq, ?_⟩; go_simp; by_cases w1 : qe ≠ 0 ∨ qn ≠ T[k].size + 2
      · rw [if_pos w1] at h
        obtain rfl := Oi h; by_cases w2 : qe = 0
        · have w3 : ¬ (qn : Int) = (T[k].size : Int) + 2 := by omega
          apply Ar F; go_simp; (repeat apply Aq); refine At (by go_simp) ?_; apply Ar F; go_simp; refine ⟨_, r_fail gk E hE (s) 20, ?_⟩; go_simp; apply Au; go_simp
        have w3 : ¬ (qe : Int) = 0 := by omega
        apply Ar F; go_simp; (repeat apply Aq); refine At (by go_simp) ?_; apply Ar F; go_simp; refine ⟨_, r_fail gk E hE (s) 20, ?_⟩; go_simp; apply Au; go_simp
      rw [if_neg w1] at h; obtain ⟨w2, w3⟩ : qe = 0 ∧ qn = T[k].size + 2 := by omega
      subst w2; have w3I : (qn : Int) = (T[k].size : Int) + 2 := by omega
      apply Ar F; go_simp; (repeat apply Aq); refine Af (by go_simp) ?_; apply As; go_simp; (repeat apply Aq); refine Ad F [0, 1, 2, 3, 4, 5, 6, 7] [(1, 3)] mixed (by kernel_rfl) ?_; go_simp; refine ⟨_, r_str gk ⟨qs.toArray⟩, ?_⟩; go_simp; by_cases hf : k < Fs.length
      · have hp : k < Pl.length := by omega
        have hfI : ¬ (k : Int) = (Fs.length : Int) := by omega
        have hfs := hFs k hf hp; have hs1 := rng ((E.base : Int) + (t.at_ : Int)) (by omega); have hs2 := rng ((E.base : Int) + (t.at_ : Int) + (Pl[k] : Int)) (by omega); rw [List.drop_eq_getElem_cons hf, List.map_cons, List.drop_eq_getElem_cons hp] at h; simp only [List.headD_cons, List.tail_cons] at h; rw [ht] at h; have csc := hSc Fs[k] (by omega); apply Ar F; go_simp; (repeat apply Aq); refine Af (by go_simp) ?_; apply As; go_simp; apply Ar F; go_simp; refine ⟨_, csc, ?_⟩; go_simp; (repeat apply Aq); refine Ad F [0, 1, 2, 3, 4, 5, 6, 7, 8, 9, 10, 11, 12, 13, 14, 15, 16, 17, 18, 19, 20] [] mixed (by kernel_rfl) ?_; go_simp; (repeat apply Aq); refine Ad F [0, 1, 2, 3, 4, 5, 6, 7] [(1, 3)] mixed (by kernel_rfl) ?_; go_simp; obtain ⟨n2, s2, hx2, h⟩ := bindR_some h; have c2 := r_own f IH Fs[k] E.base t.at_ Pl[k] (by omega) (by omega) g (by omega) n2 s2 hx2; refine ⟨_, c2, ?_⟩; obtain ⟨k2, t2, m2, q2, l2, b2⟩ := n2; try dsimp only at h
        clear c2; clear hx2; go_simp; by_cases we : s2.err ≠ 0
        · rw [if_pos we] at h
          obtain rfl := Oi h; have weI : ¬ ((s2.err : Nat) : Int) = 0 := by omega
          have hfi := failR_i E s s2.err; apply Ar F; go_simp; (repeat apply Aq); refine At (by go_simp) ?_; apply Ar F; go_simp; refine ⟨_, r_fail gk E hE (s) s2.err, ?_⟩; go_simp; apply Ar F; go_simp; apply Ar F; go_simp; apply Au; go_simp
        rw [if_neg we] at h; obtain ⟨i2, e2, a2⟩ := s2; obtain rfl : e2 = 0 := Dn we; apply Ar F; go_simp; (repeat apply Aq); refine Af (by go_simp) ?_; apply As; go_simp; apply Ar F; go_simp; simp only [List.map_drop] at h; refine ⟨g, by omega, k + 1, _, ?_, by omega, by omega, by simp only [lA, lB, lC] at hl ⊢; omega, h⟩; go_simp
      have hfI : (k : Int) = (Fs.length : Int) := by omega
      rw [dropnil Fs (k) (by omega), List.map_nil] at h; dsimp only at h; obtain rfl := Oi h; clear h; apply Ar F; go_simp; (repeat apply Aq); refine At (by go_simp) ?_; apply Ae; go_simp; apply Ar F; go_simp; apply Ar F; go_simp; (repeat apply Aq); refine At (by go_simp) ?_; apply Ar F; go_simp; apply Au; go_simp
    have hkI : ¬ (k : Int) < (T.length : Int) := by omega
    rw [dropnil T (k) (by omega), List.map_nil] at h; dsimp only at h; obtain rfl := Oi h; clear h; apply Ar F; go_simp; (repeat apply Aq); refine Af (by go_simp) ?_; apply Ae; go_simp; apply Ar F; go_simp; apply Ar F; go_simp; (repeat apply Aq); refine Af (by go_simp) ?_; apply As; go_simp; apply Ar F; go_simp; apply Au; go_simp
  · try (have hk2 : kids.length ≤ 999999997 := by simp only [lB] at hl; omega)
    try (have hk3 : kids.length ≤ 999999996 := by simp only [lB] at hl; omega)
    by_cases hkt : k < T.length
    · rw [List.drop_eq_getElem_cons hkt, List.map_cons] at h
      dsimp only at h; have htk := hT T[k] (List.getElem_mem hkt); have hkI : (k : Int) < (T.length : Int) := by omega
      have cq := hQ (⟨#[34]⟩ ++ T[k] ++ ⟨#[34]⟩) (by rw [size_q]; omega); rw [toL_q] at cq; obtain ⟨⟨qs, qn, qe⟩, hq⟩ : ∃ p, readQ (textQ (toL T[k])) = p := ⟨_, rfl⟩
      rw [hq] at h cq; dsimp only at h cq; rw [toL_len] at h; clear hq; have z1 : 1 + T[k].size ≤ 9223372036854775807 := by omega
      have z2 : 1 + T[k].size ≤ 9223372036854775806 := by omega
      have z4 := rng ((T[k].size : Int) + 2) (by omega); have z5 := rng ((k : Int) + 1) (by omega); apply Ar F; go_simp; (repeat apply Aq); refine At (by go_simp) ?_; apply As; go_simp; (repeat apply Aq); apply Ab; apply Ar F; go_simp; refine ⟨_, cq, ?_⟩; go_simp; by_cases w1 : qe ≠ 0 ∨ qn ≠ T[k].size + 2
      · rw [if_pos w1] at h
        obtain rfl := Oi h; by_cases w2 : qe = 0
        · have w3 : ¬ (qn : Int) = (T[k].size : Int) + 2 := by omega
          apply Ar F; go_simp; (repeat apply Aq); refine At (by go_simp) ?_; apply Ar F; go_simp; refine ⟨_, r_fail gk E hE (s) 20, ?_⟩; go_simp; apply Au; go_simp
        have w3 : ¬ (qe : Int) = 0 := by omega
        apply Ar F; go_simp; (repeat apply Aq); refine At (by go_simp) ?_; apply Ar F; go_simp; refine ⟨_, r_fail gk E hE (s) 20, ?_⟩; go_simp; apply Au; go_simp
      rw [if_neg w1] at h; obtain ⟨w2, w3⟩ : qe = 0 ∧ qn = T[k].size + 2 := by omega
      subst w2; have w3I : (qn : Int) = (T[k].size : Int) + 2 := by omega
      apply Ar F; go_simp; (repeat apply Aq); refine Af (by go_simp) ?_; apply As; go_simp; (repeat apply Aq); refine Ad F [0, 1, 2, 3, 4, 5, 6, 7] [(1, 3)] mixed (by kernel_rfl) ?_; go_simp; refine ⟨_, r_str gk ⟨qs.toArray⟩, ?_⟩; go_simp; by_cases hf : k < Fs.length
      · have hp : k < Pl.length := by omega
        have hfI : ¬ (k : Int) = (Fs.length : Int) := by omega
        have hfs := hFs k hf hp; have hs1 := rng ((E.base : Int) + (t.at_ : Int)) (by omega); have hs2 := rng ((E.base : Int) + (t.at_ : Int) + (Pl[k] : Int)) (by omega); rw [List.drop_eq_getElem_cons hf, List.map_cons, List.drop_eq_getElem_cons hp] at h; simp only [List.headD_cons, List.tail_cons] at h; rw [ht] at h; have csc := hSc Fs[k] (by omega); apply Ar F; go_simp; (repeat apply Aq); refine Af (by go_simp) ?_; apply As; go_simp; apply Ar F; go_simp; refine ⟨_, csc, ?_⟩; go_simp; (repeat apply Aq); refine Ad F [0, 1, 2, 3, 4, 5, 6, 7, 8, 9, 10, 11, 12, 13, 14, 15, 16, 17, 18, 19, 20] [] mixed (by kernel_rfl) ?_; go_simp; (repeat apply Aq); refine Ad F [0, 1, 2, 3, 4, 5, 6, 7] [(1, 3)] mixed (by kernel_rfl) ?_; go_simp; obtain ⟨n2, s2, hx2, h⟩ := bindR_some h; have c2 := r_own f IH Fs[k] E.base t.at_ Pl[k] (by omega) (by omega) g (by omega) n2 s2 hx2; refine ⟨_, c2, ?_⟩; obtain ⟨k2, t2, m2, q2, l2, b2⟩ := n2; try dsimp only at h
        clear c2; clear hx2; go_simp; by_cases we : s2.err ≠ 0
        · rw [if_pos we] at h
          obtain rfl := Oi h; have weI : ¬ ((s2.err : Nat) : Int) = 0 := by omega
          have hfi := failR_i E s s2.err; apply Ar F; go_simp; (repeat apply Aq); refine At (by go_simp) ?_; apply Ar F; go_simp; refine ⟨_, r_fail gk E hE (s) s2.err, ?_⟩; go_simp; apply Ar F; go_simp; apply Ar F; go_simp; apply Au; go_simp
        rw [if_neg we] at h; obtain ⟨i2, e2, a2⟩ := s2; obtain rfl : e2 = 0 := Dn we; apply Ar F; go_simp; (repeat apply Aq); refine Af (by go_simp) ?_; apply As; go_simp; apply Ar F; go_simp; simp only [List.map_drop] at h; refine ⟨g, by omega, k + 1, _, ?_, by omega, by omega, by simp only [lA, lB, lC] at hl ⊢; omega, h⟩; go_simp
      have hfI : (k : Int) = (Fs.length : Int) := by omega
      rw [dropnil Fs (k) (by omega), List.map_nil] at h; dsimp only at h; obtain rfl := Oi h; clear h; apply Ar F; go_simp; (repeat apply Aq); refine At (by go_simp) ?_; apply Ae; go_simp; apply Ar F; go_simp; apply Ar F; go_simp; (repeat apply Aq); refine Af (by go_simp) ?_; apply As; go_simp; apply Ar F; go_simp; apply Au; go_simp
    have hkI : ¬ (k : Int) < (T.length : Int) := by omega
    rw [dropnil T (k) (by omega), List.map_nil] at h; dsimp only at h; obtain rfl := Oi h; clear h; apply Ar F; go_simp; (repeat apply Aq); refine Af (by go_simp) ?_; apply Ae; go_simp; obtain ⟨k9, s9, m9, q9, l9, b9⟩ := ka; apply Ar F; go_simp; apply Ar F; go_simp; (repeat apply Aq); refine At (by go_simp) ?_; apply Ar F; go_simp; apply Au; go_simp
  try (have hk2 : kids.length ≤ 999999997 := by simp only [lB] at hl; omega)
  try (have hk3 : kids.length ≤ 999999996 := by simp only [lB] at hl; omega)
  by_cases hkt : k < T.length
  · rw [List.drop_eq_getElem_cons hkt, List.map_cons] at h
    dsimp only at h; have htk := hT T[k] (List.getElem_mem hkt); have hkI : (k : Int) < (T.length : Int) := by omega
    have cq := hQ (⟨#[34]⟩ ++ T[k] ++ ⟨#[34]⟩) (by rw [size_q]; omega); rw [toL_q] at cq; obtain ⟨⟨qs, qn, qe⟩, hq⟩ : ∃ p, readQ (textQ (toL T[k])) = p := ⟨_, rfl⟩
    rw [hq] at h cq; dsimp only at h cq; rw [toL_len] at h; clear hq; have z1 : 1 + T[k].size ≤ 9223372036854775807 := by omega
    have z2 : 1 + T[k].size ≤ 9223372036854775806 := by omega
    have z4 := rng ((T[k].size : Int) + 2) (by omega); have z5 := rng ((k : Int) + 1) (by omega); apply Ar F; go_simp; (repeat apply Aq); refine At (by go_simp) ?_; apply As; go_simp; (repeat apply Aq); apply Ab; apply Ar F; go_simp; refine ⟨_, cq, ?_⟩; go_simp; by_cases w1 : qe ≠ 0 ∨ qn ≠ T[k].size + 2
    · rw [if_pos w1] at h
      obtain rfl := Oi h; by_cases w2 : qe = 0
      · have w3 : ¬ (qn : Int) = (T[k].size : Int) + 2 := by omega
        apply Ar F; go_simp; (repeat apply Aq); refine At (by go_simp) ?_; apply Ar F; go_simp; refine ⟨_, r_fail gk E hE (s) 20, ?_⟩; go_simp; apply Au; go_simp
      have w3 : ¬ (qe : Int) = 0 := by omega
      apply Ar F; go_simp; (repeat apply Aq); refine At (by go_simp) ?_; apply Ar F; go_simp; refine ⟨_, r_fail gk E hE (s) 20, ?_⟩; go_simp; apply Au; go_simp
    rw [if_neg w1] at h; obtain ⟨w2, w3⟩ : qe = 0 ∧ qn = T[k].size + 2 := by omega
    subst w2; have w3I : (qn : Int) = (T[k].size : Int) + 2 := by omega
    apply Ar F; go_simp; (repeat apply Aq); refine Af (by go_simp) ?_; apply As; go_simp; (repeat apply Aq); refine Ad F [0, 1, 2, 3, 4, 5, 6, 7] [(1, 3)] mixed (by kernel_rfl) ?_; go_simp; refine ⟨_, r_str gk ⟨qs.toArray⟩, ?_⟩; go_simp; by_cases hf : k < Fs.length
    · have hp : k < Pl.length := by omega
      have hfI : ¬ (k : Int) = (Fs.length : Int) := by omega
      have hfs := hFs k hf hp; have hs1 := rng ((E.base : Int) + (t.at_ : Int)) (by omega); have hs2 := rng ((E.base : Int) + (t.at_ : Int) + (Pl[k] : Int)) (by omega); rw [List.drop_eq_getElem_cons hf, List.map_cons, List.drop_eq_getElem_cons hp] at h; simp only [List.headD_cons, List.tail_cons] at h; rw [ht] at h; have csc := hSc Fs[k] (by omega); apply Ar F; go_simp; (repeat apply Aq); refine Af (by go_simp) ?_; apply As; go_simp; apply Ar F; go_simp; refine ⟨_, csc, ?_⟩; go_simp; (repeat apply Aq); refine Ad F [0, 1, 2, 3, 4, 5, 6, 7, 8, 9, 10, 11, 12, 13, 14, 15, 16, 17, 18, 19, 20] [] mixed (by kernel_rfl) ?_; go_simp; (repeat apply Aq); refine Ad F [0, 1, 2, 3, 4, 5, 6, 7] [(1, 3)] mixed (by kernel_rfl) ?_; go_simp; obtain ⟨n2, s2, hx2, h⟩ := bindR_some h; have c2 := r_own f IH Fs[k] E.base t.at_ Pl[k] (by omega) (by omega) g (by omega) n2 s2 hx2; refine ⟨_, c2, ?_⟩; obtain ⟨k2, t2, m2, q2, l2, b2⟩ := n2; try dsimp only at h
      clear c2; clear hx2; go_simp; by_cases we : s2.err ≠ 0
      · rw [if_pos we] at h
        obtain rfl := Oi h; have weI : ¬ ((s2.err : Nat) : Int) = 0 := by omega
        have hfi := failR_i E s s2.err; apply Ar F; go_simp; (repeat apply Aq); refine At (by go_simp) ?_; apply Ar F; go_simp; refine ⟨_, r_fail gk E hE (s) s2.err, ?_⟩; go_simp; apply Ar F; go_simp; apply Ar F; go_simp; apply Au; go_simp
      rw [if_neg we] at h; obtain ⟨i2, e2, a2⟩ := s2; obtain rfl : e2 = 0 := Dn we; apply Ar F; go_simp; (repeat apply Aq); refine Af (by go_simp) ?_; apply As; go_simp; apply Ar F; go_simp; simp only [List.map_drop] at h; refine ⟨g, by omega, k + 1, _, ?_, by omega, by omega, by simp only [lA, lB, lC] at hl ⊢; omega, h⟩; go_simp
    have hfI : (k : Int) = (Fs.length : Int) := by omega
    rw [dropnil Fs (k) (by omega), List.map_nil] at h; dsimp only at h; obtain rfl := Oi h; clear h; apply Ar F; go_simp; (repeat apply Aq); refine At (by go_simp) ?_; apply Ae; go_simp; have hne : ¬ (kids.length : Int) + 1 + 1 + 1 = 1 := by omega
    have hne2 : ¬ (kids.length : Int) + 1 + 1 = 0 := by omega
    apply Ar F; go_simp; apply Ar F; go_simp; (repeat apply Aq); refine Af (by go_simp) ?_; apply As; go_simp; apply Ar F; go_simp; apply Au; go_simp
  have hkI : ¬ (k : Int) < (T.length : Int) := by omega
  rw [dropnil T (k) (by omega), List.map_nil] at h; dsimp only at h; obtain rfl := Oi h; clear h; apply Ar F; go_simp; (repeat apply Aq); refine Af (by go_simp) ?_; apply Ae; go_simp; have hne : ¬ (kids.length : Int) + 1 + 1 = 1 := by omega
  apply Ar F; go_simp; apply Ar F; go_simp; (repeat apply Aq); refine Af (by go_simp) ?_; apply As; go_simp; apply Ar F; go_simp; apply Au; go_simp
open Go Go.RowKit Go.Proofs Th
set_option maxRecDepth 8000
attribute [local go_sem] zeroN nodesIV_len nodeF
variable {G : World → CS → Prop}
def shJ : Nat → NJ → Bool
  | 0, _ => false
  | n + 1, .mk _ _ _ _ l _ => l.all (shJ n)
theorem nodesIV_get : ∀ (l : List NJ) (k : Nat), (nodesIV l)[k]? = (l[k]?).map nodeIV
  | [], _ => rfl
  | a :: r, 0 => rfl
  | a :: r, k + 1 => by rw [nodesIV, List.getElem?_cons_succ, List.getElem?_cons_succ, nodesIV_get r k]
theorem nodesIV_getE (l : List NJ) (k : Nat) (h : k < (nodesIV l).length) : (nodesIV l)[k] = nodeIV (l[k]'(by rwa [nodesIV_len] at h)) := by
  have h1 := nodesIV_get l k; rw [List.getElem?_eq_getElem h, List.getElem?_eq_getElem (by rwa [nodesIV_len] at h)] at h1; exact Oi h1
theorem shJ_zero (x : NJ) : shJ 0 x = false := by cases x; rfl
attribute [local go_sem] nodesIV_getE shJ_zero
theorem kids_room {W : World} {S : CS} {us : List Value} {k : Int} {s : ByteArray} {m e : Int} {l : List NJ} {b : List ByteArray} {x : IV} (h : RepL W S [.agg (nodeIV (.mk k s m e l b)), x] us) : l.length ≤ 140737488351232 := by
  obtain ⟨hlen, hr⟩ := h; rcases us with _ | ⟨u, us⟩
  · cases hlen
  have h0 := hr 0 _ u rfl rfl; cases h0 with
  | @agg _ vs hl hR =>
    have h6 : vs.length = 6 := by rw [hl, nodeIV]; rfl
    obtain ⟨u4, hu4⟩ : ∃ u4, vs[4]? = some u4 := ⟨_, List.getElem?_eq_getElem (by omega : 4 < vs.length)⟩
    have h4 := hR 4 (.sl (nodesIV l) false) u4 (by rw [nodeIV]; rfl) hu4; cases h4 with
    | sl _ _ _ _ hl2 => rwa [nodesIV_len] at hl2
theorem syn_shallow (gk : GK G) : ∀ (n : Nat), n ≤ 1000 → ∀ x : NJ, ACalls Tryz.prog G 12 none [.agg (nodeIV x), iI n] (.ret (bI (shJ n x)) []) := by
  intro n; induction n with
  | zero =>
    intro _ x; obtain ⟨k1, s1, m1, q1, l1, b1⟩ := x; refine ACalls.enter Tryz.func12 rfl rfl gk Tryz.ntmps12 fun X F => ?_
    apply Ar F; go_simp; apply Ar F; go_simp; (repeat apply Aq); refine At (by go_simp) ?_; apply Ar F; go_simp; apply Au; go_simp
  | succ n ih =>
    intro hn x; obtain ⟨k1, s1, m1, q1, l1, b1⟩ := x; have hn0 : ¬ (n : Int) + 1 = 0 := by omega
    have hn1 := rng ((n : Int)) (by omega); obtain ⟨b, hb⟩ : ∃ b, l1.all (shJ n) = b := ⟨_, rfl⟩
    have hsh : shJ (n + 1) (.mk k1 s1 m1 q1 l1 b1) = b := hb; rw [hsh]; clear hsh; by_cases hlen : l1.length ≤ 140737488351232
    case neg => exact ⟨⟨_, Tryz.func12, rfl, rfl⟩, fun W S p us hG hSb hrc hrep => absurd (kids_room hrep) hlen⟩
    refine ACalls.enter Tryz.func12 rfl rfl gk Tryz.ntmps12 fun X F => ?_
    apply Ar F; go_simp; apply Ar F; go_simp; (repeat apply Aq); refine Af (by go_simp) ?_; apply As; go_simp; apply Ar F; go_simp; (repeat apply Aq); apply Ab; (repeat apply Aq); refine AW.loopP [1, 4, 10, 11, 12] [1000] (by decide) (fun g s => ∃ k : Nat, s = mkS [(1, .im (iI ((n : Int) + 1))), (4, .im (bI false)), (10, .im (.sl (nodesIV l1) false)), (11, .im (iI l1.length)), (12, .im (iI k))] [] ∧ g = l1.length - k ∧ k ≤ l1.length ∧ (l1.drop k).all (shJ n) = b) (l1.length) ?_ ?_
    · refine ⟨0, ?_, by omega, by omega, hb⟩
      go_simp
    rintro g s ⟨k, rfl, rfl, hk, h⟩; by_cases hkt : k < l1.length
    · have hkI : (k : Int) < (l1.length : Int) := by omega
      have hr := rng ((k : Int) + 1) (by omega); obtain ⟨y, hyE⟩ : ∃ y, l1[k] = y := ⟨_, rfl⟩
      rw [List.drop_eq_getElem_cons hkt, List.all_cons, hyE] at h; have cy := ih (by omega) y; obtain ⟨bs, hbs⟩ : ∃ bs, shJ n y = bs := ⟨_, rfl⟩
      rw [hbs] at h cy; clear hbs; obtain ⟨k2, s2, m2, q2, l2, b2⟩ := y; apply Ar F; go_simp; (repeat apply Aq); refine At (by go_simp) ?_; apply As; go_simp; (repeat apply Aq); apply Ab; apply Ar F; go_simp; apply Ar F; go_simp; refine ⟨_, cy, ?_⟩; go_simp; by_cases ht : bs = true
      · subst ht
        rw [Bool.true_and] at h; (repeat apply Aq); refine Af (by go_simp) ?_; apply As; go_simp; apply Ar F; go_simp; refine ⟨l1.length - (k + 1), by omega, k + 1, ?_, rfl, by omega, h⟩; go_simp
      obtain rfl : bs = false := by cases bs; rfl; exact absurd rfl ht
      obtain rfl : false = b := h; (repeat apply Aq); refine At (by go_simp) ?_; apply Ar F; go_simp; apply Au; go_simp
    have hkI : ¬ (k : Int) < (l1.length : Int) := by omega
    rw [List.drop_eq_nil_of_le (by omega)] at h; obtain rfl : true = b := h; apply Ar F; go_simp; (repeat apply Aq); refine Af (by go_simp) ?_; apply Ae; go_simp; apply Ar F; go_simp; apply Au; go_simp
end Go.Proofs.YtinknjhclpaieaaGreatDoor
