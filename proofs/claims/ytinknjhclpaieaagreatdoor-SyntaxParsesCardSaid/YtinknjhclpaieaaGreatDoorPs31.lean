/- Lemmas and contracts for the laws SyntaxParses, part 31 of 50: R10A. Conditions: those that each lemma names. -/
import Derived.Test.YtinknjhclpaieaaGreatDoorPs30
import Derived.Test.YtinknjhclpaieaaGreatDoorPs29
import Derived.Test.YtinknjhclpaieaaGreatDoorPs12
import Derived.Test.YtinknjhclpaieaaGreatDoorPs15
import Derived.Test.YtinknjhclpaieaaGreatDoorPs10
set_option maxRecDepth 100000
set_option maxHeartbeats 4000000
namespace Go.Proofs.YtinknjhclpaieaaGreatDoor
open Go Go.RowKit Go.Proofs Th
set_option maxRecDepth 8000
def rdrIV (E : Env) (s : St) : List IV := [.sl (E.l.map tokIV) false, iI s.i, iI E.base, iI E.end_, iI s.err, iI s.at_]
theorem ti_rdr : tiOf Tryz.prog 55 = some (.struct [⟨0, 1, false⟩, ⟨1, 1, false⟩, ⟨2, 1, false⟩, ⟨3, 1, false⟩, ⟨4, 1, false⟩, ⟨5, 1, false⟩] [.slice none 0 0, .int .i64 0, .int .i64 0, .int .i64 0, .int .i64 0, .int .i64 0]) := by kernel_rfl
-- ATT
attribute [local go_sem] aops aopsD stepA chkD disj aguard isWant aop aval abuil acall acallP acallR argsIV valOf aput startS mkS numb look upd toIV allIV zeroFV aload setSeg afill aelems cellsOf toSl toVal valsOf aidx abin ainR FV.ok IV.one IV.er IV.erA IV.er1 iI sI bI nodeIV nodesIV tokIV parIV faultV resP lift AThen ABlock AEnd resL resV rload rcOf imsOf oneV nodeJ kidsJ strJ knownJ selfJ noNJ noTf foot owns pruneS filtF filtO Value.oneCell'
attribute [local go_sem] ti_node ti_tok ti_par ti_fault ti_nodes ti_toks ti_strs ti_ints ti_str ti_int ti_num ti_errno
attribute [local go_sem] rdrIV ti_rdr St.next sel -- END
variable {G : World → CS → Prop}
theorem r_kind (gk : GK G) (E : Env) (s : St)  : ACalls Tryz.prog G 38 (some (rdrIV E s)) [] (.ret (iI (tokAt E s.i).kind) (rdrIV E s)) := by
  obtain ⟨i, e, a⟩ := s; by_cases h : i < E.l.length
  · rw [tok_lt h]
    refine ACalls.enter Tryz.func38 rfl rfl gk Tryz.ntmps38 fun X F => ?_
    apply Ar F; go_simp; (repeat apply Aq); refine Ad F [0, 1, 2, 3, 4, 5, 6, 7, 8, 9] [] mixed (by kernel_rfl) ?_; go_simp; (repeat apply Aq); refine At (by go_simp) ?_; (repeat apply Aq); refine Ad F [0, 1, 2, 3, 4, 5, 6, 7, 8, 9, 10, 11] [] mixed (by kernel_rfl) ?_; go_simp; apply Au; go_simp
  rw [tok_ge h]; refine ACalls.enter Tryz.func38 rfl rfl gk Tryz.ntmps38 fun X F => ?_
  apply Ar F; go_simp; (repeat apply Aq); refine Ad F [0, 1, 2, 3, 4, 5, 6, 7, 8, 9] [] mixed (by kernel_rfl) ?_; go_simp; (repeat apply Aq); refine Af (by go_simp) ?_; apply As; go_simp; apply Ar F; go_simp; apply Au; go_simp
theorem r_is (gk : GK G) (E : Env) (s : St) (x : ByteArray) : ACalls Tryz.prog G 59 (some (rdrIV E s)) [sI x] (.ret (bI (decide (isR E s x))) (rdrIV E s)) := by
  have hp := r_kind gk E s; obtain ⟨i, e, a⟩ := s; by_cases hk : (tokAt E i).kind = 1 ∨ (tokAt E i).kind = 6
  · have hi := tok_lt' (E := E) (i := i) (by omega)
    have hd : decide (isR E ⟨i, e, a⟩ x) = decide ((tokAt E i).text = x) := by
      by_cases h : (tokAt E i).text = x
      · rw [decide_eq_true h, decide_eq_true (show isR E ⟨i, e, a⟩ x from ⟨hk, h⟩)]
      rw [decide_eq_false h, decide_eq_false (show ¬ isR E ⟨i, e, a⟩ x from fun hh => h hh.2)]
    rw [hd]; dsimp only at hp; rw [tok_lt hi] at hp hk ⊢; rcases hk with h1 | h1
    · rw [h1] at hp
      refine ACalls.enter Tryz.func59 rfl rfl gk Tryz.ntmps59 fun X F => ?_
      apply Ar F; go_simp; apply Ar F; go_simp; refine ⟨_, hp, ?_⟩; go_simp; (repeat apply Aq); refine Ad F [0, 1, 2, 3, 4, 5, 6, 7, 8, 9, 10, 11, 12, 13, 14, 15, 16, 17, 18, 19, 20, 21] [] mixed (by kernel_rfl) ?_; go_simp; apply Au; go_simp
    rw [h1] at hp; refine ACalls.enter Tryz.func59 rfl rfl gk Tryz.ntmps59 fun X F => ?_
    apply Ar F; go_simp; apply Ar F; go_simp; refine ⟨_, hp, ?_⟩; go_simp; (repeat apply Aq); refine Ad F [0, 1, 2, 3, 4, 5, 6, 7, 8, 9, 10, 11, 12, 13, 14, 15, 16, 17, 18, 19, 20, 21] [] mixed (by kernel_rfl) ?_; go_simp; apply Au; go_simp
  rw [decide_eq_false (fun h => hk h.1)]; have h1 : ¬ ((tokAt E i).kind : Int) = 1 := by omega
  have h6 : ¬ ((tokAt E i).kind : Int) = 6 := by omega
  refine ACalls.enter Tryz.func59 rfl rfl gk Tryz.ntmps59 fun X F => ?_
  apply Ar F; go_simp; apply Ar F; go_simp; refine ⟨_, hp, ?_⟩; go_simp; (repeat apply Aq); refine Ad F [0, 1, 2, 3, 4, 5, 6, 7, 8, 9, 10, 11, 12, 13, 14, 15, 16, 17, 18, 19, 20, 21] [] mixed (by kernel_rfl) ?_; go_simp; apply Au; go_simp
theorem hasR_in {E : Env} {s : St} {x : ByteArray} (h : hasR E s x) : s.i < E.l.length := tok_lt' (by have := h.2.1; omega)
theorem r_has_yes (gk : GK G) (E : Env) (s : St) (hl : E.l.length ≤ 100000) (x : ByteArray) (h : hasR E s x) : ACalls Tryz.prog G 36 (some (rdrIV E s)) [sI x] (.ret (bI true) (rdrIV E s.next)) := by
  have hi := hasR_in h; have hp := r_is gk E s x; rw [decide_eq_true h.2] at hp; have he := h.1; obtain ⟨i, e, a⟩ := s; dsimp only at he hi; subst he; have hr := rng ((i : Int) + 1) (by omega); clear h hi hl; refine ACalls.enter Tryz.func36 rfl rfl gk Tryz.ntmps36 fun X F => ?_
  apply Ar F; go_simp; apply Ar F; go_simp; refine ⟨_, hp, ?_⟩; go_simp; (repeat apply Aq); refine Af (by go_simp) ?_; apply As; go_simp; apply Ar F; go_simp; apply Ar F; go_simp; apply Au; go_simp
theorem r_has_no (gk : GK G) (E : Env) (s : St) (x : ByteArray) (h : ¬ hasR E s x) : ACalls Tryz.prog G 36 (some (rdrIV E s)) [sI x] (.ret (bI false) (rdrIV E s)) := by
  have hp := r_is gk E s x; by_cases he : s.err = 0
  · rw [decide_eq_false (fun h2 => h ⟨he, h2⟩)] at hp
    obtain ⟨i, e, a⟩ := s; dsimp only at he; subst he; clear h; refine ACalls.enter Tryz.func36 rfl rfl gk Tryz.ntmps36 fun X F => ?_
    apply Ar F; go_simp; apply Ar F; go_simp; refine ⟨_, hp, ?_⟩; go_simp; (repeat apply Aq); refine At (by go_simp) ?_; apply Ar F; go_simp; apply Au; go_simp
  have he2 : ¬ (s.err : Int) = 0 := by omega
  obtain ⟨i, e, a⟩ := s; clear h hp; refine ACalls.enter Tryz.func36 rfl rfl gk Tryz.ntmps36 fun X F => ?_
  apply Ar F; go_simp; apply Ar F; go_simp; (repeat apply Aq); refine At (by go_simp) ?_; apply Ar F; go_simp; apply Au; go_simp
theorem r_fail (gk : GK G) (E : Env) (hE : EB E) (s : St) (e : Nat) : ACalls Tryz.prog G 21 (some (rdrIV E s)) [iI e] (.ret (.agg (nodeIV noNJ)) (rdrIV E (failR E s e))) := by
  have h2 := hE.be; by_cases he : s.err = 0
  · rw [show failR E s e = ⟨E.l.length, e, failAt E s.i⟩ from if_pos he]
    obtain ⟨i, e0, a⟩ := s; dsimp only at he ⊢; subst he; by_cases h : i < E.l.length
    · rw [fail_lt h]
      have hr := rng ((E.base : Int) + E.l[i].at_) (by have := hE.at_ _ (List.getElem_mem h); omega); have hr2 := rng ((E.base : Int) + E.end_) (by omega); refine ACalls.enter Tryz.func21 rfl rfl gk Tryz.ntmps21 fun X F => ?_
      apply Ar F; go_simp; apply Ar F; go_simp; (repeat apply Aq); refine At (by go_simp) ?_; apply Ar F; go_simp; (repeat apply Aq); refine Ad F [0, 1, 2, 3, 4, 5, 6, 7, 8, 9, 10, 11, 12] [] mixed (by kernel_rfl) ?_; go_simp; (repeat apply Aq); refine Ad F [0, 1, 2, 3, 4, 5, 6, 7, 8, 9] [] mixed (by kernel_rfl) ?_; go_simp; (repeat apply Aq); refine At (by go_simp) ?_; (repeat apply Aq); refine Ad F [0, 1, 2, 3, 4, 5, 6, 7, 8, 9, 10, 11, 12, 13, 14, 15, 16, 17, 18, 19] [] mixed (by kernel_rfl) ?_; go_simp; apply Ar F; go_simp; apply Ar F; go_simp; apply Au; go_simp
    rw [fail_ge h]; have hr := rng ((E.base : Int) + E.end_) (by omega); refine ACalls.enter Tryz.func21 rfl rfl gk Tryz.ntmps21 fun X F => ?_
    apply Ar F; go_simp; apply Ar F; go_simp; (repeat apply Aq); refine At (by go_simp) ?_; apply Ar F; go_simp; (repeat apply Aq); refine Ad F [0, 1, 2, 3, 4, 5, 6, 7, 8, 9, 10, 11, 12] [] mixed (by kernel_rfl) ?_; go_simp; (repeat apply Aq); refine Ad F [0, 1, 2, 3, 4, 5, 6, 7, 8, 9] [] mixed (by kernel_rfl) ?_; go_simp; (repeat apply Aq); refine Af (by go_simp) ?_; apply As; go_simp; apply Ar F; go_simp; apply Ar F; go_simp; apply Au; go_simp
  rw [show failR E s e = ⟨E.l.length, s.err, s.at_⟩ from if_neg he]; have he2 : ¬ (s.err : Int) = 0 := by omega
  obtain ⟨i, e0, a⟩ := s; refine ACalls.enter Tryz.func21 rfl rfl gk Tryz.ntmps21 fun X F => ?_
  apply Ar F; go_simp; apply Ar F; go_simp; (repeat apply Aq); refine Af (by go_simp) ?_; apply As; go_simp; apply Ar F; go_simp; apply Ar F; go_simp; apply Au; go_simp
theorem r_want (gk : GK G) (E : Env) (hE : EB E) (s : St) (x : ByteArray) : ACalls Tryz.prog G 39 (some (rdrIV E s)) [sI x] (.ret (.tup []) (rdrIV E (wantR E s x))) := by
  by_cases h : hasR E s x
  · rw [show wantR E s x = s.next from if_pos h]
    have hp := r_has_yes gk E s hE.len x h; clear h; refine ACalls.enter Tryz.func39 rfl rfl gk Tryz.ntmps39 fun X F => ?_
    apply Ar F; go_simp; refine ⟨_, hp, ?_⟩; go_simp; (repeat apply Aq); refine Af (by go_simp) ?_; apply As; go_simp
  rw [show wantR E s x = failR E s 60 from if_neg h]; have hp := r_has_no gk E s x h; have hf := r_fail gk E hE s 60; clear h; refine ACalls.enter Tryz.func39 rfl rfl gk Tryz.ntmps39 fun X F => ?_
  apply Ar F; go_simp; refine ⟨_, hp, ?_⟩; go_simp; (repeat apply Aq); refine At (by go_simp) ?_; apply Ar F; go_simp; refine ⟨_, hf, ?_⟩; go_simp
theorem r_node (gk : GK G) (k : Int) (x : ByteArray) (a b : NJ) : ACalls Tryz.prog G 41 none [iI k, sI x, .agg (nodeIV a), .agg (nodeIV b)] (.ret (.agg (nodeIV (nodeJ k x a b))) []) := by
  obtain ⟨k1, s1, m1, e1, l1, ks1⟩ := a; obtain ⟨k2, s2, m2, e2, l2, ks2⟩ := b; refine ACalls.enter Tryz.func41 rfl rfl gk Tryz.ntmps41 fun X F => ?_
  apply Ar F; go_simp; apply Ar F; go_simp; apply Au; go_simp
theorem r_str (gk : GK G) (x : ByteArray) : ACalls Tryz.prog G 129 none [sI x] (.ret (.agg (nodeIV (strJ x))) []) := by
  refine ACalls.enter Tryz.func129 rfl rfl gk Tryz.ntmps129 fun X F => ?_
  apply Ar F; go_simp; apply Ar F; go_simp; apply Au; go_simp
theorem words_drop (t : ByteArray) (j : Nat) (h : j < words13.length) : inB (words13.drop j) t = (decide (words13[j] = t) || inB (words13.drop (j + 1)) t) := by
  unfold inB; rw [List.drop_eq_getElem_cons h, List.any_cons]
theorem r_beq {a b : ByteArray} : (a.toList == b.toList) = decide (a = b) := by
  rw [ba_list, ba_list]; by_cases h : a = b
  · rw [h, decide_eq_true rfl, beq_self_eq_true]
  rw [decide_eq_false h, beq_eq_false_iff_ne]; exact fun h2 => h (ba_inj h2)
section
attribute [local go_sem] Above.cell
theorem r_ReservedW (s : ByteArray) (w : World) : Calls Tryz.prog 60 #[.string s] w fun r w' => r = .returned (.bool (inB words13 s)) ∧ Below w.heap.size w w' := by
  obtain ⟨R, hR⟩ : ∃ R, inB words13 s = R := ⟨_, rfl⟩
  rw [hR]; have H0 := Keep.mk (show inB (words13.drop 0) s = R from hR); clear hR; go_enter Tryz.func60, Tryz.ntmps60
  go_upto_region 2 with fail
  refine wp_world (fun W => Box W w.heap.size (words13.map Value.string) ∧ Below w.heap.size w W) ⟨Box.new (words13.map Value.string) _ rfl, al1 _ _⟩ ?_; rintro W1 ⟨hb, hw⟩; have HB := Keep.mk hb; have HW := Keep.mk hw; have hl := hb.lt; clear hb hw; go_wp2_with fail
  go_loopg [4] 13 (fun gk i wr => ∃ j : Nat, j + gk = 13 ∧ i = .int .i64 j ∧ Keep (inB (words13.drop j) s = R) ∧ W1 = wr)
  case atStart => exact ⟨0, by omega, rfl, H0, rfl⟩
  case round =>
    clear H0; obtain ⟨j, hj, rfl, HS, rfl⟩ := hrel; by_cases hlt : j < 13
    · have hgk : gk ≠ 0 := by omega
      have hq := HS.out; have hj2 : j < words13.length := hlt; rw [words_drop s j hj2] at hq; have hc : W1.cell? ⟨w.heap.size, j, none⟩ = some (.string words13[j]) := HB.out.cell j _ (by rw [List.getElem?_map, List.getElem?_eq_getElem hj2]; rfl); generalize words13[j] = q at *; cases hd : (q.toList == s.toList)
      · have HE := Keep.mk (show inB (words13.drop (j + 1)) s = R by
          rw [r_beq] at hd; rw [← hq, hd, Bool.false_or])
        clear hq HS; go_wp2
        go_roundg (gk - 1)
        case rel => exact ⟨j + 1, by omega, by go_num, HE, rfl⟩
        case measure => omega
      have HE := Keep.mk (show true = R by
        rw [r_beq] at hd; rw [← hq, hd, Bool.true_or])
      clear hq HS; go_wp2
      go_ret
      exact ⟨retb HE.out, HW.out⟩
    have HE := Keep.mk (show false = R by rw [← HS.out, show j = 13 from by omega]; rfl); have hjl : ¬ (j : Int) < 13 := by omega
    clear HS HB; go_wp2_with fail
    go_ret
    exact ⟨retb HE.out, HW.out⟩
end
theorem r_reserved (s : ByteArray) : ACalls Tryz.prog G 60 none [sI s] (.ret (bI (inB words13 s)) []) :=
  ACalls.lib (us := [.string s]) ⟨_, Tryz.func60, rfl, rfl⟩ fun W _S _ => r_ReservedW s W
theorem r_named (gk : GK G) (E : Env) (hE : EB E) (s : St) (k : Nat) (hk0 : k ≠ 0) : ACalls Tryz.prog G 37 (some (rdrIV E s)) [iI k] (.ret (sI (namedR E s k).1) (rdrIV E (namedR E s k).2)) := by
  have hp := r_kind gk E s; have hf := r_fail gk E hE s 60; by_cases he : s.err = 0
  case neg =>
    rw [show namedR E s k = (⟨#[]⟩, failR E s 60) from if_pos (Or.inl he)]; have he2 : ¬ (s.err : Int) = 0 := by omega
    generalize failR E s 60 = s2 at *; obtain ⟨i, e, a⟩ := s; dsimp only at he2; refine ACalls.enter Tryz.func37 rfl rfl gk Tryz.ntmps37 fun X F => ?_
    apply Ar F; go_simp; (repeat apply Aq); refine AW.drwN F [0, 1, 2, 3, 4, 5, 6, 8, 7] [9, 10, 11, 12, 13, 14, 15, 16, 17, 18, 19, 20, 21, 22, 23, 24, 25, 26, 27, 28] mixed (by kernel_rfl) ?_; go_simp; refine laterL_I [9, 10, 11, 12, 13, 14, 15, 16, 17, 18, 19, 20, 21, 22, 23, 24, 25, 26] [27, 28] ?_; go_simp; refine laterL_E ?_; go_simp; (repeat apply Aq); refine At (by go_simp) ?_; apply Ar F; go_simp; refine ⟨_, hf, ?_⟩; go_simp; apply Ar F; go_simp; apply Au; go_simp
  by_cases hk : (tokAt E s.i).kind = k
  case neg =>
    rw [show namedR E s k = (⟨#[]⟩, failR E s 60) from if_pos (Or.inr (Or.inl hk))]; have hk2 : ¬ ((tokAt E s.i).kind : Int) = k := by omega
    generalize failR E s 60 = s2 at *; obtain ⟨i, e, a⟩ := s; dsimp only at he; subst he; dsimp only at hk2; refine ACalls.enter Tryz.func37 rfl rfl gk Tryz.ntmps37 fun X F => ?_
    apply Ar F; go_simp; (repeat apply Aq); refine AW.drwN F [0, 1, 2, 3, 4, 5, 6, 8, 7] [9, 10, 11, 12, 13, 14, 15, 16, 17, 18, 19, 20, 21, 22, 23, 24, 25, 26, 27, 28] mixed (by kernel_rfl) ?_; go_simp; refine ⟨_, hp, ?_⟩; go_simp; refine laterL_I [9, 10, 11, 12, 13, 14, 15, 16, 17, 18, 19, 20, 21, 22, 23, 24, 25, 26] [27, 28] ?_; go_simp; refine laterL_E ?_; go_simp; (repeat apply Aq); refine At (by go_simp) ?_; apply Ar F; go_simp; refine ⟨_, hf, ?_⟩; go_simp; apply Ar F; go_simp; apply Au; go_simp
  have hi := tok_lt' (E := E) (i := s.i) (by omega); have hv := r_reserved (G := G) (tokAt E s.i).text; by_cases h1 : k = 1
  · subst h1
    by_cases hw : inB words13 (tokAt E s.i).text = true
    · rw [show namedR E s 1 = (⟨#[]⟩, failR E s 60) from if_pos (Or.inr (Or.inr ⟨rfl, hw⟩))]
      rw [hw] at hv; rw [hk] at hp; rw [tok_lt hi] at hv; generalize failR E s 60 = s2 at *; obtain ⟨i, e, a⟩ := s; dsimp only at he; subst he; dsimp only at hi hv; refine ACalls.enter Tryz.func37 rfl rfl gk Tryz.ntmps37 fun X F => ?_
      apply Ar F; go_simp; (repeat apply Aq); refine AW.drwN F [0, 1, 2, 3, 4, 5, 6, 8, 7] [9, 10, 11, 12, 13, 14, 15, 16, 17, 18, 19, 20, 21, 22, 23, 24, 25, 26, 27, 28] mixed (by kernel_rfl) ?_; go_simp; refine ⟨_, hp, ?_⟩; go_simp; refine laterL_I [9, 10, 11, 12, 13, 14, 15, 16, 17, 18, 19, 20, 21, 22, 23, 24, 25, 26] [27, 28] ?_; go_simp; refine ⟨_, hv, ?_⟩; go_simp; refine laterL_E ?_; go_simp; (repeat apply Aq); refine At (by go_simp) ?_; apply Ar F; go_simp; refine ⟨_, hf, ?_⟩; go_simp; apply Ar F; go_simp; apply Au; go_simp
    rw [show namedR E s 1 = ((tokAt E s.i).text, s.next) from if_neg (fun h => h.elim (fun h => h he) (fun h => h.elim (fun h => h hk) (fun h => hw h.2)))]; rw [Bool.eq_false_iff.2 hw] at hv; rw [hk] at hp; clear hf hw; obtain ⟨i, e, a⟩ := s; dsimp only at he hi; subst he; rw [tok_lt hi] at hv ⊢; have hr := rng ((i : Int) + 1) (by have := hE.len; omega); have hr2 := rng ((i : Int)) (by omega); refine ACalls.enter Tryz.func37 rfl rfl gk Tryz.ntmps37 fun X F => ?_
    apply Ar F; go_simp; (repeat apply Aq); refine AW.drwN F [0, 1, 2, 3, 4, 5, 6, 8, 7] [9, 10, 11, 12, 13, 14, 15, 16, 17, 18, 19, 20, 21, 22, 23, 24, 25, 26, 27, 28] mixed (by kernel_rfl) ?_; go_simp; refine ⟨_, hp, ?_⟩; go_simp; refine laterL_I [9, 10, 11, 12, 13, 14, 15, 16, 17, 18, 19, 20, 21, 22, 23, 24, 25, 26] [27, 28] ?_; go_simp; refine ⟨_, hv, ?_⟩; go_simp; refine laterL_E ?_; go_simp; (repeat apply Aq); refine Af (by go_simp) ?_; apply As; go_simp; apply Ar F; go_simp; (repeat apply Aq); refine Ad F [0, 1, 2, 3, 4, 5, 6, 7, 8, 9, 10, 11, 12] [] mixed (by kernel_rfl) ?_; go_simp; apply Au; go_simp
  have h1I : ¬ (k : Int) = 1 := by omega
  rw [show namedR E s k = ((tokAt E s.i).text, s.next) from if_neg (fun h => h.elim (fun h => h he) (fun h => h.elim (fun h => h hk) (fun h => h1 h.1)))]; rw [hk] at hp; clear hf hv; obtain ⟨i, e, a⟩ := s; dsimp only at he hi; subst he; rw [tok_lt hi]; have hr := rng ((i : Int) + 1) (by have := hE.len; omega); have hr2 := rng ((i : Int)) (by omega); refine ACalls.enter Tryz.func37 rfl rfl gk Tryz.ntmps37 fun X F => ?_
  apply Ar F; go_simp; (repeat apply Aq); refine AW.drwN F [0, 1, 2, 3, 4, 5, 6, 8, 7] [9, 10, 11, 12, 13, 14, 15, 16, 17, 18, 19, 20, 21, 22, 23, 24, 25, 26, 27, 28] mixed (by kernel_rfl) ?_; go_simp; refine ⟨_, hp, ?_⟩; go_simp; refine laterL_I [9, 10, 11, 12, 13, 14, 15, 16, 17, 18, 19, 20, 21, 22, 23, 24, 25, 26] [27, 28] ?_; go_simp; refine laterL_E ?_; go_simp; (repeat apply Aq); refine Af (by go_simp) ?_; apply As; go_simp; apply Ar F; go_simp; (repeat apply Aq); refine Ad F [0, 1, 2, 3, 4, 5, 6, 7, 8, 9, 10, 11, 12] [] mixed (by kernel_rfl) ?_; go_simp; apply Au; go_simp
theorem inB_mem' {l : List ByteArray} {x : ByteArray} : inB l x = true ↔ x ∈ l := by
  unfold inB; rw [List.any_eq_true]; exact ⟨fun ⟨q, hq, h⟩ => of_decide_eq_true h ▸ hq, fun h => ⟨x, h, decide_eq_true rfl⟩⟩
theorem hasR_any {E : Env} {s : St} {l : List ByteArray} {x : ByteArray} (h : ¬ anyR E s l) (hx : x ∈ l) : ¬ hasR E s x := fun hh => h ⟨hh.1, hh.2.1, inB_mem'.2 (hh.2.2 ▸ hx)⟩
theorem r_any_yes (gk : GK G) (E : Env) (hE : EB E) (s : St) (l : List ByteArray) (hl : l.length ≤ 1000) (ha : anyR E s l) : ACalls Tryz.prog G 78 (some (rdrIV E s)) [.sl (l.map fun x => [sI x]) false] (.ret (.tup [sI (tokAt E s.i).text, bI true]) (rdrIV E s.next)) := by
  obtain ⟨t, ht⟩ : ∃ t, (tokAt E s.i).text = t := ⟨_, rfl⟩
  rw [ht]; refine ACalls.enter Tryz.func78 rfl rfl gk Tryz.ntmps78 fun X F => ?_
  apply Ar F; go_simp; apply Ar F; go_simp; (repeat apply Aq); apply Ab; (repeat apply Aq); refine AW.loopP [0, 1, 4, 5, 6] [1000] (by decide) (fun g st => ∃ k : Nat, st = mkS [(0, .ptr 1000 0), (1, .im (.sl (l.map fun x => [sI x]) false)), (4, .im (sI ⟨#[]⟩)), (5, .im (bI false)), (6, .im (iI k))] [(1000, .box ((rdrIV E s).map .im))] ∧ g = l.length - k ∧ k ≤ l.length ∧ inB (l.drop k) t = true) (l.length) ?_ ?_
  · refine ⟨0, ?_, by omega, by omega, by rw [List.drop_zero, ← ht]; exact ha.2.2⟩
    go_simp
  rintro g st ⟨k, rfl, rfl, hk, h⟩; by_cases hkt : k < l.length
  · have hkI : (k : Int) < (l.length : Int) := by omega
    have hr := rng ((k : Int) + 1) (by omega); apply Ar F; go_simp; (repeat apply Aq); refine At (by go_simp) ?_; apply As; go_simp; (repeat apply Aq); apply Ab; by_cases hx : t = l[k]
    · subst hx
      apply Ar F; go_simp; refine ⟨_, r_has_yes gk E s hE.len l[k] ⟨ha.1, ha.2.1, ht⟩, ?_⟩; go_simp; (repeat apply Aq); refine At (by go_simp) ?_; apply Ar F; go_simp; apply Au; go_simp
    have h2 : inB (l.drop (k + 1)) t = true := by
      rw [inB_mem'] at h ⊢; rw [List.drop_eq_getElem_cons hkt] at h; exact (List.mem_cons.1 h).resolve_left hx
    apply Ar F; go_simp; refine ⟨_, r_has_no gk E s l[k] (fun hh => hx (ht.symm.trans hh.2.2)), ?_⟩; go_simp; (repeat apply Aq); refine Af (by go_simp) ?_; apply As; go_simp; apply Ar F; go_simp; refine ⟨l.length - (k + 1), by omega, k + 1, ?_, rfl, by omega, h2⟩; go_simp
  rw [List.drop_eq_nil_of_le (by omega)] at h; cases h
theorem r_any_no (gk : GK G) (E : Env) (s : St) (l : List ByteArray) (hl : l.length ≤ 1000) (ha : ¬ anyR E s l) : ACalls Tryz.prog G 78 (some (rdrIV E s)) [.sl (l.map fun x => [sI x]) false] (.ret (.tup [sI ⟨#[]⟩, bI false]) (rdrIV E s)) := by
  refine ACalls.enter Tryz.func78 rfl rfl gk Tryz.ntmps78 fun X F => ?_
  apply Ar F; go_simp; apply Ar F; go_simp; (repeat apply Aq); apply Ab; (repeat apply Aq); refine AW.loopP [0, 1, 4, 5, 6] [1000] (by decide) (fun g st => ∃ k : Nat, st = mkS [(0, .ptr 1000 0), (1, .im (.sl (l.map fun x => [sI x]) false)), (4, .im (sI ⟨#[]⟩)), (5, .im (bI false)), (6, .im (iI k))] [(1000, .box ((rdrIV E s).map .im))] ∧ g = l.length - k ∧ k ≤ l.length) (l.length) ?_ ?_
  · refine ⟨0, ?_, by omega, by omega⟩
    go_simp
  rintro g st ⟨k, rfl, rfl, hk⟩; by_cases hkt : k < l.length
  · have hkI : (k : Int) < (l.length : Int) := by omega
    have hr := rng ((k : Int) + 1) (by omega); apply Ar F; go_simp; (repeat apply Aq); refine At (by go_simp) ?_; apply As; go_simp; (repeat apply Aq); apply Ab; apply Ar F; go_simp; refine ⟨_, r_has_no gk E s l[k] (hasR_any ha (List.getElem_mem hkt)), ?_⟩; go_simp; (repeat apply Aq); refine Af (by go_simp) ?_; apply As; go_simp; apply Ar F; go_simp; refine ⟨l.length - (k + 1), by omega, k + 1, ?_, rfl, by omega⟩; go_simp
  have hkI : ¬ (k : Int) < (l.length : Int) := by omega
  apply Ar F; go_simp; (repeat apply Aq); refine Af (by go_simp) ?_; apply Ae; go_simp; apply Ar F; go_simp; apply Au; go_simp
end Go.Proofs.YtinknjhclpaieaaGreatDoor
