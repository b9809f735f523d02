/- Lemmas and contracts for the laws SyntaxBrackets, SyntaxJoins, SyntaxSides, part 44 of 44: LawJn. Conditions: those that each lemma names. -/
import Derived.Test.YtnhnpahoppbniaaDoorPb42
import Derived.Test.YtnhnpahoppbniaaDoorPb20
import Derived.Test.YtnhnpahoppbniaaDoorPb43
namespace Go.Proofs.YtnhnpahoppbniaaDoor
open Go Go.RowKit Go.Proofs Th
set_option maxRecDepth 8000
attribute [local go_sem] aops aopsD stepA chkD disj aguard isWant aop aval abuil acall acallP acallR argsIV valOf aput startS mkS numb look upd toIV allIV zeroFV aload setSeg afill aelems cellsOf toSl toVal valsOf aidx abin ainR FV.ok IV.one IV.er IV.erA IV.er1 iI sI bI nodeIV nodesIV tokIV parIV faultV resP lift AThen ABlock AEnd resL resV rload rcOf imsOf oneV nodeJ kidsJ strJ knownJ selfJ noNJ noTf foot owns pruneS filtF filtO Value.oneCell'
attribute [local go_sem] ti_node ti_tok ti_par ti_fault ti_nodes ti_toks ti_strs ti_ints ti_str ti_int ti_num ti_errno
attribute [local go_sem] sel
attribute [local go_sem] zeroN nodesIV_append nodesIV_len kidC rowC nodeF
attribute [local go_sem] numJ ti_i64 sel
theorem ti_as14 : tiOf Tryd.prog 35 = none := by kernel_rfl
theorem ar_as14 : arrOf Tryd.prog 35 = some (14, 1, List.replicate 14 (.string ⟨#[]⟩)) := by kernel_rfl
theorem ti_ai14 : tiOf Tryd.prog 36 = none := by kernel_rfl
theorem ar_ai14 : arrOf Tryd.prog 36 = some (14, 1, List.replicate 14 (.int .i64 0)) := by kernel_rfl
theorem fi_14 : arrFI 14 1 = [⟨0, 1, false⟩, ⟨1, 1, false⟩, ⟨2, 1, false⟩, ⟨3, 1, false⟩, ⟨4, 1, false⟩, ⟨5, 1, false⟩, ⟨6, 1, false⟩, ⟨7, 1, false⟩, ⟨8, 1, false⟩, ⟨9, 1, false⟩, ⟨10, 1, false⟩, ⟨11, 1, false⟩, ⟨12, 1, false⟩, ⟨13, 1, false⟩] := rfl
attribute [local go_sem] ti_as14 ar_as14 ti_ai14 ar_ai14 fi_14 List.replicate
theorem law_joins_long (a b : ByteArray) (w : Int) (h : 400 < a.size ∨ 400 < b.size) : ACalls Tryd.prog GX 4 none [sI a, sI b, iI w] (.ret (bI true) []) := by
  have gk := gkX
  have cw := syn_works
  by_cases h1 : 400 < a.size
  · have h1I : (400 : Int) < (a.size : Int) := by omega
    refine ACalls.enter Tryd.func4 rfl rfl gk Tryd.ntmps4 fun X F => ?_
    repeat refine AW.seq ?_
    refine AW.reg F ?_
    go_simp
    repeat refine AW.seq ?_
    refine AW.reg F ?_
    go_simp
    refine ⟨_, cw, ?_⟩
    go_simp
    repeat refine AW.seq ?_
    refine AW.condF (by go_simp) ?_
    refine AW.skip ?_
    go_simp
    repeat refine AW.seq ?_
    refine AW.reg F ?_
    go_simp
    repeat refine AW.seq ?_
    refine AW.condT (by go_simp) ?_
    repeat refine AW.seq ?_
    refine AW.reg F ?_
    go_simp
    refine AW.ret ?_
    go_simp
  · have h1I : ¬ (400 : Int) < (a.size : Int) := by omega
    have h2I : (400 : Int) < (b.size : Int) := by omega
    refine ACalls.enter Tryd.func4 rfl rfl gk Tryd.ntmps4 fun X F => ?_
    repeat refine AW.seq ?_
    refine AW.reg F ?_
    go_simp
    repeat refine AW.seq ?_
    refine AW.reg F ?_
    go_simp
    refine ⟨_, cw, ?_⟩
    go_simp
    repeat refine AW.seq ?_
    refine AW.condF (by go_simp) ?_
    refine AW.skip ?_
    go_simp
    repeat refine AW.seq ?_
    refine AW.reg F ?_
    go_simp
    repeat refine AW.seq ?_
    refine AW.condT (by go_simp) ?_
    repeat refine AW.seq ?_
    refine AW.reg F ?_
    go_simp
    refine AW.ret ?_
    go_simp
set_option maxHeartbeats 8000000 in
theorem law_joins_k (a b : ByteArray) (w : Int) (h1 : a.size ≤ 400) (h2 : b.size ≤ 400) (k : Nat) (hk : IntKind.i64.wrap ((IntKind.u64.wrap w).tmod 14) = (k : Int)) (hk14 : k < 14) (sg : ByteArray) (kd : Int) (q : Nat × ByteArray) (hsg : ([FV.im (IV.v (Value.string ⟨#[124]⟩)), FV.im (IV.v (Value.string ⟨#[44]⟩)), FV.im (IV.v (Value.string ⟨#[47, 47]⟩)), FV.im (IV.v (Value.string ⟨#[61]⟩)), FV.im (IV.v (Value.string ⟨#[124, 61]⟩)), FV.im (IV.v (Value.string ⟨#[43, 61]⟩)), FV.im (IV.v (Value.string ⟨#[111, 114]⟩)), FV.im (IV.v (Value.string ⟨#[97, 110, 100]⟩)), FV.im (IV.v (Value.string ⟨#[61, 61]⟩)), FV.im (IV.v (Value.string ⟨#[60]⟩)), FV.im (IV.v (Value.string ⟨#[43]⟩)), FV.im (IV.v (Value.string ⟨#[45]⟩)), FV.im (IV.v (Value.string ⟨#[42]⟩)), FV.im (IV.v (Value.string ⟨#[37]⟩))] : List FV)[k]? = some (FV.im (IV.v (Value.string sg)))) (hkd : ([FV.im (IV.v (Value.int IntKind.i64 8)), FV.im (IV.v (Value.int IntKind.i64 9)), FV.im (IV.v (Value.int IntKind.i64 13)), FV.im (IV.v (Value.int IntKind.i64 25)), FV.im (IV.v (Value.int IntKind.i64 25)), FV.im (IV.v (Value.int IntKind.i64 25)), FV.im (IV.v (Value.int IntKind.i64 12)), FV.im (IV.v (Value.int IntKind.i64 11)), FV.im (IV.v (Value.int IntKind.i64 10)), FV.im (IV.v (Value.int IntKind.i64 10)), FV.im (IV.v (Value.int IntKind.i64 10)), FV.im (IV.v (Value.int IntKind.i64 10)), FV.im (IV.v (Value.int IntKind.i64 10)), FV.im (IV.v (Value.int IntKind.i64 10))] : List FV)[k]? = some (FV.im (IV.v (Value.int IntKind.i64 kd)))) (hS : SgOk (toL sg) q) (hJ : ∀ x y, joinK q x y = nodeJ kd (if kd = 25 ∨ kd = 10 then sg else ⟨#[]⟩) x y) :
    ACalls Tryd.prog GX 4 none [sI a, sI b, iI w] (.ret (bI true) []) := by
  have gk := gkX
  have cw := syn_works
  have h1I : ¬ (400 : Int) < (a.size : Int) := by omega
  have h2I : ¬ (400 : Int) < (b.size : Int) := by omega
  have hkI : (0 : Int) ≤ (k : Int) ∧ (k : Int) < 14 := by omega
  have hsl : sg.size ≤ 10 := hS.e
  obtain ⟨_, hsg⟩ := List.getElem?_eq_some_iff.1 hsg
  obtain ⟨_, hkd⟩ := List.getElem?_eq_some_iff.1 hkd
  have z1 : 1 + a.size ≤ 9223372036854775807 := by omega
  have z2 : 1 + a.size + 2 ≤ 9223372036854775807 := by omega
  have z3 : 1 + a.size + 2 + sg.size ≤ 9223372036854775807 := by omega
  have z4 : 1 + a.size + 2 + sg.size + 1 ≤ 9223372036854775807 := by omega
  have z5 : 1 + a.size + 2 + sg.size + 1 + b.size ≤ 9223372036854775807 := by omega
  have z6 : 1 + a.size + 2 + sg.size + 1 + b.size + 2 ≤ 9223372036854775807 := by omega
  obtain ⟨na, aa, ea, ca, pa⟩ := parse_one a (by omega)
  obtain ⟨nb, ab, eb, cb, pb⟩ := parse_one b (by omega)
  obtain ⟨n, an, en, cn, pn⟩ := parse_one (⟨#[40]⟩ ++ a ++ ⟨#[10, 41]⟩ ++ sg ++ ⟨#[40]⟩ ++ b ++ ⟨#[10, 41]⟩) (by simp only [ByteArray.size_append]; show 1 + a.size + 2 + sg.size + 1 + b.size + 2 ≤ _; omega)
  rw [show toL (⟨#[40]⟩ ++ a ++ ⟨#[10, 41]⟩ ++ sg ++ ⟨#[40]⟩ ++ b ++ ⟨#[10, 41]⟩) = par (toL a) ++ (toL sg ++ par (toL b)) by simp only [toL_app, par, List.append_assoc, List.cons_append]; rfl] at pn
  rcases pa.cases with ⟨h3, rfl, _⟩ | ⟨h3, hda, rfl, rfl⟩
  · have h3I : ¬ (ea : Int) = 0 := by omega
    clear pa pb pn
    obtain ⟨k2, t2, m2, q2, l2, b2⟩ := nb
    obtain ⟨k3, t3, m3, q3, l3, b3⟩ := n
    refine ACalls.enter Tryd.func4 rfl rfl gk Tryd.ntmps4 fun X F => ?_
    repeat refine AW.seq ?_
    refine AW.reg F ?_
    go_simp
    repeat refine AW.seq ?_
    refine AW.reg F ?_
    go_simp
    refine ⟨_, cw, ?_⟩
    go_simp
    repeat refine AW.seq ?_
    refine AW.condF (by go_simp) ?_
    refine AW.skip ?_
    go_simp
    repeat refine AW.seq ?_
    refine AW.reg F ?_
    go_simp
    repeat refine AW.seq ?_
    refine AW.condF (by go_simp) ?_
    refine AW.skip ?_
    go_simp
    repeat refine AW.seq ?_
    refine AW.reg F ?_
    go_simp
    repeat refine AW.seq ?_
    refine AW.reg F ?_
    go_simp
    repeat refine AW.seq ?_
    refine AW.reg F ?_
    go_simp
    repeat refine AW.seq ?_
    refine AW.reg F ?_
    go_simp
    refine ⟨_, ca, ?_⟩
    go_simp
    repeat refine AW.seq ?_
    refine AW.reg F ?_
    go_simp
    refine ⟨_, cb, ?_⟩
    go_simp
    repeat refine AW.seq ?_
    refine AW.reg F ?_
    go_simp
    refine ⟨_, cn, ?_⟩
    go_simp
    repeat refine AW.seq ?_
    refine AW.reg F ?_
    go_simp
    repeat refine AW.seq ?_
    refine AW.condT (by go_simp) ?_
    repeat refine AW.seq ?_
    refine AW.reg F ?_
    go_simp
    refine AW.ret ?_
    go_simp
  rcases pb.cases with ⟨h4, rfl, _⟩ | ⟨h4, hdb, rfl, rfl⟩
  · have h4I : ¬ (eb : Int) = 0 := by omega
    clear pa pb pn
    obtain ⟨k1, t1, m1, q1, l1, b1⟩ := na
    obtain ⟨k3, t3, m3, q3, l3, b3⟩ := n
    refine ACalls.enter Tryd.func4 rfl rfl gk Tryd.ntmps4 fun X F => ?_
    repeat refine AW.seq ?_
    refine AW.reg F ?_
    go_simp
    repeat refine AW.seq ?_
    refine AW.reg F ?_
    go_simp
    refine ⟨_, cw, ?_⟩
    go_simp
    repeat refine AW.seq ?_
    refine AW.condF (by go_simp) ?_
    refine AW.skip ?_
    go_simp
    repeat refine AW.seq ?_
    refine AW.reg F ?_
    go_simp
    repeat refine AW.seq ?_
    refine AW.condF (by go_simp) ?_
    refine AW.skip ?_
    go_simp
    repeat refine AW.seq ?_
    refine AW.reg F ?_
    go_simp
    repeat refine AW.seq ?_
    refine AW.reg F ?_
    go_simp
    repeat refine AW.seq ?_
    refine AW.reg F ?_
    go_simp
    repeat refine AW.seq ?_
    refine AW.reg F ?_
    go_simp
    refine ⟨_, ca, ?_⟩
    go_simp
    repeat refine AW.seq ?_
    refine AW.reg F ?_
    go_simp
    refine ⟨_, cb, ?_⟩
    go_simp
    repeat refine AW.seq ?_
    refine AW.reg F ?_
    go_simp
    refine ⟨_, cn, ?_⟩
    go_simp
    repeat refine AW.seq ?_
    refine AW.reg F ?_
    go_simp
    repeat refine AW.seq ?_
    refine AW.condT (by go_simp) ?_
    repeat refine AW.seq ?_
    refine AW.reg F ?_
    go_simp
    refine AW.ret ?_
    go_simp
  have f := flt_two h3 h4 hS (by rw [toL_len]; omega) (by rw [toL_len]; omega)
  rw [hJ] at f
  have cda := law_deeper (n := na) (by omega)
  have cdb := law_deeper (n := nb) (by omega)
  have hdep : depJ (nodeJ kd (if kd = 25 ∨ kd = 10 then sg else ⟨#[]⟩) na nb) = 1 + max (depJ na) (max (depJ nb) 0) := by simp only [nodeJ, depJ, depsJ]
  rw [Nat.max_def] at hdep
  have cs := r_Same gkX (depJ (nodeJ kd (if kd = 25 ∨ kd = 10 then sg else ⟨#[]⟩) na nb)) _ (Nat.le_refl _)
  by_cases ha : 47 < depJ na
  · rcases pn.of_flt f with ⟨h, _⟩ | ⟨_, rfl, rfl, rfl⟩
    · rw [hdep, Nat.max_def] at h; repeat' split at h
      all_goals omega
    rw [decide_eq_true ha] at cda
    clear pa pb pn f hdep cs h3 h4 hda hdb ha
    obtain ⟨k1, t1, m1, q1, l1, b1⟩ := na
    obtain ⟨k2, t2, m2, q2, l2, b2⟩ := nb
    refine ACalls.enter Tryd.func4 rfl rfl gk Tryd.ntmps4 fun X F => ?_
    repeat refine AW.seq ?_
    refine AW.reg F ?_
    go_simp
    repeat refine AW.seq ?_
    refine AW.reg F ?_
    go_simp
    refine ⟨_, cw, ?_⟩
    go_simp
    repeat refine AW.seq ?_
    refine AW.condF (by go_simp) ?_
    refine AW.skip ?_
    go_simp
    repeat refine AW.seq ?_
    refine AW.reg F ?_
    go_simp
    repeat refine AW.seq ?_
    refine AW.condF (by go_simp) ?_
    refine AW.skip ?_
    go_simp
    repeat refine AW.seq ?_
    refine AW.reg F ?_
    go_simp
    repeat refine AW.seq ?_
    refine AW.reg F ?_
    go_simp
    repeat refine AW.seq ?_
    refine AW.reg F ?_
    go_simp
    repeat refine AW.seq ?_
    refine AW.reg F ?_
    go_simp
    refine ⟨_, ca, ?_⟩
    go_simp
    repeat refine AW.seq ?_
    refine AW.reg F ?_
    go_simp
    refine ⟨_, cb, ?_⟩
    go_simp
    repeat refine AW.seq ?_
    refine AW.reg F ?_
    go_simp
    refine ⟨_, cn, ?_⟩
    go_simp
    repeat refine AW.seq ?_
    refine AW.reg F ?_
    go_simp
    repeat refine AW.seq ?_
    refine AW.condF (by go_simp) ?_
    refine AW.skip ?_
    go_simp
    repeat refine AW.seq ?_
    refine AW.reg F ?_
    go_simp
    refine ⟨_, cda, ?_⟩
    go_simp
    repeat refine AW.seq ?_
    refine AW.condT (by go_simp) ?_
    repeat refine AW.seq ?_
    refine AW.reg F ?_
    go_simp
    refine AW.ret ?_
    go_simp
  rw [decide_eq_false ha] at cda
  by_cases hb : 47 < depJ nb
  · rcases pn.of_flt f with ⟨h, _⟩ | ⟨_, rfl, rfl, rfl⟩
    · rw [hdep, Nat.max_def] at h; repeat' split at h
      all_goals omega
    rw [decide_eq_true hb] at cdb
    clear pa pb pn f hdep cs h3 h4 hda hdb ha hb
    obtain ⟨k1, t1, m1, q1, l1, b1⟩ := na
    obtain ⟨k2, t2, m2, q2, l2, b2⟩ := nb
    refine ACalls.enter Tryd.func4 rfl rfl gk Tryd.ntmps4 fun X F => ?_
    repeat refine AW.seq ?_
    refine AW.reg F ?_
    go_simp
    repeat refine AW.seq ?_
    refine AW.reg F ?_
    go_simp
    refine ⟨_, cw, ?_⟩
    go_simp
    repeat refine AW.seq ?_
    refine AW.condF (by go_simp) ?_
    refine AW.skip ?_
    go_simp
    repeat refine AW.seq ?_
    refine AW.reg F ?_
    go_simp
    repeat refine AW.seq ?_
    refine AW.condF (by go_simp) ?_
    refine AW.skip ?_
    go_simp
    repeat refine AW.seq ?_
    refine AW.reg F ?_
    go_simp
    repeat refine AW.seq ?_
    refine AW.reg F ?_
    go_simp
    repeat refine AW.seq ?_
    refine AW.reg F ?_
    go_simp
    repeat refine AW.seq ?_
    refine AW.reg F ?_
    go_simp
    refine ⟨_, ca, ?_⟩
    go_simp
    repeat refine AW.seq ?_
    refine AW.reg F ?_
    go_simp
    refine ⟨_, cb, ?_⟩
    go_simp
    repeat refine AW.seq ?_
    refine AW.reg F ?_
    go_simp
    refine ⟨_, cn, ?_⟩
    go_simp
    repeat refine AW.seq ?_
    refine AW.reg F ?_
    go_simp
    repeat refine AW.seq ?_
    refine AW.condF (by go_simp) ?_
    refine AW.skip ?_
    go_simp
    repeat refine AW.seq ?_
    refine AW.reg F ?_
    go_simp
    refine ⟨_, cda, ?_⟩
    go_simp
    refine ⟨_, cdb, ?_⟩
    go_simp
    repeat refine AW.seq ?_
    refine AW.condT (by go_simp) ?_
    repeat refine AW.seq ?_
    refine AW.reg F ?_
    go_simp
    refine AW.ret ?_
    go_simp
  rw [decide_eq_false hb] at cdb
  rcases pn.of_flt f with ⟨_, rfl, rfl, rfl⟩ | ⟨h, _⟩
  case inr =>
    rw [hdep, Nat.max_def] at h; repeat' split at h
    all_goals omega
  clear pa pb pn f hdep h3 h4 hda hdb ha hb
  obtain ⟨k1, t1, m1, q1, l1, b1⟩ := na
  obtain ⟨k2, t2, m2, q2, l2, b2⟩ := nb
  by_cases hd : kd = 25
  · subst hd
    rw [if_pos (.inl rfl)] at cn cs
    refine ACalls.enter Tryd.func4 rfl rfl gk Tryd.ntmps4 fun X F => ?_
    repeat refine AW.seq ?_
    refine AW.reg F ?_
    go_simp
    repeat refine AW.seq ?_
    refine AW.reg F ?_
    go_simp
    refine ⟨_, cw, ?_⟩
    go_simp
    repeat refine AW.seq ?_
    refine AW.condF (by go_simp) ?_
    refine AW.skip ?_
    go_simp
    repeat refine AW.seq ?_
    refine AW.reg F ?_
    go_simp
    repeat refine AW.seq ?_
    refine AW.condF (by go_simp) ?_
    refine AW.skip ?_
    go_simp
    repeat refine AW.seq ?_
    refine AW.reg F ?_
    go_simp
    repeat refine AW.seq ?_
    refine AW.reg F ?_
    go_simp
    repeat refine AW.seq ?_
    refine AW.reg F ?_
    go_simp
    repeat refine AW.seq ?_
    refine AW.reg F ?_
    go_simp
    refine ⟨_, ca, ?_⟩
    go_simp
    repeat refine AW.seq ?_
    refine AW.reg F ?_
    go_simp
    refine ⟨_, cb, ?_⟩
    go_simp
    repeat refine AW.seq ?_
    refine AW.reg F ?_
    go_simp
    refine ⟨_, cn, ?_⟩
    go_simp
    repeat refine AW.seq ?_
    refine AW.reg F ?_
    go_simp
    repeat refine AW.seq ?_
    refine AW.condF (by go_simp) ?_
    refine AW.skip ?_
    go_simp
    repeat refine AW.seq ?_
    refine AW.reg F ?_
    go_simp
    refine ⟨_, cda, ?_⟩
    go_simp
    refine ⟨_, cdb, ?_⟩
    go_simp
    repeat refine AW.seq ?_
    refine AW.condF (by go_simp) ?_
    refine AW.skip ?_
    go_simp
    repeat refine AW.seq ?_
    refine AW.reg F ?_
    go_simp
    repeat refine AW.seq ?_
    refine AW.reg F ?_
    go_simp
    repeat refine AW.seq ?_
    refine AW.condT (by go_simp) ?_
    repeat refine AW.seq ?_
    refine AW.reg F ?_
    go_simp
    repeat refine AW.seq ?_
    refine AW.drw F [0, 1, 2, 3, 4, 5, 6, 7, 8, 9, 10, 11, 12, 13, 14] [] mixed (by kernel_rfl) ?_
    go_simp
    refine ⟨_, cs, ?_⟩
    go_simp
    refine AW.ret ?_
    go_simp
  by_cases hd2 : kd = 10
  · subst hd2
    rw [if_pos (.inr rfl)] at cn cs
    refine ACalls.enter Tryd.func4 rfl rfl gk Tryd.ntmps4 fun X F => ?_
    repeat refine AW.seq ?_
    refine AW.reg F ?_
    go_simp
    repeat refine AW.seq ?_
    refine AW.reg F ?_
    go_simp
    refine ⟨_, cw, ?_⟩
    go_simp
    repeat refine AW.seq ?_
    refine AW.condF (by go_simp) ?_
    refine AW.skip ?_
    go_simp
    repeat refine AW.seq ?_
    refine AW.reg F ?_
    go_simp
    repeat refine AW.seq ?_
    refine AW.condF (by go_simp) ?_
    refine AW.skip ?_
    go_simp
    repeat refine AW.seq ?_
    refine AW.reg F ?_
    go_simp
    repeat refine AW.seq ?_
    refine AW.reg F ?_
    go_simp
    repeat refine AW.seq ?_
    refine AW.reg F ?_
    go_simp
    repeat refine AW.seq ?_
    refine AW.reg F ?_
    go_simp
    refine ⟨_, ca, ?_⟩
    go_simp
    repeat refine AW.seq ?_
    refine AW.reg F ?_
    go_simp
    refine ⟨_, cb, ?_⟩
    go_simp
    repeat refine AW.seq ?_
    refine AW.reg F ?_
    go_simp
    refine ⟨_, cn, ?_⟩
    go_simp
    repeat refine AW.seq ?_
    refine AW.reg F ?_
    go_simp
    repeat refine AW.seq ?_
    refine AW.condF (by go_simp) ?_
    refine AW.skip ?_
    go_simp
    repeat refine AW.seq ?_
    refine AW.reg F ?_
    go_simp
    refine ⟨_, cda, ?_⟩
    go_simp
    refine ⟨_, cdb, ?_⟩
    go_simp
    repeat refine AW.seq ?_
    refine AW.condF (by go_simp) ?_
    refine AW.skip ?_
    go_simp
    repeat refine AW.seq ?_
    refine AW.reg F ?_
    go_simp
    repeat refine AW.seq ?_
    refine AW.reg F ?_
    go_simp
    repeat refine AW.seq ?_
    refine AW.condT (by go_simp) ?_
    repeat refine AW.seq ?_
    refine AW.reg F ?_
    go_simp
    repeat refine AW.seq ?_
    refine AW.drw F [0, 1, 2, 3, 4, 5, 6, 7, 8, 9, 10, 11, 12, 13, 14] [] mixed (by kernel_rfl) ?_
    go_simp
    refine ⟨_, cs, ?_⟩
    go_simp
    refine AW.ret ?_
    go_simp
  rw [if_neg (fun h => h.elim hd hd2)] at cn cs
  refine ACalls.enter Tryd.func4 rfl rfl gk Tryd.ntmps4 fun X F => ?_
  repeat refine AW.seq ?_
  refine AW.reg F ?_
  go_simp
  repeat refine AW.seq ?_
  refine AW.reg F ?_
  go_simp
  refine ⟨_, cw, ?_⟩
  go_simp
  repeat refine AW.seq ?_
  refine AW.condF (by go_simp) ?_
  refine AW.skip ?_
  go_simp
  repeat refine AW.seq ?_
  refine AW.reg F ?_
  go_simp
  repeat refine AW.seq ?_
  refine AW.condF (by go_simp) ?_
  refine AW.skip ?_
  go_simp
  repeat refine AW.seq ?_
  refine AW.reg F ?_
  go_simp
  repeat refine AW.seq ?_
  refine AW.reg F ?_
  go_simp
  repeat refine AW.seq ?_
  refine AW.reg F ?_
  go_simp
  repeat refine AW.seq ?_
  refine AW.reg F ?_
  go_simp
  refine ⟨_, ca, ?_⟩
  go_simp
  repeat refine AW.seq ?_
  refine AW.reg F ?_
  go_simp
  refine ⟨_, cb, ?_⟩
  go_simp
  repeat refine AW.seq ?_
  refine AW.reg F ?_
  go_simp
  refine ⟨_, cn, ?_⟩
  go_simp
  repeat refine AW.seq ?_
  refine AW.reg F ?_
  go_simp
  repeat refine AW.seq ?_
  refine AW.condF (by go_simp) ?_
  refine AW.skip ?_
  go_simp
  repeat refine AW.seq ?_
  refine AW.reg F ?_
  go_simp
  refine ⟨_, cda, ?_⟩
  go_simp
  refine ⟨_, cdb, ?_⟩
  go_simp
  repeat refine AW.seq ?_
  refine AW.condF (by go_simp) ?_
  refine AW.skip ?_
  go_simp
  repeat refine AW.seq ?_
  refine AW.reg F ?_
  go_simp
  repeat refine AW.seq ?_
  refine AW.reg F ?_
  go_simp
  repeat refine AW.seq ?_
  refine AW.condF (by go_simp) ?_
  refine AW.skip ?_
  go_simp
  repeat refine AW.seq ?_
  refine AW.drw F [0, 1, 2, 3, 4, 5, 6, 7, 8, 9, 10, 11, 12, 13, 14] [] mixed (by kernel_rfl) ?_
  go_simp
  refine ⟨_, cs, ?_⟩
  go_simp
  refine AW.ret ?_
  go_simp
theorem law_joins (a b : ByteArray) (w : Int) : ACalls Tryd.prog GX 4 none [sI a, sI b, iI w] (.ret (bI true) []) := by
  by_cases hl : 400 < a.size ∨ 400 < b.size
  · exact law_joins_long a b w hl
  obtain ⟨k, hk, hk14⟩ : ∃ k : Nat, IntKind.i64.wrap ((IntKind.u64.wrap w).tmod 14) = (k : Int) ∧ k < 14 := by
    have h1 := IntKind.wrap_u64 w
    have h2 : 0 ≤ IntKind.u64.wrap w := by omega
    rw [Int.tmod_eq_emod_of_nonneg h2]
    refine ⟨((IntKind.u64.wrap w) % 14).toNat, ?_, by omega⟩
    rw [IntWalk.i64_in _ (by omega)]; omega
  have key := law_joins_k a b w (by omega) (by omega) k hk hk14
  match k, hk14 with
  | 0, _ => exact key _ _ _ rfl rfl sg_pipe fun _ _ => rfl
  | 1, _ => exact key _ _ _ rfl rfl sg_comma fun _ _ => rfl
  | 2, _ => exact key _ _ _ rfl rfl sg_else fun _ _ => rfl
  | 3, _ => exact key _ _ _ rfl rfl sg_set fun _ _ => rfl
  | 4, _ => exact key _ _ _ rfl rfl sg_upd fun _ _ => rfl
  | 5, _ => exact key _ _ _ rfl rfl sg_plusis fun _ _ => rfl
  | 6, _ => exact key _ _ _ rfl rfl sg_or fun _ _ => rfl
  | 7, _ => exact key _ _ _ rfl rfl sg_and fun _ _ => rfl
  | 8, _ => exact key _ _ _ rfl rfl sg_eq fun _ _ => rfl
  | 9, _ => exact key _ _ _ rfl rfl sg_less fun _ _ => rfl
  | 10, _ => exact key _ _ _ rfl rfl sg_plus fun _ _ => rfl
  | 11, _ => exact key _ _ _ rfl rfl sg_minus fun _ _ => rfl
  | 12, _ => exact key _ _ _ rfl rfl sg_times fun _ _ => rfl
  | 13, _ => exact key _ _ _ rfl rfl sg_mod fun _ _ => rfl
theorem law_joins_w (a b : ByteArray) (w : Int) (W : World) (hg : Glob W) (hu : Utf W) (hm : GlobX W) : Calls Tryd.prog 4 #[.string a, .string b, .int .i64 w] W fun e W' => e = .returned (.bool true) ∧ Below W.heap.size W W' :=
  calls_of_ac (us := [.string a, .string b, .int .i64 w]) (law_joins a b w) hg hu hm (RepL.cons (.v _) (RepL.cons (.v _) (RepL.cons (.v _) (RepL.nil _ _))))
end Go.Proofs.YtnhnpahoppbniaaDoor
