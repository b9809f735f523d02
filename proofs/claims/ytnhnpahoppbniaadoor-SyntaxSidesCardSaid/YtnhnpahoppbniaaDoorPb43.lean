/- Lemmas and contracts for the laws SyntaxBrackets, SyntaxJoins, SyntaxSides, part 43 of 44: LawBr, LawSd. Conditions: those that each lemma names. -/
import Derived.Test.YtnhnpahoppbniaaDoorPb42
import Derived.Test.YtnhnpahoppbniaaDoorPb38
import Derived.Test.YtnhnpahoppbniaaDoorPb20
namespace Go.Proofs.YtnhnpahoppbniaaDoor
open Go Go.RowKit Go.Proofs Th
set_option maxRecDepth 8000
attribute [local go_sem] aops aopsD stepA chkD disj aguard isWant aop aval abuil acall acallP acallR argsIV valOf aput startS mkS numb look upd toIV allIV zeroFV aload setSeg afill aelems cellsOf toSl toVal valsOf aidx abin ainR FV.ok IV.one IV.er IV.erA IV.er1 iI sI bI nodeIV nodesIV tokIV parIV faultV resP lift AThen ABlock AEnd resL resV rload rcOf imsOf oneV nodeJ kidsJ strJ knownJ selfJ noNJ noTf foot owns pruneS filtF filtO Value.oneCell'
attribute [local go_sem] ti_node ti_tok ti_par ti_fault ti_nodes ti_toks ti_strs ti_ints ti_str ti_int ti_num ti_errno
attribute [local go_sem] sel
attribute [local go_sem] zeroN nodesIV_append nodesIV_len kidC rowC nodeF
attribute [local go_sem] numJ ti_i64 sel
theorem law_deeper {n : NJ} (hd : depJ n ≤ 1000) : ACalls Tryd.prog GX 9 none [.agg (nodeIV n), iI 1] (.ret (bI (decide (47 < depJ n))) []) := by
  have gk := gkX
  have cd := r_Depth gkX 4000000000000000000 (Nat.le_refl _) n (by omega)
  have e : decide (47 < depJ n) = decide ((47 : Int) < (depJ n : Int)) := by
    by_cases h : 47 < depJ n
    · rw [decide_eq_true h, decide_eq_true (by omega)]
    · rw [decide_eq_false h, decide_eq_false (by omega)]
  rw [e]
  clear e
  generalize depJ n = dn at cd hd
  obtain ⟨k1, t1, m1, q1, l1, b1⟩ := n
  refine ACalls.enter Tryd.func9 rfl rfl gk Tryd.ntmps9 fun X F => ?_
  repeat refine AW.seq ?_
  refine AW.reg F ?_
  go_simp
  repeat refine AW.seq ?_
  refine AW.reg F ?_
  go_simp
  refine ⟨_, cd, ?_⟩
  go_simp
  refine AW.ret ?_
  go_simp
set_option maxHeartbeats 8000000 in
theorem law_brackets (s : ByteArray) : ACalls Tryd.prog GX 3 none [sI s] (.ret (bI true) []) := by
  have gk := gkX
  have cw := syn_works
  by_cases h1 : 500 < s.size
  · have h1I : (500 : Int) < (s.size : Int) := by omega
    refine ACalls.enter Tryd.func3 rfl rfl gk Tryd.ntmps3 fun X F => ?_
    repeat refine AW.seq ?_
    refine AW.reg F ?_
    go_simp
    repeat refine AW.seq ?_
    refine AW.reg F ?_
    go_simp
    refine ⟨_, cw, ?_⟩
    go_simp
    repeat refine AW.seq ?_
    refine AW.condF (by go_simp) ?_
    refine AW.skip ?_
    go_simp
    repeat refine AW.seq ?_
    refine AW.reg F ?_
    go_simp
    repeat refine AW.seq ?_
    refine AW.condT (by go_simp) ?_
    repeat refine AW.seq ?_
    refine AW.reg F ?_
    go_simp
    refine AW.ret ?_
    go_simp
  · have h1I : ¬ (500 : Int) < (s.size : Int) := by omega
    have z1 : 1 + s.size ≤ 9223372036854775807 := by omega
    have z2 : 1 + s.size + 2 ≤ 9223372036854775807 := by omega
    have z3 : 2 + s.size ≤ 9223372036854775807 := by omega
    obtain ⟨n0, a0, e0, c0, p0⟩ := parse_one s (by omega)
    obtain ⟨n1, a1, e1, c1, p1⟩ := parse_one (⟨#[40]⟩ ++ s ++ ⟨#[10, 41]⟩) (by rw [ByteArray.size_append, ByteArray.size_append]; show 1 + s.size + 2 ≤ _; omega)
    obtain ⟨n2, a2, e2, c2, p2⟩ := parse_one (⟨#[49, 124]⟩ ++ s) (by rw [ByteArray.size_append]; show 2 + s.size ≤ _; omega)
    obtain ⟨n3, a3, e3, c3, p3⟩ := parse_one (⟨#[91]⟩ ++ s ++ ⟨#[10, 93]⟩) (by rw [ByteArray.size_append, ByteArray.size_append]; show 1 + s.size + 2 ≤ _; omega)
    rw [toL_app, toL_app] at p1 p3
    rw [toL_app] at p2
    rcases p0.cases with ⟨h2, rfl, h3⟩ | ⟨h2, h3, rfl, rfl⟩
    · have h2I : ¬ (e0 : Int) = 0 := by omega
      have h3I : (a0 : Int) ≤ (s.size : Int) := by rw [toL_len] at h3; omega
      have h4I : (0 : Int) ≤ (a0 : Int) := by omega
      have h5I : (0 : Int) ≤ (a1 : Int) := by omega
      have cs := r_Same gkX 1 noNJ (by decide)
      obtain ⟨k1, t1, m1, q1, l1, b1⟩ := n1
      obtain ⟨k2, t2, m2, q2, l2, b2⟩ := n2
      obtain ⟨k3, t3, m3, q3, l3, b3⟩ := n3
      refine ACalls.enter Tryd.func3 rfl rfl gk Tryd.ntmps3 fun X F => ?_
      repeat refine AW.seq ?_
      refine AW.reg F ?_
      go_simp
      repeat refine AW.seq ?_
      refine AW.reg F ?_
      go_simp
      refine ⟨_, cw, ?_⟩
      go_simp
      repeat refine AW.seq ?_
      refine AW.condF (by go_simp) ?_
      refine AW.skip ?_
      go_simp
      repeat refine AW.seq ?_
      refine AW.reg F ?_
      go_simp
      repeat refine AW.seq ?_
      refine AW.condF (by go_simp) ?_
      refine AW.skip ?_
      go_simp
      repeat refine AW.seq ?_
      refine AW.reg F ?_
      go_simp
      refine ⟨_, c0, ?_⟩
      go_simp
      repeat refine AW.seq ?_
      refine AW.reg F ?_
      go_simp
      refine ⟨_, c1, ?_⟩
      go_simp
      repeat refine AW.seq ?_
      refine AW.reg F ?_
      go_simp
      refine ⟨_, c2, ?_⟩
      go_simp
      repeat refine AW.seq ?_
      refine AW.reg F ?_
      go_simp
      refine ⟨_, c3, ?_⟩
      go_simp
      repeat refine AW.seq ?_
      refine AW.reg F ?_
      go_simp
      repeat refine AW.seq ?_
      refine AW.condT (by go_simp) ?_
      refine AW.prune [0, 3, 4, 7] [1000, 3] (by decide) ?_
      go_simp
      repeat refine AW.seq ?_
      refine AW.regL F [0, 1, 2] [3, 4, 5, 6, 7, 8, 9, 10, 11, 12, 13, 14, 15, 16, 17] (by rfl) ?_
      go_simp
      refine ⟨_, cs, ?_⟩
      go_simp
      refine laterL_I [3, 4, 5, 6, 7, 8, 9] [10, 11, 12, 13, 14, 15, 16, 17] ?_
      go_simp
      refine laterL_E ?_
      go_simp
      refine AW.ret ?_
      go_simp
    · have hl : (toL s).length ≤ 16000 := by rw [toL_len]; omega
      have f1 := flt_par h2 hl
      have f3 := flt_arr h2 hl
      obtain ⟨om, oe, f2⟩ := flt_pipe h2 hl
      have cs := r_Same gkX (depJ n0) n0 (Nat.le_refl _)
      have cd := law_deeper (n := n0) (by omega)
      rcases p1.of_flt f1 with ⟨_, rfl, rfl, rfl⟩ | ⟨h, _⟩
      case inr => omega
      by_cases h4 : 47 < depJ n1
      · rcases p2.of_flt f2 with ⟨h, _⟩ | ⟨_, rfl, rfl, rfl⟩
        · simp only [nodeJ, depJ, depsJ] at h; omega
        rcases p3.of_flt f3 with ⟨h, _⟩ | ⟨_, rfl, rfl, rfl⟩
        · simp only [kidsJ, depJ, depsJ] at h; omega
        rw [decide_eq_true h4] at cd
        clear p0 p1 p2 p3 f1 f2 f3 h2 h3 h4
        obtain ⟨k1, t1, m1, q1, l1, b1⟩ := n1
        refine ACalls.enter Tryd.func3 rfl rfl gk Tryd.ntmps3 fun X F => ?_
        repeat refine AW.seq ?_
        refine AW.reg F ?_
        go_simp
        repeat refine AW.seq ?_
        refine AW.reg F ?_
        go_simp
        refine ⟨_, cw, ?_⟩
        go_simp
        repeat refine AW.seq ?_
        refine AW.condF (by go_simp) ?_
        refine AW.skip ?_
        go_simp
        repeat refine AW.seq ?_
        refine AW.reg F ?_
        go_simp
        repeat refine AW.seq ?_
        refine AW.condF (by go_simp) ?_
        refine AW.skip ?_
        go_simp
        repeat refine AW.seq ?_
        refine AW.reg F ?_
        go_simp
        refine ⟨_, c0, ?_⟩
        go_simp
        repeat refine AW.seq ?_
        refine AW.reg F ?_
        go_simp
        refine ⟨_, c1, ?_⟩
        go_simp
        repeat refine AW.seq ?_
        refine AW.reg F ?_
        go_simp
        refine ⟨_, c2, ?_⟩
        go_simp
        repeat refine AW.seq ?_
        refine AW.reg F ?_
        go_simp
        refine ⟨_, c3, ?_⟩
        go_simp
        repeat refine AW.seq ?_
        refine AW.reg F ?_
        go_simp
        repeat refine AW.seq ?_
        refine AW.condF (by go_simp) ?_
        refine AW.skip ?_
        go_simp
        repeat refine AW.seq ?_
        refine AW.reg F ?_
        go_simp
        refine ⟨_, cs, ?_⟩
        go_simp
        repeat refine AW.seq ?_
        refine AW.condF (by go_simp) ?_
        refine AW.skip ?_
        go_simp
        repeat refine AW.seq ?_
        refine AW.reg F ?_
        go_simp
        refine ⟨_, cd, ?_⟩
        go_simp
        repeat refine AW.seq ?_
        refine AW.condT (by go_simp) ?_
        repeat refine AW.seq ?_
        refine AW.reg F ?_
        go_simp
        refine AW.ret ?_
        go_simp
      · rcases p2.of_flt f2 with ⟨_, rfl, rfl, rfl⟩ | ⟨h, _⟩
        case inr => simp only [nodeJ, depJ, depsJ] at h; omega
        rcases p3.of_flt f3 with ⟨_, rfl, rfl, rfl⟩ | ⟨h, _⟩
        case inr => simp only [kidsJ, depJ, depsJ] at h; omega
        rw [decide_eq_false h4] at cd
        clear p0 p1 p2 p3 f1 f2 f3 h2 h3 h4
        obtain ⟨k1, t1, m1, q1, l1, b1⟩ := n1
        refine ACalls.enter Tryd.func3 rfl rfl gk Tryd.ntmps3 fun X F => ?_
        repeat refine AW.seq ?_
        refine AW.reg F ?_
        go_simp
        repeat refine AW.seq ?_
        refine AW.reg F ?_
        go_simp
        refine ⟨_, cw, ?_⟩
        go_simp
        repeat refine AW.seq ?_
        refine AW.condF (by go_simp) ?_
        refine AW.skip ?_
        go_simp
        repeat refine AW.seq ?_
        refine AW.reg F ?_
        go_simp
        repeat refine AW.seq ?_
        refine AW.condF (by go_simp) ?_
        refine AW.skip ?_
        go_simp
        repeat refine AW.seq ?_
        refine AW.reg F ?_
        go_simp
        refine ⟨_, c0, ?_⟩
        go_simp
        repeat refine AW.seq ?_
        refine AW.reg F ?_
        go_simp
        refine ⟨_, c1, ?_⟩
        go_simp
        repeat refine AW.seq ?_
        refine AW.reg F ?_
        go_simp
        refine ⟨_, c2, ?_⟩
        go_simp
        repeat refine AW.seq ?_
        refine AW.reg F ?_
        go_simp
        refine ⟨_, c3, ?_⟩
        go_simp
        repeat refine AW.seq ?_
        refine AW.reg F ?_
        go_simp
        repeat refine AW.seq ?_
        refine AW.condF (by go_simp) ?_
        refine AW.skip ?_
        go_simp
        repeat refine AW.seq ?_
        refine AW.reg F ?_
        go_simp
        refine ⟨_, cs, ?_⟩
        go_simp
        repeat refine AW.seq ?_
        refine AW.condF (by go_simp) ?_
        refine AW.skip ?_
        go_simp
        repeat refine AW.seq ?_
        refine AW.reg F ?_
        go_simp
        refine ⟨_, cd, ?_⟩
        go_simp
        repeat refine AW.seq ?_
        refine AW.condF (by go_simp) ?_
        refine AW.skip ?_
        go_simp
        repeat refine AW.seq ?_
        refine AW.drwN F [0, 1, 2, 3, 4, 5, 6, 7, 8, 9, 10, 11, 12, 13, 14, 15, 16, 17, 18, 19] [20, 21, 22, 23, 24, 25, 26, 27, 28, 29, 30, 31, 32, 33, 34, 35, 36, 37, 38, 39, 40, 41, 42, 43, 44] mixed (by kernel_rfl) ?_
        go_simp
        refine ⟨_, cs, ?_⟩
        go_simp
        refine laterL_I [20, 21, 22, 23, 24, 25, 26, 27, 28, 29, 30, 31, 32, 33, 34, 35, 36, 37, 38, 39, 40, 41, 42] [43, 44] ?_
        go_simp
        refine ⟨_, cs, ?_⟩
        go_simp
        refine laterL_E ?_
        go_simp
        refine AW.ret ?_
        go_simp
theorem law_brackets_w (s : ByteArray) (W : World) (hg : Glob W) (hu : Utf W) (hm : GlobX W) : Calls Tryd.prog 3 #[.string s] W fun e W' => e = .returned (.bool true) ∧ Below W.heap.size W W' :=
  calls_of_ac (us := [.string s]) (law_brackets s) hg hu hm (RepL.cons (.v _) (RepL.nil _ _))
end Go.Proofs.YtnhnpahoppbniaaDoor
namespace Go.Proofs.YtnhnpahoppbniaaDoor
open Go Go.RowKit Go.Proofs Th
set_option maxRecDepth 8000
attribute [local go_sem] aops aopsD stepA chkD disj aguard isWant aop aval abuil acall acallP acallR argsIV valOf aput startS mkS numb look upd toIV allIV zeroFV aload setSeg afill aelems cellsOf toSl toVal valsOf aidx abin ainR FV.ok IV.one IV.er IV.erA IV.er1 iI sI bI nodeIV nodesIV tokIV parIV faultV resP lift AThen ABlock AEnd resL resV rload rcOf imsOf oneV nodeJ kidsJ strJ knownJ selfJ noNJ noTf foot owns pruneS filtF filtO Value.oneCell'
attribute [local go_sem] ti_node ti_tok ti_par ti_fault ti_nodes ti_toks ti_strs ti_ints ti_str ti_int ti_num ti_errno
attribute [local go_sem] sel
attribute [local go_sem] zeroN nodesIV_append nodesIV_len kidC rowC nodeF
attribute [local go_sem] numJ ti_i64 sel
theorem ti_as8 : tiOf Tryd.prog 39 = none := by kernel_rfl
theorem ar_as8 : arrOf Tryd.prog 39 = some (8, 1, List.replicate 8 (.string ⟨#[]⟩)) := by kernel_rfl
theorem fi_8 : arrFI 8 1 = [⟨0, 1, false⟩, ⟨1, 1, false⟩, ⟨2, 1, false⟩, ⟨3, 1, false⟩, ⟨4, 1, false⟩, ⟨5, 1, false⟩, ⟨6, 1, false⟩, ⟨7, 1, false⟩] := rfl
attribute [local go_sem] ti_as8 ar_as8 fi_8 List.replicate
theorem law_sides_long (a b c : ByteArray) (u v : Int) (h : 300 < a.size ∨ 300 < b.size ∨ 300 < c.size) : ACalls Tryd.prog GX 5 none [sI a, sI b, sI c, iI u, iI v] (.ret (bI true) []) := by
  have gk := gkX
  have cw := syn_works
  by_cases h1 : 300 < a.size
  · have h1I : (300 : Int) < (a.size : Int) := by omega
    refine ACalls.enter Tryd.func5 rfl rfl gk Tryd.ntmps5 fun X F => ?_
    repeat refine AW.seq ?_
    refine AW.reg F ?_
    go_simp
    repeat refine AW.seq ?_
    refine AW.reg F ?_
    go_simp
    refine ⟨_, cw, ?_⟩
    go_simp
    repeat refine AW.seq ?_
    refine AW.condF (by go_simp) ?_
    refine AW.skip ?_
    go_simp
    repeat refine AW.seq ?_
    refine AW.reg F ?_
    go_simp
    repeat refine AW.seq ?_
    refine AW.condT (by go_simp) ?_
    repeat refine AW.seq ?_
    refine AW.reg F ?_
    go_simp
    refine AW.ret ?_
    go_simp
  have h1I : ¬ (300 : Int) < (a.size : Int) := by omega
  by_cases h2 : 300 < b.size
  · have h2I : (300 : Int) < (b.size : Int) := by omega
    refine ACalls.enter Tryd.func5 rfl rfl gk Tryd.ntmps5 fun X F => ?_
    repeat refine AW.seq ?_
    refine AW.reg F ?_
    go_simp
    repeat refine AW.seq ?_
    refine AW.reg F ?_
    go_simp
    refine ⟨_, cw, ?_⟩
    go_simp
    repeat refine AW.seq ?_
    refine AW.condF (by go_simp) ?_
    refine AW.skip ?_
    go_simp
    repeat refine AW.seq ?_
    refine AW.reg F ?_
    go_simp
    repeat refine AW.seq ?_
    refine AW.condT (by go_simp) ?_
    repeat refine AW.seq ?_
    refine AW.reg F ?_
    go_simp
    refine AW.ret ?_
    go_simp
  have h2I : ¬ (300 : Int) < (b.size : Int) := by omega
  have h3I : (300 : Int) < (c.size : Int) := by omega
  refine ACalls.enter Tryd.func5 rfl rfl gk Tryd.ntmps5 fun X F => ?_
  repeat refine AW.seq ?_
  refine AW.reg F ?_
  go_simp
  repeat refine AW.seq ?_
  refine AW.reg F ?_
  go_simp
  refine ⟨_, cw, ?_⟩
  go_simp
  repeat refine AW.seq ?_
  refine AW.condF (by go_simp) ?_
  refine AW.skip ?_
  go_simp
  repeat refine AW.seq ?_
  refine AW.reg F ?_
  go_simp
  repeat refine AW.seq ?_
  refine AW.condT (by go_simp) ?_
  repeat refine AW.seq ?_
  refine AW.reg F ?_
  go_simp
  refine AW.ret ?_
  go_simp
set_option maxHeartbeats 16000000 in
theorem law_sides_loop (a b c : ByteArray) (u v : Int) (h1 : a.size ≤ 300) (h2 : b.size ≤ 300) (h3 : c.size ≤ 300) (x0 x1 x2 : NJ) (a0 e0 a1 e1 a2 e2 : Nat)
    (c0 : ACalls Tryd.prog GX 7 none [sI a] (.ret (.tup [.agg (nodeIV x0), iI a0, iI e0]) []))
    (c1 : ACalls Tryd.prog GX 7 none [sI b] (.ret (.tup [.agg (nodeIV x1), iI a1, iI e1]) []))
    (c2 : ACalls Tryd.prog GX 7 none [sI c] (.ret (.tup [.agg (nodeIV x2), iI a2, iI e2]) []))
    (i k : Nat) (hi : IntKind.i64.wrap ((IntKind.u64.wrap u).tmod 8) = (i : Int)) (hk : IntKind.i64.wrap ((IntKind.u64.wrap v).tmod 8) = (k : Int)) (hi8 : i < 8) (hk8 : k < 8)
    (s r : ByteArray) (hs : ([FV.im (IV.v (Value.string ⟨#[124]⟩)), FV.im (IV.v (Value.string ⟨#[44]⟩)), FV.im (IV.v (Value.string ⟨#[47, 47]⟩)), FV.im (IV.v (Value.string ⟨#[32, 111, 114, 32]⟩)), FV.im (IV.v (Value.string ⟨#[32, 97, 110, 100, 32]⟩)), FV.im (IV.v (Value.string ⟨#[61, 61]⟩)), FV.im (IV.v (Value.string ⟨#[43]⟩)), FV.im (IV.v (Value.string ⟨#[42]⟩))] : List FV)[i]? = some (FV.im (IV.v (Value.string s)))) (hr : ([FV.im (IV.v (Value.string ⟨#[124]⟩)), FV.im (IV.v (Value.string ⟨#[44]⟩)), FV.im (IV.v (Value.string ⟨#[47, 47]⟩)), FV.im (IV.v (Value.string ⟨#[32, 111, 114, 32]⟩)), FV.im (IV.v (Value.string ⟨#[32, 97, 110, 100, 32]⟩)), FV.im (IV.v (Value.string ⟨#[61, 61]⟩)), FV.im (IV.v (Value.string ⟨#[43]⟩)), FV.im (IV.v (Value.string ⟨#[42]⟩))] : List FV)[k]? = some (FV.im (IV.v (Value.string r)))) (hsl : s.size ≤ 10) (hrl : r.size ≤ 10)
    (n nl nr : NJ) (an en al el ar er : Nat)
    (cn : ACalls Tryd.prog GX 7 none [sI (⟨#[40]⟩ ++ a ++ ⟨#[10, 41]⟩ ++ s ++ (⟨#[40]⟩ ++ b ++ ⟨#[10, 41]⟩) ++ r ++ (⟨#[40]⟩ ++ c ++ ⟨#[10, 41]⟩))] (.ret (.tup [.agg (nodeIV n), iI an, iI en]) []))
    (cl : ACalls Tryd.prog GX 7 none [sI (⟨#[40]⟩ ++ (⟨#[40]⟩ ++ a ++ ⟨#[10, 41]⟩) ++ s ++ (⟨#[40]⟩ ++ b ++ ⟨#[10, 41]⟩) ++ ⟨#[41]⟩ ++ r ++ (⟨#[40]⟩ ++ c ++ ⟨#[10, 41]⟩))] (.ret (.tup [.agg (nodeIV nl), iI al, iI el]) []))
    (cr : ACalls Tryd.prog GX 7 none [sI (⟨#[40]⟩ ++ a ++ ⟨#[10, 41]⟩ ++ s ++ ⟨#[40]⟩ ++ (⟨#[40]⟩ ++ b ++ ⟨#[10, 41]⟩) ++ r ++ (⟨#[40]⟩ ++ c ++ ⟨#[10, 41]⟩) ++ ⟨#[41]⟩)] (.ret (.tup [.agg (nodeIV nr), iI ar, iI er]) []))
    (H : e0 = 0 → e1 = 0 → e2 = 0 → el = 0 → er = 0 → (i = 5 ∧ k = 5 ∧ en = 60) ∨ (¬ (i = 5 ∧ k = 5) ∧ (i < k ∨ i = k ∧ (i = 0 ∨ i = 2)) ∧ en = 0 ∧ n = nr) ∨ (¬ (i = 5 ∧ k = 5) ∧ ¬ (i < k ∨ i = k ∧ (i = 0 ∨ i = 2)) ∧ en = 0 ∧ n = nl)) :
    ACalls Tryd.prog GX 5 none [sI a, sI b, sI c, iI u, iI v] (.ret (bI true) []) := by
  have gk := gkX
  have cw := syn_works
  have h1I : ¬ (300 : Int) < (a.size : Int) := by omega
  have h2I : ¬ (300 : Int) < (b.size : Int) := by omega
  have h3I : ¬ (300 : Int) < (c.size : Int) := by omega
  have hiI : (0 : Int) ≤ (i : Int) ∧ (i : Int) < 8 := by omega
  have hkI : (0 : Int) ≤ (k : Int) ∧ (k : Int) < 8 := by omega
  obtain ⟨_, hs⟩ := List.getElem?_eq_some_iff.1 hs
  obtain ⟨_, hr⟩ := List.getElem?_eq_some_iff.1 hr
  have xa : 1 + a.size ≤ 9223372036854775807 := by omega
  have xb : 1 + b.size ≤ 9223372036854775807 := by omega
  have xc : 1 + c.size ≤ 9223372036854775807 := by omega
  have z0 : 1 + a.size + 2 + s.size ≤ 9223372036854775807 := by omega
  have z1 : 1 + a.size + 2 + s.size + (1 + b.size + 2) ≤ 9223372036854775807 := by omega
  have z2 : 1 + a.size + 2 + s.size + (1 + b.size + 2) + r.size ≤ 9223372036854775807 := by omega
  have z3 : 1 + a.size + 2 + s.size + (1 + b.size + 2) + r.size + (1 + c.size + 2) ≤ 9223372036854775807 := by omega
  have z4 : 1 + (1 + a.size + 2) ≤ 9223372036854775807 := by omega
  have z5 : 1 + (1 + a.size + 2) + s.size ≤ 9223372036854775807 := by omega
  have z6 : 1 + (1 + a.size + 2) + s.size + (1 + b.size + 2) ≤ 9223372036854775807 := by omega
  have z7 : 1 + (1 + a.size + 2) + s.size + (1 + b.size + 2) + 1 ≤ 9223372036854775807 := by omega
  have z8 : 1 + (1 + a.size + 2) + s.size + (1 + b.size + 2) + 1 + r.size ≤ 9223372036854775807 := by omega
  have z9 : 1 + (1 + a.size + 2) + s.size + (1 + b.size + 2) + 1 + r.size + (1 + c.size + 2) ≤ 9223372036854775807 := by omega
  have z10 : 1 + a.size + 2 + s.size + 1 ≤ 9223372036854775807 := by omega
  have z11 : 1 + a.size + 2 + s.size + 1 + (1 + b.size + 2) ≤ 9223372036854775807 := by omega
  have z12 : 1 + a.size + 2 + s.size + 1 + (1 + b.size + 2) + r.size ≤ 9223372036854775807 := by omega
  have z13 : 1 + a.size + 2 + s.size + 1 + (1 + b.size + 2) + r.size + (1 + c.size + 2) ≤ 9223372036854775807 := by omega
  have z14 : 1 + a.size + 2 + s.size + 1 + (1 + b.size + 2) + r.size + (1 + c.size + 2) + 1 ≤ 9223372036854775807 := by omega
  have y1 : 1 + a.size + 2 ≤ 9223372036854775807 := by omega
  have y2 : 1 + b.size + 2 ≤ 9223372036854775807 := by omega
  have y3 : 1 + c.size + 2 ≤ 9223372036854775807 := by omega
  obtain ⟨k1, t1, m1, q1, l1, b1⟩ := x0
  obtain ⟨k2, t2, m2, q2, l2, b2⟩ := x1
  obtain ⟨k3, t3, m3, q3, l3, b3⟩ := x2
  obtain ⟨k4, t4, m4, q4, l4, b4⟩ := n
  obtain ⟨k5, t5, m5, q5, l5, b5⟩ := nl
  obtain ⟨k6, t6, m6, q6, l6, b6⟩ := nr
  have cs := r_Same gkX (depJ (.mk k4 t4 m4 q4 l4 b4)) _ (Nat.le_refl _)
  refine ACalls.enter Tryd.func5 rfl rfl gk Tryd.ntmps5 fun X F => ?_
  repeat refine AW.seq ?_
  refine AW.reg F ?_
  go_simp
  repeat refine AW.seq ?_
  refine AW.reg F ?_
  go_simp
  refine ⟨_, cw, ?_⟩
  go_simp
  repeat refine AW.seq ?_
  refine AW.condF (by go_simp) ?_
  refine AW.skip ?_
  go_simp
  repeat refine AW.seq ?_
  refine AW.reg F ?_
  go_simp
  repeat refine AW.seq ?_
  refine AW.condF (by go_simp) ?_
  refine AW.skip ?_
  go_simp
  repeat refine AW.seq ?_
  refine AW.reg F ?_
  go_simp
  repeat refine AW.seq ?_
  refine AW.block ?_
  repeat refine AW.seq ?_
  refine AW.loopP [0, 1, 2, 3, 4, 49, 50, 51] [1000] (by decide) (fun g s => ∃ (j : Nat), s = mkS [(0, .im (sI a)), (1, .im (sI b)), (2, .im (sI c)), (3, .im (iI u)), (4, .im (iI v)), (49, .im (.sl [[sI a], [sI b], [sI c]] true)), (50, .im (iI 3)), (51, .im (iI j))] [(1000, .none)] ∧ g = 3 - j ∧ j ≤ 3 ∧ (0 < j → e0 = 0) ∧ (1 < j → e1 = 0) ∧ (2 < j → e2 = 0)) (3) ?_ ?_
  · refine ⟨0, ?_, rfl, Nat.zero_le _, fun h => absurd h (Nat.lt_irrefl _), fun h => absurd h (by omega), fun h => absurd h (by omega)⟩
    go_simp
  · rintro g s ⟨j, rfl, rfl, hj, g0, g1, g2⟩
    obtain rfl | rfl | rfl | rfl : j = 0 ∨ j = 1 ∨ j = 2 ∨ j = 3 := by omega
    · repeat refine AW.seq ?_
      refine AW.reg F ?_
      go_simp
      repeat refine AW.seq ?_
      refine AW.condT (by go_simp) ?_
      refine AW.skip ?_
      go_simp
      repeat refine AW.seq ?_
      refine AW.block ?_
      repeat refine AW.seq ?_
      refine AW.reg F ?_
      go_simp
      repeat refine AW.seq ?_
      refine AW.reg F ?_
      go_simp
      refine ⟨_, c0, ?_⟩
      go_simp
      by_cases w0 : e0 = 0
      · have v0 : (e0 : Int) = 0 := by omega
        repeat refine AW.seq ?_
        refine AW.reg F ?_
        go_simp
        repeat refine AW.seq ?_
        refine AW.condF (by go_simp) ?_
        refine AW.skip ?_
        go_simp
        repeat refine AW.seq ?_
        refine AW.reg F ?_
        go_simp
        first | refine ⟨3 - 1, by omega, 1, ?_⟩ | refine ⟨3, ?_⟩
        repeat' apply And.intro
        all_goals first | omega | (intro _; omega) | rfl | go_simp
      · have v0 : ¬ (e0 : Int) = 0 := by omega
        repeat refine AW.seq ?_
        refine AW.reg F ?_
        go_simp
        repeat refine AW.seq ?_
        refine AW.condT (by go_simp) ?_
        repeat refine AW.seq ?_
        refine AW.reg F ?_
        go_simp
        refine AW.ret ?_
        go_simp
    · repeat refine AW.seq ?_
      refine AW.reg F ?_
      go_simp
      repeat refine AW.seq ?_
      refine AW.condT (by go_simp) ?_
      refine AW.skip ?_
      go_simp
      repeat refine AW.seq ?_
      refine AW.block ?_
      repeat refine AW.seq ?_
      refine AW.reg F ?_
      go_simp
      repeat refine AW.seq ?_
      refine AW.reg F ?_
      go_simp
      refine ⟨_, c1, ?_⟩
      go_simp
      by_cases w1 : e1 = 0
      · have v1 : (e1 : Int) = 0 := by omega
        repeat refine AW.seq ?_
        refine AW.reg F ?_
        go_simp
        repeat refine AW.seq ?_
        refine AW.condF (by go_simp) ?_
        refine AW.skip ?_
        go_simp
        repeat refine AW.seq ?_
        refine AW.reg F ?_
        go_simp
        first | refine ⟨3 - 2, by omega, 2, ?_⟩ | refine ⟨3, ?_⟩
        repeat' apply And.intro
        all_goals first | omega | (intro _; omega) | rfl | go_simp
      · have v1 : ¬ (e1 : Int) = 0 := by omega
        repeat refine AW.seq ?_
        refine AW.reg F ?_
        go_simp
        repeat refine AW.seq ?_
        refine AW.condT (by go_simp) ?_
        repeat refine AW.seq ?_
        refine AW.reg F ?_
        go_simp
        refine AW.ret ?_
        go_simp
    · repeat refine AW.seq ?_
      refine AW.reg F ?_
      go_simp
      repeat refine AW.seq ?_
      refine AW.condT (by go_simp) ?_
      refine AW.skip ?_
      go_simp
      repeat refine AW.seq ?_
      refine AW.block ?_
      repeat refine AW.seq ?_
      refine AW.reg F ?_
      go_simp
      repeat refine AW.seq ?_
      refine AW.reg F ?_
      go_simp
      refine ⟨_, c2, ?_⟩
      go_simp
      by_cases w2 : e2 = 0
      · have v2 : (e2 : Int) = 0 := by omega
        repeat refine AW.seq ?_
        refine AW.reg F ?_
        go_simp
        repeat refine AW.seq ?_
        refine AW.condF (by go_simp) ?_
        refine AW.skip ?_
        go_simp
        repeat refine AW.seq ?_
        refine AW.reg F ?_
        go_simp
        first | refine ⟨3 - 3, by omega, 3, ?_⟩ | refine ⟨3, ?_⟩
        repeat' apply And.intro
        all_goals first | omega | (intro _; omega) | rfl | go_simp
      · have v2 : ¬ (e2 : Int) = 0 := by omega
        repeat refine AW.seq ?_
        refine AW.reg F ?_
        go_simp
        repeat refine AW.seq ?_
        refine AW.condT (by go_simp) ?_
        repeat refine AW.seq ?_
        refine AW.reg F ?_
        go_simp
        refine AW.ret ?_
        go_simp
    · repeat refine AW.seq ?_
      refine AW.reg F ?_
      go_simp
      repeat refine AW.seq ?_
      refine AW.condF (by go_simp) ?_
      refine AW.exit ?_
      go_simp
      repeat refine AW.seq ?_
      refine AW.reg F ?_
      go_simp
      repeat refine AW.seq ?_
      refine AW.reg F ?_
      go_simp
      repeat refine AW.seq ?_
      refine AW.reg F ?_
      go_simp
      repeat refine AW.seq ?_
      refine AW.drw F [0, 1, 2, 3, 4, 5, 6, 7, 8, 9, 10, 11, 12, 18, 13, 14, 15, 16, 17, 19, 20, 21] [(2, 18), (3, 18), (8, 18), (9, 18), (18, 13)] mixed (by kernel_rfl) ?_
      go_simp
      refine ⟨_, cn, ?_⟩
      go_simp
      repeat refine AW.seq ?_
      refine AW.drw F [0, 1, 2, 3, 4, 5, 6, 7, 8, 9, 10, 11, 12, 13, 14, 20, 15, 16, 17, 18, 19, 21, 22, 23] [(3, 20), (4, 20), (10, 20), (11, 20), (20, 15)] mixed (by kernel_rfl) ?_
      go_simp
      refine ⟨_, cl, ?_⟩
      go_simp
      repeat refine AW.seq ?_
      refine AW.drw F [0, 1, 2, 3, 4, 5, 6, 7, 8, 9, 10, 11, 12, 13, 14, 20, 15, 16, 17, 18, 19, 21, 22, 23] [(2, 20), (3, 20), (9, 20), (10, 20), (20, 15)] mixed (by kernel_rfl) ?_
      go_simp
      refine ⟨_, cr, ?_⟩
      go_simp
      refine AW.prune [17, 18, 22, 24, 25, 27, 28, 30] [1000, 22, 25, 28] (by decide) ?_
      go_simp
      by_cases w7 : el = 0
      · subst w7
        by_cases w8 : er = 0
        · subst w8
          rcases H (g0 (by omega)) (g1 (by omega)) (g2 (by omega)) rfl rfl with ⟨rfl, rfl, rfl⟩ | ⟨u1, u2, rfl, u4⟩ | ⟨u1, u2, rfl, u4⟩
          · repeat refine AW.seq ?_
            refine AW.reg F ?_
            go_simp
            repeat refine AW.seq ?_
            refine AW.condF (by go_simp) ?_
            refine AW.skip ?_
            go_simp
            repeat refine AW.seq ?_
            refine AW.block ?_
            repeat refine AW.seq ?_
            refine AW.reg F ?_
            go_simp
            repeat refine AW.seq ?_
            refine AW.condT (by go_simp) ?_
            repeat refine AW.seq ?_
            refine AW.reg F ?_
            go_simp
            refine AW.ret ?_
            go_simp
          · injection u4 with v1 v2 v3 v4 v5 v6
            subst v1 v2 v3 v4 v5 v6
            repeat refine AW.seq ?_
            refine AW.reg F ?_
            go_simp
            repeat refine AW.seq ?_
            refine AW.condF (by go_simp) ?_
            refine AW.skip ?_
            go_simp
            repeat refine AW.seq ?_
            refine AW.block ?_
            rcases u2 with u3 | ⟨rfl, rfl | rfl⟩
            · have v2 : (i : Int) < (k : Int) := by omega
              by_cases w11 : i = 5
              · subst w11
                have v3 : ¬ (k : Int) = 5 := by omega
                have v4 : (5 : Int) < (k : Int) := by omega
                repeat refine AW.seq ?_
                refine AW.reg F ?_
                go_simp
                repeat refine AW.seq ?_
                refine AW.condF (by go_simp) ?_
                repeat refine AW.seq ?_
                refine AW.reg F ?_
                go_simp
                repeat refine AW.seq ?_
                refine AW.condT (by go_simp) ?_
                repeat refine AW.seq ?_
                refine AW.reg F ?_
                go_simp
                refine ⟨_, cs, ?_⟩
                go_simp
                refine AW.ret ?_
                go_simp
              · have v3 : ¬ (i : Int) = 5 := by omega
                repeat refine AW.seq ?_
                refine AW.reg F ?_
                go_simp
                repeat refine AW.seq ?_
                refine AW.condF (by go_simp) ?_
                repeat refine AW.seq ?_
                refine AW.reg F ?_
                go_simp
                repeat refine AW.seq ?_
                refine AW.condT (by go_simp) ?_
                repeat refine AW.seq ?_
                refine AW.reg F ?_
                go_simp
                refine ⟨_, cs, ?_⟩
                go_simp
                refine AW.ret ?_
                go_simp
            · repeat refine AW.seq ?_
              refine AW.reg F ?_
              go_simp
              repeat refine AW.seq ?_
              refine AW.condF (by go_simp) ?_
              repeat refine AW.seq ?_
              refine AW.reg F ?_
              go_simp
              repeat refine AW.seq ?_
              refine AW.condT (by go_simp) ?_
              repeat refine AW.seq ?_
              refine AW.reg F ?_
              go_simp
              refine ⟨_, cs, ?_⟩
              go_simp
              refine AW.ret ?_
              go_simp
            · repeat refine AW.seq ?_
              refine AW.reg F ?_
              go_simp
              repeat refine AW.seq ?_
              refine AW.condF (by go_simp) ?_
              repeat refine AW.seq ?_
              refine AW.reg F ?_
              go_simp
              repeat refine AW.seq ?_
              refine AW.condT (by go_simp) ?_
              repeat refine AW.seq ?_
              refine AW.reg F ?_
              go_simp
              refine ⟨_, cs, ?_⟩
              go_simp
              refine AW.ret ?_
              go_simp
          · injection u4 with v1 v2 v3 v4 v5 v6
            subst v1 v2 v3 v4 v5 v6
            repeat refine AW.seq ?_
            refine AW.reg F ?_
            go_simp
            repeat refine AW.seq ?_
            refine AW.condF (by go_simp) ?_
            refine AW.skip ?_
            go_simp
            repeat refine AW.seq ?_
            refine AW.block ?_
            obtain u3 | ⟨rfl, u4, u5, u6⟩ : k < i ∨ (k = i ∧ i ≠ 0 ∧ i ≠ 2 ∧ i ≠ 5) := by omega
            · by_cases w11 : i = 5
              · subst w11
                have v3 : ¬ (k : Int) = 5 := by omega
                have v4 : ¬ (5 : Int) < (k : Int) := by omega
                have v5 : ¬ (5 : Int) = (k : Int) := by omega
                repeat refine AW.seq ?_
                refine AW.reg F ?_
                go_simp
                repeat refine AW.seq ?_
                refine AW.condF (by go_simp) ?_
                repeat refine AW.seq ?_
                refine AW.reg F ?_
                go_simp
                repeat refine AW.seq ?_
                refine AW.condF (by go_simp) ?_
                refine AW.skip ?_
                go_simp
                repeat refine AW.seq ?_
                refine AW.reg F ?_
                go_simp
                refine ⟨_, cs, ?_⟩
                go_simp
                refine AW.ret ?_
                go_simp
              · have v3 : ¬ (i : Int) = 5 := by omega
                have v4 : ¬ (i : Int) < (k : Int) := by omega
                have v5 : ¬ (i : Int) = (k : Int) := by omega
                repeat refine AW.seq ?_
                refine AW.reg F ?_
                go_simp
                repeat refine AW.seq ?_
                refine AW.condF (by go_simp) ?_
                repeat refine AW.seq ?_
                refine AW.reg F ?_
                go_simp
                repeat refine AW.seq ?_
                refine AW.condF (by go_simp) ?_
                refine AW.skip ?_
                go_simp
                repeat refine AW.seq ?_
                refine AW.reg F ?_
                go_simp
                refine ⟨_, cs, ?_⟩
                go_simp
                refine AW.ret ?_
                go_simp
            · have v3 : ¬ (k : Int) = 5 := by omega
              have v4 : ¬ (k : Int) = 0 := by omega
              have v5 : ¬ (k : Int) = 2 := by omega
              repeat refine AW.seq ?_
              refine AW.reg F ?_
              go_simp
              repeat refine AW.seq ?_
              refine AW.condF (by go_simp) ?_
              repeat refine AW.seq ?_
              refine AW.reg F ?_
              go_simp
              repeat refine AW.seq ?_
              refine AW.condF (by go_simp) ?_
              refine AW.skip ?_
              go_simp
              repeat refine AW.seq ?_
              refine AW.reg F ?_
              go_simp
              refine ⟨_, cs, ?_⟩
              go_simp
              refine AW.ret ?_
              go_simp
        · have v8 : ¬ (er : Int) = 0 := by omega
          repeat refine AW.seq ?_
          refine AW.reg F ?_
          go_simp
          repeat refine AW.seq ?_
          refine AW.condT (by go_simp) ?_
          repeat refine AW.seq ?_
          refine AW.reg F ?_
          go_simp
          refine AW.ret ?_
          go_simp
      · have v7 : ¬ (el : Int) = 0 := by omega
        repeat refine AW.seq ?_
        refine AW.reg F ?_
        go_simp
        repeat refine AW.seq ?_
        refine AW.condT (by go_simp) ?_
        repeat refine AW.seq ?_
        refine AW.reg F ?_
        go_simp
        refine AW.ret ?_
        go_simp
theorem sign8 {i : Nat} (h : i < 8) : ∃ (s : ByteArray) (q : Nat × ByteArray), ([FV.im (IV.v (Value.string ⟨#[124]⟩)), FV.im (IV.v (Value.string ⟨#[44]⟩)), FV.im (IV.v (Value.string ⟨#[47, 47]⟩)), FV.im (IV.v (Value.string ⟨#[32, 111, 114, 32]⟩)), FV.im (IV.v (Value.string ⟨#[32, 97, 110, 100, 32]⟩)), FV.im (IV.v (Value.string ⟨#[61, 61]⟩)), FV.im (IV.v (Value.string ⟨#[43]⟩)), FV.im (IV.v (Value.string ⟨#[42]⟩))] : List FV)[i]? = some (FV.im (IV.v (Value.string s))) ∧ SgOk (toL s) q ∧ (q = (6, ⟨#[124]⟩) ↔ i = 0) ∧ strK q = (if i < 3 then i else i + 1) := by
  match i, h with
  | 0, _ => exact ⟨_, _, rfl, sg_pipe, by decide, by decide⟩
  | 1, _ => exact ⟨_, _, rfl, sg_comma, by decide, by decide⟩
  | 2, _ => exact ⟨_, _, rfl, sg_else, by decide, by decide⟩
  | 3, _ => exact ⟨_, _, rfl, sg_or2, by decide, by decide⟩
  | 4, _ => exact ⟨_, _, rfl, sg_and2, by decide, by decide⟩
  | 5, _ => exact ⟨_, _, rfl, sg_eq, by decide, by decide⟩
  | 6, _ => exact ⟨_, _, rfl, sg_plus, by decide, by decide⟩
  | 7, _ => exact ⟨_, _, rfl, sg_times, by decide, by decide⟩
theorem law_sides (a b c : ByteArray) (u v : Int) : ACalls Tryd.prog GX 5 none [sI a, sI b, sI c, iI u, iI v] (.ret (bI true) []) := by
  by_cases hl : 300 < a.size ∨ 300 < b.size ∨ 300 < c.size
  · exact law_sides_long a b c u v hl
  have kk : ∀ w : Int, ∃ k : Nat, IntKind.i64.wrap ((IntKind.u64.wrap w).tmod 8) = (k : Int) ∧ k < 8 := by
    intro w
    have h1 := IntKind.wrap_u64 w
    have h2 : 0 ≤ IntKind.u64.wrap w := by omega
    rw [Int.tmod_eq_emod_of_nonneg h2]
    refine ⟨((IntKind.u64.wrap w) % 8).toNat, ?_, by omega⟩
    rw [IntWalk.i64_in _ (by omega)]; omega
  obtain ⟨i, hi, hi8⟩ := kk u
  obtain ⟨k, hk, hk8⟩ := kk v
  obtain ⟨s, q, hs, hS, hp, hq⟩ := sign8 hi8
  obtain ⟨r, t, hr, hR, hp2, ht⟩ := sign8 hk8
  have hsl : s.size ≤ 10 := hS.e
  have hrl : r.size ≤ 10 := hR.e
  obtain ⟨x0, a0, e0, c0, p0⟩ := parse_one a (by omega)
  obtain ⟨x1, a1, e1, c1, p1⟩ := parse_one b (by omega)
  obtain ⟨x2, a2, e2, c2, p2⟩ := parse_one c (by omega)
  have sz : ∀ x : ByteArray, (⟨#[40]⟩ ++ x ++ ⟨#[10, 41]⟩ : ByteArray).size = 1 + x.size + 2 := fun x => by rw [ByteArray.size_append, ByteArray.size_append]; rfl
  obtain ⟨n, an, en, cn, pn⟩ := parse_one (⟨#[40]⟩ ++ a ++ ⟨#[10, 41]⟩ ++ s ++ (⟨#[40]⟩ ++ b ++ ⟨#[10, 41]⟩) ++ r ++ (⟨#[40]⟩ ++ c ++ ⟨#[10, 41]⟩)) (by rw [ByteArray.size_append, ByteArray.size_append, ByteArray.size_append, ByteArray.size_append, sz, sz, sz]; omega)
  obtain ⟨nl, al, el, cl, pl⟩ := parse_one (⟨#[40]⟩ ++ (⟨#[40]⟩ ++ a ++ ⟨#[10, 41]⟩) ++ s ++ (⟨#[40]⟩ ++ b ++ ⟨#[10, 41]⟩) ++ ⟨#[41]⟩ ++ r ++ (⟨#[40]⟩ ++ c ++ ⟨#[10, 41]⟩)) (by rw [ByteArray.size_append, ByteArray.size_append, ByteArray.size_append, ByteArray.size_append, ByteArray.size_append, ByteArray.size_append, sz, sz, sz]; show 1 + _ + _ + _ + 1 + _ + _ ≤ _; omega)
  obtain ⟨nr, ar, er, cr, pr⟩ := parse_one (⟨#[40]⟩ ++ a ++ ⟨#[10, 41]⟩ ++ s ++ ⟨#[40]⟩ ++ (⟨#[40]⟩ ++ b ++ ⟨#[10, 41]⟩) ++ r ++ (⟨#[40]⟩ ++ c ++ ⟨#[10, 41]⟩) ++ ⟨#[41]⟩) (by rw [ByteArray.size_append, ByteArray.size_append, ByteArray.size_append, ByteArray.size_append, ByteArray.size_append, ByteArray.size_append, sz, sz, sz]; show _ + _ + 1 + _ + _ + _ + 1 ≤ _; omega)
  rw [show toL (⟨#[40]⟩ ++ a ++ ⟨#[10, 41]⟩ ++ s ++ (⟨#[40]⟩ ++ b ++ ⟨#[10, 41]⟩) ++ r ++ (⟨#[40]⟩ ++ c ++ ⟨#[10, 41]⟩)) = par (toL a) ++ (toL s ++ (par (toL b) ++ (toL r ++ par (toL c)))) by simp only [toL_app, par, List.append_assoc, List.cons_append]; rfl] at pn
  rw [show toL (⟨#[40]⟩ ++ (⟨#[40]⟩ ++ a ++ ⟨#[10, 41]⟩) ++ s ++ (⟨#[40]⟩ ++ b ++ ⟨#[10, 41]⟩) ++ ⟨#[41]⟩ ++ r ++ (⟨#[40]⟩ ++ c ++ ⟨#[10, 41]⟩)) = 40 :: (par (toL a) ++ (toL s ++ (par (toL b) ++ (41 :: (toL r ++ par (toL c)))))) by simp only [toL_app, par, List.append_assoc, List.cons_append]; rfl] at pl
  rw [show toL (⟨#[40]⟩ ++ a ++ ⟨#[10, 41]⟩ ++ s ++ ⟨#[40]⟩ ++ (⟨#[40]⟩ ++ b ++ ⟨#[10, 41]⟩) ++ r ++ (⟨#[40]⟩ ++ c ++ ⟨#[10, 41]⟩) ++ ⟨#[41]⟩) = par (toL a) ++ (toL s ++ 40 :: (par (toL b) ++ (toL r ++ (par (toL c) ++ [41])))) by simp only [toL_app, par, List.append_assoc, List.cons_append]; rfl] at pr
  refine law_sides_loop a b c u v (by omega) (by omega) (by omega) x0 x1 x2 a0 e0 a1 e1 a2 e2 c0 c1 c2 i k hi hk hi8 hk8 s r hs hr hsl hrl n nl nr an en al el ar er cn cl cr ?_
  rintro rfl rfl rfl rfl rfl
  have la : (toL a).length ≤ 2000 := by rw [toL_len]; omega
  have lb : (toL b).length ≤ 2000 := by rw [toL_len]; omega
  have lc : (toL c).length ≤ 2000 := by rw [toL_len]; omega
  obtain ⟨f0, -⟩ := p0.cases.resolve_left fun h => h.1 rfl
  obtain ⟨f1, -⟩ := p1.cases.resolve_left fun h => h.1 rfl
  obtain ⟨f2, -⟩ := p2.cases.resolve_left fun h => h.1 rfl
  by_cases h5 : i = 5 ∧ k = 5
  · obtain ⟨rfl, rfl⟩ := h5
    obtain ⟨m, l, h6, h7⟩ := flt_form f0 f1 f2 hS hR la lb lc ⟨hq, ht⟩
    exact .inl ⟨rfl, rfl, pn.of_bad h6 h7⟩
  by_cases h6 : i < k ∨ i = k ∧ (i = 0 ∨ i = 2)
  · have f := flt_right f0 f1 f2 hS hR la lb lc (by
      by_cases h0 : i = 0
      · exact .inl (hp.2 h0)
      · refine .inr ?_
        rw [hq, ht]
        split <;> split <;> omega)
    have g := flt_rights f0 f1 f2 hS hR la lb lc
    rcases pr.of_flt g with ⟨h7, h8, _, _⟩ | ⟨_, _, _, h⟩
    · rcases pn.of_flt f with ⟨_, h9, _, h10⟩ | ⟨h, _⟩
      · exact .inr (.inl ⟨h5, h6, h10, h9.trans h8.symm⟩)
      · omega
    · cases h
  · have f := flt_left f0 f1 f2 hS hR la lb lc (fun h => by have := hp.1 h; omega) (by
      rw [hq, ht]
      split <;> split <;> omega)
    have g := flt_lefts f0 f1 f2 hS hR la lb lc
    rcases pl.of_flt g with ⟨h7, h8, _, _⟩ | ⟨_, _, _, h⟩
    · rcases pn.of_flt f with ⟨_, h9, _, h10⟩ | ⟨h, _⟩
      · exact .inr (.inr ⟨h5, h6, h10, h9.trans h8.symm⟩)
      · omega
    · cases h
theorem law_sides_w (a b c : ByteArray) (u v : Int) (W : World) (hg : Glob W) (hu : Utf W) (hm : GlobX W) : Calls Tryd.prog 5 #[.string a, .string b, .string c, .int .i64 u, .int .i64 v] W fun e W' => e = .returned (.bool true) ∧ Below W.heap.size W W' :=
  calls_of_ac (us := [.string a, .string b, .string c, .int .i64 u, .int .i64 v]) (law_sides a b c u v) hg hu hm (RepL.cons (.v _) (RepL.cons (.v _) (RepL.cons (.v _) (RepL.cons (.v _) (RepL.cons (.v _) (RepL.nil _ _))))))
end Go.Proofs.YtnhnpahoppbniaaDoor
