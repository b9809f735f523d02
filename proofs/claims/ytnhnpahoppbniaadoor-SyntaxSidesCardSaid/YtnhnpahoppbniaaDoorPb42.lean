/- Lemmas and contracts for the laws SyntaxBrackets, SyntaxJoins, SyntaxSides, part 42 of 44: SynOne, SynWk. Conditions: those that each lemma names. -/
import Derived.Test.YtnhnpahoppbniaaDoorPb41
import Derived.Test.YtnhnpahoppbniaaDoorPb18
import Derived.Test.YtnhnpahoppbniaaDoorPb26
namespace Go.Proofs.YtnhnpahoppbniaaDoor
open Go Go.RowKit Go.Proofs Th
theorem parse_one (s : ByteArray) (hs : s.size ≤ 50000) : ∃ (n : NJ) (a e : Nat), ACalls Tryd.prog GX 7 none [sI s] (.ret (.tup [.agg (nodeIV n), iI a, iI e]) []) ∧ PS (toL s) n a e := by
  by_cases he : (scanF (toL s)).2.2 = 0
  case neg => exact ⟨noNJ, _, _, parse_scan s hs he, .bad he (scan_at _) (fun n ⟨l, h, _⟩ => he (by rw [h])) fun l a' e' h => absurd (by rw [h]) he⟩
  obtain ⟨hg, hw⟩ := envOf_good (toL s) 0
  rw [toL_len] at hw
  obtain ⟨r, hr, _⟩ := totP (40 * s.size + 40) (envOf (toL s) 0) hg .whole 0 trivial (by
    show 40 * wtE (envOf (toL s) 0) 0 + 31 < _
    omega)
  have c := parse_go s hs he _ r hr
  have hev := evP_of hr
  cases r with
  | bad a e =>
    have hb := bad_all _ _ (envOf_bp _ _) .whole 0 trivial a e hr
    refine ⟨noNJ, a, e, c, .bad hb.2 (by have h1 : a ≤ 0 + (toL s).length := hb.1; omega) (fun n hn => ?_) fun l a' e' _ h => ?_⟩
    · obtain ⟨j, hj⟩ := whole_flt hn
      rw [hev] at hj; cases hj
    · rw [hev] at h; cases h; rfl
  | ok n j =>
    have hf : Flt (toL s) n := flt_whole (Prod.ext rfl (Prod.ext (scanF_ok _ he) he)) hev
    simp only [resT] at c
    by_cases h2 : 48 < depJ n
    · rw [if_neg (fun h => by have := (sh_dep 48 n).1 h; omega)] at c
      exact ⟨noNJ, 0, 31, c, .deep hf h2⟩
    · rw [if_pos ((sh_dep 48 n).2 (by omega))] at c
      exact ⟨n, 0, 0, c, .ok hf (by omega)⟩
theorem toL_app (a b : ByteArray) : toL (a ++ b) = toL a ++ toL b := by
  unfold toL
  rw [ByteArray.data_append, Array.toList_append]
end Go.Proofs.YtnhnpahoppbniaaDoor
namespace Go.Proofs.YtnhnpahoppbniaaDoor
open Go Go.RowKit Go.Proofs Th
set_option maxRecDepth 8000
attribute [local go_sem] aops aopsD stepA chkD disj aguard isWant aop aval abuil acall acallP acallR argsIV valOf aput startS mkS numb look upd toIV allIV zeroFV aload setSeg afill aelems cellsOf toSl toVal valsOf aidx abin ainR FV.ok IV.one IV.er IV.erA IV.er1 iI sI bI nodeIV nodesIV tokIV parIV faultV resP lift AThen ABlock AEnd resL resV rload rcOf imsOf oneV nodeJ kidsJ strJ knownJ selfJ noNJ noTf foot owns pruneS filtF filtO Value.oneCell'
attribute [local go_sem] ti_node ti_tok ti_par ti_fault ti_nodes ti_toks ti_strs ti_ints ti_str ti_int ti_num ti_errno
attribute [local go_sem] sel
attribute [local go_sem] zeroN nodesIV_append nodesIV_len kidC rowC nodeF
def numJ (n : Int) : NJ := .mk 2 ⟨#[]⟩ n 0 [] []
theorem ti_i64 : tiOf Tryd.prog 2 = some (.flat (.int .i64 0)) := by kernel_rfl
attribute [local go_sem] numJ ti_i64 sel
theorem work1 : runP 80 (envOf (toL ⟨#[49, 32, 45, 32, 50, 32, 45, 32, 51]⟩) 0) .whole 0 = some (.ok (nodeJ 10 ⟨#[45]⟩ (nodeJ 10 ⟨#[45]⟩ (numJ 1) (numJ 2)) (numJ 3)) 5) := by kernel_rfl
theorem work2 : runP 80 (envOf (toL ⟨#[46, 97, 91, 48, 93, 32, 124, 32, 49, 32, 43, 32, 50, 32, 42, 32, 51]⟩) 0) .whole 0 = some (.ok (nodeJ 8 ⟨#[]⟩ (nodeJ 5 ⟨#[]⟩ (nodeJ 5 ⟨#[]⟩ selfJ (strJ ⟨#[97]⟩)) (numJ 0)) (nodeJ 10 ⟨#[43]⟩ (numJ 1) (nodeJ 10 ⟨#[42]⟩ (numJ 2) (numJ 3)))) 10) := by kernel_rfl
theorem work3 : runP 80 (envOf (toL ⟨#[49, 32, 61, 61, 32, 50, 32, 61, 61, 32, 51]⟩) 0) .whole 0 = some (.bad 7 60) := by kernel_rfl
theorem work1s : (scanF (toL ⟨#[49, 32, 45, 32, 50, 32, 45, 32, 51]⟩)).2.2 = 0 := by kernel_rfl
theorem work2s : (scanF (toL ⟨#[46, 97, 91, 48, 93, 32, 124, 32, 49, 32, 43, 32, 50, 32, 42, 32, 51]⟩)).2.2 = 0 := by kernel_rfl
theorem work3s : (scanF (toL ⟨#[49, 32, 61, 61, 32, 50, 32, 61, 61, 32, 51]⟩)).2.2 = 0 := by kernel_rfl
theorem work1d : shJ 48 (nodeJ 10 ⟨#[45]⟩ (nodeJ 10 ⟨#[45]⟩ (numJ 1) (numJ 2)) (numJ 3)) = true := by kernel_rfl
theorem work2d : shJ 48 (nodeJ 8 ⟨#[]⟩ (nodeJ 5 ⟨#[]⟩ (nodeJ 5 ⟨#[]⟩ selfJ (strJ ⟨#[97]⟩)) (numJ 0)) (nodeJ 10 ⟨#[43]⟩ (numJ 1) (nodeJ 10 ⟨#[42]⟩ (numJ 2) (numJ 3)))) = true := by kernel_rfl
theorem work1c : ACalls Tryd.prog GX 7 none [sI ⟨#[49, 32, 45, 32, 50, 32, 45, 32, 51]⟩] (.ret (.tup [.agg (nodeIV (nodeJ 10 ⟨#[45]⟩ (nodeJ 10 ⟨#[45]⟩ (numJ 1) (numJ 2)) (numJ 3))), iI 0, iI 0]) []) := by
  have := parse_go ⟨#[49, 32, 45, 32, 50, 32, 45, 32, 51]⟩ (by decide) work1s 80 _ work1
  simp only [resT, work1d, if_true] at this
  exact this
theorem work2c : ACalls Tryd.prog GX 7 none [sI ⟨#[46, 97, 91, 48, 93, 32, 124, 32, 49, 32, 43, 32, 50, 32, 42, 32, 51]⟩] (.ret (.tup [.agg (nodeIV (nodeJ 8 ⟨#[]⟩ (nodeJ 5 ⟨#[]⟩ (nodeJ 5 ⟨#[]⟩ selfJ (strJ ⟨#[97]⟩)) (numJ 0)) (nodeJ 10 ⟨#[43]⟩ (numJ 1) (nodeJ 10 ⟨#[42]⟩ (numJ 2) (numJ 3))))), iI 0, iI 0]) []) := by
  have := parse_go ⟨#[46, 97, 91, 48, 93, 32, 124, 32, 49, 32, 43, 32, 50, 32, 42, 32, 51]⟩ (by decide) work2s 80 _ work2
  simp only [resT, work2d, if_true] at this
  exact this
theorem work3c : ACalls Tryd.prog GX 7 none [sI ⟨#[49, 32, 61, 61, 32, 50, 32, 61, 61, 32, 51]⟩] (.ret (.tup [.agg (nodeIV noNJ), iI 7, iI 60]) []) := parse_go ⟨#[49, 32, 61, 61, 32, 50, 32, 61, 61, 32, 51]⟩ (by decide) work3s 80 _ work3
set_option maxHeartbeats 8000000 in
theorem syn_works : ACalls Tryd.prog GX 6 none [] (.ret (bI true) []) := by
  have c1 := work1c
  have c2 := work2c
  have c3 := work3c
  refine ACalls.enter Tryd.func6 rfl rfl gkX Tryd.ntmps6 fun X F => ?_
  repeat refine AW.seq ?_
  refine AW.reg F ?_
  go_simp
  repeat refine AW.seq ?_
  refine AW.reg F ?_
  go_simp
  refine ⟨_, c1, ?_⟩
  go_simp
  clear c1
  repeat refine AW.seq ?_
  refine AW.reg F ?_
  go_simp
  refine ⟨_, c2, ?_⟩
  go_simp
  clear c2
  repeat refine AW.seq ?_
  refine AW.reg F ?_
  go_simp
  refine ⟨_, c3, ?_⟩
  go_simp
  clear c3
  refine AW.prune [1, 2, 3, 4, 6, 8, 9] [1000, 1, 4] (by decide) ?_
  go_simp
  repeat refine AW.seq ?_
  refine AW.regL F [0, 1, 2, 3, 4, 5, 6, 7] [8, 9, 10, 11, 12, 13, 14, 15, 16, 17, 18, 19, 20, 21, 22, 23, 24, 25, 26, 27, 28, 29, 30, 31, 32, 33, 34, 35, 36, 37, 38, 39, 40, 41, 42, 43, 44, 45, 46, 47, 48, 49, 50, 51, 52, 53, 54, 55, 56, 57, 58, 59, 60, 61, 62, 63, 64, 65, 66, 67, 68, 69, 70] (by rfl) ?_
  go_simp
  refine laterL_I [8, 9, 10, 11, 12, 13, 14, 15] [16, 17, 18, 19, 20, 21, 22, 23, 24, 25, 26, 27, 28, 29, 30, 31, 32, 33, 34, 35, 36, 37, 38, 39, 40, 41, 42, 43, 44, 45, 46, 47, 48, 49, 50, 51, 52, 53, 54, 55, 56, 57, 58, 59, 60, 61, 62, 63, 64, 65, 66, 67, 68, 69, 70] ?_
  go_simp
  refine laterL_I [16, 17, 18, 19, 20, 21, 22, 23] [24, 25, 26, 27, 28, 29, 30, 31, 32, 33, 34, 35, 36, 37, 38, 39, 40, 41, 42, 43, 44, 45, 46, 47, 48, 49, 50, 51, 52, 53, 54, 55, 56, 57, 58, 59, 60, 61, 62, 63, 64, 65, 66, 67, 68, 69, 70] ?_
  go_simp
  refine laterL_I [24, 25, 26, 27, 28, 29, 30, 31] [32, 33, 34, 35, 36, 37, 38, 39, 40, 41, 42, 43, 44, 45, 46, 47, 48, 49, 50, 51, 52, 53, 54, 55, 56, 57, 58, 59, 60, 61, 62, 63, 64, 65, 66, 67, 68, 69, 70] ?_
  go_simp
  refine laterL_I [32, 33, 34, 35, 36, 37, 38, 39] [40, 41, 42, 43, 44, 45, 46, 47, 48, 49, 50, 51, 52, 53, 54, 55, 56, 57, 58, 59, 60, 61, 62, 63, 64, 65, 66, 67, 68, 69, 70] ?_
  go_simp
  refine laterL_I [40, 41, 42, 43, 44, 45, 46, 47] [48, 49, 50, 51, 52, 53, 54, 55, 56, 57, 58, 59, 60, 61, 62, 63, 64, 65, 66, 67, 68, 69, 70] ?_
  go_simp
  refine laterL_I [48, 49, 50, 51, 52, 53, 54, 55] [56, 57, 58, 59, 60, 61, 62, 63, 64, 65, 66, 67, 68, 69, 70] ?_
  go_simp
  refine laterL_I [56, 57, 58, 59, 60, 61, 62, 63] [64, 65, 66, 67, 68, 69, 70] ?_
  go_simp
  refine laterL_E ?_
  go_simp
  refine AW.ret ?_
  go_simp
end Go.Proofs.YtnhnpahoppbniaaDoor
