/- Lemmas and contracts for the laws SyntaxPieces, part 45 of 48: SynW. Conditions: those that each lemma names. -/
import Derived.Test.YtinknjhclpaieaaGreatDoorPq44
import Derived.Test.YtinknjhclpaieaaGreatDoorPq27
set_option maxRecDepth 100000
set_option maxHeartbeats 8000000
namespace Go.Proofs.YtinknjhclpaieaaGreatDoor
open Go Go.RowKit Go.Proofs Th
set_option maxRecDepth 8000
attribute [local go_sem] aops aopsD stepA chkD disj aguard isWant aop aval abuil acall acallP acallR argsIV valOf aput startS mkS numb look upd toIV allIV zeroFV aload setSeg afill aelems cellsOf toSl toVal valsOf aidx abin ainR FV.ok IV.one IV.er IV.erA IV.er1 iI sI bI nodeIV nodesIV tokIV parIV faultV resP lift AThen ABlock AEnd resL resV rload rcOf imsOf oneV nodeJ kidsJ strJ knownJ selfJ noNJ noTf foot owns pruneS filtF filtO Value.oneCell'
attribute [local go_sem] ti_node ti_tok ti_par ti_fault ti_nodes ti_toks ti_strs ti_ints ti_str ti_int ti_num ti_errno
attribute [local go_sem] rdrIV ti_rdr St.next sel
attribute [local go_sem] resR zeroN nodesIV_append nodesIV_len kidC rowC nodeF
def numJ (n : Int) : NJ := .mk 2 ⟨#[]⟩ n 0 [] []
theorem ti_i64 : tiOf Tryz.prog 2 = some (.flat (.int .i64 0)) := by kernel_rfl
attribute [local go_sem] numJ ti_i64 sel
theorem work1 : runP 80 (envOf (toL ⟨#[49, 32, 45, 32, 50, 32, 45, 32, 51]⟩) 0) .whole 0 = some (.ok (nodeJ 10 ⟨#[45]⟩ (nodeJ 10 ⟨#[45]⟩ (numJ 1) (numJ 2)) (numJ 3)) 5) := by kernel_rfl
theorem work2 : runP 80 (envOf (toL ⟨#[46, 97, 91, 48, 93, 32, 124, 32, 49, 32, 43, 32, 50, 32, 42, 32, 51]⟩) 0) .whole 0 = some (.ok (nodeJ 8 ⟨#[]⟩ (nodeJ 5 ⟨#[]⟩ (nodeJ 5 ⟨#[]⟩ selfJ (strJ ⟨#[97]⟩)) (numJ 0)) (nodeJ 10 ⟨#[43]⟩ (numJ 1) (nodeJ 10 ⟨#[42]⟩ (numJ 2) (numJ 3)))) 10) := by kernel_rfl
theorem work3 : runP 80 (envOf (toL ⟨#[49, 32, 61, 61, 32, 50, 32, 61, 61, 32, 51]⟩) 0) .whole 0 = some (.bad 7 60) := by kernel_rfl
theorem work1s : (scanF (toL ⟨#[49, 32, 45, 32, 50, 32, 45, 32, 51]⟩)).2.2 = 0 := by kernel_rfl
theorem work2s : (scanF (toL ⟨#[46, 97, 91, 48, 93, 32, 124, 32, 49, 32, 43, 32, 50, 32, 42, 32, 51]⟩)).2.2 = 0 := by kernel_rfl
theorem work3s : (scanF (toL ⟨#[49, 32, 61, 61, 32, 50, 32, 61, 61, 32, 51]⟩)).2.2 = 0 := by kernel_rfl
theorem work1d : shJ 48 (nodeJ 10 ⟨#[45]⟩ (nodeJ 10 ⟨#[45]⟩ (numJ 1) (numJ 2)) (numJ 3)) = true := by kernel_rfl
theorem work2d : shJ 48 (nodeJ 8 ⟨#[]⟩ (nodeJ 5 ⟨#[]⟩ (nodeJ 5 ⟨#[]⟩ selfJ (strJ ⟨#[97]⟩)) (numJ 0)) (nodeJ 10 ⟨#[43]⟩ (numJ 1) (nodeJ 10 ⟨#[42]⟩ (numJ 2) (numJ 3)))) = true := by kernel_rfl
theorem work1c : ACalls Tryz.prog GX 6 none [sI ⟨#[49, 32, 45, 32, 50, 32, 45, 32, 51]⟩] (.ret (.tup [.agg (nodeIV (nodeJ 10 ⟨#[45]⟩ (nodeJ 10 ⟨#[45]⟩ (numJ 1) (numJ 2)) (numJ 3))), iI 0, iI 0]) []) := by
  have := parse_go ⟨#[49, 32, 45, 32, 50, 32, 45, 32, 51]⟩ (by decide) work1s 80 _ work1; simp only [resT, work1d, if_true] at this; exact this
theorem work2c : ACalls Tryz.prog GX 6 none [sI ⟨#[46, 97, 91, 48, 93, 32, 124, 32, 49, 32, 43, 32, 50, 32, 42, 32, 51]⟩] (.ret (.tup [.agg (nodeIV (nodeJ 8 ⟨#[]⟩ (nodeJ 5 ⟨#[]⟩ (nodeJ 5 ⟨#[]⟩ selfJ (strJ ⟨#[97]⟩)) (numJ 0)) (nodeJ 10 ⟨#[43]⟩ (numJ 1) (nodeJ 10 ⟨#[42]⟩ (numJ 2) (numJ 3))))), iI 0, iI 0]) []) := by
  have := parse_go ⟨#[46, 97, 91, 48, 93, 32, 124, 32, 49, 32, 43, 32, 50, 32, 42, 32, 51]⟩ (by decide) work2s 80 _ work2; simp only [resT, work2d, if_true] at this; exact this
theorem work3c : ACalls Tryz.prog GX 6 none [sI ⟨#[49, 32, 61, 61, 32, 50, 32, 61, 61, 32, 51]⟩] (.ret (.tup [.agg (nodeIV noNJ), iI 7, iI 60]) []) := parse_go ⟨#[49, 32, 61, 61, 32, 50, 32, 61, 61, 32, 51]⟩ (by decide) work3s 80 _ work3
theorem syn_works : ACalls Tryz.prog GX 5 none [] (.ret (bI true) []) := by
  have c1 := work1c; have c2 := work2c; have c3 := work3c; refine ACalls.enter Tryz.func5 rfl rfl gkX Tryz.ntmps5 fun X F => ?_
  apply Ar F; go_simp; apply Ar F; go_simp; refine ⟨_, c1, ?_⟩; go_simp; clear c1; apply Ar F; go_simp; refine ⟨_, c2, ?_⟩; go_simp; clear c2; apply Ar F; go_simp; refine ⟨_, c3, ?_⟩; go_simp; clear c3; refine AW.prune [1, 2, 3, 4, 6, 8, 9] [1000, 1, 4] (by decide) ?_; go_simp; (repeat apply Aq); refine AW.regL F [0, 1, 2, 3, 4, 5, 6, 7] [8, 9, 10, 11, 12, 13, 14, 15, 16, 17, 18, 19, 20, 21, 22, 23, 24, 25, 26, 27, 28, 29, 30, 31, 32, 33, 34, 35, 36, 37, 38, 39, 40, 41, 42, 43, 44, 45, 46, 47, 48, 49, 50, 51, 52, 53, 54, 55, 56, 57, 58, 59, 60, 61, 62, 63, 64, 65, 66, 67, 68, 69, 70] (by rfl) ?_; go_simp; refine laterL_I [8, 9, 10, 11, 12, 13, 14, 15] [16, 17, 18, 19, 20, 21, 22, 23, 24, 25, 26, 27, 28, 29, 30, 31, 32, 33, 34, 35, 36, 37, 38, 39, 40, 41, 42, 43, 44, 45, 46, 47, 48, 49, 50, 51, 52, 53, 54, 55, 56, 57, 58, 59, 60, 61, 62, 63, 64, 65, 66, 67, 68, 69, 70] ?_; go_simp; refine laterL_I [16, 17, 18, 19, 20, 21, 22, 23] [24, 25, 26, 27, 28, 29, 30, 31, 32, 33, 34, 35, 36, 37, 38, 39, 40, 41, 42, 43, 44, 45, 46, 47, 48, 49, 50, 51, 52, 53, 54, 55, 56, 57, 58, 59, 60, 61, 62, 63, 64, 65, 66, 67, 68, 69, 70] ?_; go_simp; refine laterL_I [24, 25, 26, 27, 28, 29, 30, 31] [32, 33, 34, 35, 36, 37, 38, 39, 40, 41, 42, 43, 44, 45, 46, 47, 48, 49, 50, 51, 52, 53, 54, 55, 56, 57, 58, 59, 60, 61, 62, 63, 64, 65, 66, 67, 68, 69, 70] ?_; go_simp; refine laterL_I [32, 33, 34, 35, 36, 37, 38, 39] [40, 41, 42, 43, 44, 45, 46, 47, 48, 49, 50, 51, 52, 53, 54, 55, 56, 57, 58, 59, 60, 61, 62, 63, 64, 65, 66, 67, 68, 69, 70] ?_
  go_simp; refine laterL_I [40, 41, 42, 43, 44, 45, 46, 47] [48, 49, 50, 51, 52, 53, 54, 55, 56, 57, 58, 59, 60, 61, 62, 63, 64, 65, 66, 67, 68, 69, 70] ?_; go_simp; refine laterL_I [48, 49, 50, 51, 52, 53, 54, 55] [56, 57, 58, 59, 60, 61, 62, 63, 64, 65, 66, 67, 68, 69, 70] ?_; go_simp; refine laterL_I [56, 57, 58, 59, 60, 61, 62, 63] [64, 65, 66, 67, 68, 69, 70] ?_; go_simp; refine laterL_E ?_; go_simp; apply Au; go_simp
end Go.Proofs.YtinknjhclpaieaaGreatDoor
