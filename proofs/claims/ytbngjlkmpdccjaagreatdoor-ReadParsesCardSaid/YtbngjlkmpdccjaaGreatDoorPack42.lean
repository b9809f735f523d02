/- Lemmas and contracts for the laws ReadParses, ReadBytes, part 42 of 50: ReadP. Conditions: those that each lemma names. -/
import Derived.Test.YtbngjlkmpdccjaaGreatDoorPack37
import Derived.Test.YtbngjlkmpdccjaaGreatDoorPack40
import Derived.Test.YtbngjlkmpdccjaaGreatDoorPack38
import Derived.Outline
namespace Go.Proofs.YtbngjlkmpdccjaaGreatDoor
open Go Go.RowKit Go.Proofs Th
attribute [local go_sem] Above.cell
def tok0 : Tk := ⟨0, 0, 0, 0, ⟨#[]⟩, 0, 0, 0⟩
theorem PS.start {w W W1 : World} (hG : GlobV w) (hv : VBlkT W w.heap.size zero6) (hb : Below w.heap.size w W) (hs : W.heap.size = w.heap.size + 1)
    (h1 : W1 = (W.alloc (.cells #[.slice none 0 0] 42)).alloc (.cells (tokC tok0).toArray 44)) : PS w W1 [] [] (.slice none 0 0) tok0 zero6 := by
  subst h1
  have ha := al1 W (.cells #[.slice none 0 0] 42)
  have hb2 := al1 (W.alloc (.cells #[.slice none 0 0] 42)) (.cells (tokC tok0).toArray 44)
  have hsz : (W.alloc (.cells #[.slice none 0 0] 42)).heap.size = w.heap.size + 2 := by simp [hs]
  refine ⟨hG, up (up hb ha) hb2, (hb2.block _ (by omega)).trans ((ha.block _ (by omega)).trans hv), (hb2.block _ (by omega)).trans ?_, ?_, World.ownsRow_nil _ _ _ _, trivial, List.Pairwise.nil⟩
  · have := heap_alloc_new W (.cells #[.slice none 0 0] 42)
    rwa [hs] at this
  · have := heap_alloc_new (W.alloc (.cells #[.slice none 0 0] 42)) (.cells (tokC tok0).toArray 44)
    rwa [hsz] at this
theorem rest_find (l : Nat) (r : Code) (h : four (restP 0) (restP 1) (restP 2) (restP 3) l = some r) : findLabel bodyP l = some r := by
  match l with
  | 0 => obtain rfl : restP 0 = r := Option.some.inj h; rfl
  | 1 => obtain rfl : restP 1 = r := Option.some.inj h; rfl
  | 2 => obtain rfl : restP 2 = r := Option.some.inj h; rfl
  | 3 => obtain rfl : restP 3 = r := Option.some.inj h; rfl
  | _ + 4 => cases h
theorem rest_pass (s : ByteArray) (hs : s.size ≤ 100000000) (w : World) (RV : JV × Nat × Int) (n l : Nat) (r : Code) (a : Act) (W : World) (h : four (restP 0) (restP 1) (restP 2) (restP 3) l = some r) (hJ : JP s RV w n l a W) : r.wp Tryz.prog (outP s RV w n) a W := by
  match l with
  | 0 => obtain rfl : restP 0 = r := Option.some.inj h; exact rest_of rfl (parse_pass0 s hs w RV n a W hJ)
  | 1 => obtain rfl : restP 1 = r := Option.some.inj h; exact rest_of rfl (parse_pass1 s hs w RV n a W hJ)
  | 2 => obtain rfl : restP 2 = r := Option.some.inj h; exact rest_of rfl (parse_pass2 s hs w RV n a W hJ)
  | 3 => obtain rfl : restP 3 = r := Option.some.inj h; exact rest_of rfl (parse_pass3 s hs w RV n a W hJ)
  | _ + 4 => cases h
set_option maxRecDepth 100000 in
set_option maxHeartbeats 4000000 in
theorem read_Parse (s : ByteArray) (hs : s.size ≤ 100000000) (w : World) (hG : GlobV w) : Calls Tryz.prog 6 #[.string s] w fun r w' =>
    ∃ cs, r = .returned (.tuple #[.agg (List.toArray cs), .int .i64 (readV madeJ s.data.toList).2.1, .int .i64 (readV madeJ s.data.toList).2.2]) ∧ JIn w' (newIn w w') (readV madeJ s.data.toList).1 cs ∧ Below w.heap.size w w' := by
  have HL := Keep.mk (show s.data.toList.length = s.size from Array.length_toList ..)
  obtain ⟨RV, hRV⟩ : ∃ r, readV madeJ s.data.toList = r := ⟨_, rfl⟩
  rw [hRV]
  have HRV := Keep.mk hRV
  have HG := Keep.mk hG
  clear hRV hG
  go_enter Tryz.func6, Tryz.ntmps6
  go_wp2
  refine wp_world (fun W => VBlkT W w.heap.size zero6 ∧ W.heap.size = w.heap.size + 1 ∧ Below w.heap.size w W) ⟨VBlkT.new zero6 rfl, by simp, al1 _ _⟩ ?_
  rintro W0 ⟨HV, hsz, HB⟩
  replace HV := Keep.mk HV
  replace HB := Keep.mk HB
  refine wp_scope_many (four (restP 0) (restP 1) (restP 2) (restP 3)) (fun n l => JP s RV w n l) rest_find ?_ (rest_pass s hs w RV)
  by_cases hbig : 16384 < s.size
  · have HE := Keep.mk (show RV = (zeroJ, 0, 3) by rw [← HRV.out]; unfold readV; rw [if_pos (by rw [HL.out]; exact hbig)])
    have hrb := HV.out.box
    have r0 := hrb.cell 0 _ rfl
    have r1 := hrb.cell 1 _ rfl
    have r2 := hrb.cell 2 _ rfl
    have r3 := hrb.cell 3 _ rfl
    have r4 := hrb.cell 4 _ rfl
    have r5 := hrb.cell 5 _ rfl
    have z0 := hrb.froz 0
    have z1 := hrb.froz 1
    have z2 := hrb.froz 2
    have z3 := hrb.froz 3
    have z4 := hrb.froz 4
    have z5 := hrb.froz 5
    have hrl := hrb.lt
    have HBE := Keep.mk (HB.out.trans (six_below W0 w.heap.size (.int .i64 0) (.int .i64 0) (.int .i64 0) (.string ⟨#[]⟩) (.slice none 0 0) (.slice none 0 0) (Nat.le_refl _)))
    clear hrb
    go_wp2
    rw [outBy_ret]
    refine bodyPost_ret (v := .tuple #[.agg (List.toArray zero6), .int .i64 0, .int .i64 3]) ?_ rfl ⟨zero6, by rw [HE.out]; rfl, by rw [HE.out]; exact zero_in _ _, HBE.out⟩
    simp [zero6, cells6, results, Tryz.results6, go_sem, r0, r1, r2, r3, r4, r5]
  · have hL := HL.out
    have HRUN := Keep.mk (show readP madeJ s.data.toList fuelP .val [] zeroJ (nextT s.data.toList 0) = RV by rw [← HRV.out, readV_short _ _ (by omega)])
    have HPS0 := Keep.mk (fun W1 => PS.start (W1 := W1) HG.out HV.out HB.out hsz)
    have HNX : Keep (∀ W', GlobV W' → Calls Tryz.prog 9 #[.string s, .int .i64 0] W' fun r w' => r = .returned (.agg (tokC (nextT s.data.toList 0)).toArray) ∧ Below W'.heap.size W' w') := ⟨fun W' hg => read_next s hs 0 (Nat.zero_le _) W' hg⟩
    have HBG := Keep.mk (show s.data.toList.length ≤ 16384 by omega)
    clear hL
    go_upto_region 5 with fail
    refine wp_world (fun W => PS w W [] [] (.slice none 0 0) tok0 zero6) (HPS0.out _ rfl) ?_
    clear HPS0 HV HB hsz
    rintro W1 HPS1
    replace HPS1 := Keep.mk HPS1
    go_wp2_with fail
    refine (HNX.out _ HPS1.out.gg).mono ?_
    rintro rn Wn ⟨rfl, hbn⟩
    have HPSn := Keep.mk (HPS1.out.below hbn)
    obtain ⟨t5, htn⟩ : ∃ t, nextT s.data.toList 0 = t := ⟨_, rfl⟩
    rw [htn] at HRUN ⊢
    have HN5 := Keep.mk htn
    have HT5 := Keep.mk (by have h := next_tokF s.data.toList 0 (Nat.zero_le _); rw [htn] at h; exact h)
    clear htn hbn HPS1 HNX
    have q0 := HPSn.out.tb.froz 0
    have q1 := HPSn.out.tb.froz 1
    have q2 := HPSn.out.tb.froz 2
    have q3 := HPSn.out.tb.froz 3
    have q4 := HPSn.out.tb.froz 4
    have q5 := HPSn.out.tb.froz 5
    have q6 := HPSn.out.tb.froz 6
    have q7 := HPSn.out.tb.froz 7
    have q8 := HPSn.out.tb.froz 8
    have q9 := HPSn.out.tb.froz 9
    have y0 := HPSn.out.tb.cell 0 _ rfl
    have y1 := HPSn.out.tb.cell 1 _ rfl
    have y2 := HPSn.out.tb.cell 2 _ rfl
    have y3 := HPSn.out.tb.cell 3 _ rfl
    have y4 := HPSn.out.tb.cell 4 _ rfl
    have y5 := HPSn.out.tb.cell 5 _ rfl
    have y6 := HPSn.out.tb.cell 6 _ rfl
    have y7 := HPSn.out.tb.cell 7 _ rfl
    have y8 := HPSn.out.tb.cell 8 _ rfl
    have y9 := HPSn.out.tb.cell 9 _ rfl
    have hsn := HPSn.out.size
    simp only [tokC]
    go_wp2
    go_step3
    have HF := Keep.mk (show wantP s.data.toList.length .val t5.at_ ≤ fuelP by
      have h1 := HBG.out
      have h2 : fuelP = 40000 := rfl
      rw [h2]
      simp only [wantP]
      omega)
    simp only [Exit.then]
    refine ‹∀ (a : Act) (W : World), Code.wp Tryz.prog _ _ a W → _› _ _ ?_
    refine tail_use (l := 1) rfl (outBy_mono (fun l a w ⟨m, hm, hJ⟩ => ⟨m, hJ⟩) (parse_pass1 s hs w RV fuelP _ _ ⟨FrameP.mk .., _, zeroJ, t5, _, _, _, HBG.out, HPSn.out.tok t5, ⟨_, _, _, _, _, _, _, _, _, _, rfl⟩, HRUN.out, HF.out, ⟨0, Nat.zero_le _, HN5.out.symm⟩, Nat.zero_le _, Nat.zero_le _, (fun h => by cases h), (fun h => by rcases h with h | h <;> cases h), (fun h => by cases h)⟩))
end Go.Proofs.YtbngjlkmpdccjaaGreatDoor
