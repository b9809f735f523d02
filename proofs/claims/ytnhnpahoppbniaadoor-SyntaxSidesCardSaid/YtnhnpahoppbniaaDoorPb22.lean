/- Lemmas and contracts for the laws SyntaxBrackets, SyntaxJoins, SyntaxSides, part 22 of 44: TokG3. Conditions: those that each lemma names. -/
import Derived.Test.YtnhnpahoppbniaaDoorPb19
namespace Go.Proofs.YtnhnpahoppbniaaDoor
open Go Go.RowKit Go.Proofs Th
attribute [local go_sem] Above.cell
set_option maxRecDepth 100000 in
set_option maxHeartbeats 64000000 in
theorem tok_next_2 (p : Nat) (s : ByteArray) (hs : s.size ≤ 1000000) (d : Nat) (k : Int)
    (hQ : ∀ (W : World) (b : Nat), b < s.size → Box W p [.string s, .int .i64 b] → GlobX W → Calls Tryd.prog 19 #[.pointer (some ⟨p, 0, none⟩), .int .i64 k] W fun r w' => QuotePost W p s (quoteF s.data.toList d b) r w')
    (a : Nat) (hw : way s.data.toList (skipA s.data.toList a) = 2) (ha : a ≤ s.size) (w : World) (hB : Box w p [.string s, .int .i64 a]) (hG : GlobX w) :
    Calls Tryd.prog 15 #[.pointer (some ⟨p, 0, none⟩), .int .i64 k] w fun r w' => NextPost w p s (oneF s.data.toList d a) r w' := by
  have HL := Keep.mk (size_listU s)
  have hpl := hB.lt
  have HQ := Keep.mk hQ
  obtain ⟨b, hb⟩ : ∃ b, skipA s.data.toList a = b := ⟨_, rfl⟩
  have hbs : b ≤ s.size := by rw [← hb, ← HL.out]; exact (skipA_le _ _ (by rw [HL.out]; exact ha)).2
  have HO := Keep.mk (show oneF s.data.toList d a = oneG s.data.toList (quoteF s.data.toList d) b by rw [oneF_eq, hb])
  have HK := Keep.mk (fun W hB => tok_skip p s a hs ha W hB)
  rw [hb] at HK
  have HSK := Keep.mk (fun c (h : s.data.toList[b]? = some c) => (skip_at hb h).1)
  rw [hb] at hw
  have HW := Keep.mk hw
  clear hw
  have HB := Keep.mk hB
  have HG := Keep.mk hG
  clear hQ hb ha hB hG
  go_enter Tryd.func15, Tryd.ntmps15
  go_wp2_with fail
  refine (HK.out _ (HB.out.alloc _)).mono ?_
  rintro r w1 ⟨rfl, hsc⟩
  have HS := Keep.mk (show NextA w w1 p s b w.heap.size from ⟨⟨hsc.b, (Upd.of (al1 w _)).trans hsc.u⟩, (Box.new (w := w) (n := w.heap.size) [.int .i64 0, .string ⟨#[]⟩, .int .i64 0] 56 rfl).upd hsc.u (by omega), by omega, Nat.le_refl _, (HG.out.below (al1 w _)).upd (HB.out.alloc _) hsc.u, (by obtain ⟨m, hm⟩ := HG.out; exact lt_of_cell hm)⟩)
  clear hsc HK HB HG
  have p0 := HS.out.sc.b.cell 0 _ rfl
  have p1 := HS.out.sc.b.cell 1 _ rfl
  have pf := HS.out.sc.b.froz 1
  have pl := HS.out.sc.b.lt
  have r0 := HS.out.b4.cell 0 _ rfl
  have r1 := HS.out.b4.cell 1 _ rfl
  have r2 := HS.out.b4.cell 2 _ rfl
  have rf0 := HS.out.b4.froz 0
  have rf1 := HS.out.b4.froz 1
  have rf2 := HS.out.b4.froz 2
  have rl := HS.out.b4.lt
  go_wp2_with fail
  refine wp_region_above (by kernel_rfl) (by kernel_rfl) ?_
  repeat (go_big_quiet_step (fail))
  refine wpQuiet_nil ?_
  rintro W2 ⟨z, hz⟩
  replace HS := Keep.mk (hz ▸ HS.out.below z.property)
  clear p0 p1 pf pl r0 r1 r2 rf0 rf1 rf2 rl
  clear hz z
  have p0 := HS.out.sc.b.cell 0 _ rfl
  have p1 := HS.out.sc.b.cell 1 _ rfl
  have pf := HS.out.sc.b.froz 1
  have pl := HS.out.sc.b.lt
  have r0 := HS.out.b4.cell 0 _ rfl
  have r1 := HS.out.b4.cell 1 _ rfl
  have r2 := HS.out.b4.cell 2 _ rfl
  have rf0 := HS.out.b4.froz 0
  have rf1 := HS.out.b4.froz 1
  have rf2 := HS.out.b4.froz 2
  have rl := HS.out.b4.lt
  by_cases hend : b = s.size
  · exact absurd (HW.out.symm.trans (way_end (by rw [HL.out]; omega))) (by decide)
  · have hlt : b < s.size := by omega
    have hbe : ((b : Int) == (s.size : Int)) = false := by rw [beq_eq_false_iff_ne]; omega
    go_wp2_with fail
    refine wp_region_above (by kernel_rfl) (by kernel_rfl) ?_
    repeat (go_big_quiet_step (fail))
    refine wpQuiet_nil ?_
    rintro W2 ⟨z, hz⟩
    replace HS := Keep.mk (hz ▸ HS.out.below z.property)
    clear p0 p1 pf pl r0 r1 r2 rf0 rf1 rf2 rl
    clear hz z
    have p0 := HS.out.sc.b.cell 0 _ rfl
    have p1 := HS.out.sc.b.cell 1 _ rfl
    have pf := HS.out.sc.b.froz 1
    have pl := HS.out.sc.b.lt
    have r0 := HS.out.b4.cell 0 _ rfl
    have r1 := HS.out.b4.cell 1 _ rfl
    have r2 := HS.out.b4.cell 2 _ rfl
    have rf0 := HS.out.b4.froz 0
    have rf1 := HS.out.b4.froz 1
    have rf2 := HS.out.b4.froz 2
    have rl := HS.out.b4.lt
    go_upto_region 7 with fail
    generalize hx : s.extract b s.size = x
    have hxl : x.data.toList = s.data.toList.drop b := by rw [← hx, bx_to]
    have hxz : x.size = s.size - b := by rw [← hx]; exact ext_size s b hbs
    have hx0 : 0 < x.size := by omega
    obtain ⟨xr, hxr⟩ := head_at hx0
    refine wp_world (fun W => NextB w W p s b w.heap.size W2.heap.size 0 ⟨#[]⟩ b) (NextB.make HS.out hpl (al1 _ _) (Box.new [.int .i64 0, .string ⟨#[]⟩, .int .i64 b] _ rfl)) ?_
    clear p0 p1 pf pl r0 r1 r2 rf0 rf1 rf2 rl
    clear HS
    rintro W3 HS
    replace HS := Keep.mk HS
    have hn8 := HS.out.n8
    have hz8 := HS.out.z8
    generalize W2.heap.size = t8 at *
    have hn4 := HS.out.n4
    have hn48 := HS.out.n48
    generalize hw4 : w.heap.size = t4 at *
    have p0 := HS.out.sc.b.cell 0 _ rfl
    have p1 := HS.out.sc.b.cell 1 _ rfl
    have pf := HS.out.sc.b.froz 1
    have pl := HS.out.sc.b.lt
    have r0 := HS.out.b4.cell 0 _ rfl
    have r1 := HS.out.b4.cell 1 _ rfl
    have r2 := HS.out.b4.cell 2 _ rfl
    have rf0 := HS.out.b4.froz 0
    have rf1 := HS.out.b4.froz 1
    have rf2 := HS.out.b4.froz 2
    have rl := HS.out.b4.lt
    have t0 := HS.out.b8.cell 0 _ rfl
    have t1 := HS.out.b8.cell 1 _ rfl
    have t2 := HS.out.b8.cell 2 _ rfl
    have tf0 := HS.out.b8.froz 0
    have tf1 := HS.out.b8.froz 1
    have tf2 := HS.out.b8.froz 2
    have tl := HS.out.b8.lt
    replace HW := Keep.mk ((way_cons (hxl.symm.trans hxr)).symm.trans HW.out)
    by_cases h34 : x[0] = 34
    · exfalso
      have hw := HW.out
      unfold wayC at hw
      rw [if_pos h34] at hw
      cases hw
    · have f34 : ¬ (x[0].toNat : Int) = 34 := fun h => h34 (UInt8.toNat_inj.1 (by show x[0].toNat = 34; omega))
      have g34 : ((x[0].toNat : Int) == 34) = false := by rw [beq_eq_false_iff_ne]; exact f34
      have hdl : s.data.toList.drop b = x[0] :: xr := by rw [← hxl, hxr]
      have hat : s.data.toList[b]? = some x[0] := by
        have := congrArg List.head? hdl
        rw [List.head?_drop] at this; exact this
      have h32 : x[0] ≠ 32 := fun h => by
        have := HSK.out x[0] hat
        rw [h] at this; cases this
      have HE := Keep.mk (fun (kk o n : Nat) (ht : tokP (x[0] :: xr) = (kk, o, n)) => show oneF s.data.toList d a = if kk = 0 then (noTf, b, 60) else (⟨kk, ⟨(((x[0] :: xr).take n).drop o).toArray⟩, b⟩, b + n, 0) by
        rw [HO.out]; unfold oneG; rw [hdl]; dsimp only; rw [if_neg h34, ht])
      have hxtl : ∀ n, x.extract 0 n = ⟨(((x[0] :: xr).take n).drop 0).toArray⟩ := fun n => by rw [← hxr, ext_midT x 0 n, List.drop_zero, List.drop_zero, Nat.sub_zero]
      have hxt1 : ∀ n, x.extract 1 n = ⟨(((x[0] :: xr).take n).drop 1).toArray⟩ := fun n => by rw [← hxr, ext_midT x 1 n, List.drop_take]
      have hx1l : (x.extract 1 x.size).data.toList = xr := by rw [bx_to, hxr]; rfl
      have hx1z : (x.extract 1 x.size).size = x.size - 1 := ext_size x 1 hx0
      have hnle := nameN_le x.data.toList
      rw [size_listU] at hnle
      have hn1le := nameN_le xr
      have hxrl : xr.length = x.size - 1 := by rw [← hx1l, size_listU, hx1z]
      have HNX := Keep.mk (fun W => tok_name x (by omega) W)
      have HN1 := Keep.mk (fun W => tok_name (x.extract 1 x.size) (by rw [hx1z]; omega) W)
      rw [hx1l] at HN1
      have HTE := Keep.mk (fun n => hxtl n)
      have HTF := Keep.mk (fun n => hxt1 n)
      have HLT := Keep.mk (fun W => tok_letter x[0] W)
      have HDG := Keep.mk (fun W => tok_digit x[0] W)
      have HNM := Keep.mk (fun W => tok_number x (by omega) W)
      have HSG := Keep.mk (fun W m hm => tok_sign x hx0 h32 W m hm)
      have HSN := Keep.mk (fun (h : 0 < signN x.data.toList) => (sign_is x.data.toList h).2.1)
      have HNN := Keep.mk (fun (h : 0 < digN x.data.toList) => (num_is x.data.toList h).2)
      rw [hxr] at HNX HNM HSG hnle
      have HSN := Keep.mk (fun (h : 0 < signN (x[0] :: xr)) => show signN (x[0] :: xr) ≤ x.data.toList.length by rw [← hxr] at h ⊢; exact HSN.out h)
      have HNN := Keep.mk (fun (h : 0 < digN (x[0] :: xr)) => show numN (x[0] :: xr) ≤ x.data.toList.length by rw [← hxr] at h ⊢; exact HNN.out h)
      clear hxtl hxt1 hx1l hx1z HQ HO hdl hat HSK hxr hxl hx h32
      go_upto_block 0 with fail
      go_cut [9] (fun v9 wx => ∃ (n kk : Nat) (tx : ByteArray), v9 = .int .i64 n ∧ Keep (oneF s.data.toList d a = (⟨kk, tx, b⟩, b + n, 0) ∧ b + n ≤ s.size) ∧ Keep (NextB w wx p s b t4 t8 kk tx b))
      case first =>
        go_wp2_with fail
        refine (HLT.out _).mono ?_
        rintro r w4 ⟨rfl, rfl⟩
        clear HLT
        cases hlf : letF x[0]
        · exfalso
          have hw := HW.out
          unfold wayC at hw
          rw [if_neg h34, if_neg (show ¬ letF x[0] = true by rw [hlf]; decide)] at hw
          (repeat' split at hw) <;> cases hw
        · have ht : tokP (x[0] :: xr) = (1, 0, nameN (x[0] :: xr)) := by simp only [tokP]; rw [if_pos hlf]
          obtain ⟨n, hn⟩ : ∃ n, nameN (x[0] :: xr) = n := ⟨_, rfl⟩
          rw [hn] at ht HNX hnle
          have HR := Keep.mk ((HE.out _ _ _ ht).trans (if_neg (by decide)))
          rw [← HTE.out n] at HR
          clear ht hn HE hlf HTE HTF HDG HNM HSG HSN HNN HN1 hn1le hxrl
          go_wp2_with fail
          refine (HNX.out _).mono ?_
          rintro r w5 ⟨rfl, rfl⟩
          clear HNX
          go_upto_region 20 with fail
          go_region_with (fail)
          all_goals (
            go_wp2_with fail
            go_meet
            exact ⟨n, 1, x.extract 0 n, by go_num, ⟨HR.out, by omega⟩, ⟨HS.out.two 1 (x.extract 0 n)⟩⟩)
      case rest =>
        obtain ⟨n, kk, tx, rfl, HR, HS2⟩ := hcut
        clear HS HE HTE HTF HLT HDG HNM HSG HSN HNN HN1 HNX
        clear p0 p1 pf pl r0 r1 r2 rf0 rf1 rf2 rl t0 t1 t2 tf0 tf1 tf2 tl
        have HS := HS2
        clear HS2
        have hbn := HR.out.2
        have p0 := HS.out.sc.b.cell 0 _ rfl
        have p1 := HS.out.sc.b.cell 1 _ rfl
        have pf := HS.out.sc.b.froz 1
        have pl := HS.out.sc.b.lt
        have r0 := HS.out.b4.cell 0 _ rfl
        have r1 := HS.out.b4.cell 1 _ rfl
        have r2 := HS.out.b4.cell 2 _ rfl
        have rf0 := HS.out.b4.froz 0
        have rf1 := HS.out.b4.froz 1
        have rf2 := HS.out.b4.froz 2
        have rl := HS.out.b4.lt
        have t0 := HS.out.b8.cell 0 _ rfl
        have t1 := HS.out.b8.cell 1 _ rfl
        have t2 := HS.out.b8.cell 2 _ rfl
        have tf0 := HS.out.b8.froz 0
        have tf1 := HS.out.b8.froz 1
        have tf2 := HS.out.b8.froz 2
        have tl := HS.out.b8.lt
        go_wp2
        refine bodyPost_ret (v := .tuple #[.agg #[.int .i64 (kk : Int), .string tx, .int .i64 b], .int .i64 0, .int .i64 0]) ?_ rfl ?_
        · simp [results, Tryd.results15, go_sem, r0, r1, r2]
        · rw [HR.out.1]; exact ⟨rfl, b + n, (((HS.out.sc.set (b + n) _ (by omega)).cell HS.out.n4 HS.out.z4 0 _).cell HS.out.n4 HS.out.z4 1 _).cell HS.out.n4 HS.out.z4 2 _, hbn, fun _ => rfl⟩
end Go.Proofs.YtnhnpahoppbniaaDoor
