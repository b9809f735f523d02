/- Lemmas and contracts for the laws SyntaxBrackets, SyntaxJoins, SyntaxSides, part 38 of 44: LawGx, TokP. Conditions: those that each lemma names. -/
import Derived.Test.YtnhnpahoppbniaaDoorPb37
import Derived.Test.YtnhnpahoppbniaaDoorPb11
namespace Go.Proofs.YtnhnpahoppbniaaDoor
open Go Go.RowKit Go.Proofs Th
theorem gx_old {W : World} (hg : Glob W) (hu : Utf W) (hm : GlobX W) : GX W (fun g _ => g < W.heap.size) := fun W' hc => by
  have hcell : ∀ {g o : Nat} {v : Value}, W.cell? ⟨g, o, none⟩ = some v → W'.cell? ⟨g, o, none⟩ = some v := fun {g o v} h => (hc g o (lt_of_cell h)).trans h
  obtain ⟨m, hm⟩ := hm
  exact ⟨⟨fun i hi => hcell (hg.tens i hi)⟩, ⟨fun c h => hcell (hu.1 c h), fun i hi => ⟨hcell (hu.2 i hi).1, hcell (hu.2 i hi).2⟩⟩, m, hcell hm⟩
theorem calls_of_ac {f : FuncId} {xa : List IV} {us : List Value} {W : World} (h : ACalls Tryd.prog GX f none xa (.ret (bI true) [])) (hg : Glob W) (hu : Utf W) (hm : GlobX W) (hx : RepL W (fun g _ => g < W.heap.size) xa us) : Calls Tryd.prog f us.toArray W fun e W' => e = .returned (.bool true) ∧ Below W.heap.size W W' :=
  (h.2 W _ 0 us (gx_old hg hu hm) (fun _ _ h => h) (fun _ h => by cases h) hx).mono fun e W' ⟨⟨u, he, hr⟩, _, hb⟩ => by
    obtain rfl := rep_v hr
    exact ⟨he, hb.os, hb.tape, hb.output, hb.size, fun k hk => hb.block k hk (fun h => by cases h.1)⟩
end Go.Proofs.YtnhnpahoppbniaaDoor
namespace Go.Proofs.YtnhnpahoppbniaaDoor
open Go Go.RowKit Go.Proofs Th
set_option maxRecDepth 8000
def later (P : Program) (G : World → CS → Prop) (n : Nat) (ops : Array Oper) (k : Nat) (K : ASt → Prop) (Qp : Value → ASt → Prop) (s : ASt) : Prop := aops P G n ops (ops.toList.drop k) s K Qp
theorem aops_append {P : Program} {G : World → CS → Prop} {n : Nat} {ops : Array Oper} {K : ASt → Prop} {Qp : Value → ASt → Prop} (l2 : List Oper) : ∀ (l1 : List Oper) (s : ASt), aops P G n ops (l1 ++ l2) s K Qp = aops P G n ops l1 s (fun s' => aops P G n ops l2 s' K Qp) Qp
  | [], s => rfl
  | o :: r, s => by
    have ih : (fun s' => aops P G n ops (r ++ l2) s' K Qp) = fun s' => aops P G n ops r s' (fun s' => aops P G n ops l2 s' K Qp) Qp := funext fun s' => aops_append l2 r s'
    simp only [List.cons_append, aops, ih]
theorem AW.regN {P : Program} {X : Ctx} {G : World → CS → Prop} {n id : Nat} {ops : Array Oper} {Q : AExit → ASt → Prop} {s : ASt} (k : Nat) (F : Fit X G n) (h : aops P G n ops (ops.toList.take k) s (later P G n ops k (fun s' => Q .normal s') (fun x s' => Q (.panic x) s')) (fun x s' => Q (.panic x) s')) : AW P X (.region id ops false) Q s :=
  AW.reg F (by
    have := (aops_append (P := P) (G := G) (n := n) (ops := ops) (K := fun s' => Q .normal s') (Qp := fun x s' => Q (.panic x) s') (ops.toList.drop k) (ops.toList.take k) s).symm ▸ h
    rwa [List.take_append_drop] at this)
theorem laterI {P : Program} {G : World → CS → Prop} {n : Nat} {ops : Array Oper} {k : Nat} {K : ASt → Prop} {Qp : Value → ASt → Prop} {s : ASt} (h : aops P G n ops (ops.toList.drop k) s K Qp) : later P G n ops k K Qp s := h
theorem laterN {P : Program} {G : World → CS → Prop} {n : Nat} {ops : Array Oper} {k : Nat} {K : ASt → Prop} {Qp : Value → ASt → Prop} {s : ASt} (m : Nat) (h : aops P G n ops ((ops.toList.drop k).take (m - k)) s (later P G n ops m K Qp) Qp) (hm : k ≤ m := by decide) : later P G n ops k K Qp s := by
  have h2 : (ops.toList.drop k).drop (m - k) = ops.toList.drop m := by rw [List.drop_drop]; congr 1; omega
  unfold later at h ⊢
  rw [← List.take_append_drop (m - k) (ops.toList.drop k), aops_append, h2]
  exact h
attribute [local go_sem] aops aopsD stepA chkD disj aguard isWant aop aval abuil acall acallP acallR argsIV valOf aput startS mkS numb look upd toIV allIV zeroFV aload setSeg afill aelems cellsOf toSl toVal valsOf aidx abin ainR FV.ok IV.one IV.er IV.erA IV.er1 iI sI bI nodeIV nodesIV tokIV parIV faultV resP lift AThen ABlock AEnd resL resV rload rcOf imsOf oneV nodeJ kidsJ strJ knownJ selfJ noNJ noTf foot owns pruneS filtF filtO Value.oneCell'
attribute [local go_sem] ti_node ti_tok ti_par ti_fault ti_nodes ti_toks ti_strs ti_ints ti_str ti_int ti_num ti_errno
attribute [local go_sem] ti_scanner List.map_append List.map_cons List.map_nil List.length_map
theorem qGo_more (L : List UInt8) (one : Nat → Tf × Nat × Nat) (f : Nat) : ∀ (n m o a x : Nat), n ≤ m → qGo L one f n o a = (x, 0) → qGo L one f m o a = (x, 0) := by
  intro n
  induction n with
  | zero => intro m o a x _ h; simp only [qGo] at h; cases h
  | succ n ih =>
    intro m o a x hm h
    obtain ⟨m, rfl⟩ : ∃ k, m = k + 1 := ⟨m - 1, by omega⟩
    cases o with
    | zero =>
      simp only [qGo] at h ⊢
      cases hc : L[a]? with
      | none => rw [hc] at h; exact h
      | some c =>
        rw [hc] at h
        dsimp only at h ⊢
        split at h
        · rename_i h1; rw [if_pos h1]; exact h
        · rename_i h1
          rw [if_neg h1]
          split at h
          · rename_i h2; rw [if_pos h2]; exact ih _ _ _ _ (by omega) h
          · rename_i h2
            rw [if_neg h2]
            split at h
            · rename_i h3; rw [if_pos h3]; exact ih _ _ _ _ (by omega) h
            · rename_i h3; rw [if_neg h3]; exact ih _ _ _ _ (by omega) h
    | succ o =>
      simp only [qGo] at h ⊢
      split at h
      · rename_i h1; rw [if_pos h1]; exact h
      · rename_i h1
        rw [if_neg h1]
        split at h
        · rename_i h2; rw [if_pos h2]; exact h
        · rename_i h2; rw [if_neg h2]; exact ih _ _ _ _ (by omega) h
theorem n_inner (s : ByteArray) (hs : s.size ≤ 50000) (a n : Nat) (ha : a ≤ s.size) (hn : n ≤ s.size + 2) (h : qGo (toL s) (oneF (toL s) 47) 0 n 1 a = (s.size, 0)) : ACalls Tryd.prog GX 30 (some [sI s, iI a]) [iI 0] (.ret (.tup [iI 0, iI 0]) [sI s, iI (closeF (oneF (toL s) 47) (s.size + 2) 1 a)]) :=
  ACalls.libB (cs := [.string s, .int .i64 a]) (cs' := [.string s, .int .i64 (closeF (oneF (toL s) 47) (s.size + 2) 1 a)]) (us := [.int .i64 0]) (v := .tuple #[.int .i64 0, .int .i64 0]) ⟨_, Tryd.func30, rfl, rfl⟩ (by simp [Value.oneCell'])
    (fun W S => rep_tup (us := [_, _]) (RepL.cons (.v _) (RepL.cons (.v _) (RepL.nil _ _)))) fun W S p hG hB => (tok_inner0 p s (by omega) 0 (s.size + 2) a ha (by omega) (by omega) W hB hG.now.2.2).mono fun e W' ⟨j, x, ee, he, hsc, hj, hcase⟩ => by
      have hq : qGo s.data.toList (oneF s.data.toList 47) 0 (s.size + 2) (0 + 1) a = (s.size, 0) := qGo_more _ _ _ _ _ _ _ _ hn h
      rcases hcase with ⟨rfl, rfl, n', _, _, _, _, hc⟩ | ⟨_, h2⟩ | ⟨h1, _, q, h2, _, h3⟩
      · have hc2 : closeF (oneF (toL s) 47) (s.size + 2) 1 a = j := hc _ (Nat.le_refl _)
        rw [hc2]
        exact ⟨he, hsc.b, hsc.u⟩
      · rw [hq] at h2; exact absurd (show (0 : Nat) = 20 from congrArg Prod.snd h2) (by decide)
      · rw [hq] at h2; rw [← h2] at h3; exact absurd h3 h1
def strC (d : Nat) : List ByteArray → FV
  | [] => .im (.sl [] true)
  | x :: r => .own d (x :: r).length
def strR : List ByteArray → AObj
  | [] => .none
  | x :: r => .row 9 1 ((x :: r).map fun x => [sI x])
def intC (d : Nat) : List Nat → FV
  | [] => .im (.sl [] true)
  | x :: r => .own d (x :: r).length
def intR : List Nat → AObj
  | [] => .none
  | x :: r => .row 3 1 ((x :: r).map fun (x : Nat) => [iI x])
attribute [local go_sem] strC strR intC intR
theorem sub_toL (s : ByteArray) (a c : Nat) : ((toL s).take c).drop a = toL (s.extract a c) := by
  unfold toL; rw [ext_list, List.drop_take]
theorem toL_inj : ∀ {a b : List ByteArray}, a.map toL = b.map toL → a = b
  | [], [], _ => rfl
  | [], _ :: _, h => by cases h
  | _ :: _, [], h => by cases h
  | x :: r, y :: q, h => by
    rw [List.map_cons, List.map_cons] at h
    injection h with h1 h2
    rw [ba_inj h1, toL_inj h2]
set_option maxHeartbeats 1000000 in
theorem parts_no (s : ByteArray) (hs : s.size ≤ 50000) (hok : ¬ okQ (toL s) = true) : ACalls Tryd.prog GX 58 none [sI s] (.ret (.tup [.sl [] false, .sl [] false, .sl [] false, iI 20]) []) := by
  have gk := gkX
  have cs := scanX s hs
  rw [scan_one, toL_len] at hok
  obtain ⟨⟨l, x, ee⟩, hq⟩ : ∃ q, scanF (toL s) = q := ⟨_, rfl⟩
  have hx := fun h => scanF_ok (toL s) h
  rw [hq] at cs hok hx
  dsimp only at cs hx
  clear hq
  refine ACalls.enter Tryd.func58 rfl rfl gk Tryd.ntmps58 fun X F => ?_
  repeat refine AW.seq ?_
  refine AW.reg F ?_
  go_simp
  repeat refine AW.seq ?_
  refine AW.reg F ?_
  go_simp
  refine ⟨_, cs, ?_⟩
  go_simp
  refine AW.prune [0, 2, 3, 4, 5, 6, 8] [1000] (by decide) ?_
  go_simp
  by_cases b1 : ee = 0
  · subst b1
    obtain rfl := hx rfl
    clear hx
    rcases l with _ | ⟨t, _ | ⟨t2, l⟩⟩
    · repeat refine AW.seq ?_
      refine AW.regN 8 F ?_
      go_simp
      refine laterN 16 ?_
      go_simp
      refine laterI ?_
      go_simp
      repeat refine AW.seq ?_
      refine AW.condT (by go_simp) ?_
      repeat refine AW.seq ?_
      refine AW.reg F ?_
      go_simp
      refine AW.ret ?_
      go_simp
    · by_cases b2 : t.kind = 5
      · by_cases b3 : t.text.size = s.size
        · exact absurd ⟨t, rfl, b2, b3⟩ hok
        · have b3I : ¬ (t.text.size : Int) = (s.size : Int) := by omega
          repeat refine AW.seq ?_
          refine AW.regN 8 F ?_
          go_simp
          refine laterN 16 ?_
          go_simp
          refine laterI ?_
          go_simp
          repeat refine AW.seq ?_
          refine AW.condT (by go_simp) ?_
          repeat refine AW.seq ?_
          refine AW.reg F ?_
          go_simp
          refine AW.ret ?_
          go_simp
      · have b2I : ¬ (t.kind : Int) = 5 := by omega
        repeat refine AW.seq ?_
        refine AW.regN 8 F ?_
        go_simp
        refine laterN 16 ?_
        go_simp
        refine laterI ?_
        go_simp
        repeat refine AW.seq ?_
        refine AW.condT (by go_simp) ?_
        repeat refine AW.seq ?_
        refine AW.reg F ?_
        go_simp
        refine AW.ret ?_
        go_simp
    · have b4 : ¬ (l.length : Int) + 1 + 1 = 1 := by omega
      repeat refine AW.seq ?_
      refine AW.regN 8 F ?_
      go_simp
      refine laterN 16 ?_
      go_simp
      refine laterI ?_
      go_simp
      repeat refine AW.seq ?_
      refine AW.condT (by go_simp) ?_
      repeat refine AW.seq ?_
      refine AW.reg F ?_
      go_simp
      refine AW.ret ?_
      go_simp
  · have b1I : ¬ (ee : Int) = 0 := by omega
    repeat refine AW.seq ?_
    refine AW.regN 8 F ?_
    go_simp
    refine laterN 16 ?_
    go_simp
    refine laterI ?_
    go_simp
    repeat refine AW.seq ?_
    refine AW.condT (by go_simp) ?_
    repeat refine AW.seq ?_
    refine AW.reg F ?_
    go_simp
    refine AW.ret ?_
    go_simp
set_option maxHeartbeats 2000000 in
theorem parts_ok (s : ByteArray) (hs : s.size ≤ 50000) (hok : okQ (toL s) = true) (T2 F2 : List ByteArray) (Pl2 : List Nat) (h0 : partsGo (toL s) (oneF (toL s) 47) (s.size + 1) 1 1 ⟨[], [], []⟩ = ⟨T2.map toL, F2.map toL, Pl2⟩) : ACalls Tryd.prog GX 58 none [sI s] (.ret (.tup [.sl (T2.map fun x => [sI x]) false, .sl (F2.map fun x => [sI x]) false, .sl (Pl2.map fun (n : Nat) => [iI n]) false, iI 0]) []) := by
  have gk := gkX
  have cs := scanX s hs
  obtain ⟨t, ht, hk, hts⟩ := (scan_one (toL s)).1 hok
  rw [toL_len] at hts
  rw [ht] at cs
  dsimp only [List.map_cons, List.map_nil] at cs
  obtain ⟨hq1, hq2, hpath⟩ := okQ_path hok
  have hone : ∀ a, a ≤ (toL s).length → OneOk (toL s) a (oneF (toL s) 47 a) := fun a ha => oneF_ok _ _ _ ha
  have hsz : (toL s).length = s.size := toL_len s
  have hsI : -9223372036854775808 ≤ (s.size : Int) - 1 ∧ (s.size : Int) - 1 ≤ 9223372036854775807 := by omega
  refine ACalls.enter Tryd.func58 rfl rfl gk Tryd.ntmps58 fun X F => ?_
  repeat refine AW.seq ?_
  refine AW.reg F ?_
  go_simp
  repeat refine AW.seq ?_
  refine AW.reg F ?_
  go_simp
  refine ⟨_, cs, ?_⟩
  go_simp
  refine AW.prune [0, 2, 3, 4, 5, 6, 8] [1000] (by decide) ?_
  go_simp
  repeat refine AW.seq ?_
  refine AW.regN 8 F ?_
  go_simp
  refine laterN 16 ?_
  go_simp
  refine laterI ?_
  go_simp
  repeat refine AW.seq ?_
  refine AW.condF (by go_simp) ?_
  refine AW.skip ?_
  go_simp
  repeat refine AW.seq ?_
  refine AW.reg F ?_
  go_simp
  repeat refine AW.seq ?_
  refine AW.reg F ?_
  go_simp
  repeat refine AW.seq ?_
  refine AW.block ?_
  repeat refine AW.seq ?_
  refine AW.loopP [0, 2, 3, 4, 5, 9, 10] [1000, 43, 61, 85, 89] (by decide) (fun g st => ∃ (T F : List ByteArray) (Pl : List Nat) (fr at_ : Nat), st = mkS [(0, .im (sI s)), (2, strC 61 T), (3, strC 85 F), (4, intC 89 Pl), (5, .im (iI 0)), (9, .im (iI fr)), (10, .ptr 43 0)] [(1000, .none), (43, .box [.im (sI s), .im (iI at_)]), (61, strR T), (85, strR F), (89, intR Pl)] ∧ PathQ (toL s) (oneF (toL s) 47) at_ ∧ fr ≤ at_ ∧ F.length = T.length ∧ Pl.length = T.length ∧ T.length ≤ at_ ∧ s.size + 1 ≤ g + at_ ∧ partsGo (toL s) (oneF (toL s) 47) g fr at_ ⟨T.map toL, F.map toL, Pl⟩ = ⟨T2.map toL, F2.map toL, Pl2⟩) (s.size + 1) ?_ ?_
  · refine ⟨[], [], [], 1, 1, ?_, hpath, Nat.le_refl _, rfl, rfl, Nat.zero_le _, by omega, h0⟩
    go_simp
  · rintro g st ⟨T, F1, Pl, fr, at_, rfl, hp, hfr, hF, hP, hT, hg, h⟩
    have hend := hp.end_ hone
    rw [hsz] at hend
    obtain ⟨hend, hq34⟩ := hend
    rcases g with _ | g
    · omega
    rw [partsGo, hsz] at h
    have hk2 : ∀ n, n ≤ at_ → n + 3 ≤ 1000000000 := fun n hn => by omega
    rcases T with _ | ⟨ta, T⟩
    · obtain rfl : F1 = [] := List.eq_nil_of_length_eq_zero hF
      obtain rfl : Pl = [] := List.eq_nil_of_length_eq_zero hP
      try (have hk3 : T.length ≤ 999999998 := by have := hk2 _ hT; simp only [List.length_cons] at this hT; omega)
      try (have hk4 : F1.length ≤ 999999998 := by simp only [List.length_cons] at hF hT; omega)
      try (have hk5 : Pl.length ≤ 999999998 := by simp only [List.length_cons] at hP hT; omega)
      by_cases ha : at_ + 1 < s.size
      · rw [if_neg (by omega)] at h
        have haI : (at_ : Int) < (s.size : Int) - 1 := by omega
        obtain ⟨c, hc⟩ : ∃ c, (toL s)[at_]? = some c := ⟨_, List.getElem?_eq_getElem (by rw [hsz]; omega)⟩
        have hcs : s.data.toList[at_]? = some c := hc
        have h34 : c ≠ 34 := fun e => by have := hq34.2 (by rw [hc, e]); omega
        have hr1 : -9223372036854775808 ≤ (at_ : Int) + 1 ∧ (at_ : Int) + 1 ≤ 9223372036854775807 := by omega
        have hr2 : -9223372036854775808 ≤ (at_ : Int) + 2 ∧ (at_ : Int) + 2 ≤ 9223372036854775807 := by omega
        have hp1 : (0 : Int) ≤ (at_ : Int) + 1 := by omega
        rw [hc] at h
        repeat refine AW.seq ?_
        refine AW.reg F ?_
        go_simp
        repeat refine AW.seq ?_
        refine AW.condT (by go_simp) ?_
        refine AW.skip ?_
        go_simp
        repeat refine AW.seq ?_
        refine AW.block ?_
        repeat refine AW.seq ?_
        refine AW.block ?_
        by_cases c92 : c = 92
        · subst c92
          rw [if_neg (by simp)] at h
          obtain ⟨c2, hc2⟩ : ∃ c2, (toL s)[at_ + 1]? = some c2 := ⟨_, List.getElem?_eq_getElem (by rw [hsz]; omega)⟩
          have hcs2 : s.data.toList[at_ + 1]? = some c2 := hc2
          have hcd2 : ∀ hh, s.data[at_ + 1]'hh = c2 := fun hh => by have := hcs2; rw [Array.getElem?_toList, Array.getElem?_eq_getElem hh] at this; exact Option.some.inj this
          rw [hc2] at h
          repeat refine AW.seq ?_
          refine AW.reg F ?_
          go_simp
          repeat refine AW.seq ?_
          refine AW.condF (by go_simp) ?_
          by_cases c40 : c2 = 40
          · subst c40
            rw [if_neg (by simp)] at h
            obtain ⟨sp, slt, sle⟩ := hp.sub hone hc hc2
            rw [hsz] at sp slt sle
            have hcl : ∃ n, n ≤ s.size + 2 ∧ qGo (toL s) (oneF (toL s) 47) 0 n 1 (at_ + 2) = (s.size, 0) := by
              obtain ⟨n, hn, hq⟩ := hp
              rw [hsz] at hn hq
              cases n with
              | zero => exact absurd (show (20 : Nat) = 0 from congrArg Prod.snd hq) (by decide)
              | succ n =>
                simp only [qGo] at hq
                rw [hc] at hq
                dsimp only at hq
                rw [if_neg (by decide), if_neg (by decide), if_pos hc2] at hq
                exact ⟨n, by omega, hq⟩
            obtain ⟨nn, hnn, hqq⟩ := hcl
            have ci := n_inner s hs (at_ + 2) nn (by omega) hnn hqq
            clear hqq
            generalize closeF (oneF (toL s) 47) (s.size + 2) 1 (at_ + 2) = j at *
            rw [sub_toL, sub_toL] at h
            dsimp only at h
            rw [show [toL (s.extract fr at_)] = [s.extract fr at_].map toL from rfl, show [toL (s.extract (at_ + 2) (j - 1))] = [s.extract (at_ + 2) (j - 1)].map toL from rfl, ← List.map_append, ← List.map_append] at h
            have ci' : ACalls Tryd.prog GX 30 (some [sI s, iI ((at_ : Int) + 2)]) [iI 0] (.ret (.tup [iI 0, iI 0]) [sI s, iI j]) := by
              rw [show ((at_ : Int) + 2) = ((at_ + 2 : Nat) : Int) from by omega]; exact ci
            have e1 : (fr : Int) ≤ (at_ : Int) := by omega
            have e2 : at_ ≤ s.size := by omega
            have e3 : -9223372036854775808 ≤ (j : Int) - 1 ∧ (j : Int) - 1 ≤ 9223372036854775807 := by omega
            have e4 : (at_ : Int) + 2 ≤ (j : Int) - 1 := by omega
            have e5 : (j : Int) - 1 ≤ (s.size : Int) := by omega
            have e6 : ((at_ : Int) + 2).toNat = at_ + 2 := by omega
            have e7 : ((j : Int) - 1).toNat = j - 1 := by omega
            have e8 : (0 : Int) ≤ (at_ : Int) + 2 := by omega
            repeat refine AW.seq ?_
            refine AW.reg F ?_
            go_simp
            repeat refine AW.seq ?_
            refine AW.condF (by go_simp) ?_
            repeat refine AW.seq ?_
            refine AW.reg F ?_
            go_simp
            repeat refine AW.seq ?_
            refine AW.reg F ?_
            go_simp
            repeat refine AW.seq ?_
            refine AW.reg F ?_
            go_simp
            repeat refine AW.seq ?_
            refine AW.reg F ?_
            go_simp
            refine ⟨_, ci', ?_⟩
            go_simp
            repeat refine AW.seq ?_
            refine AW.reg F ?_
            go_simp
            repeat refine AW.seq ?_
            refine AW.reg F ?_
            go_simp
            refine ⟨g, by omega, _, _, _, j, j, ?_, sp, by omega, by first | exact hF | rfl | (simp only [List.length_append, List.length_cons, List.length_nil] at hF ⊢; omega), by first | exact hP | rfl | (simp only [List.length_append, List.length_cons, List.length_nil] at hP ⊢; omega), by (try simp only [List.length_append, List.length_cons, List.length_nil] at hT ⊢); omega, by omega, h⟩
            go_simp
          · rw [if_pos (by simpa using c40)] at h
            have m40 : ¬ c2.toNat = 40 := fun e => c40 (UInt8.toNat_inj.1 e)
            have m40I : ¬ (c2.toNat : Int) = 40 := by omega
            repeat refine AW.seq ?_
            refine AW.reg F ?_
            go_simp
            repeat refine AW.seq ?_
            refine AW.condT (by go_simp) ?_
            repeat refine AW.seq ?_
            refine AW.reg F ?_
            go_simp
            refine ⟨g, by omega, _, _, _, fr, at_ + 2, ?_, hp.esc hc (by rw [hc2]; simpa using c40), by omega, by first | exact hF | rfl | (simp only [List.length_append, List.length_cons, List.length_nil] at hF ⊢; omega), by first | exact hP | rfl | (simp only [List.length_append, List.length_cons, List.length_nil] at hP ⊢; omega), by (try simp only [List.length_nil] at hT ⊢); omega, by omega, h⟩
            go_simp
        · rw [if_pos (by simpa using c92)] at h
          have m92 : ¬ c.toNat = 92 := fun e => c92 (UInt8.toNat_inj.1 e)
          have m92I : ¬ (c.toNat : Int) = 92 := by omega
          repeat refine AW.seq ?_
          refine AW.reg F ?_
          go_simp
          repeat refine AW.seq ?_
          refine AW.condT (by go_simp) ?_
          repeat refine AW.seq ?_
          refine AW.reg F ?_
          go_simp
          refine ⟨g, by omega, _, _, _, fr, at_ + 1, ?_, hp.char hc h34 c92, by omega, by first | exact hF | rfl | (simp only [List.length_append, List.length_cons, List.length_nil] at hF ⊢; omega), by first | exact hP | rfl | (simp only [List.length_append, List.length_cons, List.length_nil] at hP ⊢; omega), by (try simp only [List.length_nil] at hT ⊢); omega, by omega, h⟩
          go_simp
      · rw [if_pos (by omega)] at h
        have haI : ¬ (at_ : Int) < (s.size : Int) - 1 := by omega
        rw [sub_toL, show [toL (s.extract fr (s.size - 1))] = [s.extract fr (s.size - 1)].map toL from rfl, ← List.map_append] at h
        injection h with h1 h2 h3
        obtain rfl := toL_inj h1
        obtain rfl := toL_inj h2
        subst h3
        clear h1 h2
        have e1 : (fr : Int) ≤ (s.size : Int) - 1 := by omega
        have e2 : (s.size : Int) - 1 ≤ (s.size : Int) := by omega
        have e3 : ((s.size : Int) - 1).toNat = s.size - 1 := by omega
        repeat refine AW.seq ?_
        refine AW.reg F ?_
        go_simp
        repeat refine AW.seq ?_
        refine AW.condF (by go_simp) ?_
        refine AW.exit ?_
        go_simp
        repeat refine AW.seq ?_
        refine AW.reg F ?_
        go_simp
        refine AW.ret ?_
        go_simp
    · obtain ⟨fa, F1, rfl⟩ : ∃ x y, F1 = x :: y := List.exists_cons_of_length_pos (by rw [hF]; exact Nat.succ_pos _)
      obtain ⟨pa, Pl, rfl⟩ : ∃ x y, Pl = x :: y := List.exists_cons_of_length_pos (by rw [hP]; exact Nat.succ_pos _)
      have hF1 : F1.length = T.length := by simpa using hF
      have hP1 : Pl.length = T.length := by simpa using hP
      try (have hk3 : T.length ≤ 999999998 := by have := hk2 _ hT; simp only [List.length_cons] at this hT; omega)
      try (have hk4 : F1.length ≤ 999999998 := by simp only [List.length_cons] at hF hT; omega)
      try (have hk5 : Pl.length ≤ 999999998 := by simp only [List.length_cons] at hP hT; omega)
      by_cases ha : at_ + 1 < s.size
      · rw [if_neg (by omega)] at h
        have haI : (at_ : Int) < (s.size : Int) - 1 := by omega
        obtain ⟨c, hc⟩ : ∃ c, (toL s)[at_]? = some c := ⟨_, List.getElem?_eq_getElem (by rw [hsz]; omega)⟩
        have hcs : s.data.toList[at_]? = some c := hc
        have h34 : c ≠ 34 := fun e => by have := hq34.2 (by rw [hc, e]); omega
        have hr1 : -9223372036854775808 ≤ (at_ : Int) + 1 ∧ (at_ : Int) + 1 ≤ 9223372036854775807 := by omega
        have hr2 : -9223372036854775808 ≤ (at_ : Int) + 2 ∧ (at_ : Int) + 2 ≤ 9223372036854775807 := by omega
        have hp1 : (0 : Int) ≤ (at_ : Int) + 1 := by omega
        rw [hc] at h
        repeat refine AW.seq ?_
        refine AW.reg F ?_
        go_simp
        repeat refine AW.seq ?_
        refine AW.condT (by go_simp) ?_
        refine AW.skip ?_
        go_simp
        repeat refine AW.seq ?_
        refine AW.block ?_
        repeat refine AW.seq ?_
        refine AW.block ?_
        by_cases c92 : c = 92
        · subst c92
          rw [if_neg (by simp)] at h
          obtain ⟨c2, hc2⟩ : ∃ c2, (toL s)[at_ + 1]? = some c2 := ⟨_, List.getElem?_eq_getElem (by rw [hsz]; omega)⟩
          have hcs2 : s.data.toList[at_ + 1]? = some c2 := hc2
          have hcd2 : ∀ hh, s.data[at_ + 1]'hh = c2 := fun hh => by have := hcs2; rw [Array.getElem?_toList, Array.getElem?_eq_getElem hh] at this; exact Option.some.inj this
          rw [hc2] at h
          repeat refine AW.seq ?_
          refine AW.reg F ?_
          go_simp
          repeat refine AW.seq ?_
          refine AW.condF (by go_simp) ?_
          by_cases c40 : c2 = 40
          · subst c40
            rw [if_neg (by simp)] at h
            obtain ⟨sp, slt, sle⟩ := hp.sub hone hc hc2
            rw [hsz] at sp slt sle
            have hcl : ∃ n, n ≤ s.size + 2 ∧ qGo (toL s) (oneF (toL s) 47) 0 n 1 (at_ + 2) = (s.size, 0) := by
              obtain ⟨n, hn, hq⟩ := hp
              rw [hsz] at hn hq
              cases n with
              | zero => exact absurd (show (20 : Nat) = 0 from congrArg Prod.snd hq) (by decide)
              | succ n =>
                simp only [qGo] at hq
                rw [hc] at hq
                dsimp only at hq
                rw [if_neg (by decide), if_neg (by decide), if_pos hc2] at hq
                exact ⟨n, by omega, hq⟩
            obtain ⟨nn, hnn, hqq⟩ := hcl
            have ci := n_inner s hs (at_ + 2) nn (by omega) hnn hqq
            clear hqq
            generalize closeF (oneF (toL s) 47) (s.size + 2) 1 (at_ + 2) = j at *
            rw [sub_toL, sub_toL] at h
            dsimp only at h
            rw [show [toL (s.extract fr at_)] = [s.extract fr at_].map toL from rfl, show [toL (s.extract (at_ + 2) (j - 1))] = [s.extract (at_ + 2) (j - 1)].map toL from rfl, ← List.map_append, ← List.map_append] at h
            have ci' : ACalls Tryd.prog GX 30 (some [sI s, iI ((at_ : Int) + 2)]) [iI 0] (.ret (.tup [iI 0, iI 0]) [sI s, iI j]) := by
              rw [show ((at_ : Int) + 2) = ((at_ + 2 : Nat) : Int) from by omega]; exact ci
            have e1 : (fr : Int) ≤ (at_ : Int) := by omega
            have e2 : at_ ≤ s.size := by omega
            have e3 : -9223372036854775808 ≤ (j : Int) - 1 ∧ (j : Int) - 1 ≤ 9223372036854775807 := by omega
            have e4 : (at_ : Int) + 2 ≤ (j : Int) - 1 := by omega
            have e5 : (j : Int) - 1 ≤ (s.size : Int) := by omega
            have e6 : ((at_ : Int) + 2).toNat = at_ + 2 := by omega
            have e7 : ((j : Int) - 1).toNat = j - 1 := by omega
            have e8 : (0 : Int) ≤ (at_ : Int) + 2 := by omega
            repeat refine AW.seq ?_
            refine AW.reg F ?_
            go_simp
            repeat refine AW.seq ?_
            refine AW.condF (by go_simp) ?_
            repeat refine AW.seq ?_
            refine AW.reg F ?_
            go_simp
            repeat refine AW.seq ?_
            refine AW.reg F ?_
            go_simp
            repeat refine AW.seq ?_
            refine AW.reg F ?_
            go_simp
            repeat refine AW.seq ?_
            refine AW.reg F ?_
            go_simp
            refine ⟨_, ci', ?_⟩
            go_simp
            repeat refine AW.seq ?_
            refine AW.reg F ?_
            go_simp
            repeat refine AW.seq ?_
            refine AW.reg F ?_
            go_simp
            refine ⟨g, by omega, _, _, _, j, j, ?_, sp, by omega, by first | exact hF | rfl | (simp only [List.length_append, List.length_cons, List.length_nil] at hF ⊢; omega), by first | exact hP | rfl | (simp only [List.length_append, List.length_cons, List.length_nil] at hP ⊢; omega), by (try simp only [List.length_append, List.length_cons, List.length_nil] at hT ⊢); omega, by omega, h⟩
            go_simp
          · rw [if_pos (by simpa using c40)] at h
            have m40 : ¬ c2.toNat = 40 := fun e => c40 (UInt8.toNat_inj.1 e)
            have m40I : ¬ (c2.toNat : Int) = 40 := by omega
            repeat refine AW.seq ?_
            refine AW.reg F ?_
            go_simp
            repeat refine AW.seq ?_
            refine AW.condT (by go_simp) ?_
            repeat refine AW.seq ?_
            refine AW.reg F ?_
            go_simp
            refine ⟨g, by omega, _, _, _, fr, at_ + 2, ?_, hp.esc hc (by rw [hc2]; simpa using c40), by omega, by first | exact hF | rfl | (simp only [List.length_append, List.length_cons, List.length_nil] at hF ⊢; omega), by first | exact hP | rfl | (simp only [List.length_append, List.length_cons, List.length_nil] at hP ⊢; omega), by (try simp only [List.length_cons] at hT ⊢); omega, by omega, h⟩
            go_simp
        · rw [if_pos (by simpa using c92)] at h
          have m92 : ¬ c.toNat = 92 := fun e => c92 (UInt8.toNat_inj.1 e)
          have m92I : ¬ (c.toNat : Int) = 92 := by omega
          repeat refine AW.seq ?_
          refine AW.reg F ?_
          go_simp
          repeat refine AW.seq ?_
          refine AW.condT (by go_simp) ?_
          repeat refine AW.seq ?_
          refine AW.reg F ?_
          go_simp
          refine ⟨g, by omega, _, _, _, fr, at_ + 1, ?_, hp.char hc h34 c92, by omega, by first | exact hF | rfl | (simp only [List.length_append, List.length_cons, List.length_nil] at hF ⊢; omega), by first | exact hP | rfl | (simp only [List.length_append, List.length_cons, List.length_nil] at hP ⊢; omega), by (try simp only [List.length_cons] at hT ⊢); omega, by omega, h⟩
          go_simp
      · rw [if_pos (by omega)] at h
        have haI : ¬ (at_ : Int) < (s.size : Int) - 1 := by omega
        rw [sub_toL, show [toL (s.extract fr (s.size - 1))] = [s.extract fr (s.size - 1)].map toL from rfl, ← List.map_append] at h
        injection h with h1 h2 h3
        obtain rfl := toL_inj h1
        obtain rfl := toL_inj h2
        subst h3
        clear h1 h2
        have e1 : (fr : Int) ≤ (s.size : Int) - 1 := by omega
        have e2 : (s.size : Int) - 1 ≤ (s.size : Int) := by omega
        have e3 : ((s.size : Int) - 1).toNat = s.size - 1 := by omega
        repeat refine AW.seq ?_
        refine AW.reg F ?_
        go_simp
        repeat refine AW.seq ?_
        refine AW.condF (by go_simp) ?_
        refine AW.exit ?_
        go_simp
        repeat refine AW.seq ?_
        refine AW.reg F ?_
        go_simp
        refine AW.ret ?_
        go_simp
theorem partsX : PartsP GX := fun s T F Pl e hs h => by
  unfold partsF at h
  by_cases hok : okQ (toL s) = true
  · rw [if_pos hok] at h
    injection h with h1 h2
    subst h2
    exact parts_ok s hs hok T F Pl h1
  · rw [if_neg hok] at h
    injection h with h1 h2
    injection h1 with h3 h4 h5
    subst h2
    subst h5
    obtain rfl : T = [] := by cases T; rfl; cases h3
    obtain rfl : F = [] := by cases F; rfl; cases h4
    exact parts_no s hs hok
end Go.Proofs.YtnhnpahoppbniaaDoor
