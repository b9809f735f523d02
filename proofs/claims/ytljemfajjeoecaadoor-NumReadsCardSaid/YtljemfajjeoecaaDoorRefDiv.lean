/- The references' Div. Conditions: the numbers are of int64 and int. -/
import Derived.Test.YtljemfajjeoecaaDoorRefRem
import Derived.Test.YtljemfajjeoecaaDoorDivN
import Derived.Deep.RegionLaw
import Derived.IntWalk
namespace Go.Proofs.YtljemfajjeoecaaDoor
open Go Go.RowKit Go.Proofs Th
attribute [local go_sem] Above.cell Above.frozen

/-- append as one step of a region that draws -/
theorem step_append_ints {w : World} {ops : Array Oper} {o : Oper} {a : Act} {K : Act → World → Prop} {Q : Exit → Act → World → Prop} {E : Prop} (hgd : o.guard = none) (s x : Operand)
    (ho : o.op = .call { callee := .builtin .append, args := #[s, x], argTypes := #[63, 63] })
    (base : Nat) (v : Value) (ds : List Nat) (hs : a.eval s = v) (hown : OwnInts w base v ds) (B : Nat) (A : Option Addr) (n c : Nat) (es : List Nat) (hn : n = es.length) (hx : a.eval x = .slice A n c) (hr : IntsAt w B A c es)
    (hl : ds.length + es.length ≤ 1000000) (hbase : base ≤ w.heap.size)
    (h : ∀ v' w', OwnInts w' base v' (ds ++ es) → Below base w w' → K (a.put o.dst v') w') : if Region.wanted o (yielded ops a.tmps) = true then Oper.wp Tryd.prog o a w K Q else E := by
  have hw : Region.wanted o (yielded ops a.tmps) = true := by simp [Region.wanted, hgd]
  rw [if_pos hw]
  subst hn
  obtain ⟨v', w', hrun, h2, h3⟩ := run_append_ints (w := w) o.type base v ds hown B A c es hr hl hbase
  unfold Oper.wp execOp
  simp only [ho, resolve, invoke, builtin, Sem.run_bind, Sem.run_pure, Result.andThen_ok, List.map_toArray, List.map_cons, List.map_nil, hs, hx, hrun]
  exact h v' w' h2 h3

/-- digits of a quotient so far, and what is left -/
structure DivQ (Y V left : Nat) (qs : List Nat) : Prop where
  q : val qs = V / Y
  r : left = V % Y
  dig : Digs qs
theorem DivQ.step {Y V left : Nat} {qs : List Nat} (h : DivQ Y V left qs) (hY : 0 < Y) (d : Nat) (hd : d ≤ 9) : DivQ Y (V * 10 + d) ((left * 10 + d) % Y) (qs ++ [(left * 10 + d) / Y]) := by
  obtain ⟨h1, h2, h3⟩ := div_step V Y d hY hd
  rw [← h.r] at h1 h2 h3
  exact ⟨by rw [val_snoc, h.q, h1], h2.symm, h.dig.append (by intro x hx; simp at hx; omega)⟩
/-- the box of the quotient, and its digits -/
structure DivS (W5 wr : World) (gq : Nat) (neg : Bool) (E : Int) (v : Value) (qs : List Nat) : Prop where
  box : Box wr gq [.bool neg, v, .int .i64 E]
  own : OwnInts wr W5.heap.size v qs
  old : Below gq W5 wr
theorem arm_box {B g : Nat} {wr W' w2 : World} {cs : List Value} (hb2 : Below B W' w2) (hBW : Below wr.heap.size wr W') (hx : Box wr g cs) (hg : g < B) : Box w2 g cs := (hx.below hBW hx.lt).below hb2 hg
theorem arm_below {B g : Nat} {W5 wr W' w2 : World} (hb2 : Below B W' w2) (hBW : Below wr.heap.size wr W') (h : Below g W5 wr) (hg : g ≤ B) (hgw : g ≤ wr.heap.size) : Below g W5 w2 := (h.trans (hBW.mono hgw)).trans (hb2.mono hg)
theorem DivQ.start (Y : Nat) : DivQ Y 0 0 [] := ⟨by simp, by simp, Digs.nil⟩

set_option maxRecDepth 100000 in
set_option maxHeartbeats 4000000 in
theorem rdiv_bad (m1 e1 m2 e2 : Int) (hm1 : I64 m1) (hm2 : I64 m2) (c : Int) (hw : wrongS m1 e1 m2 e2 = c) (hc : (c != 0) = true) (w : World) : Calls Tryd.prog 39 #[.agg #[.int .i64 m1, .int .i64 e1], .agg #[.int .i64 m2, .int .i64 e2]] w fun r w' => r = .returned (numRes ((0, 0), c)) ∧ Below w.heap.size w w' := by
  have HW := Keep.mk hw
  clear hw
  go_enter Tryd.func39, Tryd.ntmps39
  go_wp2_with fail
  refine (ref_sure m1 e1 m2 e2 hm1 hm2 _).mono ?_
  rw [HW.out]
  rintro r W1 ⟨rfl, hb⟩
  have Hx := Keep.mk ((((Box.new (w := w) (n := w.heap.size) [.int .i64 m1, .int .i64 e1] 23 (by first | rfl | simp)).alloc (.cells #[.int .i64 m2, .int .i64 e2] 23)).alloc (.cells #[.int .i64 0, .int .i64 0] 23)).below hb (by simp only [World.size_alloc]; omega))
  have Hy := Keep.mk (((Box.new (w := (w.alloc (.cells #[.int .i64 m1, .int .i64 e1] 23))) (n := w.heap.size + 1) [.int .i64 m2, .int .i64 e2] 23 (by first | rfl | simp)).alloc (.cells #[.int .i64 0, .int .i64 0] 23)).below hb (by simp only [World.size_alloc]; omega))
  have Hr := Keep.mk ((Box.new (w := ((w.alloc (.cells #[.int .i64 m1, .int .i64 e1] 23)).alloc (.cells #[.int .i64 m2, .int .i64 e2] 23))) (n := w.heap.size + 2) [.int .i64 0, .int .i64 0] 23 (by first | rfl | simp)).below hb (by simp only [World.size_alloc]; omega))
  have HB := Keep.mk (up (al3 w _ _ _) hb)
  have xc0 := Hx.out.cell 0 _ rfl
  have xf0 := Hx.out.froz 0
  have xc1 := Hx.out.cell 1 _ rfl
  have xf1 := Hx.out.froz 1
  have xl := Hx.out.lt
  have yc0 := Hy.out.cell 0 _ rfl
  have yf0 := Hy.out.froz 0
  have yc1 := Hy.out.cell 1 _ rfl
  have yf1 := Hy.out.froz 1
  have yl := Hy.out.lt
  have rc0 := Hr.out.cell 0 _ rfl
  have rf0 := Hr.out.froz 0
  have rc1 := Hr.out.cell 1 _ rfl
  have rf1 := Hr.out.froz 1
  have rl := Hr.out.lt
  go_wp2
  refine bodyPost_ret (v := numRes ((0, 0), c)) ?_ rfl ⟨rfl, st1 (st1 HB.out _ _ _ (by omega)) _ _ _ (by omega)⟩
  simp [numRes, results, Tryd.results39, go_sem, rc0, rc1]
set_option maxRecDepth 100000 in
set_option maxHeartbeats 4000000 in
theorem rdiv_ok (m1 e1 m2 e2 : Int) (hm1 : I64 m1) (hm2 : I64 m2) (hw : wrongS m1 e1 m2 e2 = 0) (h1 : right m1 e1 = true) (h2 : right m2 e2 = true) (hz : m2 ≠ 0) (p q k : Int) (hr : divR m1.natAbs m2.natAbs (decide (m1 < 0) != decide (m2 < 0)) (e1 - e2) = ((p, q), k)) (w : World) : Calls Tryd.prog 39 #[.agg #[.int .i64 m1, .int .i64 e1], .agg #[.int .i64 m2, .int .i64 e2]] w fun r w' => r = .returned (numRes ((p, q), k)) ∧ Below w.heap.size w w' := by
  have HW := Keep.mk hw
  clear hw
  have HN1 := digs_len m1.natAbs (by have := hm1.lo; have := hm1.hi; omega)
  have HR1 := right_exp h1
  have HR2 := right_exp h2
  have HS1 := right_size h1
  have HS2 := right_size h2
  have HV := Keep.mk (val_digs m1.natAbs)
  have HD := Keep.mk (digs_digs m1.natAbs)
  have hm20 : -1000000000000000000 ≤ m2 := by omega
  have hm21 : m2 ≤ 1000000000000000000 := by omega
  go_enter Tryd.func39, Tryd.ntmps39
  go_wp2_with fail
  refine (ref_sure m1 e1 m2 e2 hm1 hm2 _).mono ?_
  rw [HW.out]
  rintro r W1 ⟨rfl, hb⟩
  have Hx := Keep.mk ((((Box.new (w := w) (n := w.heap.size) [.int .i64 m1, .int .i64 e1] 23 (by first | rfl | simp)).alloc (.cells #[.int .i64 m2, .int .i64 e2] 23)).alloc (.cells #[.int .i64 0, .int .i64 0] 23)).below hb (by simp only [World.size_alloc]; omega))
  have Hy := Keep.mk (((Box.new (w := (w.alloc (.cells #[.int .i64 m1, .int .i64 e1] 23))) (n := w.heap.size + 1) [.int .i64 m2, .int .i64 e2] 23 (by first | rfl | simp)).alloc (.cells #[.int .i64 0, .int .i64 0] 23)).below hb (by simp only [World.size_alloc]; omega))
  have Hr := Keep.mk ((Box.new (w := ((w.alloc (.cells #[.int .i64 m1, .int .i64 e1] 23)).alloc (.cells #[.int .i64 m2, .int .i64 e2] 23))) (n := w.heap.size + 2) [.int .i64 0, .int .i64 0] 23 (by first | rfl | simp)).below hb (by simp only [World.size_alloc]; omega))
  have HB := Keep.mk (up (al3 w _ _ _) hb)
  have xc0 := Hx.out.cell 0 _ rfl
  have xf0 := Hx.out.froz 0
  have xc1 := Hx.out.cell 1 _ rfl
  have xf1 := Hx.out.froz 1
  have xl := Hx.out.lt
  have yc0 := Hy.out.cell 0 _ rfl
  have yf0 := Hy.out.froz 0
  have yc1 := Hy.out.cell 1 _ rfl
  have yf1 := Hy.out.froz 1
  have yl := Hy.out.lt
  have rc0 := Hr.out.cell 0 _ rfl
  have rf0 := Hr.out.froz 0
  have rc1 := Hr.out.cell 1 _ rfl
  have rf1 := Hr.out.froz 1
  have rl := Hr.out.lt
  go_wp2_with fail
  refine (long_at m1 e1 hm1 _).mono ?_
  rintro r W2 ⟨A1, c1, rfl, hI1, hb⟩
  clear xc0 xc1 xf0 xf1 xl yc0 yc1 yf0 yf1 yl rc0 rc1 rf0 rf1 rl
  replace Hx := Keep.mk (Hx.out.below hb Hx.out.lt)
  replace Hy := Keep.mk (Hy.out.below hb Hy.out.lt)
  replace Hr := Keep.mk (Hr.out.below hb Hr.out.lt)
  replace HB := Keep.mk (up HB.out hb)
  have xc0 := Hx.out.cell 0 _ rfl
  have xf0 := Hx.out.froz 0
  have xc1 := Hx.out.cell 1 _ rfl
  have xf1 := Hx.out.froz 1
  have xl := Hx.out.lt
  have yc0 := Hy.out.cell 0 _ rfl
  have yf0 := Hy.out.froz 0
  have yc1 := Hy.out.cell 1 _ rfl
  have yf1 := Hy.out.froz 1
  have yl := Hy.out.lt
  have rc0 := Hr.out.cell 0 _ rfl
  have rf0 := Hr.out.froz 0
  have rc1 := Hr.out.cell 1 _ rfl
  have rf1 := Hr.out.froz 1
  have rl := Hr.out.lt
  have HI := Keep.mk hI1
  go_wp2_with fail
  have xlW2 := Hx.out.lt
  have ylW2 := Hy.out.lt
  have rlW2 := Hr.out.lt
  refine calls_world (fun W => Box W (w.heap.size) [.int .i64 m1, .int .i64 e1] ∧ Box W (w.heap.size + 1) [.int .i64 m2, .int .i64 e2] ∧ Box W (w.heap.size + 2) [.int .i64 0, .int .i64 0] ∧ Box W (W2.heap.size) [.bool (decide (m1 < 0)), .slice A1 (digs m1.natAbs).length c1, .int .i64 e1] ∧ Below w.heap.size w W ∧ IntsAt W W.heap.size A1 c1 (digs m1.natAbs)) ⟨Hx.out.alloc _, Hy.out.alloc _, Hr.out.alloc _, Box.new [.bool (decide (m1 < 0)), .slice A1 (digs m1.natAbs).length c1, .int .i64 e1] _ rfl, up HB.out (al1 _ _), (HI.out.below (al1 _ _) (Nat.le_refl _)).more (al1 _ _).size⟩ ?_
  clear xc0 xc1 xf0 xf1 xl yc0 yc1 yf0 yf1 yl rc0 rc1 rf0 rf1 rl
  clear Hx Hy Hr HB HI
  rintro W3 ⟨Hx, Hy, Hr, Hp, HB, HI⟩
  replace Hx := Keep.mk Hx
  replace Hy := Keep.mk Hy
  replace Hr := Keep.mk Hr
  replace Hp := Keep.mk Hp
  replace HB := Keep.mk HB
  replace HI := Keep.mk HI
  have xc0 := Hx.out.cell 0 _ rfl
  have xf0 := Hx.out.froz 0
  have xc1 := Hx.out.cell 1 _ rfl
  have xf1 := Hx.out.froz 1
  have xl := Hx.out.lt
  have yc0 := Hy.out.cell 0 _ rfl
  have yf0 := Hy.out.froz 0
  have yc1 := Hy.out.cell 1 _ rfl
  have yf1 := Hy.out.froz 1
  have yl := Hy.out.lt
  have rc0 := Hr.out.cell 0 _ rfl
  have rf0 := Hr.out.froz 0
  have rc1 := Hr.out.cell 1 _ rfl
  have rf1 := Hr.out.froz 1
  have rl := Hr.out.lt
  have pc0 := Hp.out.cell 0 _ rfl
  have pf0 := Hp.out.froz 0
  have pc1 := Hp.out.cell 1 _ rfl
  have pf1 := Hp.out.froz 1
  have pc2 := Hp.out.cell 2 _ rfl
  have pf2 := Hp.out.froz 2
  have pl := Hp.out.lt
  refine (ref_abs m2 hm20 hm21 _).mono ?_
  rintro r W4 ⟨rfl, hb⟩
  clear xc0 xc1 xf0 xf1 xl yc0 yc1 yf0 yf1 yl rc0 rc1 rf0 rf1 rl pc0 pc1 pc2 pf0 pf1 pf2 pl
  replace Hx := Keep.mk (Hx.out.below hb Hx.out.lt)
  replace Hy := Keep.mk (Hy.out.below hb Hy.out.lt)
  replace Hr := Keep.mk (Hr.out.below hb Hr.out.lt)
  replace Hp := Keep.mk (Hp.out.below hb Hp.out.lt)
  replace HI := Keep.mk ((HI.out.below hb (Nat.le_refl _)).more hb.size)
  replace HB := Keep.mk (up HB.out hb)
  have xc0 := Hx.out.cell 0 _ rfl
  have xf0 := Hx.out.froz 0
  have xc1 := Hx.out.cell 1 _ rfl
  have xf1 := Hx.out.froz 1
  have xl := Hx.out.lt
  have yc0 := Hy.out.cell 0 _ rfl
  have yf0 := Hy.out.froz 0
  have yc1 := Hy.out.cell 1 _ rfl
  have yf1 := Hy.out.froz 1
  have yl := Hy.out.lt
  have rc0 := Hr.out.cell 0 _ rfl
  have rf0 := Hr.out.froz 0
  have rc1 := Hr.out.cell 1 _ rfl
  have rf1 := Hr.out.froz 1
  have rl := Hr.out.lt
  have pc0 := Hp.out.cell 0 _ rfl
  have pf0 := Hp.out.froz 0
  have pc1 := Hp.out.cell 1 _ rfl
  have pf1 := Hp.out.froz 1
  have pc2 := Hp.out.cell 2 _ rfl
  have pf2 := Hp.out.froz 2
  have pl := Hp.out.lt
  go_upto_block 0 with fail
  have xlW4 := Hx.out.lt
  have ylW4 := Hy.out.lt
  have rlW4 := Hr.out.lt
  have plW4 := Hp.out.lt
  refine wp_world (fun W => Box W (w.heap.size) [.int .i64 m1, .int .i64 e1] ∧ Box W (w.heap.size + 1) [.int .i64 m2, .int .i64 e2] ∧ Box W (w.heap.size + 2) [.int .i64 0, .int .i64 0] ∧ Box W (W2.heap.size) [.bool (decide (m1 < 0)), .slice A1 (digs m1.natAbs).length c1, .int .i64 e1] ∧ Box W (W4.heap.size) [.bool (decide (m1 < 0) != decide (m2 < 0)), .slice none 0 0, .int .i64 (e1 - e2)] ∧ Below w.heap.size w W ∧ IntsAt W W4.heap.size A1 c1 (digs m1.natAbs)) ⟨Hx.out.alloc _, Hy.out.alloc _, Hr.out.alloc _, Hp.out.alloc _, Box.new [.bool (decide (m1 < 0) != decide (m2 < 0)), .slice none 0 0, .int .i64 (e1 - e2)] _ rfl, up HB.out (al1 _ _), HI.out.below (al1 _ _) (Nat.le_refl _)⟩ ?_
  clear xc0 xc1 xf0 xf1 xl yc0 yc1 yf0 yf1 yl rc0 rc1 rf0 rf1 rl pc0 pc1 pc2 pf0 pf1 pf2 pl
  clear Hx Hy Hr Hp HB HI
  rintro W5 ⟨Hx, Hy, Hr, Hp, Hq, HB, HI⟩
  replace Hx := Keep.mk Hx
  replace Hy := Keep.mk Hy
  replace Hr := Keep.mk Hr
  replace Hp := Keep.mk Hp
  replace Hq := Keep.mk Hq
  replace HB := Keep.mk HB
  replace HI := Keep.mk HI
  have xc0 := Hx.out.cell 0 _ rfl
  have xf0 := Hx.out.froz 0
  have xc1 := Hx.out.cell 1 _ rfl
  have xf1 := Hx.out.froz 1
  have xl := Hx.out.lt
  have yc0 := Hy.out.cell 0 _ rfl
  have yf0 := Hy.out.froz 0
  have yc1 := Hy.out.cell 1 _ rfl
  have yf1 := Hy.out.froz 1
  have yl := Hy.out.lt
  have rc0 := Hr.out.cell 0 _ rfl
  have rf0 := Hr.out.froz 0
  have rc1 := Hr.out.cell 1 _ rfl
  have rf1 := Hr.out.froz 1
  have rl := Hr.out.lt
  have pc0 := Hp.out.cell 0 _ rfl
  have pf0 := Hp.out.froz 0
  have pc1 := Hp.out.cell 1 _ rfl
  have pf1 := Hp.out.froz 1
  have pc2 := Hp.out.cell 2 _ rfl
  have pf2 := Hp.out.froz 2
  have pl := Hp.out.lt
  have qc0 := Hq.out.cell 0 _ rfl
  have qf0 := Hq.out.froz 0
  have qc1 := Hq.out.cell 1 _ rfl
  have qf1 := Hq.out.froz 1
  have qc2 := Hq.out.cell 2 _ rfl
  have qf2 := Hq.out.froz 2
  have ql := Hq.out.lt
  have hp4 : W2.heap.size < W4.heap.size := plW4
  have HP := Keep.mk Hp.out
  have HRS := Keep.mk Hr.out
  have HO := Keep.mk HB.out
  have hr4 : w.heap.size + 2 < W4.heap.size := rlW4
  have HSS := Keep.mk (show DivS W5 W5 W4.heap.size (decide (m1 < 0) != decide (m2 < 0)) (e1 - e2) (.slice none 0 0) [] from ⟨Hq.out, OwnInts.nil _ _, Below.refl _ _⟩)
  have hql : W4.heap.size < W5.heap.size := ql
  clear xc0 xc1 xf0 xf1 xl yc0 yc1 yf0 yf1 yl rc0 rc1 rf0 rf1 rl pc0 pc1 pc2 pf0 pf1 pf2 pl qc0 qc1 qc2 qf0 qf1 qf2 ql
  clear Hx Hy Hp Hr Hq HB
  have hY0 : 0 < m2.natAbs := by omega
  generalize m2.natAbs = Y at *
  generalize hds : digs m1.natAbs = d1 at *
  generalize hab : m1.natAbs = M at *
  generalize decide (m1 < 0) = na at *
  generalize decide (m2 < 0) = nb at *
  clear hds hab
  have ql := hql
  clear hql
  have hYb : ((Y : Int) == 0) = false := by simp; omega
  have hYn : ¬ Y = 0 := by omega
  go_cut [10, 11] (fun s10 s11 wx => ∃ (v : Value) (qs : List Nat) (left : Nat), s10 = .int .u64 left ∧ left < Y ∧ Keep (DivQ Y M left qs) ∧ Keep (qs.length ≤ 19) ∧ Keep (DivS W5 wx W4.heap.size (na != nb) (e1 - e2) v qs))
  case first =>
    go_wp2_with fail
    go_loopg [10, 11] d1.length (fun gk l i wr => ∃ (v : Value) (qs : List Nat) (k left : Nat), k + gk = d1.length ∧ l = .int .u64 left ∧ i = .int .i64 k ∧ left < Y ∧ Keep (DivQ Y (val (d1.take k)) left qs) ∧ Keep (qs.length = k) ∧ Keep (DivS W5 wr W4.heap.size (na != nb) (e1 - e2) v qs))
    case atStart => exact ⟨_, [], 0, 0, by omega, rfl, rfl, hY0, ⟨DivQ.start Y⟩, ⟨rfl⟩, HSS⟩
    case round =>
      clear HSS
      obtain ⟨v, qs, k, left, hk, rfl, rfl, hlt, HQ, HLN, HS⟩ := hrel
      have pb := HP.out.below HS.out.old hp4
      have p1 := pb.cell 1 _ rfl
      have q1 := HS.out.box.cell 1 _ rfl
      have qf1 := HS.out.box.froz 1
      have lq := HS.out.box.lt
      have hws := HS.out.old.size
      by_cases hlk : k < d1.length
      · obtain ⟨g, o, rfl, hg, hc⟩ := HI.out.at_ (by omega)
        have cd := (HS.out.old.cell (p := ⟨g, o + k, none⟩) hg).trans (hc k hlk)
        have hcap := HI.out.le
        have h9 := HD.out _ (List.getElem_mem hlk)
        have HST := Keep.mk (HQ.out.step hY0 d1[k] h9)
        have HTK := Keep.mk (show val (d1.take (k + 1)) = val (d1.take k) * 10 + d1[k] by rw [List.take_succ_eq_append_getElem hlk, val_snoc])
        have hql : qs.length ≤ d1.length := by rw [HLN.out]; omega
        have hgk : gk ≠ 0 := by omega
        clear hc
        generalize d1[k] = dd at *
        obtain ⟨L, hL⟩ : ∃ L : Nat, (left : Int) * 10 + dd = L := ⟨left * 10 + dd, by push_cast; rfl⟩
        have hLe : left * 10 + dd = L := by omega
        have hLb : L < 10000000000000000000 := by omega
        rw [hLe] at HST
        clear hLe
        have w8 : IntKind.u64.wrap (dd : Int) = dd := by rw [IntKind.wrap_u64]; omega
        obtain ⟨qd, hq1⟩ : ∃ q : Nat, (L : Int) / Y = q := ⟨L / Y, by push_cast; rfl⟩
        have hq2 : (L : Int).tdiv Y = qd := by rw [Int.tdiv_eq_ediv_of_nonneg (by omega)]; exact hq1
        have hqe : L / Y = qd := by have : ((L / Y : Nat) : Int) = qd := by push_cast; exact hq1
                                    omega
        have hq9 : qd ≤ L := by rw [← hqe]; exact Nat.div_le_self _ _
        obtain ⟨rd, hr1⟩ : ∃ q : Nat, (L : Int) % Y = q := ⟨L % Y, by push_cast; rfl⟩
        have hr2 : (L : Int).tmod Y = rd := by rw [Int.tmod_eq_emod_of_nonneg (by omega)]; exact hr1
        have hre : L % Y = rd := by have : ((L % Y : Nat) : Int) = rd := by push_cast; exact hr1
                                    omega
        have hrlt : rd < Y := by rw [← hre]; exact Nat.mod_lt _ hY0
        rw [hqe, hre] at HST
        have hqd9 : qd ≤ 9 := HST.out.dig qd (by simp)
        clear hqe hre
        have w9 : IntKind.u64.wrap (qd : Int) = qd := by rw [IntKind.wrap_u64]; omega
        have w10 : IntKind.i64.wrap (qd : Int) = qd := IntWalk.i64_in _ (by omega)
        have w11 : IntKind.u64.wrap (rd : Int) = rd := by rw [IntKind.wrap_u64]; omega
        go_wp2_with fail
        go_region_law ((refine step_append_ints rfl (.tmp 55) (.tmp 60) rfl W5.heap.size v qs (by simp [Act.eval]) (by first | exact HS.out.own.alloc _ | exact (HS.out.own.below (below_drew _) (Nat.le_refl _)).alloc _ | exact (HS.out.own.alloc _).below (below_drew _) (Nat.le_refl _)) _ _ 1 1 [qd] rfl (by simp [Act.eval]; rfl) (by first | exact IntsAt.one _ qd rfl rfl | exact (IntsAt.one _ qd rfl rfl).below (below_drew _) (by simp)) (by simp; omega) (by simp; omega) ?_; intro v2 w2 hown2 hb2; have HX2 := Keep.mk (arm_box hb2 (by first | exact al1 _ _ | exact up (below_drew _) (al1 _ _) | exact up (al1 _ _) (below_drew _)) HS.out.box ql); have HB2 := Keep.mk (arm_below hb2 (by first | exact al1 _ _ | exact up (below_drew _) (al1 _ _) | exact up (al1 _ _) (below_drew _)) HS.out.old (Nat.le_of_lt ql) (Nat.le_of_lt HS.out.box.lt)); have z1 := HX2.out.cell 1 _ rfl; have z2 := HX2.out.cell 2 _ rfl; have f1 := HX2.out.froz 1; have f2 := HX2.out.froz 2; obtain ⟨A9, c9, rfl, _⟩ := hown2.ints; have HO2 := Keep.mk hown2; clear hown2 hb2))
        all_goals
          go_wp2
          go_roundg (gk - 1)
          case rel => exact ⟨.slice A9 (qs.length + 1) c9, qs ++ [qd], k + 1, rd, by omega, rfl, by go_num, hrlt, ⟨by rw [HTK.out]; exact HST.out⟩, ⟨by simp; exact HLN.out⟩, ⟨⟨HX2.out.set (by simp) _, by have h := HO2.out.set ql (o := 1) (.slice A9 (qs.length + 1) c9); rw [show (qs ++ [qd]).length = qs.length + 1 by simp] at h; exact h, HB2.out.setCell (p := ⟨W4.heap.size, 1, none⟩) (Nat.le_refl _) _⟩⟩⟩
          case measure => omega
      · go_wp2_with fail
        go_meet
        have hkN : k = d1.length := by omega
        exact ⟨v, qs, left, rfl, hlt, ⟨by have h := HQ.out; rw [List.take_of_length_le (by omega), HV.out] at h; exact h⟩, ⟨by rw [HLN.out]; omega⟩, HS⟩
  case rest =>
    obtain ⟨v, qs, left, rfl, hlt, HQ, HLN, HS⟩ := hcut
    go_upto_block 2 with fail
    go_cut [10, 12] (fun s10 s12 wx => ∃ (v : Value) (qs : List Nat) (left j : Nat) (E : Int), s10 = .int .u64 left ∧ left < Y ∧ j ≤ 100 ∧ Keep (0 < left → j = 100) ∧ Keep (E = e1 - e2 - j) ∧ Keep (DivQ Y (M * 10 ^ j) left qs) ∧ Keep (qs.length ≤ 19 + j) ∧ Keep (DivS W5 wx W4.heap.size (na != nb) E v qs))
    case first =>
      go_wp2_with fail
      go_loopg [10, 12] 100 (fun gk l i wr => ∃ (v : Value) (qs : List Nat) (j left : Nat) (E : Int), j + gk = 100 ∧ l = .int .u64 left ∧ i = .int .i64 j ∧ left < Y ∧ Keep (E = e1 - e2 - j) ∧ Keep (DivQ Y (M * 10 ^ j) left qs) ∧ Keep (qs.length ≤ 19 + j) ∧ Keep (DivS W5 wr W4.heap.size (na != nb) E v qs))
      case atStart => exact ⟨v, qs, 0, left, e1 - e2, by omega, rfl, rfl, hlt, ⟨by simp⟩, ⟨by rw [Nat.pow_zero, Nat.mul_one]; exact HQ.out⟩, ⟨by have := HLN.out; omega⟩, HS⟩
      case round =>
        clear HQ HLN HS hlt
        obtain ⟨v, qs, j, left, E, hk, rfl, rfl, hlt, HE, HQ, HLN, HS⟩ := hrel
        have q1 := HS.out.box.cell 1 _ rfl
        have q2 := HS.out.box.cell 2 _ rfl
        have qf1 := HS.out.box.froz 1
        have qf2 := HS.out.box.froz 2
        have lq := HS.out.box.lt
        have hws := HS.out.old.size
        have hE0 : -1000 ≤ E := by have := HE.out; omega
        have hE1 : E ≤ 1000 := by have := HE.out; omega
        by_cases hl0 : 0 < left
        · by_cases hj : j < 100
          · have HST := Keep.mk (HQ.out.step hY0 0 (by omega))
            have hql : qs.length ≤ 200 := by have := HLN.out; omega
            have hgk : gk ≠ 0 := by omega
            obtain ⟨L, hL⟩ : ∃ L : Nat, (left : Int) * 10 = L := ⟨left * 10, by push_cast; rfl⟩
            have hLe : left * 10 + 0 = L := by omega
            have hLb : L < 10000000000000000000 := by omega
            rw [hLe] at HST
            clear hLe
            obtain ⟨qd, hq1⟩ : ∃ q : Nat, (L : Int) / Y = q := ⟨L / Y, by push_cast; rfl⟩
            have hq2 : (L : Int).tdiv Y = qd := by rw [Int.tdiv_eq_ediv_of_nonneg (by omega)]; exact hq1
            have hqe : L / Y = qd := by have : ((L / Y : Nat) : Int) = qd := by push_cast; exact hq1
                                        omega
            obtain ⟨rd, hr1⟩ : ∃ q : Nat, (L : Int) % Y = q := ⟨L % Y, by push_cast; rfl⟩
            have hr2 : (L : Int).tmod Y = rd := by rw [Int.tmod_eq_emod_of_nonneg (by omega)]; exact hr1
            have hre : L % Y = rd := by have : ((L % Y : Nat) : Int) = rd := by push_cast; exact hr1
                                        omega
            have hrlt : rd < Y := by rw [← hre]; exact Nat.mod_lt _ hY0
            rw [hqe, hre] at HST
            have hqd9 : qd ≤ 9 := HST.out.dig qd (by simp)
            clear hqe hre
            have w9 : IntKind.u64.wrap (qd : Int) = qd := by rw [IntKind.wrap_u64]; omega
            have w10 : IntKind.i64.wrap (qd : Int) = qd := IntWalk.i64_in _ (by omega)
            have w11 : IntKind.u64.wrap (rd : Int) = rd := by rw [IntKind.wrap_u64]; omega
            go_wp2_with fail
            go_region_law ((refine step_append_ints rfl (.tmp 77) (.tmp 82) rfl W5.heap.size v qs (by simp [Act.eval]) (by first | exact HS.out.own.alloc _ | exact (HS.out.own.below (below_drew _) (Nat.le_refl _)).alloc _ | exact (HS.out.own.alloc _).below (below_drew _) (Nat.le_refl _)) _ _ 1 1 [qd] rfl (by simp [Act.eval]; rfl) (by first | exact IntsAt.one _ qd rfl rfl | exact (IntsAt.one _ qd rfl rfl).below (below_drew _) (by simp)) (by simp; omega) (by simp; omega) ?_; intro v2 w2 hown2 hb2; have HX2 := Keep.mk (arm_box hb2 (by first | exact al1 _ _ | exact up (below_drew _) (al1 _ _) | exact up (al1 _ _) (below_drew _)) HS.out.box ql); have HB2 := Keep.mk (arm_below hb2 (by first | exact al1 _ _ | exact up (below_drew _) (al1 _ _) | exact up (al1 _ _) (below_drew _)) HS.out.old (Nat.le_of_lt ql) (Nat.le_of_lt HS.out.box.lt)); have z1 := HX2.out.cell 1 _ rfl; have z2 := HX2.out.cell 2 _ rfl; have f1 := HX2.out.froz 1; have f2 := HX2.out.froz 2; obtain ⟨A9, c9, rfl, _⟩ := hown2.ints; have HO2 := Keep.mk hown2; clear hown2 hb2))
            all_goals
              go_wp2
              go_roundg (gk - 1)
              case rel => exact ⟨.slice A9 (qs.length + 1) c9, qs ++ [qd], j + 1, rd, E - 1, by omega, rfl, by go_num, hrlt, ⟨by have := HE.out; push_cast; omega⟩, ⟨by have h := HST.out; rw [Nat.pow_succ, ← Nat.mul_assoc]; exact h⟩, ⟨by have := HLN.out; simp; omega⟩, ⟨⟨(HX2.out.set (by simp) _).set (by simp) _, by have h := (HO2.out.set ql (o := 1) (.slice A9 (qs.length + 1) c9)).set ql (o := 2) (.int .i64 (E - 1)); rw [show (qs ++ [qd]).length = qs.length + 1 by simp] at h; exact h, (HB2.out.setCell (p := ⟨W4.heap.size, 1, none⟩) (Nat.le_refl _) _).setCell (p := ⟨W4.heap.size, 2, none⟩) (Nat.le_refl _) _⟩⟩⟩
              case measure => omega
          · go_wp2_with fail
            go_meet
            exact ⟨v, qs, left, j, E, rfl, hlt, by omega, ⟨fun _ => by omega⟩, HE, HQ, HLN, HS⟩
        · go_wp2_with fail
          go_meet
          exact ⟨v, qs, left, j, E, rfl, hlt, by omega, ⟨fun h => absurd h hl0⟩, HE, HQ, HLN, HS⟩
    case rest =>
      clear HQ HLN HS hlt
      obtain ⟨v, qs, left, j, E, rfl, hlt, hj, HJ, HE, HQ, HLN, HS⟩ := hcut
      have HR0 := Keep.mk (HRS.out.below HS.out.old hr4)
      have r0 := HR0.out.cell 0 _ rfl
      have r1 := HR0.out.cell 1 _ rfl
      have rf0 := HR0.out.froz 0
      have rf1 := HR0.out.froz 1
      have rl := HR0.out.lt
      have HBW := Keep.mk (HO.out.trans (HS.out.old.mono (show w.heap.size ≤ W4.heap.size by omega)))
      by_cases hl0 : 0 < left
      · have HN := Keep.mk (show divR M Y (na != nb) (e1 - e2) = ((0, 0), 11) from divR_bad _ _ _ _ (by have h := HQ.out.r; rw [HJ.out hl0] at h; omega))
        rw [HN.out] at hr
        injection hr with hr hr3
        injection hr with hr1 hr2
        subst hr1 hr2 hr3
        go_wp2
        refine bodyPost_ret (v := numRes ((0, 0), 11)) ?_ rfl ⟨rfl, st1 (st1 HBW.out _ _ _ (by omega)) _ _ _ (by omega)⟩
        simp [numRes, results, Tryd.results39, go_sem, r0, r1]
      · have hl00 : left = 0 := by omega
        subst hl00
        have HN := Keep.mk (show norm (na != nb) (val qs) E = ((p, q), k) by
          rw [← hr, divR_fin M Y j _ _ hY0 hj (by have h := HQ.out.r; omega), ← HQ.out.q, HE.out])
        obtain ⟨A9, c9, rfl, hI9⟩ := HS.out.own.ints
        have q0 := HS.out.box.cell 0 _ rfl
        have q1 := HS.out.box.cell 1 _ rfl
        have q2 := HS.out.box.cell 2 _ rfl
        have HD9 := Keep.mk HQ.out.dig
        have hqn : qs.length ≤ 119 := by have := HLN.out; omega
        have hE0 : -1000 ≤ E := by have := HE.out; omega
        have hE1 : E ≤ 1000 := by have := HE.out; omega
        clear hr
        go_wp2_with fail
        refine (short_as (na != nb) A9 c9 qs E HD9.out (by omega) (by omega) p q k HN.out _ hI9).mono ?_
        rintro r V2 ⟨rfl, hb2⟩
        have HQ2 := Keep.mk (HR0.out.below hb2 HR0.out.lt)
        clear r0 r1 rf0 rf1 rl
        have r0 := HQ2.out.cell 0 _ rfl
        have r1 := HQ2.out.cell 1 _ rfl
        have rf0 := HQ2.out.froz 0
        have rf1 := HQ2.out.froz 1
        go_wp2
        refine bodyPost_ret (v := numRes ((p, q), k)) ?_ rfl ⟨rfl, st1 (st1 (up HBW.out hb2) _ _ _ (by omega)) _ _ _ (by omega)⟩
        simp [numRes, results, Tryd.results39, go_sem, r0, r1]
theorem ref_Div (m1 e1 m2 e2 : Int) (hm1 : I64 m1) (hm2 : I64 m2) (w : World) : Calls Tryd.prog 39 #[.agg #[.int .i64 m1, .int .i64 e1], .agg #[.int .i64 m2, .int .i64 e2]] w fun r w' => r = .returned (numRes (divN m1 e1 m2 e2)) ∧ Below w.heap.size w w' := by
  unfold divN
  by_cases hw : wrongS m1 e1 m2 e2 = 0
  · rw [if_neg (by simpa using hw)]
    obtain ⟨h1, h2, hz⟩ := wrong_zero hw
    obtain ⟨⟨⟨p, q⟩, k⟩, hr⟩ : ∃ x, divR m1.natAbs m2.natAbs (decide (m1 < 0) != decide (m2 < 0)) (e1 - e2) = x := ⟨_, rfl⟩
    have := rdiv_ok m1 e1 m2 e2 hm1 hm2 hw h1 h2 hz p q k hr w
    rw [hr]; exact this
  · rw [if_pos hw]
    exact rdiv_bad m1 e1 m2 e2 hm1 hm2 _ rfl (by simpa using hw) w
end Go.Proofs.YtljemfajjeoecaaDoor
