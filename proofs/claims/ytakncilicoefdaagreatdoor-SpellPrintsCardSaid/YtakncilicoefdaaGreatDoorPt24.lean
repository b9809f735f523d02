/- Lemmas and contracts. Conditions: those that each lemma names. -/
import Derived.Test.YtakncilicoefdaaGreatDoorPt23
set_option maxRecDepth 100000
set_option maxHeartbeats 4000000
namespace Go.Proofs.YtakncilicoefdaaGreatDoor
open Go Go.RowKit Go.Proofs Th
attribute [local go_sem] Ik J4 Kj GT Gt IE Iu Ix Ks JH Ic GS ID JO
variable {G : World → CS → Prop}
theorem Ce {α β : Type} {x : Option (PR α)} {k : α → Nat → Option (PR β)} {r : PR β} (h : AX x k = some r) : ∃ y, x = some y ∧ (match y with | .bad a e => r = .bad a e | .ok n j => k n j = some r) := by
 cases x with
 | none => cases h
 | some y => cases y with
  | bad a e => exact ⟨_, rfl, (Option.some.inj h).symm⟩
  | ok n j => exact ⟨_, rfl, h⟩
theorem OW {β : Type} {E : Env} {i t : Nat} {x : ByteArray} {k : Nat → Option (PR β)} (h : isT E i t x) : Bs E i t x k = k (i + 1) := if_pos h
theorem O7 {β : Type} {E : Env} {i t : Nat} {x : ByteArray} {k : Nat → Option (PR β)} (h : ¬ isT E i t x) : Bs E i t x k = some (.bad (DA E i) 60) := if_neg h
theorem Vg {β : Type} {E : Env} {i k : Nat} {f : ByteArray → Nat → Option (PR β)} (h : ¬ Ga E i k) : D1 E i k f = f (Aj E i).text (i + 1) := if_neg h
theorem Vl {β : Type} {E : Env} {i k : Nat} {f : ByteArray → Nat → Option (PR β)} (h : Ga E i k) : D1 E i k f = some (.bad (DA E i) 60) := if_pos h
def GJ : NJ → IV
 | .mk _ _ _ _ [k, v] _ => .tup [.agg (Ag k), .agg (Ag v)]
 | _ => .tup []
def Hq (E : Env) : PR NJ → ARes
 | .ok n j => .ret (GJ n) (A4 E j)
 | .bad a e => .pan (Cq a e)
def Con (G : World → CS → Prop) (E : Env) (i : Nat) (r : PR NJ) : Job → Prop
 | .filter => ACalls Tryz.prog G 48 (some (A4 E i)) [] (CU E r)
 | .binary least => ACalls Tryz.prog G 80 (some (A4 E i)) [iI least] (CU E r)
 | .minus => ACalls Tryz.prog G 110 (some (A4 E i)) [] (CU E r)
 | .term => ACalls Tryz.prog G 130 (some (A4 E i)) [] (CU E r)
 | .whole => ACalls Tryz.prog G 25 (some (A4 E i)) [] (CU E r)
 | .first => ACalls Tryz.prog G 140 (some (A4 E i)) [] (CU E r)
 | .sign s => i < E.l.length ∧ (6, s) ∈ Z9 → ACalls Tryz.prog G 152 (some (A4 E i)) [sI s] (CU E r)
 | .object => ACalls Tryz.prog G 164 (some (A4 E i)) [] (CU E r)
 | .entry => ACalls Tryz.prog G 175 (some (A4 E i)) [] (Hq E r)
 | .word s => i < E.l.length ∧ (1, s) ∈ Z9 → ACalls Tryz.prog G 151 (some (A4 E i)) [sI s] (CU E r)
 | _ => True
attribute [local go_sem] Hq GJ
def IHP (G : World → CS → Prop) (f : Nat) : Prop := ∀ g, g ≤ f → ∀ E, EB E → ∀ job i r, BO g E job i = some r → Con G E i r job
theorem PJ (gk : GK G) (f : Nat) (IH : IHP G f) (E : Env) (hE : EB E) (i : Nat) (r : PR NJ) (h : BP (BO f) E (.filter) i = some r) : ACalls Tryz.prog G 48 (some (A4 E i)) [] (CU E r) := by
 simp only [BP] at h; refine ACalls.enter Tryz.func48 rfl rfl gk Tryz.ntmps48 fun X F => ?_
 by_cases w1 : isT E (i) 1 ⟨#[100, 101, 102]⟩
 ·exact (hE.no (by decide) (by decide) w1).elim
 rw [if_neg w1] at h; apply Ar F; go_simp; apply Ar F; go_simp; refine ⟨_, BM gk E (i) 1 _ w1, ?_⟩; go_simp; (repeat apply Aq); refine Af (by go_simp) ?_; apply As; go_simp; apply Ar F; go_simp; obtain ⟨x3, hx3, h⟩ := Ce h; have c3 := IH f (Nat.le_refl f) E hE _ _ x3 hx3; refine ⟨_, c3, ?_⟩; cases x3 with
 | bad a3 e3 => subst h; go_simp
 | ok n1 j1 =>
  obtain ⟨k1, s1, m1, q1, l1, b1⟩ := n1; dsimp only at h; clear c3 hx3; go_simp; by_cases w4 : isT E (j1) 6 ⟨#[124]⟩
  ·rw [if_pos w4] at h
   apply Ar F; go_simp; refine ⟨_, Fm gk E hE.len (j1) 6 (by decide) _ w4, ?_⟩; go_simp; (repeat apply Aq); refine At (by go_simp) ?_; (repeat apply Aq); refine Ad F [0, 1, 2, 3, 4, 5] [(0, 2)] mixed (by kernel_rfl) ?_; go_simp; obtain ⟨x5, hx5, h⟩ := Ce h; have c5 := IH f (Nat.le_refl f) E hE _ _ x5 hx5; refine ⟨_, c5, ?_⟩; cases x5 with
   | bad a5 e5 => subst h; go_simp
   | ok n2 j2 =>
    obtain ⟨k2, s2, m2, q2, l2, b2⟩ := n2; dsimp only at h; clear c5 hx5; go_simp; obtain rfl := Option.some.inj h; apply Au; go_simp
  rw [if_neg w4] at h; apply Ar F; go_simp; refine ⟨_, BM gk E (j1) 6 _ w4, ?_⟩; go_simp; obtain rfl := Option.some.inj h; (repeat apply Aq); refine Af (by go_simp) ?_; apply As; go_simp; apply Ar F; go_simp; apply Au; go_simp
theorem RI (gk : GK G) (f : Nat) (IH : IHP G f) (E : Env) (hE : EB E) (i : Nat) (r : PR NJ) (h : BP (BO f) E (.minus) i = some r) : ACalls Tryz.prog G 110 (some (A4 E i)) [] (CU E r) := by
 simp only [BP] at h; refine ACalls.enter Tryz.func110 rfl rfl gk Tryz.ntmps110 fun X F => ?_
 by_cases w1 : isT E (i) 6 ⟨#[45]⟩
 ·exact (hE.no (by decide) (by decide) w1).elim
 rw [if_neg w1] at h; apply Ar F; go_simp; apply Ar F; go_simp; refine ⟨_, BM gk E (i) 6 _ w1, ?_⟩; go_simp; (repeat apply Aq); refine Af (by go_simp) ?_; apply As; go_simp; apply Ar F; go_simp; obtain ⟨x3, hx3, h⟩ := Ce h; have c3 := IH f (Nat.le_refl f) E hE _ _ x3 hx3; refine ⟨_, c3, ?_⟩; cases x3 with
 | bad a3 e3 => subst h; go_simp
 | ok n1 j1 =>
  obtain ⟨k1, s1, m1, q1, l1, b1⟩ := n1; dsimp only at h; clear c3 hx3; go_simp; by_cases w4 : isT E (j1) 1 ⟨#[97, 115]⟩
  ·exact (hE.no (by decide) (by decide) w4).elim
  rw [if_neg w4] at h; apply Ar F; go_simp; refine ⟨_, BM gk E (j1) 1 _ w4, ?_⟩; go_simp; obtain rfl := Option.some.inj h; (repeat apply Aq); refine At (by go_simp) ?_; apply Ar F; go_simp; apply Au; go_simp
theorem Q4 (gk : GK G) (f : Nat) (IH : IHP G f) (E : Env) (hE : EB E) (i : Nat) (r : PR NJ) (h : BP (BO f) E (.whole) i = some r) : ACalls Tryz.prog G 25 (some (A4 E i)) [] (CU E r) := by
 simp only [BP] at h; refine ACalls.enter Tryz.func25 rfl rfl gk Tryz.ntmps25 fun X F => ?_
 apply Ar F; go_simp; apply Ar F; go_simp; obtain ⟨x1, hx1, h⟩ := Ce h; have c1 := IH f (Nat.le_refl f) E hE _ _ x1 hx1; refine ⟨_, c1, ?_⟩; cases x1 with
 | bad a1 e1 => subst h; go_simp
 | ok n1 j1 =>
  obtain ⟨k1, s1, m1, q1, l1, b1⟩ := n1; dsimp only at h; clear c1 hx1; go_simp; by_cases w : j1 < E.l.length
  ·rw [if_pos w] at h
   obtain rfl := Option.some.inj h; (repeat apply Aq); refine Ad F [0, 1, 2, 3, 4, 5, 6, 7, 8, 9] [] mixed (by kernel_rfl) ?_; go_simp; (repeat apply Aq); refine At (by go_simp) ?_; apply Ar F; go_simp; refine ⟨_, Dv gk E hE j1 60, ?_⟩; go_simp
  rw [if_neg w] at h; obtain rfl := Option.some.inj h; (repeat apply Aq); refine Ad F [0, 1, 2, 3, 4, 5, 6, 7, 8, 9] [] mixed (by kernel_rfl) ?_; go_simp; (repeat apply Aq); refine Af (by go_simp) ?_; apply As; go_simp; apply Ar F; go_simp; apply Au; go_simp
open Go Go.RowKit Go.Proofs Th
theorem Vj {W : World} {S : CS} {t : Tf} {y z : Value} {u : Value} (h : Rep W S (.tup [.agg (Db t), .v y, .v z]) u) : u = .tuple #[Fi t, y, z] := by
 cases h with
 | @tup _ us hl hR =>
  rcases us with _ | ⟨u0, _ | ⟨u1, _ | ⟨u2, _ | ⟨u3, us⟩⟩⟩⟩
  ·cases hl
  ·cases hl
  ·cases hl
  ·have h0 := hR 0 _ u0 rfl rfl
   obtain rfl := Cz (hR 1 _ u1 rfl rfl); obtain rfl := Cz (hR 2 _ u2 rfl rfl); cases h0 with
   | @agg _ vs hl2 hR2 =>
    obtain rfl := Gh [.int .i64 (t.kind : Int), .string t.text, .int .i64 (t.at_ : Int)] vs ⟨hl2, hR2⟩; rfl
  cases hl
theorem F9 (p : Nat) (s : ByteArray) (k : Int) (a : Nat) (w : World) (hB : Box w p [.string s, .int .i64 a]) (hG : GlobX w) (t : Tf × Nat × Nat) (j : Nat) (hj : j ≤ s.size) (ht : t.2.2 = 0 → j = t.2.1)
  (hA : ACalls Tryz.prog GN 47 (some [sI s, iI a]) [iI k] (.ret (.tup [.agg (Db t.1), iI (if t.2.2 = 0 then 0 else (t.2.1 : Int)), iI t.2.2]) [sI s, iI j])) :
  Calls Tryz.prog 47 #[.pointer (some ⟨p, 0, none⟩), .int .i64 k] w fun r w' => CW w p s t r w' := by
 have hp : (4 : Nat) ≠ p := by
  rintro rfl; obtain ⟨m, hm⟩ := hG; have h0 := hB.cell 0 _ rfl; rw [hm] at h0; cases h0
 refine (Nr (cs := [.string s, .int .i64 a]) (cs' := [.string s, .int .i64 j]) (us := [.int .i64 k]) hA (by simp [Value.oneCell']) w p hB hG hp).mono fun e w' ⟨⟨u, S, he, hr⟩, hB', hU⟩ => ?_
 exact ⟨by rw [he, Vj hr], j, ⟨hB', hU⟩, hj, ht⟩
theorem AtN.text {s : ByteArray} {b : Nat} {c : UInt8} {r : List UInt8} {x x1 : ByteArray} (h : AtN s b c r x x1) (i n : Nat) : x.extract i n = ⟨(((c :: r).take n).drop i).toArray⟩ := by
 rw [Fo, h.ll, List.drop_take]
theorem Pn (p : Nat) (s : ByteArray) (hs : s.size ≤ 1000000) (d : Nat) (k : Int) (a : Nat) (hw : 3 ≤ way s.data.toList (Bf s.data.toList a)) (ha : a ≤ s.size) (w : World) (hB : Box w p [.string s, .int .i64 a]) (hG : GlobX w) :
  Calls Tryz.prog 47 #[.pointer (some ⟨p, 0, none⟩), .int .i64 k] w fun r w' => CW w p s (AQ s.data.toList d a) r w' := by
 obtain ⟨b, hb⟩ : ∃ b, Bf s.data.toList a = b := ⟨_, rfl⟩
 rw [show AQ s.data.toList d a = Cf s.data.toList (Cu s.data.toList d) b by rw [ED, hb]]; rw [hb] at hw; have hty := Lc (s.data.toList.drop b); have hlet : Ba 34 = false := by decide
 cases hd : s.data.toList.drop b with
 | nil => unfold way at hw; rw [hd] at hw; exact absurd hw (by decide)
 | cons c r =>
  obtain ⟨x, x1, hA⟩ := AtN.of hd; have hle := hA.le; rw [hd] at hty; rw [List.length_cons] at hty; rw [GV hd] at hw; unfold Gn at hw; unfold Cf; rw [hd]; dsimp only; by_cases h34 : c = 34
  ·rw [if_pos h34] at hw; exact absurd hw (by decide)
  rw [if_neg h34] at hw ⊢; by_cases hl : Ba c = true
  ·rw [if_pos hl] at hw; exact absurd hw (by decide)
  rw [if_neg hl] at hw; have hl0 : Ba c = false := by simpa using hl
  have hwd : ∀ n : Nat, ((b + n : Nat) : Int) = (b : Int) + (n : Int) := fun n => by omega
  have hw1 : ∀ n : Nat, ((b + (1 + n) : Nat) : Int) = (b : Int) + (1 + (n : Int)) := fun n => by omega
  by_cases h36 : c = 36 ∧ 0 < AH r
  ·have ht : BA (c :: r) = (2, 1, 1 + AH r) := by simp only [BA]; rw [if_neg hl, if_pos h36]
   rw [ht] at hty ⊢; refine F9 p s k a w hB hG _ (b + (1 + AH r)) (by have := hty.1; dsimp only at this; omega) (fun _ => rfl) ?_; have := Rp k s hs a b ha hb c r x x1 hA h36.1 hl0 h36.2; rw [hA.text] at this; rw [hw1]; exact this
  rw [if_neg h36] at hw; by_cases h46 : c = 46 ∧ 0 < AH r
  ·have ht : BA (c :: r) = (3, 1, 1 + AH r) := by simp only [BA]; rw [if_neg hl, if_neg h36, if_pos h46]
   rw [ht] at hty ⊢; refine F9 p s k a w hB hG _ (b + (1 + AH r)) (by have := hty.1; dsimp only at this; omega) (fun _ => rfl) ?_; have := Vp k s hs a b ha hb c r x x1 hA h46.1 hl0 h46.2; rw [hA.text] at this; rw [hw1]; exact this
  by_cases hg : Bo c = true
  ·have h36' : ¬ c = 36 := by rintro rfl; exact absurd hg (by decide)
   have h46' : ¬ c = 46 := by rintro rfl; exact absurd hg (by decide)
   have ht : BA (c :: r) = (4, 0, CT (c :: r)) := by simp only [BA]; rw [if_neg hl, if_neg h36, if_neg h46, if_pos hg]
   rw [ht] at hty ⊢; have hn := hty.1; dsimp only at hn; refine F9 p s k a w hB hG _ (b + CT (c :: r)) (by omega) (fun _ => rfl) ?_; have := Ti k s hs a b ha hb c r x x1 hA h34 h36' h46' hl0 hg _ rfl hn; rw [hA.text] at this; rw [hwd]; exact this
  have hg0 : Bo c = false := by simpa using hg
  have hat : s.data.toList[b]? = some c := by
   have := congrArg List.head? hd; rw [List.head?_drop] at this; exact this
  have h32 : c ≠ 32 := fun h => by
   have := (Iy hb hat).1; rw [h] at this; exact absurd this (by decide)
  have hxz : 0 < x.size := by have := hA.sz; omega
  have hx0 : x[0] = c := by
   have h1 : x.data.toList[0]? = some c := by rw [hA.ll]; rfl
   have h2 : x.data.toList[0]? = some x[0] := by rw [List.getElem?_eq_getElem (by rw [Al]; exact hxz)]; rfl
   exact (Option.some.inj (h1.symm.trans h2)).symm
  have csg := VB x hxz (by rw [hx0]; exact h32) _ hA.ll; by_cases hn : AY (c :: r) = 0
  ·have ht : BA (c :: r) = (0, 0, 0) := by simp only [BA]; rw [if_neg hl, if_neg h36, if_neg h46, if_neg hg, if_pos hn]
   rw [ht, if_pos (show ((0, 0, 0) : Nat × Nat × Nat).1 = 0 from rfl)]; exact F9 p s k a w hB hG _ b (by omega) (fun h => (by cases h)) (Vd k s hs a b ha hb c r x x1 hA h34 h36 h46 hl0 hg0 _ csg hn)
  have ht : BA (c :: r) = (6, 0, AY (c :: r)) := by simp only [BA]; rw [if_neg hl, if_neg h36, if_neg h46, if_neg hg, if_neg hn]
  rw [ht] at hty ⊢; have hnl := hty.1; dsimp only at hnl; refine F9 p s k a w hB hG _ (b + AY (c :: r)) (by omega) (fun _ => rfl) ?_; have := Up k s hs a b ha hb c r x x1 hA h34 h36 h46 hl0 hg0 _ csg (by omega) hnl; rw [hA.text] at this; rw [hwd]; exact this
open Go Go.RowKit Go.Proofs Th
set_option maxRecDepth 8000
variable {G : World → CS → Prop}
theorem PC (t : ByteArray) (j : Nat) (h : j < words13.length) : inB (words13.drop j) t = (decide (words13[j] = t) || inB (words13.drop (j + 1)) t) := by
 unfold inB; rw [List.drop_eq_getElem_cons h, List.any_cons]
theorem Ui {a b : ByteArray} : (a.toList == b.toList) = decide (a = b) := by
 rw [Fh, Fh]; by_cases h : a = b
 ·rw [h, decide_eq_true rfl, beq_self_eq_true]
 rw [decide_eq_false h, beq_eq_false_iff_ne]; exact fun h2 => h (Fu h2)
section
attribute [local go_sem] Above.cell Above.frozen
theorem Od (s : ByteArray) (w : World) : Calls Tryz.prog 101 #[.string s] w fun r w' => r = .returned (.bool (inB words13 s)) ∧ Below w.heap.size w w' := by
 obtain ⟨R, hR⟩ : ∃ R, inB words13 s = R := ⟨_, rfl⟩
 rw [hR]; have H0 := Keep.mk (show inB (words13.drop 0) s = R from hR); clear hR; go_enter Tryz.func101, Tryz.ntmps101
 go_upto_region 2 with fail
 refine BC (fun W => Box W w.heap.size (words13.map Value.string) ∧ Below w.heap.size w W) ⟨Box.new (words13.map Value.string) _ rfl, al1 _ _⟩ ?_; rintro W1 ⟨hb, hw⟩; have HB := Keep.mk hb; have HW := Keep.mk hw; have hl := hb.lt; clear hb hw; go_wp2_with fail
 go_loopg [4] 13 (fun gk i wr => ∃ j : Nat, j + gk = 13 ∧ i = .int .i64 j ∧ Keep (inB (words13.drop j) s = R) ∧ W1 = wr)
 case atStart => exact ⟨0, by omega, rfl, H0, rfl⟩
 case round =>
  clear H0; obtain ⟨j, hj, rfl, HS, rfl⟩ := hrel; by_cases hlt : j < 13
  ·have hgk : gk ≠ 0 := by omega
   have hq := HS.out; have hj2 : j < words13.length := hlt; rw [PC s j hj2] at hq; have hc : W1.cell? ⟨w.heap.size, j, none⟩ = some (.string words13[j]) := HB.out.cell j _ (by rw [List.getElem?_map, List.getElem?_eq_getElem hj2]; rfl); generalize words13[j] = q at *; cases hd : (q.toList == s.toList)
   ·have HE := Keep.mk (show inB (words13.drop (j + 1)) s = R by
     rw [Ui] at hd; rw [← hq, hd, Bool.false_or])
    clear hq HS; go_wp2
    go_roundg (gk - 1)
    case rel => exact ⟨j + 1, by omega, by go_num, HE, rfl⟩
    case measure => omega
   have HE := Keep.mk (show true = R by
    rw [Ui] at hd; rw [← hq, hd, Bool.true_or])
   clear hq HS; go_wp2
   go_ret
   exact ⟨Da HE.out, HW.out⟩
  have HE := Keep.mk (show false = R by rw [← HS.out, show j = 13 from by omega]; rfl); have hjl : ¬ (j : Int) < 13 := by omega
  clear HS HB; go_wp2_with fail
  go_ret
  exact ⟨Da HE.out, HW.out⟩
end
theorem P0 (s : ByteArray) : ACalls Tryz.prog G 101 none [sI s] (.ret (bI (inB words13 s)) []) :=
 CP (us := [.string s]) ⟨_, Tryz.func101, rfl, rfl⟩ fun W _S _ => Od s W
end Go.Proofs.YtakncilicoefdaaGreatDoor
