/- Lemmas and contracts. Conditions: those that each lemma names. -/
import Derived.Test.YtakncilicoefdaaGreatDoorPz21
set_option maxRecDepth 100000
set_option maxHeartbeats 4000000
namespace Go.Proofs.YtakncilicoefdaaGreatDoor
open Go Go.RowKit Go.Proofs Th
def Eu (M : List Nat) : FV → FV
 | .own k n => if k ∈ M then .own k n else .junk
 | .ptr b o => if b ∈ M then .ptr b o else .junk
 | .pin b p => if b ∈ M then .pin b p else .junk
 | c => c
def Oe (M : List Nat) : AObj → AObj
 | .box cs => .box (cs.map (Eu M))
 | x => x
def E9 (L M : List Nat) (s : ASt) : ASt := mkS (L.map fun t => (t, Eu M (s.fr t))) (M.map fun b => (b, Oe M (s.st b)))
theorem Lp {α : Type} (d : α) (g : Nat → α) : ∀ (L : List Nat) (t : Nat), CW d (L.map fun t => (t, g t)) t = if t ∈ L then g t else d
 | [], t => by simp [CW]
 | k :: r, t => by
  simp only [List.map_cons, CW, Lp d g r t, List.mem_cons]; by_cases h : t = k
  ·subst h; simp
  simp [h]
theorem Rel.prune {X : Ctx} {s : ASt} {a : Act} {W : World} (L M : List Nat) (hM : 1000 ∈ M) (h : Rel X s a W) : Rel X (E9 L M s) a W := by
 obtain ⟨E, S, h⟩ := h; have hst : ∀ id, (E9 L M s).st id = if id ∈ M then Oe M (s.st id) else .none := fun id => Lp _ _ M id
 have hF : ∀ c u, B4 W S E s.st c u → B4 W S E (E9 L M s).st (Eu M c) u := by
  intro c u hc; cases c with
  | junk => trivial
  | im x => exact hc
  | own k n =>
   obtain ⟨ty, esz, es, h1, h2⟩ := hc; by_cases hk : k ∈ M
   ·rw [show Eu M (.own k n) = .own k n from if_pos hk]
    exact ⟨ty, esz, es, by rw [hst, if_pos hk, h1]; rfl, h2⟩
   rw [show Eu M (.own k n) = .junk from if_neg hk]; trivial
  | ptr b o =>
   obtain ⟨⟨cs, h1⟩, h2⟩ := hc; by_cases hk : b ∈ M
   ·rw [show Eu M (.ptr b o) = .ptr b o from if_pos hk]
    exact ⟨⟨_, by rw [hst, if_pos hk, h1]; rfl⟩, h2⟩
   rw [show Eu M (.ptr b o) = .junk from if_neg hk]; trivial
  | pin b p =>
   obtain ⟨⟨cs, h1⟩, h2⟩ := hc; by_cases hk : b ∈ M
   ·rw [show Eu M (.pin b p) = .pin b p from if_pos hk]
    exact ⟨⟨_, by rw [hst, if_pos hk, h1]; rfl⟩, h2⟩
   rw [show Eu M (.pin b p) = .junk from if_neg hk]; trivial
 have hbk : ∀ i g, blk E i ((E9 L M s).st i) = some g → blk E i (s.st i) = some g := fun i g hg => by
  rw [hst] at hg; by_cases hi : i ∈ M
  ·rw [if_pos hi] at hg
   cases hs : s.st i <;> rw [hs] at hg <;> exact hg
  rw [if_neg hi] at hg; cases hg
 refine ⟨E, S, h.sz, h.df, fun t => ?_, fun id => ?_, fun i j g hi hj => h.ap i j g (hbk i g hi) (hbk j g hj), h.Sb, h.S0, h.Sn, h.u, h.g, h.pk, fun hr => ?_⟩
 ·show B4 W S E _ (CW .junk (L.map fun t => (t, Eu M (s.fr t))) t) _
  rw [Lp (g := fun t => Eu M (s.fr t))]; split
  ·exact hF _ _ (h.fr t)
  trivial
 ·rw [hst]
  have ho := h.ob id; by_cases hi : id ∈ M
  ·rw [if_pos hi]
   cases hs : s.st id with
   | none => trivial
   | box cs =>
    rw [hs] at ho; obtain ⟨⟨us, hl, hB, h4, h5, h6⟩, h7⟩ := ho; refine ⟨⟨us, by simp [hl], hB, h4, fun i c u hc hu => ?_, h6⟩, h7⟩; rw [List.getElem?_map] at hc; cases hq : cs[i]? with
    | none => rw [hq] at hc; cases hc
    | some q =>
     rw [hq] at hc; simp only [Option.map_some, Option.some.injEq] at hc; subst hc; exact hF _ _ (h5 i q u hq hu)
   | row ty esz es => rw [hs] at ho; exact ho
  rw [if_neg hi]; trivial
 obtain ⟨cs, hcs⟩ := h.bk hr; exact ⟨_, by rw [hst, if_pos hM, hcs]; rfl⟩
theorem AW.prune {P : Program} {X : Ctx} {c : Code} {Q : AExit → ASt → Prop} {s : ASt} (L M : List Nat) (hM : 1000 ∈ M) (h : AW P X c Q (E9 L M s)) : AW P X c Q s := fun a W hR => h a W (hR.prune L M hM)
theorem Cb {P : Program} {X : Ctx} {c : Code} {Q : AExit → ASt → Prop} {s : ASt} (L M : List Nat) (hM : 1000 ∈ M) (I : Nat → ASt → Prop) (n : Nat) (h0 : I n (E9 L M s)) (hround : ∀ n s, I n s → AW P X c (G9 (fun s' => ∃ m, m < n ∧ I m (E9 L M s')) Q) s) : AW P X (.loop c) Q s :=
 AW.prune L M hM (AW.loop I n h0 fun n s hI a W hR => wp_mono (hround n s hI a W hR) fun e a' W' hq => by
  cases e with
  | normal => obtain ⟨s', hR', hK⟩ := hq; exact ⟨_, hR'.prune L M hM, hK⟩
  | _ => exact hq)
theorem D9 {R : Nat → Prop} {W W' : World} (h : Below W.heap.size W W') : UpdR R W W' := ⟨h.os, h.tape, h.output, h.size, fun k hk _ => h.block k hk⟩
theorem Ey {P : Program} {G : World → CS → Prop} {f : FuncId} {us : List Value} {v : Value} (hf : ∃ fn, P.funcs[f]? = some fn ∧ fn.body.isNone = false ∧ (fn.name == "runtime.NumGoroutine") = false)
  (h : ∀ W S, G W S → Calls P f us.toArray W fun e W' => e = .returned v ∧ Below W.heap.size W W') : ACalls P G f none (us.map IV.v) (.ret (.v v) []) := by
 refine ⟨hf, fun W S p ws hG hSb _ hws => ?_⟩; have hwu : ∀ (us ws : List Value), RepL W S (us.map IV.v) ws → ws = us := by
  intro us; induction us with
  | nil => intro ws h; exact List.eq_nil_of_length_eq_zero h.1
  | cons u r ih =>
   intro ws h; cases ws with
   | nil => exact absurd h.1 (by simp)
   | cons w ws =>
    rw [Dl (h.2 0 (IV.v u) w rfl rfl), ih ws ⟨by simpa using h.1, fun i x u hx hu => h.2 (i + 1) x u hx hu⟩]
 obtain rfl := hwu us ws hws; exact (h W S hG).mono fun e W' ⟨he, hb⟩ => ⟨⟨v, he, .v v⟩, fun h => (by cases h), D9 hb⟩
theorem AO {P : Program} {X : Ctx} {G : World → CS → Prop} {n id : Nat} {ops : Array Oper} {Q : AExit → ASt → Prop} {s : ASt} (F : Fit X G n) (h : B0 P G n ops ops.toList s (fun s' => Q .normal s') (fun x s' => Q (.panic x) s')) : AW P X (.region id ops false) Q s :=
 AW.region n F.n (by rw [F.g]; exact h)
theorem Ux {P : Program} {X : Ctx} {G : World → CS → Prop} {n id : Nat} {ops : Array Oper} {Q : AExit → ASt → Prop} {s : ASt} (F : Fit X G n) (π : List Nat) (U : List (Nat × Nat)) [PanicOK Q] (hm : P.follows .mixedOrders = true) (hd : OG ops π U = true) (h : Dz P G n ops U π [] s (fun s' => Q .normal s') (fun x s' => Q (.panic x) s')) : AW P X (.region id ops true) Q s :=
 YM n F.n π U hm hd (by rw [F.g]; exact h)
theorem AG {P : Program} {X : Ctx} {c : Operand} {x y : Code} {Q : AExit → ASt → Prop} {s : ASt} (h : ∃ t, Aw s c = .im (.v (.bool t)) ∧ (t = true → AW P X x Q s) ∧ (t = false → AW P X y Q s)) : AW P X (.cond c x y) Q s := by
 obtain ⟨t, hc, h1, h2⟩ := h; exact AW.cond t hc h1 h2
theorem Ol {P : Program} {X : Ctx} {c : Operand} {x y : Code} {Q : AExit → ASt → Prop} {s : ASt} (hc : Aw s c = .im (.v (.bool true))) (h : AW P X x Q s) : AW P X (.cond c x y) Q s := AW.cond true hc (fun _ => h) (fun h => by cases h)
theorem OE {P : Program} {X : Ctx} {c : Operand} {x y : Code} {Q : AExit → ASt → Prop} {s : ASt} (hc : Aw s c = .im (.v (.bool false))) (h : AW P X y Q s) : AW P X (.cond c x y) Q s := AW.cond false hc (fun h => by cases h) (fun _ => h)
open Go Go.RowKit Go.Proofs Th
theorem Di (ks : List Int) (ts : List ByteArray) (i : Nat) : (tgJ ks ts i).size ≤ (ts.getD i ⟨#[]⟩).size + 2 := X1 ks ts i
theorem Bu {k : Int} {s : ByteArray} {m e : Int} {l : List NJ} {a : List ByteArray} (hb : AJ (.mk k s m e l a) = true) (hf : Ac (.mk k s m e l a) = true) (hl : okL l = true) : okJ (.mk k s m e l a) = true := by
 rw [okJ]; unfold ES; rw [hb, hf, hl]; rfl
theorem k1   : okJ (BR) = true ∧ (spJ (BR)).size ≤ 1 := by
 unfold BR; refine ⟨Bu (by simp [AJ, AE]) (by simp [Ac]) (by simp [okL]), ?_⟩; rw [spJ]; simp only [Int.reduceEq, if_true, if_false, or_false, spL, List.getD_nil, Ba, bsz, List.length_cons, List.length_nil]; omega
theorem k26   : okJ (Ag 26 []) = true ∧ (spJ (Ag 26 [])).size ≤ 2 := by
 unfold Ag; refine ⟨Bu (by simp [AJ, AE]) (by simp [Ac]) (by simp [okL]), ?_⟩; rw [spJ]; simp only [Int.reduceEq, if_true, if_false, or_false, spL, List.getD_nil, Ba, bsz, List.length_cons, List.length_nil]; omega
theorem k2 {m e : Int} (h0 : 0 ≤ m) (hr : right m e = true) : okJ (.mk 2 ⟨#[]⟩ m e [] []) = true ∧ (spJ (.mk 2 ⟨#[]⟩ m e [] [])).size ≤ 24 := by
 refine ⟨Bu (by simp [AJ, AE]) (by simp [Ac, hr, h0]) (by simp [okL]), ?_⟩; have := YK hr; rw [spJ]; simp only [Int.reduceEq, if_true, if_false, or_false, HJ]; exact this
theorem k3 {s : ByteArray} (hv : Lib.validD s.data.toList = true) : okJ (Bg s) = true ∧ (spJ (Bg s)).size = (Bk (tl s)).length + 2 := by
 unfold Bg; refine ⟨Bu (by simp [AJ, AE]) (by simp [Ac, hv]) (by simp [okL]), ?_⟩; rw [spJ]; simp only [Int.reduceEq, if_true, if_false, or_false, Dw, HJ]; simp [D8, tl]
theorem k22 {s : ByteArray} (hs : Bf s = true) : okJ (Cy s) = true ∧ (spJ (Cy s)).size = s.size + 1 := by
 unfold Cy; refine ⟨Bu (by simp [AJ, AE]) (by simp [Ac, hs]) (by simp [okL]), ?_⟩; rw [spJ]; simp only [Int.reduceEq, if_true, if_false, or_false, ByteArray.size_append, bsz, List.length_cons, List.length_nil]; omega
theorem k5 {x y : NJ}  (hx : okJ x = true) (hy : okJ y = true) : okJ (Ax 5 ⟨#[]⟩ x y) = true ∧ (spJ (Ax 5 ⟨#[]⟩ x y)).size ≤ (spJ x).size + (spJ y).size + 4 := by
 unfold Ax; refine ⟨Bu (by simp [AJ, AE]) (by simp [Ac]) (by simp [okL, hx, hy]), ?_⟩; have tg0 := Di (List.map Av [x, y]) [spJ x, spJ y] 0; have tg1 := Di (List.map Av [x, y]) [spJ x, spJ y] 1; simp only [List.getD_cons_zero, List.getD_cons_succ] at tg0 tg1; rw [spJ]; simp only [Int.reduceEq, if_true, if_false, or_false, spL, List.getD_cons_zero, List.getD_cons_succ, List.getD_nil, List.tail_cons, Ba, ByteArray.size_append, bsz, List.length_cons, List.length_nil]; omega
theorem k7 {x : NJ}  (hx : okJ x = true) : okJ (Ag 7 [x]) = true ∧ (spJ (Ag 7 [x])).size ≤ (spJ x).size + 4 := by
 unfold Ag; refine ⟨Bu (by simp [AJ, AE]) (by simp [Ac]) (by simp [okL, hx]), ?_⟩; have tg0 := Di (List.map Av [x]) [spJ x] 0; have tg1 := Di (List.map Av [x]) [spJ x] 1; simp only [List.getD_cons_zero, List.getD_cons_succ, List.getD_nil, show ByteArray.size ⟨#[]⟩ = 0 from rfl] at tg0 tg1; rw [spJ]; simp only [Int.reduceEq, if_true, if_false, or_false, spL, List.getD_cons_zero, List.getD_cons_succ, List.getD_nil, List.tail_cons, Ba, ByteArray.size_append, bsz, List.length_cons, List.length_nil]; omega
theorem k6a {x y : NJ}  (hx : okJ x = true) (hy : okJ y = true) : okJ (.mk 6 ⟨#[]⟩ 0 0 [x, y] [fromB]) = true ∧ (spJ (.mk 6 ⟨#[]⟩ 0 0 [x, y] [fromB])).size ≤ (spJ x).size + (spJ y).size + 5 := by
 refine ⟨Bu (by simp [AJ, AE]) (by simp [Ac]) (by simp [okL, hx, hy]), ?_⟩; have tg0 := Di (List.map Av [x, y]) [spJ x, spJ y] 0; have tg1 := Di (List.map Av [x, y]) [spJ x, spJ y] 1; simp only [List.getD_cons_zero, List.getD_cons_succ] at tg0 tg1; rw [spJ]; simp only [Int.reduceEq, if_true, if_false, or_false, spL, List.getD_cons_zero, List.getD_cons_succ, List.getD_nil, List.tail_cons, Ba, ByteArray.size_append, show ByteArray.size ⟨#[]⟩ = 0 from rfl, bsz, List.length_cons, List.length_nil, show [fromB].head? = some fromB from rfl, show ¬ [fromB].getLast? = some toB by decide, Nat.add_sub_cancel]; omega
theorem k6b {x y : NJ}  (hx : okJ x = true) (hy : okJ y = true) : okJ (.mk 6 ⟨#[]⟩ 0 0 [x, y] [toB]) = true ∧ (spJ (.mk 6 ⟨#[]⟩ 0 0 [x, y] [toB])).size ≤ (spJ x).size + (spJ y).size + 5 := by
 refine ⟨Bu (by simp [AJ, AE]) (by simp [Ac]) (by simp [okL, hx, hy]), ?_⟩; have tg0 := Di (List.map Av [x, y]) [spJ x, spJ y] 0; have tg1 := Di (List.map Av [x, y]) [spJ x, spJ y] 1; simp only [List.getD_cons_zero, List.getD_cons_succ] at tg0 tg1; rw [spJ]; simp only [Int.reduceEq, if_true, if_false, or_false, spL, List.getD_cons_zero, List.getD_cons_succ, List.getD_nil, List.tail_cons, Ba, ByteArray.size_append, show ByteArray.size ⟨#[]⟩ = 0 from rfl, bsz, List.length_cons, List.length_nil, show ¬ [toB].head? = some fromB by decide, show [toB].getLast? = some toB from rfl, Nat.add_sub_cancel]; omega
theorem k6c {x y z : NJ}  (hx : okJ x = true) (hy : okJ y = true) (hz : okJ z = true) : okJ (.mk 6 ⟨#[]⟩ 0 0 [x, y, z] [fromB, toB]) = true ∧ (spJ (.mk 6 ⟨#[]⟩ 0 0 [x, y, z] [fromB, toB])).size ≤ (spJ x).size + (spJ y).size + (spJ z).size + 5 := by
 refine ⟨Bu (by simp [AJ, AE]) (by simp [Ac]) (by simp [okL, hx, hy, hz]), ?_⟩; have tg0 := Di (List.map Av [x, y, z]) [spJ x, spJ y, spJ z] 0; have tg1 := Di (List.map Av [x, y, z]) [spJ x, spJ y, spJ z] 1; simp only [List.getD_cons_zero, List.getD_cons_succ] at tg0 tg1; rw [spJ]; simp only [Int.reduceEq, if_true, if_false, or_false, spL, List.getD_cons_zero, List.getD_cons_succ, List.tail_cons, Ba, ByteArray.size_append, bsz, List.length_cons, List.length_nil, show [fromB, toB].head? = some fromB from rfl, show [fromB, toB].getLast? = some toB from rfl, Nat.add_sub_cancel]; omega
theorem k14 {x : NJ}  (hx : okJ x = true) : okJ (Ag 14 [x]) = true ∧ (spJ (Ag 14 [x])).size ≤ (spJ x).size + 3 := by
 unfold Ag; refine ⟨Bu (by simp [AJ, AE]) (by simp [Ac]) (by simp [okL, hx]), ?_⟩; rw [spJ]; simp only [Int.reduceEq, if_true, if_false, or_false, spL, List.getD_cons_zero, List.getD_cons_succ, List.getD_nil, List.tail_cons, Ba, ByteArray.size_append, bsz, List.length_cons, List.length_nil]; omega
theorem YT   : okJ (Ag 15 []) = true ∧ (spJ (Ag 15 [])).size ≤ 2 := by
 unfold Ag; refine ⟨Bu (by simp [AJ, AE]) (by simp [Ac]) (by simp [okL]), ?_⟩; rw [spJ]; simp only [Int.reduceEq, if_true, if_false, or_false, spL, List.getD_nil, Ba, ByteArray.size_append, show ByteArray.size ⟨#[]⟩ = 0 from rfl, bsz, List.length_cons, List.length_nil]; omega
theorem Y3 {x : NJ}  (hx : okJ x = true) : okJ (Ag 15 [x]) = true ∧ (spJ (Ag 15 [x])).size ≤ (spJ x).size + 2 := by
 unfold Ag; refine ⟨Bu (by simp [AJ, AE]) (by simp [Ac]) (by simp [okL, hx]), ?_⟩; rw [spJ]; simp only [Int.reduceEq, if_true, if_false, or_false, spL, List.getD_cons_zero, List.getD_cons_succ, List.getD_nil, List.tail_cons, Ba, ByteArray.size_append, bsz, List.length_cons, List.length_nil]; omega
theorem k17 {x y z : NJ}  (hx : okJ x = true) (hy : okJ y = true) (hz : okJ z = true) : okJ (Ag 17 [x, y, z]) = true ∧ (spJ (Ag 17 [x, y, z])).size ≤ (spJ x).size + (spJ y).size + (spJ z).size + 19 := by
 unfold Ag; refine ⟨Bu (by simp [AJ, AE]) (by simp [Ac]) (by simp [okL, hx, hy, hz]), ?_⟩; rw [spJ]; simp only [Int.reduceEq, if_true, if_false, or_false, spL, List.getD_cons_zero, List.getD_cons_succ, List.tail_cons, Ba, ByteArray.size_append, bsz, List.length_cons, List.length_nil]; omega
theorem Ze {x : NJ}  (hx : okJ x = true) : okJ (Ag 18 [x]) = true ∧ (spJ (Ag 18 [x])).size ≤ (spJ x).size + 8 := by
 unfold Ag; refine ⟨Bu (by simp [AJ, AE]) (by simp [Ac]) (by simp [okL, hx]), ?_⟩; have tg0 := Di (List.map Av [x]) [spJ x] 0; have tg1 := Di (List.map Av [x]) [spJ x] 1; simp only [List.getD_cons_zero, List.getD_cons_succ, List.getD_nil, show ByteArray.size ⟨#[]⟩ = 0 from rfl] at tg0 tg1; rw [spJ]; simp only [Int.reduceEq, if_true, if_false, or_false, spL, List.getD_cons_zero, List.getD_cons_succ, List.getD_nil, List.tail_cons, Ba, ByteArray.size_append, show ByteArray.size ⟨#[]⟩ = 0 from rfl, bsz, List.length_cons, List.length_nil, show ¬ 0 + 1 = 2 by decide]; omega
theorem ZD {x y : NJ}  (hx : okJ x = true) (hy : okJ y = true) : okJ (Ag 18 [x, y]) = true ∧ (spJ (Ag 18 [x, y])).size ≤ (spJ x).size + (spJ y).size + 17 := by
 unfold Ag; refine ⟨Bu (by simp [AJ, AE]) (by simp [Ac]) (by simp [okL, hx, hy]), ?_⟩; have tg0 := Di (List.map Av [x, y]) [spJ x, spJ y] 0; have tg1 := Di (List.map Av [x, y]) [spJ x, spJ y] 1; simp only [List.getD_cons_zero, List.getD_cons_succ] at tg0 tg1; rw [spJ]; simp only [Int.reduceEq, if_true, if_false, or_false, spL, List.getD_cons_zero, List.getD_cons_succ, List.getD_nil, List.tail_cons, Ba, ByteArray.size_append, bsz, List.length_cons, List.length_nil, show 0 + 1 + 1 = 2 from rfl]; omega
theorem k19 {x y z : NJ} {s : ByteArray} (hs : Bf s = true) (hx : okJ x = true) (hy : okJ y = true) (hz : okJ z = true) : okJ (.mk 19 s 0 0 [x, y, z] []) = true ∧ (spJ (.mk 19 s 0 0 [x, y, z] [])).size ≤ (spJ x).size + (spJ y).size + (spJ z).size + s.size + 19 := by
 refine ⟨Bu (by simp [AJ, AE]) (by simp [Ac, hs]) (by simp [okL, hx, hy, hz]), ?_⟩; have tg0 := Di (List.map Av [x, y, z]) [spJ x, spJ y, spJ z] 0; have tg1 := Di (List.map Av [x, y, z]) [spJ x, spJ y, spJ z] 1; simp only [List.getD_cons_zero, List.getD_cons_succ] at tg0 tg1; rw [spJ]; simp only [Int.reduceEq, if_true, if_false, or_false, spL, List.getD_cons_zero, List.getD_cons_succ, List.tail_cons, Ba, ByteArray.size_append, bsz, List.length_cons, List.length_nil]; omega
theorem k20 {x y z u : NJ} {s : ByteArray} (hs : Bf s = true) (hx : okJ x = true) (hy : okJ y = true) (hz : okJ z = true) (hu : okJ u = true) : okJ (.mk 20 s 0 0 [x, y, z, u] []) = true ∧ (spJ (.mk 20 s 0 0 [x, y, z, u] [])).size ≤ (spJ x).size + (spJ y).size + (spJ z).size + (spJ u).size + s.size + 22 := by
 refine ⟨Bu (by simp [AJ, AE]) (by simp [Ac, hs]) (by simp [okL, hx, hy, hz, hu]), ?_⟩; have tg0 := Di (List.map Av [x, y, z, u]) [spJ x, spJ y, spJ z, spJ u] 0; have tg1 := Di (List.map Av [x, y, z, u]) [spJ x, spJ y, spJ z, spJ u] 1; simp only [List.getD_cons_zero, List.getD_cons_succ] at tg0 tg1; rw [spJ]; simp only [Int.reduceEq, if_true, if_false, or_true, spL, List.getD_cons_zero, List.getD_cons_succ, List.tail_cons, Ba, ByteArray.size_append, bsz, List.length_cons, List.length_nil, show ¬ ((20 : Int) = 19) by decide]; omega
theorem k21 {x y : NJ} {s : ByteArray} (hs : Bf s = true) (hx : okJ x = true) (hy : okJ y = true) : okJ (Ax 21 s x y) = true ∧ (spJ (Ax 21 s x y)).size ≤ (spJ x).size + (spJ y).size + s.size + 12 := by
 unfold Ax; refine ⟨Bu (by simp [AJ, AE]) (by simp [Ac, hs]) (by simp [okL, hx, hy]), ?_⟩; have tg0 := Di (List.map Av [x, y]) [spJ x, spJ y] 0; have tg1 := Di (List.map Av [x, y]) [spJ x, spJ y] 1; simp only [List.getD_cons_zero, List.getD_cons_succ] at tg0 tg1; rw [spJ]; simp only [Int.reduceEq, if_true, if_false, or_false, spL, List.getD_cons_zero, List.getD_cons_succ, List.getD_nil, List.tail_cons, Ba, ByteArray.size_append, bsz, List.length_cons, List.length_nil]; omega
theorem k16 {l : List NJ} (h2 : l.length % 2 = 0) (h : okL l = true) : okJ (Ag 16 l) = true ∧ (spJ (Ag 16 l)).size ≤ Cu 6 (spL l) + 2 := by
 unfold Ag; refine ⟨Bu (by simp [AJ, AE]) (by simp [Ac, h2]) h, ?_⟩; have := KY true (spL l); rw [spJ]; simp only [Int.reduceEq, if_true, if_false, or_false, ByteArray.size_append, bsz, List.length_cons, List.length_nil]; omega
theorem k23 {s : ByteArray} {l : List NJ} (hs : B7 s = true) (h : okL l = true) : okJ (.mk 23 s 0 0 l []) = true ∧ (spJ (.mk 23 s 0 0 l [])).size ≤ s.size + Cu 2 (spL l) + 2 := by
 refine ⟨Bu (by simp [AJ, AE]) (by simp [Ac, hs]) h, ?_⟩; have := GR ⟨#[59, 32]⟩ 2 (Nat.le_refl _) (spL l); rw [spJ]; simp only [Int.reduceEq, if_true, if_false, or_false]; split
 ·omega
 simp only [ByteArray.size_append, bsz, List.length_cons, List.length_nil]; omega
theorem k24 {s : ByteArray} {a : List ByteArray} {x y : NJ} (hs : B7 s = true) (ha : ∀ s ∈ a, BO s = true) (hx : okJ x = true) (hy : okJ y = true) : okJ (.mk 24 s 0 0 [x, y] a) = true ∧ (spJ (.mk 24 s 0 0 [x, y] a)).size ≤ (spJ x).size + (spJ y).size + s.size + Cu 2 a + 14 := by
 refine ⟨Bu (by simp [AJ, AE]) (by simp only [Ac]; simp [hs]; exact ha) (by simp [okL, hx, hy]), ?_⟩; have := GR ⟨#[59, 32]⟩ 2 (Nat.le_refl _) a; rw [spJ]; simp only [Int.reduceEq, if_true, if_false, or_false, spL, List.getD_cons_zero, List.getD_cons_succ]; split <;> (simp only [ByteArray.size_append, show ByteArray.size ⟨#[]⟩ = 0 from rfl, bsz, List.length_cons, List.length_nil]; omega)
theorem k8 {x y : NJ} (hx : okJ x = true) (hy : okJ y = true) : okJ (Ax 8 ⟨#[]⟩ x y) = true ∧ (spJ (Ax 8 ⟨#[]⟩ x y)).size ≤ (spJ x).size + (spJ y).size + 7 := by
 refine ⟨Bu (by simp [AJ, AE]) (by simp [Ac]) (by simp [okL, hx, hy]), ?_⟩; rw [I3 (s := ⟨#[124]⟩) (by omega) rfl]; simp only [ByteArray.size_append, bsz, List.length_cons, List.length_nil]; omega
theorem k9 {x y : NJ} (hx : okJ x = true) (hy : okJ y = true) : okJ (Ax 9 ⟨#[]⟩ x y) = true ∧ (spJ (Ax 9 ⟨#[]⟩ x y)).size ≤ (spJ x).size + (spJ y).size + 7 := by
 refine ⟨Bu (by simp [AJ, AE]) (by simp [Ac]) (by simp [okL, hx, hy]), ?_⟩; rw [I3 (s := ⟨#[44]⟩) (by omega) rfl]; simp only [ByteArray.size_append, bsz, List.length_cons, List.length_nil]; omega
theorem k11 {x y : NJ} (hx : okJ x = true) (hy : okJ y = true) : okJ (Ax 11 ⟨#[]⟩ x y) = true ∧ (spJ (Ax 11 ⟨#[]⟩ x y)).size ≤ (spJ x).size + (spJ y).size + 7 := by
 refine ⟨Bu (by simp [AJ, AE]) (by simp [Ac]) (by simp [okL, hx, hy]), ?_⟩; rw [I3 (s := ⟨#[97, 110, 100]⟩) (by omega) rfl]; simp only [ByteArray.size_append, bsz, List.length_cons, List.length_nil]; omega
theorem k12 {x y : NJ} (hx : okJ x = true) (hy : okJ y = true) : okJ (Ax 12 ⟨#[]⟩ x y) = true ∧ (spJ (Ax 12 ⟨#[]⟩ x y)).size ≤ (spJ x).size + (spJ y).size + 7 := by
 refine ⟨Bu (by simp [AJ, AE]) (by simp [Ac]) (by simp [okL, hx, hy]), ?_⟩; rw [I3 (s := ⟨#[111, 114]⟩) (by omega) rfl]; simp only [ByteArray.size_append, bsz, List.length_cons, List.length_nil]; omega
theorem k13 {x y : NJ} (hx : okJ x = true) (hy : okJ y = true) : okJ (Ax 13 ⟨#[]⟩ x y) = true ∧ (spJ (Ax 13 ⟨#[]⟩ x y)).size ≤ (spJ x).size + (spJ y).size + 7 := by
 refine ⟨Bu (by simp [AJ, AE]) (by simp [Ac]) (by simp [okL, hx, hy]), ?_⟩; rw [I3 (s := ⟨#[47, 47]⟩) (by omega) rfl]; simp only [ByteArray.size_append, bsz, List.length_cons, List.length_nil]; omega
theorem k10 {x y : NJ} {s : ByteArray} (hs : inB C6 s = true) (hx : okJ x = true) (hy : okJ y = true) : okJ (Ax 10 s x y) = true ∧ (spJ (Ax 10 s x y)).size ≤ (spJ x).size + (spJ y).size + s.size + 4 := by
 refine ⟨Bu (by simp [AJ, AE]) (by simp [Ac, hs]) (by simp [okL, hx, hy]), ?_⟩; rw [I3 (s := s) (by omega) rfl]; simp only [ByteArray.size_append, bsz, List.length_cons, List.length_nil]; omega
theorem k25 {x y : NJ} {s : ByteArray} (hs : inB Ez s = true) (hx : okJ x = true) (hy : okJ y = true) : okJ (Ax 25 s x y) = true ∧ (spJ (Ax 25 s x y)).size ≤ (spJ x).size + (spJ y).size + s.size + 4 := by
 refine ⟨Bu (by simp [AJ, AE]) (by simp [Ac, hs]) (by simp [okL, hx, hy]), ?_⟩; rw [I3 (s := s) (by omega) rfl]; simp only [ByteArray.size_append, bsz, List.length_cons, List.length_nil]; omega
open Go Go.RowKit Go.Proofs Th
mutual
/-- a node whose strings and joins are taken as they are printed -/
def psi : NJ → NJ
 | .mk k s m e l a => if k = 3 ∨ k = 4 then Cy (spJ (.mk k s m e l a)) else .mk k s m e (OL l) a
def OL : List NJ → List NJ
 | [] => []
 | n :: r => psi n :: OL r
end
theorem IF : ∀ l : List NJ, OL l = l.map psi
 | [] => by simp [OL]
 | n :: r => by rw [OL, IF r]; rfl
def cdQ (q : TK) : TK := if q.1 = 5 then (2, q.2) else q
theorem Ou : Gc psi cdQ := ⟨fun q h => if_neg h, fun x => by show HdK (2, x); exact ⟨by simp, by simp⟩, fun k s m e l a h3 h4 => by rw [psi, if_neg (by omega), IF]⟩
theorem KA {E : Env} {i : Nat} {s : ByteArray} (t0 : tk (Aa E i) = (2, s)) : evP E .first i = some (.ok (Cy s) (i + 1)) := by
 have hk : (Aa E i).kind = 2 := congrArg Prod.fst t0; have hx : (Aa E i).text = s := congrArg Prod.snd t0; rw [AD]; simp only [Ak]; rw [if_neg (by omega), if_pos hk, hx]; rfl
theorem LJ {n : NJ} (h : Av n = 3 ∨ Av n = 4) : psi n = Cy (spJ n) := by
 obtain ⟨k, s, m, e, l, a⟩ := n; have h : k = 3 ∨ k = 4 := h; rw [psi, if_pos h]
theorem RC (n : NJ) (hd : AB n ≤ 48) (hk : okJ n = true) : ∃ T, Rd psi cdQ n T := by
 refine TU Ou (fun _ => True) (fun _ _ _ _ _ _ _ _ _ _ _ => trivial) (fun s hv _ => ?_) (fun l h1 h2 h3 hk hd _ hr => ?_) (AB n) n (Nat.le_refl _) hd hk trivial
 ·refine Tq (n := Bg s) (s := s) (r := []) ?_ (by simp [Bg, AB]) (fun x hx => by cases hx) fun E i t0 => ?_
  ·unfold Bg
   rw [spJ]; simp only [Int.reduceEq, if_true, if_false]; rfl
  rw [LJ (n := Bg s) (.inl rfl)]; exact KA t0
 obtain ⟨s, r, e, hv, hx⟩ := SS _ l (Nat.le_refl _) h1 h3 hk; have hdd : AB (Ag 4 l) = 1 + Bt l := by unfold Ag; rw [AB]
 refine Tq (n := Ag 4 l) (s := s) (r := r) ?_ (by omega) (fun x hx2 => ?_) fun E i t0 => ?_
 ·unfold Ag
  rw [tl4, e, MP]
 ·obtain ⟨_, h2⟩ := hx x hx2
  have h7 : AB x.1 ≤ Bt l := Cz.1 (Nat.le_refl _) _ h2; exact ⟨hr x.1 h2 trivial, by omega⟩
 rw [LJ (n := Ag 4 l) (.inr rfl)]; exact KA t0
theorem YJ {L : List UInt8} {d a b : Nat} {l : List TK} (h : ScD L d a l b) : AL L b = L.length → ∀ {a' b' : Nat} {l' : List TK}, AL L a' = AL L a → ScD L d a' l' b' → AL L b' = L.length → l = l' := by
 have fin : ∀ {a : Nat} {t : Tf} {b : Nat}, AL L a = L.length → AF L d a = (t, b, 0) → t.kind ≠ 0 → False := fun {a t b} hs ho hk => by
  rw [B9, hs, Oq (Nat.le_refl _)] at ho; injection ho with ho _; exact hk (by rw [← ho]; rfl)
 induction h with
 | nil h =>
  intro hb a' b' l' ha h' hb'; cases h' with
  | nil _ => rfl
  | cons h2 hk _ => exact (fin (by rw [ha, h, hb]) h2 hk).elim
 | cons h hk hr ih =>
  intro hb a' b' l' ha h' hb'; cases h' with
  | nil h2 => exact (fin (by rw [← ha, h2, hb']) h hk).elim
  | cons h2 hk2 hr2 =>
   rw [Hf ha, h] at h2; injection h2 with e1 e2; injection e2 with e2 _; subst e1 e2; rw [ih hb rfl hr2 hb']
theorem ZI {n m : NJ} (hn : AB n ≤ 48) (hm : AB m ≤ 48) (kn : okJ n = true) (km : okJ m = true) (h : spJ n = spJ m) : psi n = psi m := by
 obtain ⟨T, r⟩ := RC n hn kn; obtain ⟨U, q⟩ := RC m hm km; have s1 := r.sc 48 hn [] rfl (tl (spJ n)) 0 (Nat.zero_le _) (by rw [List.drop_zero, List.append_nil]); have s2 := q.sc 48 hm [] rfl (tl (spJ n)) 0 (Nat.zero_le _) (by rw [List.drop_zero, List.append_nil, h]); have hT : T = U := YJ s1 (by rw [Nat.zero_add]; exact Jz _) rfl s2 (by rw [Nat.zero_add, h]; exact Jz _); subst hT; obtain ⟨E, hE⟩ : ∃ E : Env, E.l.map tk = T.map cdQ := ⟨⟨(T.map cdQ).map fun q => ⟨q.1, q.2, 0⟩, 0, 0⟩, by rw [List.map_map]; exact List.map_id _⟩
 have hat : AtK E 0 (T.map cdQ) := ⟨[], by rw [hE, List.append_nil]; rfl⟩; have hl : E.l.length = T.length := by have := congrArg List.length hE; simpa using this
 have hc : Cl (tk (Aa E (0 + T.length))) := by rw [Re (by omega)]; decide
 have e1 := r.flt Ou hat hc; have e2 := q.flt Ou hat hc; rw [e1] at e2; injection e2 with e2; injection e2
theorem Pw {a b : ByteArray} (ha : Lib.validD a.data.toList = true) (hb : Lib.validD b.data.toList = true) (h : Bk (tl a) = Bk (tl b)) : a = b := by
 have h1 := KD (tl a) ha []; have h2 := KD (tl b) hb []; have e : D8 (tl a) = D8 (tl b) := by unfold D8; rw [h]
 rw [e, h2] at h1; injection h1 with h1 _; exact (PE h1).symm
structure Qf (n : NJ) (s : ByteArray) (r : List (NJ × ByteArray)) : Prop where
 e : n = EL (Bg s :: B6 r)
 v : Lib.validD s.data.toList = true
 kd : ∀ x ∈ r, Lib.validD x.2.data.toList = true ∧ okJ x.1 = true ∧ AB x.1 + 1 ≤ AB n
 t : tl (spJ n) = 34 :: (jn (Bk (tl s)) (fps psi cdQ r) ++ [34])
theorem Fr : ∀ n : NJ, okJ n = true → Av n = 3 ∨ Av n = 4 → ∃ s r, Qf n s r
 | .mk k s m e l a, hk, h => by
  by_cases h3 : k = 3
  ·obtain ⟨s2, e2, hv⟩ := GQ _ hk h3
   rw [e2]; refine ⟨s2, [], rfl, hv, fun x hx => (by cases hx), ?_⟩; unfold Bg; rw [spJ]; simp only [Int.reduceEq, if_true, if_false]; rfl
  have h4 : k = 4 := h.resolve_left h3; subst h4; rw [okJ, Bool.and_eq_true, DW, List.all_eq_true] at hk; obtain ⟨h1, hkk⟩ := hk; unfold ES at h1; rw [Bool.and_eq_true] at h1; obtain ⟨hb, hf⟩ := h1; obtain ⟨bs, bm, ba⟩ := H7 hb; have h5 : (BU l = true ∧ 3 ≤ l.length) ∧ l.length % 2 = 1 := by simpa [Ac] using hf
  obtain rfl := bs.resolve_left (by decide); obtain ⟨rfl, rfl⟩ := bm.resolve_left (by decide); obtain rfl := ba.resolve_left (by decide); obtain ⟨s, r, e, hv, hx⟩ := SS _ l (Nat.le_refl _) h5.1.1 h5.2 hkk; refine ⟨s, r, ?_, hv, fun x hx2 => ⟨(hx x hx2).1, hkk _ (hx x hx2).2, ?_⟩, ?_⟩
  ·rw [e]
   cases r with
   | nil => rw [e] at h5; simp [B6] at h5
   | cons y r => rfl
  ·have := Cz.1 (Nat.le_refl (Bt l)) _ (hx x hx2).2
   rw [AB]; omega
  rw [tl4, e, MP]
theorem RB : ∀ (r q : List (NJ × ByteArray)), (∀ x ∈ r, Lib.validD x.2.data.toList = true ∧ ∀ y : NJ, okJ y = true → AB y ≤ 48 → spJ x.1 = spJ y → x.1 = y) → (∀ x ∈ q, Lib.validD x.2.data.toList = true ∧ okJ x.1 = true ∧ AB x.1 ≤ 48) →
  (fps psi cdQ r).map Fp.b = (fps psi cdQ q).map Fp.b → (fps psi cdQ r).map Fp.t = (fps psi cdQ q).map Fp.t → r = q
 | [], [], _, _, _, _ => rfl
 | [], _ :: _, _, _, h, _ => by cases h
 | _ :: _, [], _, _, h, _ => by cases h
 | (x, s) :: r, (y, t) :: q, hr, hq, h1, h2 => by
  simp only [fps, List.map_cons] at h1 h2; injection h1 with h1 h1r; injection h2 with h2 h2r; obtain ⟨v1, i1⟩ := hr (x, s) List.mem_cons_self; obtain ⟨v2, i2, i3⟩ := hq (y, t) List.mem_cons_self; have e1 : s = t := Pw v1 v2 h1; have e2 : x = y := i1 y i2 i3 (PE h2); rw [e1, e2, RB r q (fun z hz => hr z (List.mem_cons_of_mem _ hz)) (fun z hz => hq z (List.mem_cons_of_mem _ hz)) h1r h2r]
theorem U9 {n : NJ} {s : ByteArray} {r : List (NJ × ByteArray)} (h : Qf n s r) (hd : AB n ≤ 48) : ∀ x ∈ fps psi cdQ r, FpOk 47 x :=
 Uh (n := n) (fun x hx => ⟨RA (RC x.1 (by have := (h.kd x hx).2.2; omega) (h.kd x hx).2.1), (h.kd x hx).2.2⟩) 47 (by omega)
theorem T3 {n m : NJ} (hn : AB n ≤ 48) (hm : AB m ≤ 48) (kn : okJ n = true) (km : okJ m = true) (qn : Av n = 3 ∨ Av n = 4) (qm : Av m = 3 ∨ Av m = 4) (h : spJ n = spJ m)
  (ih : ∀ x y : NJ, AB x + 1 ≤ AB n → AB y ≤ 48 → okJ x = true → okJ y = true → spJ x = spJ y → x = y) : n = m := by
 obtain ⟨s, r, f⟩ := Fr n kn qn; obtain ⟨t, q, g⟩ := Fr m km qm; have hL1 : (tl (spJ n)).drop 1 = jn (Bk (tl s)) (fps psi cdQ r) ++ [34] := by rw [f.t]; rfl
 have hL2 : (tl (spJ n)).drop 1 = jn (Bk (tl t)) (fps psi cdQ q) ++ [34] := by rw [h, g.t]; rfl
 have hl1 := congrArg List.length f.t; have hl2 := congrArg List.length g.t; rw [← h] at hl2; simp only [List.length_cons, List.length_append, List.length_nil] at hl1 hl2; obtain ⟨p1, e1⟩ := K3 (d := 47) _ _ 1 ((tl (spJ n)).length + 1) [] [] [] (Kd _ _ (Nat.le_refl _)) (U9 f hn) hL1 (by omega); obtain ⟨p2, e2⟩ := K3 (d := 47) _ _ 1 ((tl (spJ n)).length + 1) [] [] [] (Kd _ _ (Nat.le_refl _)) (U9 g hm) hL2 (by omega); rw [e1] at e2; injection e2 with e2 e3 _; simp only [List.nil_append] at e2 e3; injection e2 with e2 e4; have es : s = t := Pw f.v g.v e2; have er : r = q := RB r q (fun x hx => ⟨(f.kd x hx).1, fun y ky hy hxy => ih x.1 y (f.kd x hx).2.2 hy (f.kd x hx).2.1 ky hxy⟩) (fun x hx => ⟨(g.kd x hx).1, (g.kd x hx).2.1, by have := (g.kd x hx).2.2; omega⟩) e4 e3; rw [f.e, g.e, es, er]
theorem OR : ∀ (l q : List NJ), (∀ x ∈ l, ∀ y : NJ, okJ y = true → AB y ≤ 48 → psi x = psi y → x = y) → (∀ y ∈ q, okJ y = true ∧ AB y ≤ 48) → l.map psi = q.map psi → l = q
 | [], [], _, _, _ => rfl
 | [], _ :: _, _, _, h => by cases h
 | _ :: _, [], _, _, h => by cases h
 | x :: l, y :: q, hl, hq, h => by
  simp only [List.map_cons] at h; injection h with h1 h2; obtain ⟨k1, k2⟩ := hq y List.mem_cons_self; rw [hl x List.mem_cons_self y k1 k2 h1, OR l q (fun z hz => hl z (List.mem_cons_of_mem _ hz)) (fun z hz => hq z (List.mem_cons_of_mem _ hz)) h2]
theorem Rc (d : Nat) (ih : ∀ x y : NJ, AB x + 1 ≤ d → AB y ≤ 48 → okJ x = true → okJ y = true → spJ x = spJ y → x = y) : ∀ (b : Nat) (n m : NJ), AB n ≤ b → b ≤ d → d ≤ 48 → AB m ≤ 48 → okJ n = true → okJ m = true → psi n = psi m → n = m
 | 0, .mk k s m e l a, _, hd, _, _, _, _, _, _ => by rw [AB] at hd; omega
 | b + 1, .mk k s m e l a, .mk k' s' m' e' l' a', hd, hb, h8, hm, kn, km, h => by
  have key : ∀ n2 m2 : NJ, okJ n2 = true → okJ m2 = true → (Av n2 = 3 ∨ Av n2 = 4) → ¬ (Av m2 = 3 ∨ Av m2 = 4) → psi n2 = psi m2 → False := fun n2 m2 k1 k2 q1 q2 hp => by
   obtain ⟨sx, rx, f⟩ := Fr n2 k1 q1; rw [LJ q1] at hp; obtain ⟨k2', s2, m2', e2, l2, a2⟩ := m2; have q2 : ¬ (k2' = 3 ∨ k2' = 4) := q2; rw [psi, if_neg q2] at hp; unfold Cy at hp; injection hp with h1 h2 h3 h4 h5 h6; subst h1; rw [okJ, Bool.and_eq_true] at k2; have hf := k2.1; unfold ES at hf; rw [Bool.and_eq_true] at hf; have hs : Bf s2 = true := by have := hf.2; simp [Ac] at this; exact this.2
   obtain ⟨c, v, e3, hc⟩ := JG hs; rw [← h2, f.t] at e3; injection e3 with e3 _; rw [← e3] at hc; cases hc
  by_cases q1 : k = 3 ∨ k = 4
  ·by_cases q2 : k' = 3 ∨ k' = 4
   ·have h2 : spJ (.mk k s m e l a) = spJ (.mk k' s' m' e' l' a') := by
     rw [LJ (n := .mk k s m e l a) q1, LJ (n := .mk k' s' m' e' l' a') q2] at h; unfold Cy at h; injection h
    exact T3 (by omega) hm kn km q1 q2 h2 fun x y hx => ih x y (by omega)
   exact (key _ _ kn km q1 q2 h).elim
  by_cases q2 : k' = 3 ∨ k' = 4
  ·exact (key _ _ km kn q2 q1 h.symm).elim
  rw [psi, psi, if_neg q1, if_neg q2, IF, IF] at h; injection h with h1 h2 h3 h4 h5 h6; subst h1 h2 h3 h4 h6; rw [okJ, Bool.and_eq_true, DW, List.all_eq_true] at kn km; rw [AB] at hd hm; have hl : l = l' := OR l l' (fun x hx y ky hy hxy => Rc d ih b x y (Cz.1 (show Bt l ≤ b by omega) x hx) (by omega) h8 hy (kn.2 x hx) ky hxy) (fun y hy => ⟨km.2 y hy, Cz.1 (show Bt l' ≤ 48 by omega) y hy⟩) h5; rw [hl]
theorem Tw : ∀ (d : Nat) (n m : NJ), AB n ≤ d → d ≤ 48 → AB m ≤ 48 → okJ n = true → okJ m = true → spJ n = spJ m → n = m
 | 0, .mk k s m e l a, _, hd, _, _, _, _, _ => by rw [AB] at hd; omega
 | d + 1, n, m, hd, h8, hm, kn, km, h =>
  Rc (d + 1) (fun x y hx hy kx ky hxy => Tw d x y (by omega) (by omega) hy kx ky hxy) (d + 1) n m hd (Nat.le_refl _) h8 hm kn km (ZI (by omega) hm kn km h)
def AWh (P : Program) (X : Ctx) (G : World → CS → Prop) (n : Nat) : Code → (AExit → ASt → Prop) → ASt → Prop
 | .seq a b, Q, s => AWh P X G n a (G9 (AW P X b Q) Q) s
 | .region _ ops false, Q, s => B0 P G n ops ops.toList s (fun s' => Q .normal s') (fun x s' => Q (.panic x) s')
 | c, Q, s => AW P X c Q s
theorem Zd {P : Program} {X : Ctx} {G : World → CS → Prop} {n : Nat} (F : Fit X G n) (c : Code) : ∀ (Q : AExit → ASt → Prop) (s : ASt), AWh P X G n c Q s → AW P X c Q s := by
 induction c with
 | seq a b iha _ => exact fun Q s h => AW.seq (iha _ s h)
 | region id ops d =>
  cases d
  ·exact fun Q s h => AO F h
  exact fun _ _ h => h
 | _ => exact fun _ _ h => h
theorem Ar {P : Program} {X : Ctx} {G : World → CS → Prop} {n : Nat} {c : Code} {Q : AExit → ASt → Prop} {s : ASt} (F : Fit X G n) (h : AWh P X G n c Q s) : AW P X c Q s := Zd F c Q s h
@[go_sem] theorem AWh_seq {P : Program} {X : Ctx} {G : World → CS → Prop} {n : Nat} {a b : Code} {Q : AExit → ASt → Prop} {s : ASt} : AWh P X G n (.seq a b) Q s = AWh P X G n a (G9 (AW P X b Q) Q) s := rfl
@[go_sem] theorem AWh_reg {P : Program} {X : Ctx} {G : World → CS → Prop} {n id : Nat} {ops : Array Oper} {Q : AExit → ASt → Prop} {s : ASt} : AWh P X G n (.region id ops false) Q s = B0 P G n ops ops.toList s (fun s' => Q .normal s') (fun x s' => Q (.panic x) s') := rfl
theorem Aq : type_of% @AW.seq := @AW.seq
theorem Af : type_of% @OE := @OE
theorem At : type_of% @Ol := @Ol
theorem As : type_of% @AW.skip := @AW.skip
theorem Au : type_of% @AW.ret := @AW.ret
theorem Ae : type_of% @AW.exit := @AW.exit
theorem Ab : type_of% @AW.block := @AW.block
theorem Ad : type_of% @Ux := @Ux
theorem rng (x : Int) (h : -9223372036854775808 ≤ x ∧ x ≤ 9223372036854775807) : -9223372036854775808 ≤ x ∧ x ≤ 9223372036854775807 := h
end Go.Proofs.YtakncilicoefdaaGreatDoor
