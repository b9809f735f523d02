/- Lemmas and contracts. Conditions: those that each lemma names. -/
import Derived.Test.YtakncilicoefdaaGreatDoorPt20
set_option maxRecDepth 100000
set_option maxHeartbeats 4000000
namespace Go.Proofs.YtakncilicoefdaaGreatDoor
open Go Go.RowKit Go.Proofs Th
def DF (M : List Nat) : FV → FV
 | .own k n => if k ∈ M then .own k n else .junk
 | .ptr b o => if b ∈ M then .ptr b o else .junk
 | .pin b p => if b ∈ M then .pin b p else .junk
 | c => c
def Mq (M : List Nat) : AObj → AObj
 | .box cs => .box (cs.map (DF M))
 | x => x
def Eo (L M : List Nat) (s : ASt) : ASt := mkS (L.map fun t => (t, DF M (s.fr t))) (M.map fun b => (b, Mq M (s.st b)))
theorem JE {α : Type} (d : α) (g : Nat → α) : ∀ (L : List Nat) (t : Nat), Cg d (L.map fun t => (t, g t)) t = if t ∈ L then g t else d
 | [], t => by simp [Cg]
 | k :: r, t => by
  simp only [List.map_cons, Cg, JE d g r t, List.mem_cons]; by_cases h : t = k
  ·subst h; simp
  simp [h]
theorem Rel.prune {X : Ctx} {s : ASt} {a : Act} {W : World} (L M : List Nat) (hM : 1000 ∈ M) (h : Rel X s a W) : Rel X (Eo L M s) a W := by
 obtain ⟨E, S, h⟩ := h; have hst : ∀ id, (Eo L M s).st id = if id ∈ M then Mq M (s.st id) else .none := fun id => JE _ _ M id
 have hF : ∀ c u, Bv W S E s.st c u → Bv W S E (Eo L M s).st (DF M c) u := by
  intro c u hc; cases c with
  | junk => trivial
  | im x => exact hc
  | own k n =>
   obtain ⟨ty, esz, es, h1, h2⟩ := hc; by_cases hk : k ∈ M
   ·rw [show DF M (.own k n) = .own k n from if_pos hk]
    exact ⟨ty, esz, es, by rw [hst, if_pos hk, h1]; rfl, h2⟩
   rw [show DF M (.own k n) = .junk from if_neg hk]; trivial
  | ptr b o =>
   obtain ⟨⟨cs, h1⟩, h2⟩ := hc; by_cases hk : b ∈ M
   ·rw [show DF M (.ptr b o) = .ptr b o from if_pos hk]
    exact ⟨⟨_, by rw [hst, if_pos hk, h1]; rfl⟩, h2⟩
   rw [show DF M (.ptr b o) = .junk from if_neg hk]; trivial
  | pin b p =>
   obtain ⟨⟨cs, h1⟩, h2⟩ := hc; by_cases hk : b ∈ M
   ·rw [show DF M (.pin b p) = .pin b p from if_pos hk]
    exact ⟨⟨_, by rw [hst, if_pos hk, h1]; rfl⟩, h2⟩
   rw [show DF M (.pin b p) = .junk from if_neg hk]; trivial
 have hbk : ∀ i g, blk E i ((Eo L M s).st i) = some g → blk E i (s.st i) = some g := fun i g hg => by
  rw [hst] at hg; by_cases hi : i ∈ M
  ·rw [if_pos hi] at hg
   cases hs : s.st i <;> rw [hs] at hg <;> exact hg
  rw [if_neg hi] at hg; cases hg
 refine ⟨E, S, h.sz, h.df, fun t => ?_, fun id => ?_, fun i j g hi hj => h.ap i j g (hbk i g hi) (hbk j g hj), h.Sb, h.S0, h.Sn, h.u, h.g, h.pk, fun hr => ?_⟩
 ·show Bv W S E _ (Cg .junk (L.map fun t => (t, DF M (s.fr t))) t) _
  rw [JE (g := fun t => DF M (s.fr t))]; split
  ·exact hF _ _ (h.fr t)
  trivial
 ·rw [hst]
  have ho := h.ob id; by_cases hi : id ∈ M
  ·rw [if_pos hi]
   cases hs : s.st id with
   | none => trivial
   | box cs =>
    rw [hs] at ho; obtain ⟨⟨us, hl, hB, h4, h5, h6⟩, h7⟩ := ho; refine ⟨⟨us, by simp [hl], hB, h4, fun i c u hc hu => ?_, h6⟩, h7⟩; rw [List.getElem?_map] at hc; cases hq : cs[i]? with
    | none => rw [hq] at hc; cases hc
    | some q =>
     rw [hq] at hc; simp only [Option.map_some, Option.some.injEq] at hc; subst hc; exact hF _ _ (h5 i q u hq hu)
   | row ty esz es => rw [hs] at ho; exact ho
  rw [if_neg hi]; trivial
 obtain ⟨cs, hcs⟩ := h.bk hr; exact ⟨_, by rw [hst, if_pos hM, hcs]; rfl⟩
theorem AW.prune {P : Program} {X : Ctx} {c : Code} {Q : AExit → ASt → Prop} {s : ASt} (L M : List Nat) (hM : 1000 ∈ M) (h : AW P X c Q (Eo L M s)) : AW P X c Q s := fun a W hR => h a W (hR.prune L M hM)
theorem A9 {P : Program} {X : Ctx} {c : Code} {Q : AExit → ASt → Prop} {s : ASt} (L M : List Nat) (hM : 1000 ∈ M) (I : Nat → ASt → Prop) (n : Nat) (h0 : I n (Eo L M s)) (hround : ∀ n s, I n s → AW P X c (FH (fun s' => ∃ m, m < n ∧ I m (Eo L M s')) Q) s) : AW P X (.loop c) Q s :=
 AW.prune L M hM (AW.loop I n h0 fun n s hI a W hR => wp_mono (hround n s hI a W hR) fun e a' W' hq => by
  cases e with
  | normal => obtain ⟨s', hR', hK⟩ := hq; exact ⟨_, hR'.prune L M hM, hK⟩
  | _ => exact hq)
theorem Dk {R : Nat → Prop} {W W' : World} (h : Below W.heap.size W W') : UpdR R W W' := ⟨h.os, h.tape, h.output, h.size, fun k hk _ => h.block k hk⟩
theorem CP {P : Program} {G : World → CS → Prop} {f : FuncId} {us : List Value} {v : Value} (hf : ∃ fn, P.funcs[f]? = some fn ∧ fn.body.isNone = false ∧ (fn.name == "runtime.NumGoroutine") = false)
  (h : ∀ W S, G W S → Calls P f us.toArray W fun e W' => e = .returned v ∧ Below W.heap.size W W') : ACalls P G f none (us.map IV.v) (.ret (.v v) []) := by
 refine ⟨hf, fun W S p ws hG hSb _ hws => ?_⟩; have hwu : ∀ (us ws : List Value), RepL W S (us.map IV.v) ws → ws = us := by
  intro us; induction us with
  | nil => intro ws h; exact List.eq_nil_of_length_eq_zero h.1
  | cons u r ih =>
   intro ws h; cases ws with
   | nil => exact absurd h.1 (by simp)
   | cons w ws =>
    rw [Cz (h.2 0 (IV.v u) w rfl rfl), ih ws ⟨by simpa using h.1, fun i x u hx hu => h.2 (i + 1) x u hx hu⟩]
 obtain rfl := hwu us ws hws; exact (h W S hG).mono fun e W' ⟨he, hb⟩ => ⟨⟨v, he, .v v⟩, fun h => (by cases h), Dk hb⟩
theorem Ao {P : Program} {X : Ctx} {G : World → CS → Prop} {n id : Nat} {ops : Array Oper} {Q : AExit → ASt → Prop} {s : ASt} (F : Fit X G n) (h : B9 P G n ops ops.toList s (fun s' => Q .normal s') (fun x s' => Q (.panic x) s')) : AW P X (.region id ops false) Q s :=
 AW.region n F.n (by rw [F.g]; exact h)
theorem Qo {P : Program} {X : Ctx} {G : World → CS → Prop} {n id : Nat} {ops : Array Oper} {Q : AExit → ASt → Prop} {s : ASt} (F : Fit X G n) (π : List Nat) (U : List (Nat × Nat)) [PanicOK Q] (hm : P.follows .mixedOrders = true) (hd : H7 ops π U = true) (h : B3 P G n ops U π [] s (fun s' => Q .normal s') (fun x s' => Q (.panic x) s')) : AW P X (.region id ops true) Q s :=
 Ut n F.n π U hm hd (by rw [F.g]; exact h)
theorem Ak {P : Program} {X : Ctx} {c : Operand} {x y : Code} {Q : AExit → ASt → Prop} {s : ASt} (h : ∃ t, Aw s c = .im (.v (.bool t)) ∧ (t = true → AW P X x Q s) ∧ (t = false → AW P X y Q s)) : AW P X (.cond c x y) Q s := by
 obtain ⟨t, hc, h1, h2⟩ := h; exact AW.cond t hc h1 h2
theorem NE {P : Program} {X : Ctx} {c : Operand} {x y : Code} {Q : AExit → ASt → Prop} {s : ASt} (hc : Aw s c = .im (.v (.bool true))) (h : AW P X x Q s) : AW P X (.cond c x y) Q s := AW.cond true hc (fun _ => h) (fun h => by cases h)
theorem Nx {P : Program} {X : Ctx} {c : Operand} {x y : Code} {Q : AExit → ASt → Prop} {s : ASt} (hc : Aw s c = .im (.v (.bool false))) (h : AW P X y Q s) : AW P X (.cond c x y) Q s := AW.cond false hc (fun h => by cases h) (fun _ => h)
def AWh (P : Program) (X : Ctx) (G : World → CS → Prop) (n : Nat) : Code → (AExit → ASt → Prop) → ASt → Prop
 | .seq a b, Q, s => AWh P X G n a (FH (AW P X b Q) Q) s
 | .region _ ops false, Q, s => B9 P G n ops ops.toList s (fun s' => Q .normal s') (fun x s' => Q (.panic x) s')
 | c, Q, s => AW P X c Q s
theorem Wi {P : Program} {X : Ctx} {G : World → CS → Prop} {n : Nat} (F : Fit X G n) (c : Code) : ∀ (Q : AExit → ASt → Prop) (s : ASt), AWh P X G n c Q s → AW P X c Q s := by
 induction c with
 | seq a b iha _ => exact fun Q s h => AW.seq (iha _ s h)
 | region id ops d =>
  cases d
  ·exact fun Q s h => Ao F h
  exact fun _ _ h => h
 | _ => exact fun _ _ h => h
theorem Ar {P : Program} {X : Ctx} {G : World → CS → Prop} {n : Nat} {c : Code} {Q : AExit → ASt → Prop} {s : ASt} (F : Fit X G n) (h : AWh P X G n c Q s) : AW P X c Q s := Wi F c Q s h
@[go_sem] theorem AWh_seq {P : Program} {X : Ctx} {G : World → CS → Prop} {n : Nat} {a b : Code} {Q : AExit → ASt → Prop} {s : ASt} : AWh P X G n (.seq a b) Q s = AWh P X G n a (FH (AW P X b Q) Q) s := rfl
@[go_sem] theorem AWh_reg {P : Program} {X : Ctx} {G : World → CS → Prop} {n id : Nat} {ops : Array Oper} {Q : AExit → ASt → Prop} {s : ASt} : AWh P X G n (.region id ops false) Q s = B9 P G n ops ops.toList s (fun s' => Q .normal s') (fun x s' => Q (.panic x) s') := rfl
theorem Aq : type_of% @AW.seq := @AW.seq
theorem Af : type_of% @Nx := @Nx
theorem At : type_of% @NE := @NE
theorem As : type_of% @AW.skip := @AW.skip
theorem Au : type_of% @AW.ret := @AW.ret
theorem Ae : type_of% @AW.exit := @AW.exit
theorem Ab : type_of% @AW.block := @AW.block
theorem Ad : type_of% @Qo := @Qo
theorem rng (x : Int) (h : -9223372036854775808 ≤ x ∧ x ≤ 9223372036854775807) : -9223372036854775808 ≤ x ∧ x ≤ 9223372036854775807 := h
end Go.Proofs.YtakncilicoefdaaGreatDoor
