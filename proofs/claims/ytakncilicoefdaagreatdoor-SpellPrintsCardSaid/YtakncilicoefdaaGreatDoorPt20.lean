/- Lemmas and contracts. Conditions: those that each lemma names. -/
import Derived.Test.YtakncilicoefdaaGreatDoorPt19
set_option maxRecDepth 100000
set_option maxHeartbeats 4000000
namespace Go.Proofs.YtakncilicoefdaaGreatDoor
open Go Go.RowKit Go.Proofs Th
def Cg {α : Type} (d : α) : List (Nat × α) → Nat → α
 | [], _ => d
 | (k, x) :: r, t => if t = k then x else Cg d r t
def Fj (k : Nat) : List IV → List (Nat × FV)
 | [] => []
 | x :: r => (k, .im x) :: Fj (k + 1) r
def mkS (l : List (Nat × FV)) (m : List (Nat × AObj)) : ASt := ⟨Cg .junk l, Cg .none m⟩
def ET : Option (List IV) → List IV → ASt
 | some cs, xa => mkS ((0, .ptr 1000 0) :: Fj 1 xa) [(1000, .box (cs.map FV.im))]
 | none, xa => mkS (Fj 0 xa) []
def IB (st : Nat → AObj) (ti : Option TI) (cs : List FV) (o : Nat) : Option IV := match ti with
 | some (.struct _ z) => match DG st ((cs.drop o).take z.length) with
  | some xs => if xs.length = z.length then some (.agg xs) else none
  | none => none
 | some _ => match cs[o]? with
  | some c => CX st c
  | none => none
 | none => none
def NW (P : Program) (s : ASt) : ResultVar → Option IV
 | .tmp t => CX s.st (s.fr t)
 | .cell t ty => match s.fr t with
  | .ptr b o => (match s.st b with
   | .box cs => IB s.st (Bx P ty) cs o
   | _ => none)
  | _ => none
def FA (P : Program) (s : ASt) : List ResultVar → Option (List IV)
 | [] => some []
 | x :: r => match NW P s x, FA P s r with
  | some y, some l => some (y :: l)
  | _, _ => none
def GZ : List IV → IV
 | [v] => v
 | l => .tup l
def Ih : List FV → Option (List IV)
 | [] => some []
 | .im x :: r => match Ih r with
  | some l => some (x :: l)
  | none => none
 | _ => none
def Gv (s : ASt) : Option (List IV) := match s.st 1000 with
 | .box cs => Ih cs
 | _ => some []
def KL (P : Program) (fn : Func) (res : ARes) : AExit → ASt → Prop
 | .normal, s => ∃ l rc, FA P s fn.results.toList = some l ∧ Gv s = some rc ∧ res = .ret (GZ l).er rc
 | .ret, s => ∃ l rc, FA P s fn.results.toList = some l ∧ Gv s = some rc ∧ res = .ret (GZ l).er rc
 | .panic x, _ => res = .pan x
 | _, _ => False
instance {P : Program} {fn : Func} {res : ARes} : PanicOK (KL P fn res) := ⟨fun _ _ _ _ h => h⟩
theorem LS {X : Ctx} {E : AEnv} {S : CS} {s : ASt} {W : World} : ∀ {cs : List FV} {us : List Value} {xs : List IV}, us.length = cs.length → (∀ (i : Nat) c u, cs[i]? = some c → us[i]? = some u → Bv W S E s.st c u) → Ih cs = some xs → RepL W S xs us
 | [], us, xs, hl, _, hx => by
  injection hx with hx; subst hx; obtain rfl : us = [] := List.eq_nil_of_length_eq_zero hl; exact RepL.nil W S
 | .im x :: r, us, xs, hl, hr, hx => by
  cases us with
  | nil => cases hl
  | cons u us =>
   simp only [Ih] at hx; split at hx
   ·rename_i l h1
    injection hx with hx; subst hx; exact RepL.cons (hr 0 _ u rfl rfl) (LS (X := X) (E := E) (s := s) (by simpa using hl) (fun i c' u' hc hu => hr (i + 1) c' u' hc hu) h1)
   cases hx
 | .junk :: r, us, xs, hl, hr, hx => by cases hx
 | .own _ _ :: r, us, xs, hl, hr, hx => by cases hx
 | .ptr _ _ :: r, us, xs, hl, hr, hx => by cases hx
 | .pin _ _ :: r, us, xs, hl, hr, hx => by cases hx
def ND (tmps : Array Value) : ResultVar → Sem Value
 | .tmp t => pure (tmps.getD t undef)
 | .cell a t => do loadVar t (← asAddr (tmps.getD a undef))
theorem R4 (fn : Func) (tmps : Array Value) : results fn tmps = (do
  let vs ← fn.results.mapM (ND tmps)
  pure (if h : vs.size = 1 then vs[0] else .tuple vs)) := by
 unfold results; congr 1
theorem OB {st : Nat → AObj} {ti : Option TI} {cs : List FV} {o : Nat} {x : IV} (h : IB st ti cs o = some x) : Dr st ti cs o fun c => CX st c = some x := by
 cases ti with
 | none => cases h
 | some ti =>
  cases ti with
  | struct fs z =>
   simp only [IB] at h; simp only [Dr]; split at h
   ·rename_i xs hxs
    split at h
    ·rename_i h1
     rw [hxs]; exact ⟨h1, h⟩
    cases h
   cases h
  | _ =>
   simp only [IB] at h; simp only [Dr]; split at h
   ·rename_i c hc; rw [hc]; exact h
   cases h
section
variable {P : Program} {X : Ctx} {E : AEnv} {S : CS} {s : ASt} {a : Act} {W : World}
theorem Ss (h : RelE X E S s a W) {r : ResultVar} {x : IV} (hx : NW P s r = some x) : ∃ u, (ND a.tmps r).run P W = .ok u W ∧ Rep W S x u := by
 cases r with
 | tmp t => exact ⟨_, rfl, D8 h (h.fr t) hx⟩
 | cell t ty =>
  simp only [NW] at hx; split at hx
  ·rename_i b o ht
   split at hx
   ·rename_i cs hb
    have hob := h.ob b; rw [hb] at hob; obtain ⟨⟨us, hul, hB, hu1, hur, hS⟩, hloc⟩ := hob; have hal := OB hx; obtain ⟨c, u, h1, h2, h3⟩ := Hc h hal (E.box b) 0 us hul (fun j u hu => by rw [Nat.zero_add]; exact hB.cell j u hu) hur; rw [Nat.zero_add] at h2; have hp := h.fr t; rw [ht] at hp; refine ⟨u, ?_, D8 h h3 h1⟩; simp only [ND, hp.2, asAddr, Sem.run_bind, Sem.run_pure, Result.andThen_ok]; simpa [Instr.loadAt, Instr.sureAddr] using h2
   cases hx
  cases hx
theorem N1 (h : RelE X E S s a W) : ∀ {l : List ResultVar} {xs : List IV}, FA P s l = some xs → ∃ us : List Value, (l.mapM (ND a.tmps)).run P W = .ok us W ∧ RepL W S xs us
 | [], xs, hx => by
  injection hx with hx; subst hx; exact ⟨[], by simp, RepL.nil W S⟩
 | r :: l, xs, hx => by
  simp only [FA] at hx; split at hx
  ·rename_i y ys hy hys
   injection hx with hx; subst hx; obtain ⟨u, h1, h2⟩ := Ss h hy; obtain ⟨us, h3, h4⟩ := N1 h hys; refine ⟨u :: us, ?_, RepL.cons h2 h4⟩; rw [List.mapM_cons]; simp only [Sem.run_bind, h1, h3, Result.andThen_ok, Sem.run_pure]
  cases hx
theorem IQ (h : RelE X E S s a W) {fn : Func} {xs : List IV} (hx : FA P s fn.results.toList = some xs) : ∃ u, (results fn a.tmps).run P W = .ok u W ∧ Rep W S (GZ xs).er u := by
 obtain ⟨us, h1, h2⟩ := N1 h hx; have hrun : (fn.results.mapM (ND a.tmps)).run P W = .ok us.toArray W := by
  rw [Array.mapM_eq_mapM_toList]; simp only [Sem.run_map, h1]; rfl
 rw [R4]; simp only [Sem.run_bind, hrun, Result.andThen_ok, Sem.run_pure]; cases us with
 | nil =>
  obtain rfl : xs = [] := List.eq_nil_of_length_eq_zero h2.1.symm; exact ⟨_, rfl, Rep.er (.tup h2.1 h2.2)⟩
 | cons u us =>
  cases us with
  | nil =>
   obtain ⟨y, rfl⟩ : ∃ y, xs = [y] := List.length_eq_one_iff.1 h2.1.symm
   exact ⟨_, rfl, Rep.er (h2.2 0 y u rfl rfl)⟩
  | cons u2 us =>
   refine ⟨_, rfl, ?_⟩; have hxs : GZ xs = .tup xs := by
    have := h2.1; match xs, this with
    | [], h => cases h
    | [y], h => simp at h
    | _ :: _ :: _, _ => rfl
   rw [hxs]; have := Rep.er (Rep.tup h2.1 h2.2); simpa using this
end
def GK (G : World → CS → Prop) : Prop := ∀ W W' S S', G W S → (∀ g o, S g o → W'.cell? ⟨g, o, none⟩ = W.cell? ⟨g, o, none⟩) → (∀ g o, S g o → S' g o) → G W' S'
structure Fit (X : Ctx) (G : World → CS → Prop) (n : Nat) : Prop where
 g : X.G = G
 n : n ≤ X.N
theorem IF : ∀ (xa : List IV) (k t : Nat), Cg .junk (Fj k xa) t = if k ≤ t then (match xa[t - k]? with | some x => FV.im x | none => .junk) else .junk
 | [], k, t => by simp [Fj, Cg]
 | x :: r, k, t => by
  simp only [Fj, Cg]; by_cases h : t = k
  ·subst h; simp
  rw [if_neg h, IF r (k + 1) t]; by_cases h2 : k ≤ t
  ·rw [if_pos h2, if_pos (by omega), show t - k = (t - (k + 1)) + 1 by omega]; rfl
  rw [if_neg h2, if_neg (by omega)]
section
variable {P : Program} {G : World → CS → Prop} {f : FuncId} {fn : Func} {c : Code} {rc : Option (List IV)} {xa : List IV} {res : ARes} {n : Nat}
theorem MF (_us : List Value) (k : Nat) (vs : List Value) (xs : List IV) (W : World) (S : CS) (E : AEnv) (st : Nat → AObj) (hR : RepL W S xs vs) (pre : List Value) (hpre : pre.length = k) (t : Nat) (hkt : k ≤ t) (rest : List Value) :
  Bv W S E st (match xs[t - k]? with | some x => FV.im x | none => .junk) ((pre ++ (vs ++ rest)).toArray.getD t undef) := by
 cases hx : xs[t - k]? with
 | none => trivial
 | some x =>
  have hlt := (List.getElem?_eq_some_iff.1 hx).1; have hv : vs[t - k]? = some (vs[t - k]'(by rw [hR.1]; exact hlt)) := List.getElem?_eq_getElem _; have : (pre ++ (vs ++ rest)).toArray.getD t undef = vs[t - k]'(by rw [hR.1]; exact hlt) := by
   rw [Array.getD_eq_getD_getElem?]; have : (pre ++ (vs ++ rest)).toArray[t]? = some (vs[t - k]'(by rw [hR.1]; exact hlt)) := by
    rw [List.getElem?_toArray, List.getElem?_append_right (by omega), hpre, List.getElem?_append_left (by rw [hR.1]; exact hlt)]; exact hv
   rw [this]; rfl
  rw [this]; exact hR.2 _ x _ hx hv
theorem N2 {X : Ctx} {E' : AEnv} {S S' : CS} {s : ASt} {a : Act} {W W' : World} {p : Nat} (hW0 : X.W0 = W) (hS0 : X.S0 = S) (hR : X.R = fun k => rc.isSome = true ∧ k = p) (hp : X.p = p) (h : RelE X E' S' s a W') {rc' : List IV} (hrc : Gv s = some rc') (hrcv : X.rcv = rc.isSome) (hSp : rc.isSome = true → (∀ o, ¬ S p o) ∧ p < W.heap.size) :
  (∀ (v : IV) u, Rep W' S' v u → Rep W' (D3 W W' S) v u) ∧ (rc.isSome = true → PE W' (D3 W W' S) p rc') ∧ UpdR (fun k => rc.isSome = true ∧ k = p) W W' := by
 have hsub : ∀ g o, S' g o → D3 W W' S g o := fun g o ho => by
  rcases h.Sn g o ho with h1 | h1
  ·exact Or.inl (by rw [hS0] at h1; exact h1)
  exact Or.inr ⟨by rw [hW0] at h1; exact h1, h.Sb g o ho⟩
 refine ⟨fun v u hv => hv.keep (fun _ _ _ => rfl) hsub, fun hs => ?_, by have := h.u; rwa [hR, hW0] at this⟩; obtain ⟨cs, hcs⟩ := h.bk (by rw [hrcv]; exact hs); have hob := h.ob 1000; rw [hcs] at hob; obtain ⟨⟨vs, hul, hB, hu1, hur, hSS⟩, hloc⟩ := hob; have hEp : E'.box 1000 = p := h.pk.trans hp; rw [hEp] at hB hSS; unfold Gv at hrc; rw [hcs] at hrc; have hims := LS (X := X) (E := E') (s := s) (W := W') (S := S') hul hur hrc; refine ⟨vs, hB, hims.keep (fun _ _ _ => rfl) hsub, hu1, fun o ho => ?_⟩; obtain ⟨h1, h2⟩ := hSp hs; rcases ho with ho | ho
 ·exact h1 o ho
 omega
theorem Rm {X : Ctx} {E' : AEnv} {S S' : CS} {s : ASt} {a : Act} {W W' : World} {p : Nat} (hW0 : X.W0 = W) (_hS0 : X.S0 = S) (hR : X.R = fun k => rc.isSome = true ∧ k = p) (hp : X.p = p) (h : RelE X E' S' s a W') (hrcv : X.rcv = rc.isSome) (hSp : rc.isSome = true → (∀ o, ¬ S p o) ∧ p < W.heap.size) :
  True ∧ (rc.isSome = true → TJ W' (D3 W W' S) p) ∧ UpdR (fun k => rc.isSome = true ∧ k = p) W W' := by
 refine ⟨trivial, fun hs => ?_, by have := h.u; rwa [hR, hW0] at this⟩; obtain ⟨cs, hcs⟩ := h.bk (by rw [hrcv]; exact hs); have hob := h.ob 1000; rw [hcs] at hob; obtain ⟨⟨vs, hul, hB, hu1, hur, hSS⟩, hloc⟩ := hob; have hEp : E'.box 1000 = p := h.pk.trans hp; rw [hEp] at hB hSS; refine ⟨vs, hB, hu1, fun o ho => ?_⟩; obtain ⟨h1, h2⟩ := hSp hs; rcases ho with ho | ho
 ·exact h1 o ho
 omega
theorem ACalls.enter (hf : P.funcs[f]? = some fn) (hb : fn.body = some c) (hnm : (fn.name == "runtime.NumGoroutine") = false) (gk : GK G) (hn : fn.ntmps = n) (h : ∀ X : Ctx, Fit X G n → AW P X c (KL P fn res) (ET rc xa)) : ACalls P G f rc xa res := by
 refine ⟨⟨fn, hf, by rw [hb]; rfl, hnm⟩, fun W S p us hG hSb hrc hus => ?_⟩; have harr : ∀ (l : List Value) k, l.toArray ++ Array.replicate k undef = (l ++ List.replicate k undef).toArray := fun l k => by simp
 obtain ⟨X, hX⟩ : ∃ X : Ctx, X = ⟨W, S, fun k => rc.isSome = true ∧ k = p, ((Df rc p us).toArray ++ Array.replicate (fn.ntmps - (Df rc p us).toArray.size) undef).size, p, rc.isSome, G, gk, []⟩ := ⟨_, rfl⟩
 have hSp : rc.isSome = true → (∀ o, ¬ S p o) ∧ p < W.heap.size := fun hs => by
  cases hrc' : rc with
  | none => rw [hrc'] at hs; cases hs
  | some cs => obtain ⟨rus, hB, hrl, h1, hS⟩ := hrc cs hrc'; exact ⟨hS, hB.lt⟩
 have hFit : Fit X G n := ⟨by rw [hX], by rw [hX, ← hn]; simp; omega⟩; have hrel : RelE X ⟨fun _ => p, fun _ => undef⟩ S (ET rc xa) { tmps := (Df rc p us).toArray ++ Array.replicate (fn.ntmps - (Df rc p us).toArray.size) undef, defers := [] } W := by
  cases hrc' : rc with
  | none =>
   refine ⟨by rw [hX, hrc'], by rw [hX], fun t => ?_, fun id => trivial, fun i j g hi _ => (by cases hi), hSb, fun g o ho => by rw [hX] at ho; exact ho, fun g o ho => Or.inl (by rw [hX]; exact ho), by rw [hX]; exact UpdR.refl _ _, by rw [hX]; exact hG, by rw [hX], fun h => by rw [hX, hrc'] at h; cases h⟩; show Bv W S _ _ (Cg .junk (Fj 0 xa) t) (((Df none p us).toArray ++ Array.replicate (fn.ntmps - (Df none p us).toArray.size) undef).getD t undef)
   rw [IF, if_pos (Nat.zero_le _), harr]; exact MF us 0 us xa W S _ _ hus [] rfl t (Nat.zero_le _) _
  | some cs =>
   obtain ⟨rus, hB, hrl, h1, hS⟩ := hrc cs hrc'; have hst : ∀ id, (ET (some cs) xa).st id = if id = 1000 then .box (cs.map FV.im) else .none := fun id => rfl
   have hlive : ∀ i g, blk ⟨fun _ => p, fun _ => undef⟩ i ((ET (some cs) xa).st i) = some g → i = 1000 := fun i g hi => by
    rw [hst] at hi; by_cases h9 : i = 1000
    ·exact h9
    rw [if_neg h9] at hi; cases hi
   refine ⟨by rw [hX, hrc'], by rw [hX], fun t => ?_, fun id => ?_, fun i j g hi hj => (hlive i g hi).trans (hlive j g hj).symm, hSb, fun g o ho => by rw [hX] at ho; exact ho, fun g o ho => Or.inl (by rw [hX]; exact ho), by rw [hX]; exact UpdR.refl _ _, by rw [hX]; exact hG, by rw [hX], fun _ => ⟨cs.map FV.im, rfl⟩⟩
   ·show Bv W S _ _ (if t = 0 then FV.ptr 1000 0 else Cg .junk (Fj 1 xa) t) (((Df (some cs) p us).toArray ++ Array.replicate (fn.ntmps - (Df (some cs) p us).toArray.size) undef).getD t undef)
    by_cases ht : t = 0
    ·subst ht
     rw [if_pos rfl]; refine ⟨⟨cs.map FV.im, rfl⟩, ?_⟩; rw [harr]; rfl
    rw [if_neg ht, IF, if_pos (by omega), harr]; exact MF us 1 us xa W S _ _ hus [.pointer (some ⟨p, 0, none⟩)] rfl t (by omega) _
   rw [hst]; by_cases h9 : id = 1000
   ·subst h9
    rw [if_pos rfl]; refine ⟨⟨rus, by simp [hrl.1], hB, h1, fun i c u hc hu => ?_, hS⟩, Or.inl (by rw [hX, hrc']; exact ⟨rfl, rfl⟩)⟩; rw [List.getElem?_map] at hc; cases hq : cs[i]? with
    | none => rw [hq] at hc; cases hc
    | some q =>
     rw [hq] at hc; simp only [Option.map_some, Option.some.injEq] at hc; subst hc; exact hrl.2 i q u hq hu
   rw [if_neg h9]; trivial
 refine calls_of_wp hf hb (wp_mono (h X hFit _ W ⟨_, S, hrel⟩) fun e a' W' hq => ?_); have hW0 : X.W0 = W := by rw [hX]
 have hS0 : X.S0 = S := by rw [hX]
 have hR : X.R = fun k => rc.isSome = true ∧ k = p := by rw [hX]
 have hXp : X.p = p := by rw [hX]
 have hrcv : X.rcv = rc.isSome := by rw [hX]
 have hret : ∀ {s : ASt}, Rel X s a' W' → (∃ l rc, FA P s fn.results.toList = some l ∧ Gv s = some rc ∧ res = .ret (GZ l).er rc) → a'.defers = [] ∧ ∃ v, (results fn a'.tmps).run P W' = .ok v W' ∧ res.post W S p rc (.returned v) W' := by
  rintro s ⟨E', S', hRel⟩ ⟨l, rc', h1, h2, h3⟩; obtain ⟨u, hu1, hu2⟩ := IQ hRel h1; obtain ⟨q1, q2, q3⟩ := N2 (rc := rc) hW0 hS0 hR hXp hRel h2 hrcv hSp; refine ⟨hRel.df.trans (by rw [hX]), u, hu1, ?_⟩; rw [h3]; exact ⟨⟨u, rfl, q1 _ _ hu2⟩, q2, q3⟩
 cases e with
 | normal => obtain ⟨s, hRel, hA⟩ := hq; exact hret hRel hA
 | ret => obtain ⟨s, hRel, hA⟩ := hq; exact hret hRel hA
 | panic ch =>
  obtain ⟨s, x, rfl, ⟨E', S', hRel⟩, h3⟩ := hq; obtain ⟨q1, q2, q3⟩ := Rm (rc := rc) hW0 hS0 hR hXp hRel hrcv hSp; refine ⟨hRel.df.trans (by rw [hX]), ?_⟩; replace h3 : res = .pan x := h3; rw [h3]; exact ⟨rfl, q2, q3⟩
 | exit id => obtain ⟨s, _, hA⟩ := hq; exact hA.elim
 | goto l => obtain ⟨s, _, hA⟩ := hq; exact hA.elim
 | outgrown => exact hq.elim
end
end Go.Proofs.YtakncilicoefdaaGreatDoor
