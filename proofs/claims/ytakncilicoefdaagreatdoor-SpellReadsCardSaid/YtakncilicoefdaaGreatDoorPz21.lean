/- Lemmas and contracts. Conditions: those that each lemma names. -/
import Derived.Test.YtakncilicoefdaaGreatDoorPz20
set_option maxRecDepth 100000
set_option maxHeartbeats 4000000
namespace Go.Proofs.YtakncilicoefdaaGreatDoor
open Go Go.RowKit Go.Proofs Th
def CW {α : Type} (d : α) : List (Nat × α) → Nat → α
 | [], _ => d
 | (k, x) :: r, t => if t = k then x else CW d r t
def GM (k : Nat) : List IV → List (Nat × FV)
 | [] => []
 | x :: r => (k, .im x) :: GM (k + 1) r
def mkS (l : List (Nat × FV)) (m : List (Nat × AObj)) : ASt := ⟨CW .junk l, CW .none m⟩
def FP : Option (List IV) → List IV → ASt
 | some cs, xa => mkS ((0, .ptr 1000 0) :: GM 1 xa) [(1000, .box (cs.map FV.im))]
 | none, xa => mkS (GM 0 xa) []
def JU (st : Nat → AObj) (ti : Option TI) (cs : List FV) (o : Nat) : Option IV := match ti with
 | some (.struct _ z) => match Ev st ((cs.drop o).take z.length) with
  | some xs => if xs.length = z.length then some (.agg xs) else none
  | none => none
 | some _ => match cs[o]? with
  | some c => DK st c
  | none => none
 | none => none
def Pq (P : Program) (s : ASt) : ResultVar → Option IV
 | .tmp t => DK s.st (s.fr t)
 | .cell t ty => match s.fr t with
  | .ptr b o => (match s.st b with
   | .box cs => JU s.st (Cg P ty) cs o
   | _ => none)
  | _ => none
def G2 (P : Program) (s : ASt) : List ResultVar → Option (List IV)
 | [] => some []
 | x :: r => match Pq P s x, G2 P s r with
  | some y, some l => some (y :: l)
  | _, _ => none
def Io : List IV → IV
 | [v] => v
 | l => .tup l
def JQ : List FV → Option (List IV)
 | [] => some []
 | .im x :: r => match JQ r with
  | some l => some (x :: l)
  | none => none
 | _ => none
def IQ (s : ASt) : Option (List IV) := match s.st 1000 with
 | .box cs => JQ cs
 | _ => some []
def ML (P : Program) (fn : Func) (res : ARes) : AExit → ASt → Prop
 | .normal, s => ∃ l rc, G2 P s fn.results.toList = some l ∧ IQ s = some rc ∧ res = .ret (Io l).er rc
 | .ret, s => ∃ l rc, G2 P s fn.results.toList = some l ∧ IQ s = some rc ∧ res = .ret (Io l).er rc
 | .panic x, _ => res = .pan x
 | _, _ => False
instance {P : Program} {fn : Func} {res : ARes} : PanicOK (ML P fn res) := ⟨fun _ _ _ _ h => h⟩
theorem Ny {X : Ctx} {E : AEnv} {S : CS} {s : ASt} {W : World} : ∀ {cs : List FV} {us : List Value} {xs : List IV}, us.length = cs.length → (∀ (i : Nat) c u, cs[i]? = some c → us[i]? = some u → B4 W S E s.st c u) → JQ cs = some xs → RepL W S xs us
 | [], us, xs, hl, _, hx => by
  injection hx with hx; subst hx; obtain rfl : us = [] := List.eq_nil_of_length_eq_zero hl; exact RepL.nil W S
 | .im x :: r, us, xs, hl, hr, hx => by
  cases us with
  | nil => cases hl
  | cons u us =>
   simp only [JQ] at hx; split at hx
   ·rename_i l h1
    injection hx with hx; subst hx; exact RepL.cons (hr 0 _ u rfl rfl) (Ny (X := X) (E := E) (s := s) (by simpa using hl) (fun i c' u' hc hu => hr (i + 1) c' u' hc hu) h1)
   cases hx
 | .junk :: r, us, xs, hl, hr, hx => by cases hx
 | .own _ _ :: r, us, xs, hl, hr, hx => by cases hx
 | .ptr _ _ :: r, us, xs, hl, hr, hx => by cases hx
 | .pin _ _ :: r, us, xs, hl, hr, hx => by cases hx
def P6 (tmps : Array Value) : ResultVar → Sem Value
 | .tmp t => pure (tmps.getD t undef)
 | .cell a t => do loadVar t (← asAddr (tmps.getD a undef))
theorem UJ (fn : Func) (tmps : Array Value) : results fn tmps = (do
  let vs ← fn.results.mapM (P6 tmps)
  pure (if h : vs.size = 1 then vs[0] else .tuple vs)) := by
 unfold results; congr 1
theorem QE {st : Nat → AObj} {ti : Option TI} {cs : List FV} {o : Nat} {x : IV} (h : JU st ti cs o = some x) : Ej st ti cs o fun c => DK st c = some x := by
 cases ti with
 | none => cases h
 | some ti =>
  cases ti with
  | struct fs z =>
   simp only [JU] at h; simp only [Ej]; split at h
   ·rename_i xs hxs
    split at h
    ·rename_i h1
     rw [hxs]; exact ⟨h1, h⟩
    cases h
   cases h
  | _ =>
   simp only [JU] at h; simp only [Ej]; split at h
   ·rename_i c hc; rw [hc]; exact h
   cases h
section
variable {P : Program} {X : Ctx} {E : AEnv} {S : CS} {s : ASt} {a : Act} {W : World}
theorem Vs (h : RelE X E S s a W) {r : ResultVar} {x : IV} (hx : Pq P s r = some x) : ∃ u, (P6 a.tmps r).run P W = .ok u W ∧ Rep W S x u := by
 cases r with
 | tmp t => exact ⟨_, rfl, ER h (h.fr t) hx⟩
 | cell t ty =>
  simp only [Pq] at hx; split at hx
  ·rename_i b o ht
   split at hx
   ·rename_i cs hb
    have hob := h.ob b; rw [hb] at hob; obtain ⟨⟨us, hul, hB, hu1, hur, hS⟩, hloc⟩ := hob; have hal := QE hx; obtain ⟨c, u, h1, h2, h3⟩ := JI h hal (E.box b) 0 us hul (fun j u hu => by rw [Nat.zero_add]; exact hB.cell j u hu) hur; rw [Nat.zero_add] at h2; have hp := h.fr t; rw [ht] at hp; refine ⟨u, ?_, ER h h3 h1⟩; simp only [P6, hp.2, asAddr, Sem.run_bind, Sem.run_pure, Result.andThen_ok]; simpa [Instr.loadAt, Instr.sureAddr] using h2
   cases hx
  cases hx
theorem O8 (h : RelE X E S s a W) : ∀ {l : List ResultVar} {xs : List IV}, G2 P s l = some xs → ∃ us : List Value, (l.mapM (P6 a.tmps)).run P W = .ok us W ∧ RepL W S xs us
 | [], xs, hx => by
  injection hx with hx; subst hx; exact ⟨[], by simp, RepL.nil W S⟩
 | r :: l, xs, hx => by
  simp only [G2] at hx; split at hx
  ·rename_i y ys hy hys
   injection hx with hx; subst hx; obtain ⟨u, h1, h2⟩ := Vs h hy; obtain ⟨us, h3, h4⟩ := O8 h hys; refine ⟨u :: us, ?_, RepL.cons h2 h4⟩; rw [List.mapM_cons]; simp only [Sem.run_bind, h1, h3, Result.andThen_ok, Sem.run_pure]
  cases hx
theorem Kx (h : RelE X E S s a W) {fn : Func} {xs : List IV} (hx : G2 P s fn.results.toList = some xs) : ∃ u, (results fn a.tmps).run P W = .ok u W ∧ Rep W S (Io xs).er u := by
 obtain ⟨us, h1, h2⟩ := O8 h hx; have hrun : (fn.results.mapM (P6 a.tmps)).run P W = .ok us.toArray W := by
  rw [Array.mapM_eq_mapM_toList]; simp only [Sem.run_map, h1]; rfl
 rw [UJ]; simp only [Sem.run_bind, hrun, Result.andThen_ok, Sem.run_pure]; cases us with
 | nil =>
  obtain rfl : xs = [] := List.eq_nil_of_length_eq_zero h2.1.symm; exact ⟨_, rfl, Rep.er (.tup h2.1 h2.2)⟩
 | cons u us =>
  cases us with
  | nil =>
   obtain ⟨y, rfl⟩ : ∃ y, xs = [y] := List.length_eq_one_iff.1 h2.1.symm
   exact ⟨_, rfl, Rep.er (h2.2 0 y u rfl rfl)⟩
  | cons u2 us =>
   refine ⟨_, rfl, ?_⟩; have hxs : Io xs = .tup xs := by
    have := h2.1; match xs, this with
    | [], h => cases h
    | [y], h => simp at h
    | _ :: _ :: _, _ => rfl
   rw [hxs]; have := Rep.er (Rep.tup h2.1 h2.2); simpa using this
end
def GK (G : World → CS → Prop) : Prop := ∀ W W' S S', G W S → (∀ g o, S g o → W'.cell? ⟨g, o, none⟩ = W.cell? ⟨g, o, none⟩) → (∀ g o, S g o → S' g o) → G W' S'
structure Fit (X : Ctx) (G : World → CS → Prop) (n : Nat) : Prop where
 g : X.G = G
 n : n ≤ X.N
theorem JX : ∀ (xa : List IV) (k t : Nat), CW .junk (GM k xa) t = if k ≤ t then (match xa[t - k]? with | some x => FV.im x | none => .junk) else .junk
 | [], k, t => by simp [GM, CW]
 | x :: r, k, t => by
  simp only [GM, CW]; by_cases h : t = k
  ·subst h; simp
  rw [if_neg h, JX r (k + 1) t]; by_cases h2 : k ≤ t
  ·rw [if_pos h2, if_pos (by omega), show t - k = (t - (k + 1)) + 1 by omega]; rfl
  rw [if_neg h2, if_neg (by omega)]
section
variable {P : Program} {G : World → CS → Prop} {f : FuncId} {fn : Func} {c : Code} {rc : Option (List IV)} {xa : List IV} {res : ARes} {n : Nat}
theorem OI (_us : List Value) (k : Nat) (vs : List Value) (xs : List IV) (W : World) (S : CS) (E : AEnv) (st : Nat → AObj) (hR : RepL W S xs vs) (pre : List Value) (hpre : pre.length = k) (t : Nat) (hkt : k ≤ t) (rest : List Value) :
  B4 W S E st (match xs[t - k]? with | some x => FV.im x | none => .junk) ((pre ++ (vs ++ rest)).toArray.getD t undef) := by
 cases hx : xs[t - k]? with
 | none => trivial
 | some x =>
  have hlt := (List.getElem?_eq_some_iff.1 hx).1; have hv : vs[t - k]? = some (vs[t - k]'(by rw [hR.1]; exact hlt)) := List.getElem?_eq_getElem _; have : (pre ++ (vs ++ rest)).toArray.getD t undef = vs[t - k]'(by rw [hR.1]; exact hlt) := by
   rw [Array.getD_eq_getD_getElem?]; have : (pre ++ (vs ++ rest)).toArray[t]? = some (vs[t - k]'(by rw [hR.1]; exact hlt)) := by
    rw [List.getElem?_toArray, List.getElem?_append_right (by omega), hpre, List.getElem?_append_left (by rw [hR.1]; exact hlt)]; exact hv
   rw [this]; rfl
  rw [this]; exact hR.2 _ x _ hx hv
theorem Pv {X : Ctx} {E' : AEnv} {S S' : CS} {s : ASt} {a : Act} {W W' : World} {p : Nat} (hW0 : X.W0 = W) (hS0 : X.S0 = S) (hR : X.R = fun k => rc.isSome = true ∧ k = p) (hp : X.p = p) (h : RelE X E' S' s a W') {rc' : List IV} (hrc : IQ s = some rc') (hrcv : X.rcv = rc.isSome) (hSp : rc.isSome = true → (∀ o, ¬ S p o) ∧ p < W.heap.size) :
  (∀ (v : IV) u, Rep W' S' v u → Rep W' (EO W W' S) v u) ∧ (rc.isSome = true → R6 W' (EO W W' S) p rc') ∧ UpdR (fun k => rc.isSome = true ∧ k = p) W W' := by
 have hsub : ∀ g o, S' g o → EO W W' S g o := fun g o ho => by
  rcases h.Sn g o ho with h1 | h1
  ·exact Or.inl (by rw [hS0] at h1; exact h1)
  exact Or.inr ⟨by rw [hW0] at h1; exact h1, h.Sb g o ho⟩
 refine ⟨fun v u hv => hv.keep (fun _ _ _ => rfl) hsub, fun hs => ?_, by have := h.u; rwa [hR, hW0] at this⟩; obtain ⟨cs, hcs⟩ := h.bk (by rw [hrcv]; exact hs); have hob := h.ob 1000; rw [hcs] at hob; obtain ⟨⟨vs, hul, hB, hu1, hur, hSS⟩, hloc⟩ := hob; have hEp : E'.box 1000 = p := h.pk.trans hp; rw [hEp] at hB hSS; unfold IQ at hrc; rw [hcs] at hrc; have hims := Ny (X := X) (E := E') (s := s) (W := W') (S := S') hul hur hrc; refine ⟨vs, hB, hims.keep (fun _ _ _ => rfl) hsub, hu1, fun o ho => ?_⟩; obtain ⟨h1, h2⟩ := hSp hs; rcases ho with ho | ho
 ·exact h1 o ho
 omega
theorem SU {X : Ctx} {E' : AEnv} {S S' : CS} {s : ASt} {a : Act} {W W' : World} {p : Nat} (hW0 : X.W0 = W) (_hS0 : X.S0 = S) (hR : X.R = fun k => rc.isSome = true ∧ k = p) (hp : X.p = p) (h : RelE X E' S' s a W') (hrcv : X.rcv = rc.isSome) (hSp : rc.isSome = true → (∀ o, ¬ S p o) ∧ p < W.heap.size) :
  True ∧ (rc.isSome = true → VX W' (EO W W' S) p) ∧ UpdR (fun k => rc.isSome = true ∧ k = p) W W' := by
 refine ⟨trivial, fun hs => ?_, by have := h.u; rwa [hR, hW0] at this⟩; obtain ⟨cs, hcs⟩ := h.bk (by rw [hrcv]; exact hs); have hob := h.ob 1000; rw [hcs] at hob; obtain ⟨⟨vs, hul, hB, hu1, hur, hSS⟩, hloc⟩ := hob; have hEp : E'.box 1000 = p := h.pk.trans hp; rw [hEp] at hB hSS; refine ⟨vs, hB, hu1, fun o ho => ?_⟩; obtain ⟨h1, h2⟩ := hSp hs; rcases ho with ho | ho
 ·exact h1 o ho
 omega
theorem ACalls.enter (hf : P.funcs[f]? = some fn) (hb : fn.body = some c) (hnm : (fn.name == "runtime.NumGoroutine") = false) (gk : GK G) (hn : fn.ntmps = n) (h : ∀ X : Ctx, Fit X G n → AW P X c (ML P fn res) (FP rc xa)) : ACalls P G f rc xa res := by
 refine ⟨⟨fn, hf, by rw [hb]; rfl, hnm⟩, fun W S p us hG hSb hrc hus => ?_⟩; have harr : ∀ (l : List Value) k, l.toArray ++ Array.replicate k undef = (l ++ List.replicate k undef).toArray := fun l k => by simp
 obtain ⟨X, hX⟩ : ∃ X : Ctx, X = ⟨W, S, fun k => rc.isSome = true ∧ k = p, ((D7 rc p us).toArray ++ Array.replicate (fn.ntmps - (D7 rc p us).toArray.size) undef).size, p, rc.isSome, G, gk, []⟩ := ⟨_, rfl⟩
 have hSp : rc.isSome = true → (∀ o, ¬ S p o) ∧ p < W.heap.size := fun hs => by
  cases hrc' : rc with
  | none => rw [hrc'] at hs; cases hs
  | some cs => obtain ⟨rus, hB, hrl, h1, hS⟩ := hrc cs hrc'; exact ⟨hS, hB.lt⟩
 have hFit : Fit X G n := ⟨by rw [hX], by rw [hX, ← hn]; simp; omega⟩; have hrel : RelE X ⟨fun _ => p, fun _ => undef⟩ S (FP rc xa) { tmps := (D7 rc p us).toArray ++ Array.replicate (fn.ntmps - (D7 rc p us).toArray.size) undef, defers := [] } W := by
  cases hrc' : rc with
  | none =>
   refine ⟨by rw [hX, hrc'], by rw [hX], fun t => ?_, fun id => trivial, fun i j g hi _ => (by cases hi), hSb, fun g o ho => by rw [hX] at ho; exact ho, fun g o ho => Or.inl (by rw [hX]; exact ho), by rw [hX]; exact UpdR.refl _ _, by rw [hX]; exact hG, by rw [hX], fun h => by rw [hX, hrc'] at h; cases h⟩; show B4 W S _ _ (CW .junk (GM 0 xa) t) (((D7 none p us).toArray ++ Array.replicate (fn.ntmps - (D7 none p us).toArray.size) undef).getD t undef)
   rw [JX, if_pos (Nat.zero_le _), harr]; exact OI us 0 us xa W S _ _ hus [] rfl t (Nat.zero_le _) _
  | some cs =>
   obtain ⟨rus, hB, hrl, h1, hS⟩ := hrc cs hrc'; have hst : ∀ id, (FP (some cs) xa).st id = if id = 1000 then .box (cs.map FV.im) else .none := fun id => rfl
   have hlive : ∀ i g, blk ⟨fun _ => p, fun _ => undef⟩ i ((FP (some cs) xa).st i) = some g → i = 1000 := fun i g hi => by
    rw [hst] at hi; by_cases h9 : i = 1000
    ·exact h9
    rw [if_neg h9] at hi; cases hi
   refine ⟨by rw [hX, hrc'], by rw [hX], fun t => ?_, fun id => ?_, fun i j g hi hj => (hlive i g hi).trans (hlive j g hj).symm, hSb, fun g o ho => by rw [hX] at ho; exact ho, fun g o ho => Or.inl (by rw [hX]; exact ho), by rw [hX]; exact UpdR.refl _ _, by rw [hX]; exact hG, by rw [hX], fun _ => ⟨cs.map FV.im, rfl⟩⟩
   ·show B4 W S _ _ (if t = 0 then FV.ptr 1000 0 else CW .junk (GM 1 xa) t) (((D7 (some cs) p us).toArray ++ Array.replicate (fn.ntmps - (D7 (some cs) p us).toArray.size) undef).getD t undef)
    by_cases ht : t = 0
    ·subst ht
     rw [if_pos rfl]; refine ⟨⟨cs.map FV.im, rfl⟩, ?_⟩; rw [harr]; rfl
    rw [if_neg ht, JX, if_pos (by omega), harr]; exact OI us 1 us xa W S _ _ hus [.pointer (some ⟨p, 0, none⟩)] rfl t (by omega) _
   rw [hst]; by_cases h9 : id = 1000
   ·subst h9
    rw [if_pos rfl]; refine ⟨⟨rus, by simp [hrl.1], hB, h1, fun i c u hc hu => ?_, hS⟩, Or.inl (by rw [hX, hrc']; exact ⟨rfl, rfl⟩)⟩; rw [List.getElem?_map] at hc; cases hq : cs[i]? with
    | none => rw [hq] at hc; cases hc
    | some q =>
     rw [hq] at hc; simp only [Option.map_some, Option.some.injEq] at hc; subst hc; exact hrl.2 i q u hq hu
   rw [if_neg h9]; trivial
 refine calls_of_wp hf hb (wp_mono (h X hFit _ W ⟨_, S, hrel⟩) fun e a' W' hq => ?_); have hW0 : X.W0 = W := by rw [hX]
 have hS0 : X.S0 = S := by rw [hX]
 have hR : X.R = fun k => rc.isSome = true ∧ k = p := by rw [hX]
 have hXp : X.p = p := by rw [hX]
 have hrcv : X.rcv = rc.isSome := by rw [hX]
 have hret : ∀ {s : ASt}, Rel X s a' W' → (∃ l rc, G2 P s fn.results.toList = some l ∧ IQ s = some rc ∧ res = .ret (Io l).er rc) → a'.defers = [] ∧ ∃ v, (results fn a'.tmps).run P W' = .ok v W' ∧ res.post W S p rc (.returned v) W' := by
  rintro s ⟨E', S', hRel⟩ ⟨l, rc', h1, h2, h3⟩; obtain ⟨u, hu1, hu2⟩ := Kx hRel h1; obtain ⟨q1, q2, q3⟩ := Pv (rc := rc) hW0 hS0 hR hXp hRel h2 hrcv hSp; refine ⟨hRel.df.trans (by rw [hX]), u, hu1, ?_⟩; rw [h3]; exact ⟨⟨u, rfl, q1 _ _ hu2⟩, q2, q3⟩
 cases e with
 | normal => obtain ⟨s, hRel, hA⟩ := hq; exact hret hRel hA
 | ret => obtain ⟨s, hRel, hA⟩ := hq; exact hret hRel hA
 | panic ch =>
  obtain ⟨s, x, rfl, ⟨E', S', hRel⟩, h3⟩ := hq; obtain ⟨q1, q2, q3⟩ := SU (rc := rc) hW0 hS0 hR hXp hRel hrcv hSp; refine ⟨hRel.df.trans (by rw [hX]), ?_⟩; replace h3 : res = .pan x := h3; rw [h3]; exact ⟨rfl, q2, q3⟩
 | exit id => obtain ⟨s, _, hA⟩ := hq; exact hA.elim
 | goto l => obtain ⟨s, _, hA⟩ := hq; exact hA.elim
 | outgrown => exact hq.elim
end
open Go Go.RowKit Go.Proofs Th
theorem H7 {k : Int} {s : ByteArray} {m e : Int} {l : List NJ} {a : List ByteArray} (h : AJ (.mk k s m e l a) = true) : (AE k = true ∨ s = ⟨#[]⟩) ∧ (k = 2 ∨ (m = 0 ∧ e = 0)) ∧ ((k = 6 ∨ k = 24) ∨ a = []) := by
 unfold AJ at h; simp only [Bool.and_eq_true, Bool.or_eq_true, decide_eq_true_eq, List.isEmpty_iff] at h; exact ⟨h.1.1, h.1.2, h.2⟩
theorem l1 {l : List NJ} (h : l.length = 1) : ∃ x0, l = [x0] := by
 match l, h with
 | [x0], _ => exact ⟨x0, rfl⟩
theorem l2 {l : List NJ} (h : l.length = 2) : ∃ x0 x1, l = [x0, x1] := by
 match l, h with
 | [x0, x1], _ => exact ⟨x0, x1, rfl⟩
theorem l3 {l : List NJ} (h : l.length = 3) : ∃ x0 x1 x2, l = [x0, x1, x2] := by
 match l, h with
 | [x0, x1, x2], _ => exact ⟨x0, x1, x2, rfl⟩
theorem l4 {l : List NJ} (h : l.length = 4) : ∃ x0 x1 x2 x3, l = [x0, x1, x2, x3] := by
 match l, h with
 | [x0, x1, x2, x3], _ => exact ⟨x0, x1, x2, x3, rfl⟩
/-! texts in quotes -/
theorem GQ : ∀ x : NJ, okJ x = true → Av x = 3 → ∃ s, x = Bg s ∧ Lib.validD s.data.toList = true
 | .mk k s m e l a, h, hk => by
  obtain rfl : k = 3 := hk; rw [okJ, Bool.and_eq_true] at h; have h1 := h.1; unfold ES at h1; rw [Bool.and_eq_true] at h1; obtain ⟨_, b2, b3⟩ := H7 h1.1; have hf : l = [] ∧ Lib.validD s.data.toList = true := by have := h1.2; simpa [Ac] using this
  obtain ⟨rfl, rfl⟩ := b2.resolve_left (by decide); obtain rfl := b3.resolve_left (by decide); obtain ⟨rfl, hv⟩ := hf; exact ⟨s, rfl, hv⟩
theorem SS : ∀ (n : Nat) (l : List NJ), l.length ≤ n → BU l = true → l.length % 2 = 1 → (∀ x ∈ l, okJ x = true) → ∃ s r, l = Bg s :: B6 r ∧ Lib.validD s.data.toList = true ∧ ∀ x ∈ r, Lib.validD x.2.data.toList = true ∧ x.1 ∈ l
 | 0, l, hn, _, h2, _ => by
  obtain rfl : l = [] := List.eq_nil_of_length_eq_zero (by omega); simp at h2
 | n + 1, l, hn, he, h2, hk => by
  match l, hn, he, h2, hk with
  | [x], _, he, _, hk =>
   obtain ⟨s, rfl, hv⟩ := GQ x (hk x (by simp)) (by simpa [BU] using he); exact ⟨s, [], rfl, hv, fun x hx => by cases hx⟩
  | [x, y], _, _, h2, _ => simp at h2
  | x :: y :: z :: r, hn, he, h2, hk =>
   have he2 : Av x = 3 ∧ BU (z :: r) = true := by simpa [BU] using he
   obtain ⟨s, rfl, hv⟩ := GQ x (hk x (by simp)) he2.1; obtain ⟨s2, r2, e, hv2, hr⟩ := SS n (z :: r) (by simp at hn ⊢; omega) he2.2 (by simp at h2 ⊢; omega) fun w hw => hk w (List.mem_cons_of_mem _ (List.mem_cons_of_mem _ hw))
   refine ⟨s, (y, s2) :: r2, by rw [B6, ← e], hv, fun w hw => ?_⟩; rcases List.mem_cons.1 hw with rfl | hw
   ·exact ⟨hv2, by simp⟩
   have := hr w hw; exact ⟨this.1, List.mem_cons_of_mem _ (List.mem_cons_of_mem _ this.2)⟩
variable {g : NJ → NJ} {c : TK → TK}
theorem MP : ∀ (r : List (NJ × ByteArray)) (s : ByteArray), tl (CQ true ((Bg s :: B6 r).map nmJ) (spL (Bg s :: B6 r))) = jn (Bk (tl s)) (fps g c r)
 | [], s => by
  rw [B6, List.map_cons, List.map_nil, spL, CQ, spL, CQ, Bw]; simp only [fps, List.map_nil, jn]; exact List.append_nil _
  all_goals simp
 | (x, t) :: r, s => by
  have ih := MP r t; rw [B6, List.map_cons, List.map_cons, spL, spL, CQ, CQ, Bw, Bw, Bw, Bw, ih]; simp only [fps, List.map_cons, jn, List.append_assoc]; rfl
theorem tl4 (s : ByteArray) (m e : Int) (l : List NJ) (a : List ByteArray) : tl (spJ (.mk 4 s m e l a)) = 34 :: (tl (CQ true (l.map nmJ) (spL l)) ++ [34]) := by
 rw [spJ]; simp only [Int.reduceEq, if_true, if_false, or_false, Bw, C8, List.cons_append, List.nil_append]
theorem TU (hG : Gc g c) (SZ : NJ → Prop) (hS : ∀ k s m e l a, k ≠ 4 → Ac (.mk k s m e l a) = true → SZ (.mk k s m e l a) → ∀ x ∈ l, SZ x) (Q3 : ∀ s : ByteArray, Lib.validD s.data.toList = true → SZ (Bg s) → ∃ T, Rd g c (Bg s) T)
  (Q4 : ∀ l, BU l = true → 3 ≤ l.length → l.length % 2 = 1 → (∀ x ∈ l, okJ x = true) → Bt l ≤ 47 → SZ (Ag 4 l) → (∀ x ∈ l, SZ x → Rd g c x (CH g c x)) → ∃ T, Rd g c (Ag 4 l) T) : ∀ (d : Nat) (n : NJ), AB n ≤ d → d ≤ 48 → okJ n = true → SZ n → ∃ T, Rd g c n T
 | 0, .mk k s m e l a, hd, _, _, _ => by rw [AB] at hd; omega
 | d + 1, .mk k s m e l a, hd, hd8, h, hz => by
  rw [okJ, Bool.and_eq_true, DW, List.all_eq_true] at h; obtain ⟨h1, hk⟩ := h; unfold ES at h1; rw [Bool.and_eq_true] at h1; obtain ⟨hb, hf⟩ := h1; obtain ⟨bs, bm, ba⟩ := H7 hb; rw [AB] at hd; have K : ∀ x ∈ l, SZ x → Rd g c x (CH g c x) := fun x hx h2 => RA (TU hG SZ hS Q3 Q4 d x (Cz.1 (show Bt l ≤ d by omega) x hx) (by omega) (hk x hx) h2)
  by_cases k4 : k = 4
  ·subst k4
   have h4 : (BU l = true ∧ 3 ≤ l.length) ∧ l.length % 2 = 1 := by simpa [Ac] using hf
   obtain rfl := bs.resolve_left (by decide); obtain ⟨rfl, rfl⟩ := bm.resolve_left (by decide); obtain rfl := ba.resolve_left (by decide); exact Q4 l h4.1.1 h4.1.2 h4.2 hk (by omega) hz K
  replace K : Rds g c l := fun x hx => K x hx (hS _ _ _ _ _ _ k4 hf hz x hx)
  by_cases k1 : k = 1
  ·subst k1
   obtain rfl := bs.resolve_left (by decide); obtain ⟨rfl, rfl⟩ := bm.resolve_left (by decide); obtain rfl := ba.resolve_left (by decide); obtain rfl : l = [] := by simpa [Ac] using hf
   exact rd1 hG
  by_cases k26 : k = 26
  ·subst k26
   obtain rfl := bs.resolve_left (by decide); obtain ⟨rfl, rfl⟩ := bm.resolve_left (by decide); obtain rfl := ba.resolve_left (by decide); obtain rfl : l = [] := by simpa [Ac] using hf
   exact aI hG
  by_cases k2 : k = 2
  ·subst k2
   obtain rfl := bs.resolve_left (by decide); obtain rfl := ba.resolve_left (by decide); have h2 : (l = [] ∧ right m e = true) ∧ 0 ≤ m := by simpa [Ac] using hf
   obtain ⟨⟨rfl, hr⟩, h0⟩ := h2; exact rd2 hG h0 hr
  by_cases k3 : k = 3
  ·subst k3
   obtain ⟨rfl, rfl⟩ := bm.resolve_left (by decide); obtain rfl := ba.resolve_left (by decide); have h2 : l = [] ∧ Lib.validD s.data.toList = true := by simpa [Ac] using hf
   obtain ⟨rfl, hv⟩ := h2; exact Q3 s hv hz
  by_cases k5 : k = 5
  ·subst k5
   obtain rfl := bs.resolve_left (by decide); obtain ⟨rfl, rfl⟩ := bm.resolve_left (by decide); obtain rfl := ba.resolve_left (by decide); have hl : l.length = 2 := by simpa [Ac] using hf
   obtain ⟨x0, x1, rfl⟩ := l2 hl; have r0 := K x0 (by simp); obtain ⟨g0, hg0⟩ := Fb hG r0; have r1 := K x1 (by simp); exact rd5 hG hg0 r1
  by_cases k6 : k = 6
  ·subst k6
   obtain rfl := bs.resolve_left (by decide); obtain ⟨rfl, rfl⟩ := bm.resolve_left (by decide); obtain ⟨hl, ha⟩ := Sw hf rfl; rcases ha with rfl | rfl | rfl
   ·obtain ⟨x0, x1, rfl⟩ := l2 hl
    have r0 := K x0 (by simp); obtain ⟨g0, hg0⟩ := Fb hG r0; have r1 := K x1 (by simp); exact aL hG hg0 r1
   ·obtain ⟨x0, x1, rfl⟩ := l2 hl
    have r0 := K x0 (by simp); obtain ⟨g0, hg0⟩ := Fb hG r0; have r1 := K x1 (by simp); exact bd hG hg0 r1
   obtain ⟨x0, x1, x2, rfl⟩ := l3 hl; have r0 := K x0 (by simp); obtain ⟨g0, hg0⟩ := Fb hG r0; have r1 := K x1 (by simp); have r2 := K x2 (by simp); exact aW hG hg0 r1 r2
  by_cases k7 : k = 7
  ·subst k7
   obtain rfl := bs.resolve_left (by decide); obtain ⟨rfl, rfl⟩ := bm.resolve_left (by decide); obtain rfl := ba.resolve_left (by decide); have hl : l.length = 1 := by simpa [Ac] using hf
   obtain ⟨x0, rfl⟩ := l1 hl; have r0 := K x0 (by simp); obtain ⟨g0, hg0⟩ := Fb hG r0; exact rd7 hG hg0
  by_cases k8 : k = 8
  ·subst k8
   obtain rfl := bs.resolve_left (by decide); obtain ⟨rfl, rfl⟩ := bm.resolve_left (by decide); obtain rfl := ba.resolve_left (by decide); have hl : l.length = 2 := by simpa [Ac] using hf
   obtain ⟨x0, x1, rfl⟩ := l2 hl; have r0 := K x0 (by simp); have r1 := K x1 (by simp); exact rd8 hG r0 r1 bc
  by_cases k9 : k = 9
  ·subst k9
   obtain rfl := bs.resolve_left (by decide); obtain ⟨rfl, rfl⟩ := bm.resolve_left (by decide); obtain rfl := ba.resolve_left (by decide); have hl : l.length = 2 := by simpa [Ac] using hf
   obtain ⟨x0, x1, rfl⟩ := l2 hl; have r0 := K x0 (by simp); have r1 := K x1 (by simp); exact rd8 hG r0 r1 aQ
  by_cases k10 : k = 10
  ·subst k10
   obtain ⟨rfl, rfl⟩ := bm.resolve_left (by decide); obtain rfl := ba.resolve_left (by decide); have h2 : l.length = 2 ∧ inB C6 s = true := by simpa [Ac] using hf
   obtain ⟨hl, hs⟩ := h2; obtain ⟨x0, x1, rfl⟩ := l2 hl; have r0 := K x0 (by simp); have r1 := K x1 (by simp); exact rd8 hG r0 r1 (az hs)
  by_cases k11 : k = 11
  ·subst k11
   obtain rfl := bs.resolve_left (by decide); obtain ⟨rfl, rfl⟩ := bm.resolve_left (by decide); obtain rfl := ba.resolve_left (by decide); have hl : l.length = 2 := by simpa [Ac] using hf
   obtain ⟨x0, x1, rfl⟩ := l2 hl; have r0 := K x0 (by simp); have r1 := K x1 (by simp); exact rd8 hG r0 r1 Z8
  by_cases k12 : k = 12
  ·subst k12
   obtain rfl := bs.resolve_left (by decide); obtain ⟨rfl, rfl⟩ := bm.resolve_left (by decide); obtain rfl := ba.resolve_left (by decide); have hl : l.length = 2 := by simpa [Ac] using hf
   obtain ⟨x0, x1, rfl⟩ := l2 hl; have r0 := K x0 (by simp); have r1 := K x1 (by simp); exact rd8 hG r0 r1 aq
  by_cases k13 : k = 13
  ·subst k13
   obtain rfl := bs.resolve_left (by decide); obtain ⟨rfl, rfl⟩ := bm.resolve_left (by decide); obtain rfl := ba.resolve_left (by decide); have hl : l.length = 2 := by simpa [Ac] using hf
   obtain ⟨x0, x1, rfl⟩ := l2 hl; have r0 := K x0 (by simp); have r1 := K x1 (by simp); exact rd8 hG r0 r1 ax
  by_cases k14 : k = 14
  ·subst k14
   obtain rfl := bs.resolve_left (by decide); obtain ⟨rfl, rfl⟩ := bm.resolve_left (by decide); obtain rfl := ba.resolve_left (by decide); have hl : l.length = 1 := by simpa [Ac] using hf
   obtain ⟨x0, rfl⟩ := l1 hl; have r0 := K x0 (by simp); exact aR hG r0
  by_cases k15 : k = 15
  ·subst k15
   obtain rfl := bs.resolve_left (by decide); obtain ⟨rfl, rfl⟩ := bm.resolve_left (by decide); obtain rfl := ba.resolve_left (by decide); have hl : l.length = 0 ∨ l.length = 1 := by simp [Ac] at hf; omega
   rcases hl with hl | hl
   ·obtain rfl := List.eq_nil_of_length_eq_zero hl
    exact ab hG
   obtain ⟨x0, rfl⟩ := l1 hl; exact Z0 hG (K x0 (by simp))
  by_cases k16 : k = 16
  ·subst k16
   obtain rfl := bs.resolve_left (by decide); obtain ⟨rfl, rfl⟩ := bm.resolve_left (by decide); obtain rfl := ba.resolve_left (by decide); exact aP hG (by simpa [Ac] using hf) K
  by_cases k17 : k = 17
  ·subst k17
   obtain rfl := bs.resolve_left (by decide); obtain ⟨rfl, rfl⟩ := bm.resolve_left (by decide); obtain rfl := ba.resolve_left (by decide); have hl : l.length = 3 := by simpa [Ac] using hf
   obtain ⟨x0, x1, x2, rfl⟩ := l3 hl; have r0 := K x0 (by simp); have r1 := K x1 (by simp); have r2 := K x2 (by simp); exact aJ hG r0 r1 r2
  by_cases k18 : k = 18
  ·subst k18
   obtain rfl := bs.resolve_left (by decide); obtain ⟨rfl, rfl⟩ := bm.resolve_left (by decide); obtain rfl := ba.resolve_left (by decide); have hl : l.length = 1 ∨ l.length = 2 := by simpa [Ac] using hf
   rcases hl with hl | hl
   ·obtain ⟨x0, rfl⟩ := l1 hl
    have r0 := K x0 (by simp); obtain ⟨g0, hg0⟩ := Fb hG r0; exact ZY hG hg0
   obtain ⟨x0, x1, rfl⟩ := l2 hl; have r0 := K x0 (by simp); obtain ⟨g0, hg0⟩ := Fb hG r0; have r1 := K x1 (by simp); obtain ⟨g1, hg1⟩ := Fb hG r1; exact al hG hg0 hg1
  by_cases k19 : k = 19
  ·subst k19
   obtain ⟨rfl, rfl⟩ := bm.resolve_left (by decide); obtain rfl := ba.resolve_left (by decide); have h2 : l.length = 3 ∧ Bf s = true := by simpa [Ac] using hf
   obtain ⟨hl, hs⟩ := h2; obtain ⟨x0, x1, x2, rfl⟩ := l3 hl; have r0 := K x0 (by simp); obtain ⟨g0, hg0⟩ := Fb hG r0; have r1 := K x1 (by simp); have r2 := K x2 (by simp); exact aS hG hg0 r1 r2 hs
  by_cases k20 : k = 20
  ·subst k20
   obtain ⟨rfl, rfl⟩ := bm.resolve_left (by decide); obtain rfl := ba.resolve_left (by decide); have h2 : l.length = 4 ∧ Bf s = true := by simpa [Ac] using hf
   obtain ⟨hl, hs⟩ := h2; obtain ⟨x0, x1, x2, x3, rfl⟩ := l4 hl; have r0 := K x0 (by simp); obtain ⟨g0, hg0⟩ := Fb hG r0; have r1 := K x1 (by simp); have r2 := K x2 (by simp); have r3 := K x3 (by simp); exact aZ hG hg0 r1 r2 r3 hs
  by_cases k21 : k = 21
  ·subst k21
   obtain ⟨rfl, rfl⟩ := bm.resolve_left (by decide); obtain rfl := ba.resolve_left (by decide); have h2 : l.length = 2 ∧ Bf s = true := by simpa [Ac] using hf
   obtain ⟨hl, hs⟩ := h2; obtain ⟨x0, x1, rfl⟩ := l2 hl; have r0 := K x0 (by simp); obtain ⟨g0, hg0⟩ := Fb hG r0; have r1 := K x1 (by simp); exact aC hG hg0 r1 hs
  by_cases k22 : k = 22
  ·subst k22
   obtain ⟨rfl, rfl⟩ := bm.resolve_left (by decide); obtain rfl := ba.resolve_left (by decide); have h2 : l = [] ∧ Bf s = true := by simpa [Ac] using hf
   obtain ⟨rfl, hv⟩ := h2; exact bi hG hv
  by_cases k23 : k = 23
  ·subst k23
   obtain ⟨rfl, rfl⟩ := bm.resolve_left (by decide); obtain rfl := ba.resolve_left (by decide); exact aB hG (by simpa [Ac] using hf) K
  by_cases k24 : k = 24
  ·subst k24
   obtain ⟨rfl, rfl⟩ := bm.resolve_left (by decide); have h2 : (l.length = 2 ∧ B7 s = true) ∧ ∀ s ∈ a, BO s = true := by simpa [Ac] using hf
   obtain ⟨⟨hl, hs⟩, ha⟩ := h2; obtain ⟨x0, x1, rfl⟩ := l2 hl; have r0 := K x0 (by simp); have r1 := K x1 (by simp); exact aD hG hs ha r0 r1
  by_cases k25 : k = 25
  ·subst k25
   obtain ⟨rfl, rfl⟩ := bm.resolve_left (by decide); obtain rfl := ba.resolve_left (by decide); have h2 : l.length = 2 ∧ inB Ez s = true := by simpa [Ac] using hf
   obtain ⟨hl, hs⟩ := h2; obtain ⟨x0, x1, rfl⟩ := l2 hl; have r0 := K x0 (by simp); have r1 := K x1 (by simp); exact rd8 hG r0 r1 (Z6 hs)
  exfalso; unfold Ac at hf; simp only [k4, k1, k26, k2, k3, k5, k6, k7, k8, k9, k10, k11, k12, k13, k14, k15, k16, k17, k18, k19, k20, k21, k22, k23, k24, k25, or_self, if_false, Bool.false_eq_true] at hf
end Go.Proofs.YtakncilicoefdaaGreatDoor
