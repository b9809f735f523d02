/- Lemmas and contracts. Conditions: those that each lemma names. -/
import Derived.Test.YtakncilicoefdaaGreatDoorPc16
set_option maxRecDepth 100000
set_option maxHeartbeats 64000000
namespace Go.Proofs.YtakncilicoefdaaGreatDoor
open Go Go.RowKit Go.Proofs Th
inductive ARes where
 | ret (v : IV) (rc : List IV)
 | pan (x : Value)
def RBox (W : World) (S : CS) (p : Nat) (cs : List IV) : Prop := ∃ us : List Value, Box W p us ∧ RepL W S cs us ∧ (∀ u ∈ us, u.oneCell' = true) ∧ ∀ o, ¬ S p o
def JBox (W : World) (S : CS) (p : Nat) : Prop := ∃ us : List Value, Box W p us ∧ (∀ u ∈ us, u.oneCell' = true) ∧ ∀ o, ¬ S p o
def newC (W W' : World) (S : CS) : CS := fun g o => S g o ∨ (W.heap.size ≤ g ∧ g < W'.heap.size)
def ARes.post (W : World) (S : CS) (p : Nat) (rc : Option (List IV)) (e : Ending) (W' : World) : ARes → Prop
 | .ret v rc' => (∃ u, e = .returned u ∧ Rep W' (newC W W' S) v u) ∧ (rc.isSome = true → RBox W' (newC W W' S) p rc') ∧ UpdR (fun k => rc.isSome = true ∧ k = p) W W'
 | .pan x => e = .panicked [{ v := x, recovered := false }] ∧ (rc.isSome = true → JBox W' (newC W W' S) p) ∧ UpdR (fun k => rc.isSome = true ∧ k = p) W W'
def argsU (rc : Option (List IV)) (p : Nat) (us : List Value) : List Value := if rc.isSome = true then .pointer (some ⟨p, 0, none⟩) :: us else us
def ACalls (P : Program) (G : World → CS → Prop) (f : FuncId) (rc : Option (List IV)) (xa : List IV) (res : ARes) : Prop :=
 (∃ fn, P.funcs[f]? = some fn ∧ fn.body.isNone = false ∧ (fn.name == "runtime.NumGoroutine") = false) ∧
 ∀ (W : World) (S : CS) (p : Nat) (us : List Value), G W S → (∀ g o, S g o → g < W.heap.size) → (∀ cs, rc = some cs → RBox W S p cs) → RepL W S xa us →
  Calls P f (argsU rc p us).toArray W fun e W' => res.post W S p rc e W'
def aput (n : Nat) (s : ASt) (dst : Option Nat) (c : FV) (st' : Nat → AObj) (K : ASt → Prop) : Prop := match dst with
 | some d => d < n ∧ K ⟨upd s.fr d c, st'⟩
 | none => K ⟨s.fr, st'⟩
def argsIV (s : ASt) : List Operand → Option (List IV)
 | [] => some []
 | x :: r => match toIV s.st (valOf s x), argsIV s r with
  | some y, some l => some (y.er :: l)
  | _, _ => none
def acallP (P : Program) (G : World → CS → Prop) (f : FuncId) (xa : Option (List IV)) (d : Option Nat) (n : Nat) (s : ASt) (K : ASt → Prop) (Qp : Value → ASt → Prop) : Prop := match xa with
 | some xa => ∃ res, ACalls P G f none xa res ∧ (match res with
  | .ret v _ => aput n s d (.im v) s.st K
  | .pan x => Qp x s)
 | none => False
def acallR (P : Program) (G : World → CS → Prop) (f : FuncId) (b : Nat) (rc : Option (List IV)) (xa : Option (List IV)) (d : Option Nat) (n : Nat) (s : ASt) (K : ASt → Prop) (Qp : Value → ASt → Prop) : Prop := match rc, xa with
 | some rc, some xa => ∃ res, ACalls P G f (some rc) xa res ∧ (match res with
  | .ret v rc' => aput n s d (.im v) (upd s.st b (.box (rc'.map FV.im))) K
  | .pan x => ∀ L : Nat, Qp x ⟨s.fr, upd s.st b (.box (List.replicate L .junk))⟩)
 | _, _ => False
def acall (P : Program) (G : World → CS → Prop) (f : FuncId) (args : List Operand) (d : Option Nat) (n : Nat) (s : ASt) (K : ASt → Prop) (Qp : Value → ASt → Prop) : Prop := match args with
 | [] => acallP P G f (some []) d n s K Qp
 | x :: r => match valOf s x with
  | .ptr b 0 => (match s.st b with
   | .box cs => acallR P G f b (allIV s.st cs) (argsIV s r) d n s K Qp
   | _ => False)
  | _ => acallP P G f (argsIV s (x :: r)) d n s K Qp
def aop (P : Program) (G : World → CS → Prop) (n : Nat) (o : Oper) (s : ASt) (K : ASt → Prop) (Qp : Value → ASt → Prop) : Prop := match o.op with
 | .call c => (match c.callee with
  | .value (.func f) => acall P G f c.args.toList o.dst n s K Qp
  | .value (.tmp t) => (match s.fr t with
   | .im (.v (.func (.func f) first caps)) => first = #[] ∧ acallP P G f ((argsIV s c.args.toList).map fun xa => xa ++ caps.toList.map IV.v) o.dst n s K Qp
   | _ => False)
  | _ => aval P (.call c) o.dst s fun x st' => aput n s o.dst x st' K)
 | .panic x => (match valOf s x with
  | .im (.v (.iface t u)) => Qp (.iface t u) s
  | _ => False)
 | op => aval P op o.dst s fun x st' => aput n s o.dst x st' K
def isWant (x : Value) (want : Bool) : Bool := match x with
 | .bool b => b == want
 | _ => false
def aguard (ops : Array Oper) (s : ASt) (g : Option (Nat × Bool)) : Option Bool := match g with
 | none => some true
 | some (j, want) => match (ops[j]?).bind (·.dst) with
  | some d => match s.fr d with
   | .im (.v x) => some (isWant x want)
   | _ => none
  | none => none
def aops (P : Program) (G : World → CS → Prop) (n : Nat) (ops : Array Oper) : List Oper → ASt → (ASt → Prop) → (Value → ASt → Prop) → Prop
 | [], s, K, _ => K s
 | o :: r, s, K, Qp => match aguard ops s o.guard with
  | some true => aop P G n o s (fun s' => aops P G n ops r s' K Qp) Qp
  | some false => aput n s o.dst (.im (.v undef)) s.st fun s' => aops P G n ops r s' K Qp
  | none => False
inductive AExit where
 | normal
 | exit (id : Nat)
 | goto (l : Nat)
 | ret
 | panic (x : Value)
def Rel (X : Ctx) (s : ASt) (a : Act) (W : World) : Prop := ∃ E S, RelE X E S s a W
def conc (X : Ctx) (Q : AExit → ASt → Prop) : Exit → Act → World → Prop
 | .normal, a, W => ∃ s, Rel X s a W ∧ Q .normal s
 | .exit i, a, W => ∃ s, Rel X s a W ∧ Q (.exit i) s
 | .goto l, a, W => ∃ s, Rel X s a W ∧ Q (.goto l) s
 | .ret, a, W => ∃ s, Rel X s a W ∧ Q .ret s
 | .panic ch, a, W => ∃ s x, ch = [{ v := x, recovered := false }] ∧ Rel X s a W ∧ Q (.panic x) s
 | .outgrown, _, _ => False
def AW (P : Program) (X : Ctx) (c : Code) (Q : AExit → ASt → Prop) (s : ASt) : Prop := ∀ a W, Rel X s a W → c.wp P (conc X Q) a W
section
variable {P : Program} {X : Ctx} {E : AEnv} {S : CS} {s : ASt} {a : Act} {W : World} {o : Oper}
theorem aval_sound {K : FV → (Nat → AObj) → Prop} {Q : Exit → Act → World → Prop} (h : RelE X E S s a W) (hop : aval P o.op o.dst s K) : Out P X s a W o K Q := by
 cases ho : o.op with
 | move x => rw [ho] at hop; exact val_move h ho hop
 | assign x => rw [ho] at hop; exact val_assign h ho hop
 | pick c x y => rw [ho] at hop; exact val_pick h ho hop
 | alloc t => rw [ho] at hop; exact val_alloc h ho hop
 | box t x => rw [ho] at hop; exact val_box h ho hop
 | build t ps => rw [ho] at hop; exact val_build h ho hop
 | buildSlice t n ps => rw [ho] at hop; exact val_buildSlice h ho hop
 | load t x => rw [ho] at hop; exact val_load h ho hop
 | store t x y => rw [ho] at hop; exact val_store h ho hop
 | nilCheck x => rw [ho] at hop; exact val_nilCheck h ho hop
 | binOp op t x y t' => rw [ho] at hop; exact val_bin h ho hop
 | unOp op t x => cases op <;> rw [ho] at hop <;> first | exact val_not h ho hop | exact hop.elim
 | makeInterface t x => rw [ho] at hop; exact val_makeInterface h ho hop
 | slice t x lo hi mx => cases mx <;> rw [ho] at hop <;> first | exact val_slice h ho hop | exact hop.elim
 | fieldAddr t x f => rw [ho] at hop; exact val_fieldAddr h ho hop
 | field t x f => rw [ho] at hop; exact val_field h ho hop
 | indexAddr t x i => rw [ho] at hop; exact val_indexAddr h ho hop
 | index t x i => rw [ho] at hop; exact val_index h ho hop
 | extract t i => rw [ho] at hop; exact val_extract h ho hop
 | convert t t' x => rw [ho] at hop; exact val_convert h ho hop
 | typeAssert x xT t ok => cases ok <;> rw [ho] at hop <;> first | exact val_typeAssert h ho hop | exact hop.elim
 | call c =>
  rw [ho] at hop; obtain ⟨callee, ⟨xs⟩, ⟨ts⟩⟩ := c; simp only [aval] at hop; split at hop
  ·rename_i b
   unfold abuil at hop; split at hop
   ·exact val_len h ho (by unfold abuil; exact hop)
   ·exact val_append h ho (by unfold abuil; exact hop)
   ·exact val_min h ho (by unfold abuil; exact hop)
   exact hop.elim
  exact hop.elim
 | _ => rw [ho] at hop; exact hop.elim
theorem put_any {n : Nat} (hn : n ≤ X.N) {s0 : Nat → FV} {st' : Nat → AObj} (h : RelE X E S ⟨s0, st'⟩ a W) {dst : Option Nat} {c : FV} {u : Value} (hc : RepF W S E st' c u) {K : ASt → Prop} {st0 : Nat → AObj} (hK : aput n ⟨s0, st0⟩ dst c st' K) : ∃ s', Rel X s' (a.put dst u) W ∧ K s' := by
 cases dst with
 | none => exact ⟨_, ⟨E, S, h⟩, hK⟩
 | some d => exact ⟨_, ⟨E, S, h.put d (Nat.lt_of_lt_of_le hK.1 hn) hc⟩, hK.2⟩
theorem rep_env {c : IV} {u : Value} {E' : AEnv} {st' : Nat → AObj} (h : Rep W S c u) : RepF W S E' st' (.im c) u := h
theorem argsIV_rep (h : RelE X E S s a W) : ∀ {l : List Operand} {xa : List IV}, argsIV s l = some xa → RepL W S xa (l.map a.eval)
 | [], xa, hl => by injection hl with hl; subst hl; exact RepL.nil W S
 | x :: r, xa, hl => by
  simp only [argsIV] at hl; split at hl
  ·rename_i y l' hy hr
   injection hl with hl; subst hl; exact RepL.cons (toIV_rep h (eval_rep h x) hy).er (argsIV_rep h hr)
  cases hl
theorem new_sub {W W' : World} {S : CS} {R : Nat → Prop} (hu : UpdR R W W') (hR : ∀ g o, S g o → ¬ R g) (hSb : ∀ g o, S g o → g < W.heap.size) : ∀ g o, S g o → W'.cell? ⟨g, o, none⟩ = W.cell? ⟨g, o, none⟩ :=
 fun g o ho => cell_block (hu.block g (hSb g o ho) (hR g o ho))
theorem RelE.called0 (h : RelE X E S s a W) {W' : World} (hu : UpdR (fun k => (none : Option (List IV)).isSome = true ∧ k = 0) W W') : RelE X E (newC W W' S) s a W' :=
 h.core (fun _ => False) s.st E _ _ (fun _ _ => ⟨rfl, rfl, rfl⟩) rfl (fun _ hj => hj.elim) hu.os hu.tape hu.output hu.size (fun g hg _ => hu.block g hg (fun h => by cases h.1)) (new_sub hu (fun _ _ _ h => by cases h.1) h.Sb) (fun _ _ h => Or.inl h)
  (fun g o ho => ho.imp id (fun e => Or.inl e.1)) (fun g o (ho : newC W W' S g o) => ho.elim (fun ho => Nat.lt_of_lt_of_le (h.Sb g o ho) hu.size) (fun e => e.2)) (fun _ hj => hj.elim) (fun _ _ hj => hj.elim) (fun _ _ _ hj => hj.elim)
theorem RelE.called (h : RelE X E S s a W) {b : Nat} {cs : List FV} {rc rc' : List IV} {W' : World} (hb : s.st b = .box cs) (hu : UpdR (fun k => (some rc).isSome = true ∧ k = E.box b) W W') (hr : RBox W' (newC W W' S) (E.box b) rc') :
  RelE X E (newC W W' S) ⟨s.fr, upd s.st b (.box (rc'.map FV.im))⟩ a W' := by
 have hob := h.ob b; rw [hb] at hob; obtain ⟨⟨us, hul, hB, hu1, hur, hS⟩, hloc⟩ := hob; refine h.core (· = b) _ E _ _ (fun j hj => ⟨upd_ne _ _ hj, rfl, rfl⟩) rfl (fun j hj => ?_) hu.os hu.tape hu.output hu.size (fun g hg hne => hu.block g hg (fun e => hne b rfl (by rw [hb]; exact congrArg some e.2.symm)))
  (new_sub hu (fun g o ho e => hS o (e.2 ▸ ho)) h.Sb) (fun _ _ h => Or.inl h) (fun g o ho => ho.imp id (fun e => Or.inl e.1)) (fun g o (ho : newC W W' S g o) => ho.elim (fun ho => Nat.lt_of_lt_of_le (h.Sb g o ho) hu.size) (fun e => e.2)) (fun j hj => ?_) (fun j g hj hg => ?_) (fun i j g hi hj _ _ => hi.trans hj.symm)
 ·subst hj; rw [hb, upd_same]; exact ⟨⟨_, rfl⟩, rfl⟩
 ·subst hj
  rw [upd_same]; obtain ⟨vs, r1, r2, r3, r4⟩ := hr; refine ⟨⟨vs, by simp [r2.1], r1, r3, fun i c u hc hu => ?_, r4⟩, hloc⟩; rw [List.getElem?_map] at hc; cases hq : rc'[i]? with
  | none => rw [hq] at hc; cases hc
  | some q =>
   rw [hq] at hc; simp only [Option.map_some, Option.some.injEq] at hc; subst hc; exact r2.2 i q u hq hu
 subst hj; rw [upd_same] at hg; rw [hb]; exact Or.inl hg
theorem RelE.calledJ (h : RelE X E S s a W) {b : Nat} {cs : List FV} {rc : List IV} {W' : World} (hb : s.st b = .box cs) (hu : UpdR (fun k => (some rc).isSome = true ∧ k = E.box b) W W') (hr : JBox W' (newC W W' S) (E.box b)) :
  ∃ us : List Value, RelE X E (newC W W' S) ⟨s.fr, upd s.st b (.box (List.replicate us.length .junk))⟩ a W' := by
 have hob := h.ob b; rw [hb] at hob; obtain ⟨⟨us, hul, hB, hu1, hur, hS⟩, hloc⟩ := hob; obtain ⟨vs, r1, r3, r4⟩ := hr; refine ⟨vs, h.core (· = b) _ E _ _ (fun j hj => ⟨upd_ne _ _ hj, rfl, rfl⟩) rfl (fun j hj => ?_) hu.os hu.tape hu.output hu.size (fun g hg hne => hu.block g hg (fun e => hne b rfl (by rw [hb]; exact congrArg some e.2.symm)))
  (new_sub hu (fun g o ho e => hS o (e.2 ▸ ho)) h.Sb) (fun _ _ h => Or.inl h) (fun g o ho => ho.imp id (fun e => Or.inl e.1)) (fun g o (ho : newC W W' S g o) => ho.elim (fun ho => Nat.lt_of_lt_of_le (h.Sb g o ho) hu.size) (fun e => e.2)) (fun j hj => ?_) (fun j g hj hg => ?_) (fun i j g hi hj _ _ => hi.trans hj.symm)⟩
 ·subst hj; rw [hb, upd_same]; exact ⟨⟨_, rfl⟩, rfl⟩
 ·subst hj
  rw [upd_same]; refine ⟨⟨vs, by simp, r1, r3, fun i c u hc hu => ?_, r4⟩, hloc⟩; have := List.mem_of_getElem? hc; rw [List.eq_of_mem_replicate this]; trivial
 subst hj; rw [upd_same] at hg; rw [hb]; exact Or.inl hg
theorem exec_call {a : Act} {c : Call} {f : FuncId} {xs : List Operand} (ho : o.op = .call c) (hc : c.callee = .value (.func f)) (hx : c.args.toList = xs) (hf : ∃ fn, P.funcs[f]? = some fn ∧ fn.body.isNone = false ∧ (fn.name == "runtime.NumGoroutine") = false) : (execOp a.eval o).run P W = .ok (.enter f (xs.map a.eval).toArray) W := by
 obtain ⟨fn, h1, h2, h3⟩ := hf; have hargs : c.args.map a.eval = (xs.map a.eval).toArray := by rw [← hx, ← Array.toList_map]
 have he : a.eval (.func f) = .func (.func f) #[] #[] := rfl; have h3' : ¬ fn.name = "runtime.NumGoroutine" := by simpa using h3
 have h2' : ¬ fn.body = none := by intro e; rw [e] at h2; cases h2
 simp only [execOp, ho, resolve, hc, he, hargs, Deferred.ofValue, invoke, callFunc, Sem.run_bind, Sem.run_pure, Result.andThen_ok]; simp [h1, h2', h3']
theorem exec_callv {a : Act} {c : Call} {f : FuncId} {x : Operand} {caps : Array Value} (ho : o.op = .call c) (hc : c.callee = .value x) (he : a.eval x = .func (.func f) #[] caps) (hf : ∃ fn, P.funcs[f]? = some fn ∧ fn.body.isNone = false ∧ (fn.name == "runtime.NumGoroutine") = false) : (execOp a.eval o).run P W = .ok (.enter f (c.args.toList.map a.eval ++ caps.toList).toArray) W := by
 obtain ⟨fn, h1, h2, h3⟩ := hf; have hargs : c.args.map a.eval ++ caps = (c.args.toList.map a.eval ++ caps.toList).toArray := by apply Array.ext'; simp
 have h3' : ¬ fn.name = "runtime.NumGoroutine" := by simpa using h3
 have h2' : ¬ fn.body = none := by intro e; rw [e] at h2; cases h2
 rw [← hargs]; simp only [execOp, ho, resolve, hc, he, Deferred.ofValue, invoke, callFunc, Sem.run_bind, Sem.run_pure, Result.andThen_ok]; simp [h1, h2', h3']
theorem RepL.app {xs ys : List IV} {us vs : List Value} (h1 : RepL W S xs us) (h2 : RepL W S ys vs) : RepL W S (xs ++ ys) (us ++ vs) := by
 refine ⟨by rw [List.length_append, List.length_append, h1.1, h2.1], fun i x u hx hu => ?_⟩; have hl := h1.1; rcases Nat.lt_or_ge i xs.length with h | h
 ·rw [List.getElem?_append_left h] at hx
  rw [List.getElem?_append_left (by omega)] at hu; exact h1.2 i x u hx hu
 rw [List.getElem?_append_right h] at hx; rw [List.getElem?_append_right (by omega)] at hu; exact h2.2 _ x u hx (by rw [← hl]; exact hu)
theorem repL_vals (l : List Value) : RepL W S (l.map IV.v) l := by
 refine ⟨(List.length_map _).symm, fun i x u hx hu => ?_⟩; rw [List.getElem?_map, hu] at hx; injection hx with hx; rw [← hx]; exact .v _
theorem aop_sound {Q : AExit → ASt → Prop} {K : ASt → Prop} {n : Nat} (hn : n ≤ X.N) (h : RelE X E S s a W) (hop : aop P X.G n o s K fun x s' => Q (.panic x) s') : o.wp P a W (fun a' W' => ∃ s', Rel X s' a' W' ∧ K s') (conc X Q) := by
 have hval : aval P o.op o.dst s (fun x st' => aput n s o.dst x st' K) → o.wp P a W (fun a' W' => ∃ s', Rel X s' a' W' ∧ K s') (conc X Q) := by
  intro hv; refine Oper.wp_mono (fun a' W' hh => ?_) (aval_sound (Q := conc X Q) h hv); obtain ⟨c, st', E', S', u, hK, rfl, hR, hc⟩ := hh; exact put_any hn hR hc hK
 unfold aop at hop; split at hop
 ·rename_i c ho
  split at hop
  ·rename_i f hcal
   have plain : ∀ xs xa, c.args.toList = xs → argsIV s xs = some xa → acallP P X.G f (some xa) o.dst n s K (fun x s' => Q (.panic x) s') → o.wp P a W (fun a' W' => ∃ s', Rel X s' a' W' ∧ K s') (conc X Q) := by
    intro xs xa hxs has hc; obtain ⟨res, ⟨hf, hC⟩, hres⟩ := hc; have hcall := hC W S 0 (xs.map a.eval) h.g h.Sb (fun cs hh => by cases hh) (argsIV_rep h has); unfold Oper.wp; rw [exec_call ho hcal hxs hf]; refine Calls.mono hcall (fun e W' hp => ?_); cases res with
    | ret v rc' =>
     obtain ⟨⟨u, rfl, hv⟩, _, hu⟩ := hp; exact put_any hn (h.called0 hu) (rep_env hv) hres
    | pan x =>
     obtain ⟨rfl, _, hu⟩ := hp; exact ⟨s, x, rfl, ⟨E, _, h.called0 hu⟩, hres⟩
   unfold acall at hop; split at hop
   ·rename_i hxs
    exact plain [] [] hxs rfl hop
   rename_i x r hxs
   split at hop
   ·rename_i b hx
    split at hop
    ·rename_i cs hb
     unfold acallR at hop; split at hop
     ·rename_i rc xa hrc has
      obtain ⟨res, ⟨hf, hC⟩, hres⟩ := hop; have hob := h.ob b; rw [hb] at hob; obtain ⟨⟨us, hul, hB, hu1, hur, hS⟩, hloc⟩ := hob; have hcall := hC W S (E.box b) (r.map a.eval) h.g h.Sb (fun cs' hh => by injection hh with hh; subst hh; exact ⟨us, hB, allIV_rep h hul hur hrc, hu1, hS⟩) (argsIV_rep h has); unfold Oper.wp; rw [exec_call ho hcal hxs hf, List.map_cons, eval_ptr h hx]; refine Calls.mono hcall (fun e W' hp => ?_); cases res with
      | ret v rc' =>
       obtain ⟨⟨u, rfl, hv⟩, hr, hu⟩ := hp; exact put_any hn (h.called hb hu (hr rfl)) (rep_env hv) hres
      | pan x =>
       obtain ⟨rfl, hr, hu⟩ := hp; obtain ⟨us', hR'⟩ := h.calledJ hb hu (hr rfl); exact ⟨_, x, rfl, ⟨E, _, hR'⟩, hres us'.length⟩
     exact hop.elim
    exact hop.elim
   unfold acallP at hop; split at hop
   ·rename_i xa has
    exact plain (x :: r) xa hxs has (by unfold acallP; exact hop)
   exact hop.elim
  ·rename_i t hcal
   split at hop
   ·rename_i f first caps hx
    obtain ⟨rfl, hop⟩ := hop; have he := eval_v h (x := .tmp t) hx; unfold acallP at hop; split at hop
    ·rename_i xa has
     obtain ⟨ya, hya, rfl⟩ := Option.map_eq_some_iff.1 has; obtain ⟨res, ⟨hf, hC⟩, hres⟩ := hop; have hcall := hC W S 0 (c.args.toList.map a.eval ++ caps.toList) h.g h.Sb (fun cs hh => by cases hh) ((argsIV_rep h hya).app (repL_vals _)); unfold Oper.wp; rw [exec_callv ho hcal he hf]; refine Calls.mono hcall (fun e W' hp => ?_); cases res with
     | ret v rc' =>
      obtain ⟨⟨u, rfl, hv⟩, _, hu⟩ := hp; exact put_any hn (h.called0 hu) (rep_env hv) hres
     | pan x =>
      obtain ⟨rfl, _, hu⟩ := hp; exact ⟨s, x, rfl, ⟨E, _, h.called0 hu⟩, hres⟩
    exact hop.elim
   exact hop.elim
  exact hval (by rw [ho]; exact hop)
 ·rename_i x ho
  split at hop
  ·rename_i t u hx
   have hx' := eval_v h hx; unfold Oper.wp; have : (execOp a.eval o).run P W = .halt (.panic (.iface t u)) W := by simp [execOp, ho, hx', Instr.panic, goPanic, Sem.run]
   rw [this]; exact ⟨s, _, rfl, ⟨E, S, h⟩, hop⟩
  exact hop.elim
 exact hval hop
theorem guard_sound {ops : Array Oper} {g : Option (Nat × Bool)} {b : Bool} (h : RelE X E S s a W) (hg : aguard ops s g = some b) {o : Oper} (hog : o.guard = g) : Region.wanted o (yielded ops a.tmps) = b := by
 unfold aguard at hg; split at hg
 ·injection hg with hg; subst hg; simp [Region.wanted, hog]
 rename_i j want
 split at hg
 ·rename_i d hd
  split at hg
  ·rename_i x hx
   injection hg with hg; subst hg; have hf := h.fr d; rw [hx] at hf; have hv := rep_v hf; simp only [Region.wanted, hog, yielded, hd, Option.bind_some]; cases ht : a.tmps[d]? with
   | none =>
    rw [Array.getD_eq_getD_getElem?, ht] at hv; rw [← hv]; rfl
   | some y =>
    rw [Array.getD_eq_getD_getElem?, ht] at hv; simp only [Option.getD_some] at hv; subst hv; cases y <;> first | rfl | (rename_i bb; cases bb <;> cases want <;> rfl)
  cases hg
 cases hg
theorem aops_sound {Q : AExit → ASt → Prop} {n : Nat} (hn : n ≤ X.N) (ops : Array Oper) : ∀ (l : List Oper) {s : ASt} {a : Act} {W : World}, Rel X s a W → aops P X.G n ops l s (fun s' => Q .normal s') (fun x s' => Q (.panic x) s') → wpList P ops (conc X Q) l a W
 | [], s, a, W, h, hop => ⟨s, h, hop⟩
 | o :: r, s, a, W, ⟨E, S, h⟩, hop => by
  simp only [aops] at hop; split at hop
  ·rename_i hg
   unfold wpList; rw [if_pos (guard_sound h hg rfl)]; exact Or.inl (Oper.wp_mono (fun a' W' ⟨s', hR, hK⟩ => aops_sound hn ops r hR hK) (aop_sound hn h hop))
  ·rename_i hg
   unfold wpList; rw [if_neg (by rw [guard_sound h hg rfl]; simp)]; obtain ⟨s', hR, hK⟩ := put_any (c := .im (.v undef)) (u := undef) hn h (Rep.v undef) hop; exact aops_sound hn ops r hR hK
  exact hop.elim
/-! code -/
def AThen (K : ASt → Prop) (Q : AExit → ASt → Prop) : AExit → ASt → Prop
 | .normal, s => K s
 | e, s => Q e s
def ABlock (id : Nat) (Q : AExit → ASt → Prop) : AExit → ASt → Prop
 | .exit i, s => if i = id then Q .normal s else Q (.exit i) s
 | e, s => Q e s
theorem AW.seq {x y : Code} {Q : AExit → ASt → Prop} (h : AW P X x (AThen (AW P X y Q) Q) s) : AW P X (.seq x y) Q s := fun a W hR =>
 wp_seq (wp_mono (h a W hR) fun e a' W' hq => by
  cases e with
  | normal => obtain ⟨s', hR', hK⟩ := hq; exact hK _ _ hR'
  | _ => exact hq)
theorem AW.skip {Q : AExit → ASt → Prop} (h : Q .normal s) : AW P X .skip Q s := fun _ _ hR => wp_skip ⟨s, hR, h⟩
theorem AW.exit {id : Nat} {Q : AExit → ASt → Prop} (h : Q (.exit id) s) : AW P X (.exit id) Q s := fun _ _ hR => wp_exit ⟨s, hR, h⟩
theorem AW.ret {Q : AExit → ASt → Prop} (h : Q .ret s) : AW P X .ret Q s := fun _ _ hR => wp_ret ⟨s, hR, h⟩
theorem AW.block {id : Nat} {c : Code} {Q : AExit → ASt → Prop} (h : AW P X c (ABlock id Q) s) : AW P X (.block id c) Q s := fun a W hR =>
 wp_block (wp_mono (h a W hR) fun e a' W' hq => by
  cases e with
  | exit i =>
   obtain ⟨s', hR', hK⟩ := hq; simp only [ABlock] at hK; simp only [Exit.inBlock]; split at hK
   ·rename_i hi; rw [if_pos hi]; exact ⟨s', hR', hK⟩
   rename_i hi; rw [if_neg hi]; exact ⟨s', hR', hK⟩
  | _ => exact hq)
theorem AW.cond {c : Operand} {x y : Code} {Q : AExit → ASt → Prop} (t : Bool) (hc : valOf s c = .im (.v (.bool t))) (h1 : t = true → AW P X x Q s) (h2 : t = false → AW P X y Q s) : AW P X (.cond c x y) Q s := fun a W ⟨E, S, hR⟩ =>
 wp_cond_split (eval_v hR hc) (fun ht => h1 ht a W ⟨E, S, hR⟩) (fun ht => h2 ht a W ⟨E, S, hR⟩)
theorem AW.region {id : Nat} {ops : Array Oper} {Q : AExit → ASt → Prop} (n : Nat) (hn : n ≤ X.N) (h : aops P X.G n ops ops.toList s (fun s' => Q .normal s') (fun x s' => Q (.panic x) s')) : AW P X (.region id ops false) Q s := fun _a _W hR =>
 wp_region_list (aops_sound hn ops _ hR h)
theorem AW.loop {c : Code} {Q : AExit → ASt → Prop} (I : Nat → ASt → Prop) (n : Nat) (h0 : I n s) (hround : ∀ n s, I n s → AW P X c (AThen (fun s' => ∃ m, m < n ∧ I m s') Q) s) : AW P X (.loop c) Q s := fun a W hR b k cs => by
 have key : ∀ n s, I n s → ∀ a W, Rel X s a W → ∃ e a' w', conc X Q e a' w' ∧ Arrives P (lone (b.at a (.code c :: .inLoop c :: k)) cs W) b k cs e a' w' := by
  intro n; induction n using Nat.strongRecOn with
  | _ n ih =>
   intro s hI a W hR; obtain ⟨e, a', W', hq, harr⟩ := hround n s hI a W hR b (.inLoop c :: k) cs; cases e with
   | normal =>
    obtain ⟨s', hR', m, hm, hI'⟩ := hq; obtain ⟨e2, a2, W2, hq2, harr2⟩ := ih m hm s' hI' a' W' hR'; exact ⟨e2, a2, W2, hq2, .of_steps (Steps.trans harr (.one step_inLoop)) harr2⟩
   | exit id => exact ⟨.exit id, a', W', hq, .pass (x := .inLoop c) rfl (fun _ _ => .inl (by simp)) harr⟩
   | goto l => exact ⟨.goto l, a', W', hq, .pass (x := .inLoop c) rfl (fun _ _ => .inl (by simp)) harr⟩
   | ret => exact ⟨.ret, a', W', hq, .pass (x := .inLoop c) rfl (fun _ _ => .inl (by simp)) harr⟩
   | panic ch => exact ⟨.panic ch, a', W', hq, .pass (x := .inLoop c) rfl (fun _ _ => .inl (by simp)) harr⟩
   | outgrown => exact hq.elim
 obtain ⟨e, a', w', hq, harr⟩ := key n s h0 a W hR; exact ⟨e, a', w', hq, .of_steps (.one step_loop) harr⟩
end
open Go Go.RowKit Go.Proofs Th
attribute [local go_sem] Above.cell
theorem tok_next_0 (p : Nat) (s : ByteArray) (hs : s.size ≤ 1000000) (d : Nat) (k : Int)
  (hQ : ∀ (W : World) (b : Nat), b < s.size → Box W p [.string s, .int .i64 b] → GlobX W → Calls Tryz.prog 72 #[.pointer (some ⟨p, 0, none⟩), .int .i64 k] W fun r w' => QuotePost W p s (quoteF s.data.toList d b) r w')
  (a : Nat) (hw : way s.data.toList (skipA s.data.toList a) = 0) (ha : a ≤ s.size) (w : World) (hB : Box w p [.string s, .int .i64 a]) (hG : GlobX w) :
  Calls Tryz.prog 47 #[.pointer (some ⟨p, 0, none⟩), .int .i64 k] w fun r w' => NextPost w p s (oneF s.data.toList d a) r w' := by
 have HL := Keep.mk (size_listU s); have hpl := hB.lt; have HQ := Keep.mk hQ; obtain ⟨b, hb⟩ : ∃ b, skipA s.data.toList a = b := ⟨_, rfl⟩
 have hbs : b ≤ s.size := by rw [← hb, ← HL.out]; exact (skipA_le _ _ (by rw [HL.out]; exact ha)).2
 have HO := Keep.mk (show oneF s.data.toList d a = oneG s.data.toList (quoteF s.data.toList d) b by rw [oneF_eq, hb]); have HK := Keep.mk (fun W hB => tok_skip p s a hs ha W hB); rw [hb] at HK; have HSK := Keep.mk (fun c (h : s.data.toList[b]? = some c) => (skip_at hb h).1); rw [hb] at hw; have HW := Keep.mk hw; clear hw; have HB := Keep.mk hB; have HG := Keep.mk hG; clear hQ hb ha hB hG; go_enter Tryz.func47, Tryz.ntmps47
 go_wp2_with fail
 refine (HK.out _ (HB.out.alloc _)).mono ?_; rintro r w1 ⟨rfl, hsc⟩; have HS := Keep.mk (show NextA w w1 p s b w.heap.size from ⟨⟨hsc.b, (Upd.of (al1 w _)).trans hsc.u⟩, (Box.new (w := w) (n := w.heap.size) [.int .i64 0, .string ⟨#[]⟩, .int .i64 0] 66 rfl).upd hsc.u (by omega), by omega, Nat.le_refl _, (HG.out.below (al1 w _)).upd (HB.out.alloc _) hsc.u, (by obtain ⟨m, hm⟩ := HG.out; exact lt_of_cell hm)⟩); clear hsc HK HB HG; obtain ⟨p0, p1⟩ := HS.out.sc.b.p2; have pf := HS.out.sc.b.froz 1; have pl := HS.out.sc.b.lt; obtain ⟨r0, rf0, r1, rf1, r2, rf2, rl⟩ := HS.out.b4.q3l; go_wp2_with fail
 refine wp_region_above (by kernel_rfl) (by kernel_rfl) ?_; repeat (go_big_quiet_step (fail))
 refine wpQuiet_nil ?_; rintro W2 ⟨z, hz⟩; replace HS := Keep.mk (hz ▸ HS.out.below z.property); clear p0 p1 pf pl r0 r1 r2 rf0 rf1 rf2 rl; clear hz z; obtain ⟨p0, p1⟩ := HS.out.sc.b.p2; have pf := HS.out.sc.b.froz 1; have pl := HS.out.sc.b.lt; obtain ⟨r0, rf0, r1, rf1, r2, rf2, rl⟩ := HS.out.b4.q3l; by_cases hend : b = s.size
 ·have hbe : ((b : Int) == (s.size : Int)) = true := by rw [beq_iff_eq]; omega
  have HE := Keep.mk (show oneF s.data.toList d a = (noTf, s.size, 0) by
   rw [HO.out]; unfold oneG; rw [List.drop_eq_nil_of_le (by rw [HL.out]; omega), hend])
  subst hend; clear HO HQ; go_wp2
  refine bodyPost_ret (v := .tuple #[.agg #[.int .i64 0, .string ⟨#[]⟩, .int .i64 0], .int .i64 0, .int .i64 0]) ?_ rfl ?_
  ·simp [results, Tryz.results47, go_sem, r0, r1, r2]
  rw [HE.out]; exact ⟨rfl, s.size, ((HS.out.sc.cell HS.out.n4 HS.out.z4 0 _).cell HS.out.n4 HS.out.z4 1 _).cell HS.out.n4 HS.out.z4 2 _, Nat.le_refl _, fun _ => rfl⟩
 exfalso; obtain ⟨c, r, hcr⟩ : ∃ c r, s.data.toList.drop b = c :: r := by
  cases hd : s.data.toList.drop b with
  | nil => have := List.drop_eq_nil_iff.1 hd; rw [HL.out] at this; omega
  | cons c r => exact ⟨c, r, rfl⟩
 have h1 := HW.out; have h2 := (wayC_pos c r).1; rw [way_cons hcr] at h1; omega
open Go Go.RowKit Go.Proofs Th
theorem tok_next_1 (p : Nat) (s : ByteArray) (hs : s.size ≤ 1000000) (d : Nat) (k : Int)
  (hQ : ∀ (W : World) (b : Nat), b < s.size → Box W p [.string s, .int .i64 b] → GlobX W → Calls Tryz.prog 72 #[.pointer (some ⟨p, 0, none⟩), .int .i64 k] W fun r w' => QuotePost W p s (quoteF s.data.toList d b) r w')
  (a : Nat) (hw : way s.data.toList (skipA s.data.toList a) = 1) (ha : a ≤ s.size) (w : World) (hB : Box w p [.string s, .int .i64 a]) (hG : GlobX w) :
  Calls Tryz.prog 47 #[.pointer (some ⟨p, 0, none⟩), .int .i64 k] w fun r w' => NextPost w p s (oneF s.data.toList d a) r w' := by
 have HL := Keep.mk (size_listU s); have hpl := hB.lt; have HQ := Keep.mk hQ; obtain ⟨b, hb⟩ : ∃ b, skipA s.data.toList a = b := ⟨_, rfl⟩
 have hbs : b ≤ s.size := by rw [← hb, ← HL.out]; exact (skipA_le _ _ (by rw [HL.out]; exact ha)).2
 have HO := Keep.mk (show oneF s.data.toList d a = oneG s.data.toList (quoteF s.data.toList d) b by rw [oneF_eq, hb]); have HK := Keep.mk (fun W hB => tok_skip p s a hs ha W hB); rw [hb] at HK; have HSK := Keep.mk (fun c (h : s.data.toList[b]? = some c) => (skip_at hb h).1); rw [hb] at hw; have HW := Keep.mk hw; clear hw; have HB := Keep.mk hB; have HG := Keep.mk hG; clear hQ hb ha hB hG; go_enter Tryz.func47, Tryz.ntmps47
 go_wp2_with fail
 refine (HK.out _ (HB.out.alloc _)).mono ?_; rintro r w1 ⟨rfl, hsc⟩; have HS := Keep.mk (show NextA w w1 p s b w.heap.size from ⟨⟨hsc.b, (Upd.of (al1 w _)).trans hsc.u⟩, (Box.new (w := w) (n := w.heap.size) [.int .i64 0, .string ⟨#[]⟩, .int .i64 0] 66 rfl).upd hsc.u (by omega), by omega, Nat.le_refl _, (HG.out.below (al1 w _)).upd (HB.out.alloc _) hsc.u, (by obtain ⟨m, hm⟩ := HG.out; exact lt_of_cell hm)⟩); clear hsc HK HB HG; obtain ⟨p0, p1⟩ := HS.out.sc.b.p2; have pf := HS.out.sc.b.froz 1; have pl := HS.out.sc.b.lt; obtain ⟨r0, rf0, r1, rf1, r2, rf2, rl⟩ := HS.out.b4.q3l; go_wp2_with fail
 refine wp_region_above (by kernel_rfl) (by kernel_rfl) ?_; repeat (go_big_quiet_step (fail))
 refine wpQuiet_nil ?_; rintro W2 ⟨z, hz⟩; replace HS := Keep.mk (hz ▸ HS.out.below z.property); clear p0 p1 pf pl r0 r1 r2 rf0 rf1 rf2 rl; clear hz z; obtain ⟨p0, p1⟩ := HS.out.sc.b.p2; have pf := HS.out.sc.b.froz 1; have pl := HS.out.sc.b.lt; obtain ⟨r0, rf0, r1, rf1, r2, rf2, rl⟩ := HS.out.b4.q3l; by_cases hend : b = s.size
 ·exact absurd (HW.out.symm.trans (way_end (by rw [HL.out]; omega))) (by decide)
 have hlt : b < s.size := by omega
 have hbe : ((b : Int) == (s.size : Int)) = false := by rw [beq_eq_false_iff_ne]; omega
 go_wp2_with fail
 refine wp_region_above (by kernel_rfl) (by kernel_rfl) ?_; repeat (go_big_quiet_step (fail))
 refine wpQuiet_nil ?_; rintro W2 ⟨z, hz⟩; replace HS := Keep.mk (hz ▸ HS.out.below z.property); clear p0 p1 pf pl r0 r1 r2 rf0 rf1 rf2 rl; clear hz z; obtain ⟨p0, p1⟩ := HS.out.sc.b.p2; have pf := HS.out.sc.b.froz 1; have pl := HS.out.sc.b.lt; obtain ⟨r0, rf0, r1, rf1, r2, rf2, rl⟩ := HS.out.b4.q3l; go_upto_region 7 with fail
 generalize hx : s.extract b s.size = x; have hxl : x.data.toList = s.data.toList.drop b := by rw [← hx, bx_to]
 have hxz : x.size = s.size - b := by rw [← hx]; exact ext_size s b hbs
 have hx0 : 0 < x.size := by omega
 obtain ⟨xr, hxr⟩ := head_at hx0; refine wp_world (fun W => NextB w W p s b w.heap.size W2.heap.size 0 ⟨#[]⟩ b) (NextB.make HS.out hpl (al1 _ _) (Box.new [.int .i64 0, .string ⟨#[]⟩, .int .i64 b] _ rfl)) ?_; clear p0 p1 pf pl r0 r1 r2 rf0 rf1 rf2 rl; clear HS; rintro W3 HS; replace HS := Keep.mk HS; have hn8 := HS.out.n8; have hz8 := HS.out.z8; generalize W2.heap.size = t8 at *; have hn4 := HS.out.n4; have hn48 := HS.out.n48; generalize hw4 : w.heap.size = t4 at *; obtain ⟨p0, p1⟩ := HS.out.sc.b.p2; have pf := HS.out.sc.b.froz 1; have pl := HS.out.sc.b.lt; obtain ⟨r0, rf0, r1, rf1, r2, rf2, rl⟩ := HS.out.b4.q3l; obtain ⟨t0, tf0, t1, tf1, t2, tf2, tl⟩ := HS.out.b8.q3l; replace HW := Keep.mk ((way_cons (hxl.symm.trans hxr)).symm.trans HW.out); by_cases h34 : x[0] = 34
 ·have f34 : (x[0].toNat : Int) = 34 := by rw [h34]; rfl
  obtain ⟨⟨q1, q2⟩, hq⟩ : ∃ q, quoteF s.data.toList d b = q := ⟨_, rfl⟩
  have HC := Keep.mk (HQ.out W3 b hlt HS.out.sc.b HS.out.glob); have HE := Keep.mk (show oneF s.data.toList d a = if q2 ≠ 0 then (noTf, q1, q2) else (⟨5, ⟨((s.data.toList.drop b).take (q1 - b)).toArray⟩, b⟩, q1, 0) by
   rw [HO.out]; unfold oneG; rw [← hxl, hxr, h34, hq]; rfl)
  have hqk := (quoteF_ok s.data.toList d b (by rw [HL.out]; exact hlt)).2; rw [hq] at HC hqk; dsimp only at hqk; clear hq HO HQ h34 hxr hxl hx; go_wp2_with fail
  refine HC.out.mono ?_; rintro r w4 ⟨rfl, j, hsc, hj, hje⟩; replace HS := Keep.mk (HS.out.scan hsc); clear p0 p1 pf pl r0 r1 r2 rf0 rf1 rf2 rl t0 t1 t2 tf0 tf1 tf2 tl; clear hsc HC; obtain ⟨p0, p1⟩ := HS.out.sc.b.p2; have pf := HS.out.sc.b.froz 1; have pl := HS.out.sc.b.lt; obtain ⟨r0, rf0, r1, rf1, r2, rf2, rl⟩ := HS.out.b4.q3l; obtain ⟨t0, tf0, t1, tf1, t2, tf2, tl⟩ := HS.out.b8.q3l; dsimp only at hje; by_cases hq2 : q2 = 0
  ·subst hq2
   have hbq := hqk rfl; clear hqk; obtain rfl : q1 = j := (hje rfl).symm; go_wp2_with fail
   go_cut [] (fun wx => Keep (NextB w wx p s q1 t4 t8 5 (s.extract b q1) b))
   case first =>
    go_region_with (fail)
    all_goals (
     go_wp2_with fail
     go_meet
     exact ⟨HS.out.two 5 (s.extract b q1)⟩)
   case rest =>
    clear HS; clear p0 p1 pf pl r0 r1 r2 rf0 rf1 rf2 rl t0 t1 t2 tf0 tf1 tf2 tl; have HS := hcut; clear hcut; obtain ⟨p0, p1⟩ := HS.out.sc.b.p2; have pf := HS.out.sc.b.froz 1; have pl := HS.out.sc.b.lt; obtain ⟨r0, rf0, r1, rf1, r2, rf2, rl⟩ := HS.out.b4.q3l; obtain ⟨t0, tf0, t1, tf1, t2, tf2, tl⟩ := HS.out.b8.q3l; go_wp2
    refine bodyPost_ret (v := .tuple #[.agg #[.int .i64 5, .string (s.extract b q1), .int .i64 b], .int .i64 0, .int .i64 0]) ?_ rfl ?_
    ·simp [results, Tryz.results47, go_sem, r0, r1, r2]
    rw [HE.out, if_neg (fun h => h rfl)]; exact ⟨by rw [← ext_midT s b q1]; rfl, q1, ((HS.out.sc.cell HS.out.n4 HS.out.z4 0 _).cell HS.out.n4 HS.out.z4 1 _).cell HS.out.n4 HS.out.z4 2 _, hj, fun _ => rfl⟩
  have hne : ¬ (q2 : Int) = 0 := by omega
  go_wp2
  refine bodyPost_ret (v := .tuple #[.agg #[.int .i64 0, .string ⟨#[]⟩, .int .i64 0], .int .i64 (q1 : Int), .int .i64 (q2 : Int)]) ?_ rfl ?_
  ·simp [results, Tryz.results47, go_sem, r0, r1, r2]
  rw [HE.out, if_pos hq2]; exact ⟨by rw [if_neg hq2]; rfl, j, ((HS.out.sc.cell HS.out.n4 HS.out.z4 0 _).cell HS.out.n4 HS.out.z4 1 _).cell HS.out.n4 HS.out.z4 2 _, hj, fun h => absurd h hq2⟩
 exfalso; have hw := HW.out; unfold wayC at hw; rw [if_neg h34] at hw; (repeat' split at hw) <;> cases hw
open Go Go.RowKit Go.Proofs Th
theorem tok_next_2 (p : Nat) (s : ByteArray) (hs : s.size ≤ 1000000) (d : Nat) (k : Int)
  (hQ : ∀ (W : World) (b : Nat), b < s.size → Box W p [.string s, .int .i64 b] → GlobX W → Calls Tryz.prog 72 #[.pointer (some ⟨p, 0, none⟩), .int .i64 k] W fun r w' => QuotePost W p s (quoteF s.data.toList d b) r w')
  (a : Nat) (hw : way s.data.toList (skipA s.data.toList a) = 2) (ha : a ≤ s.size) (w : World) (hB : Box w p [.string s, .int .i64 a]) (hG : GlobX w) :
  Calls Tryz.prog 47 #[.pointer (some ⟨p, 0, none⟩), .int .i64 k] w fun r w' => NextPost w p s (oneF s.data.toList d a) r w' := by
 have HL := Keep.mk (size_listU s); have hpl := hB.lt; have HQ := Keep.mk hQ; obtain ⟨b, hb⟩ : ∃ b, skipA s.data.toList a = b := ⟨_, rfl⟩
 have hbs : b ≤ s.size := by rw [← hb, ← HL.out]; exact (skipA_le _ _ (by rw [HL.out]; exact ha)).2
 have HO := Keep.mk (show oneF s.data.toList d a = oneG s.data.toList (quoteF s.data.toList d) b by rw [oneF_eq, hb]); have HK := Keep.mk (fun W hB => tok_skip p s a hs ha W hB); rw [hb] at HK; have HSK := Keep.mk (fun c (h : s.data.toList[b]? = some c) => (skip_at hb h).1); rw [hb] at hw; have HW := Keep.mk hw; clear hw; have HB := Keep.mk hB; have HG := Keep.mk hG; clear hQ hb ha hB hG; go_enter Tryz.func47, Tryz.ntmps47
 go_wp2_with fail
 refine (HK.out _ (HB.out.alloc _)).mono ?_; rintro r w1 ⟨rfl, hsc⟩; have HS := Keep.mk (show NextA w w1 p s b w.heap.size from ⟨⟨hsc.b, (Upd.of (al1 w _)).trans hsc.u⟩, (Box.new (w := w) (n := w.heap.size) [.int .i64 0, .string ⟨#[]⟩, .int .i64 0] 66 rfl).upd hsc.u (by omega), by omega, Nat.le_refl _, (HG.out.below (al1 w _)).upd (HB.out.alloc _) hsc.u, (by obtain ⟨m, hm⟩ := HG.out; exact lt_of_cell hm)⟩); clear hsc HK HB HG; obtain ⟨p0, p1⟩ := HS.out.sc.b.p2; have pf := HS.out.sc.b.froz 1; have pl := HS.out.sc.b.lt; obtain ⟨r0, rf0, r1, rf1, r2, rf2, rl⟩ := HS.out.b4.q3l; go_wp2_with fail
 refine wp_region_above (by kernel_rfl) (by kernel_rfl) ?_; repeat (go_big_quiet_step (fail))
 refine wpQuiet_nil ?_; rintro W2 ⟨z, hz⟩; replace HS := Keep.mk (hz ▸ HS.out.below z.property); clear p0 p1 pf pl r0 r1 r2 rf0 rf1 rf2 rl; clear hz z; obtain ⟨p0, p1⟩ := HS.out.sc.b.p2; have pf := HS.out.sc.b.froz 1; have pl := HS.out.sc.b.lt; obtain ⟨r0, rf0, r1, rf1, r2, rf2, rl⟩ := HS.out.b4.q3l; by_cases hend : b = s.size
 ·exact absurd (HW.out.symm.trans (way_end (by rw [HL.out]; omega))) (by decide)
 have hlt : b < s.size := by omega
 have hbe : ((b : Int) == (s.size : Int)) = false := by rw [beq_eq_false_iff_ne]; omega
 go_wp2_with fail
 refine wp_region_above (by kernel_rfl) (by kernel_rfl) ?_; repeat (go_big_quiet_step (fail))
 refine wpQuiet_nil ?_; rintro W2 ⟨z, hz⟩; replace HS := Keep.mk (hz ▸ HS.out.below z.property); clear p0 p1 pf pl r0 r1 r2 rf0 rf1 rf2 rl; clear hz z; obtain ⟨p0, p1⟩ := HS.out.sc.b.p2; have pf := HS.out.sc.b.froz 1; have pl := HS.out.sc.b.lt; obtain ⟨r0, rf0, r1, rf1, r2, rf2, rl⟩ := HS.out.b4.q3l; go_upto_region 7 with fail
 generalize hx : s.extract b s.size = x; have hxl : x.data.toList = s.data.toList.drop b := by rw [← hx, bx_to]
 have hxz : x.size = s.size - b := by rw [← hx]; exact ext_size s b hbs
 have hx0 : 0 < x.size := by omega
 obtain ⟨xr, hxr⟩ := head_at hx0; refine wp_world (fun W => NextB w W p s b w.heap.size W2.heap.size 0 ⟨#[]⟩ b) (NextB.make HS.out hpl (al1 _ _) (Box.new [.int .i64 0, .string ⟨#[]⟩, .int .i64 b] _ rfl)) ?_; clear p0 p1 pf pl r0 r1 r2 rf0 rf1 rf2 rl; clear HS; rintro W3 HS; replace HS := Keep.mk HS; have hn8 := HS.out.n8; have hz8 := HS.out.z8; generalize W2.heap.size = t8 at *; have hn4 := HS.out.n4; have hn48 := HS.out.n48; generalize hw4 : w.heap.size = t4 at *; obtain ⟨p0, p1⟩ := HS.out.sc.b.p2; have pf := HS.out.sc.b.froz 1; have pl := HS.out.sc.b.lt; obtain ⟨r0, rf0, r1, rf1, r2, rf2, rl⟩ := HS.out.b4.q3l; obtain ⟨t0, tf0, t1, tf1, t2, tf2, tl⟩ := HS.out.b8.q3l; replace HW := Keep.mk ((way_cons (hxl.symm.trans hxr)).symm.trans HW.out); by_cases h34 : x[0] = 34
 ·exfalso
  have hw := HW.out; unfold wayC at hw; rw [if_pos h34] at hw; cases hw
 have f34 : ¬ (x[0].toNat : Int) = 34 := fun h => h34 (UInt8.toNat_inj.1 (by show x[0].toNat = 34; omega))
 have g34 : ((x[0].toNat : Int) == 34) = false := by rw [beq_eq_false_iff_ne]; exact f34
 have hdl : s.data.toList.drop b = x[0] :: xr := by rw [← hxl, hxr]
 have hat : s.data.toList[b]? = some x[0] := by
  have := congrArg List.head? hdl; rw [List.head?_drop] at this; exact this
 have h32 : x[0] ≠ 32 := fun h => by
  have := HSK.out x[0] hat; rw [h] at this; cases this
 have HE := Keep.mk (fun (kk o n : Nat) (ht : tokP (x[0] :: xr) = (kk, o, n)) => show oneF s.data.toList d a = if kk = 0 then (noTf, b, 60) else (⟨kk, ⟨(((x[0] :: xr).take n).drop o).toArray⟩, b⟩, b + n, 0) by
  rw [HO.out]; unfold oneG; rw [hdl]; dsimp only; rw [if_neg h34, ht])
 have hxtl : ∀ n, x.extract 0 n = ⟨(((x[0] :: xr).take n).drop 0).toArray⟩ := fun n => by rw [← hxr, ext_midT x 0 n, List.drop_zero, List.drop_zero, Nat.sub_zero]
 have hxt1 : ∀ n, x.extract 1 n = ⟨(((x[0] :: xr).take n).drop 1).toArray⟩ := fun n => by rw [← hxr, ext_midT x 1 n, List.drop_take]
 have hx1l : (x.extract 1 x.size).data.toList = xr := by rw [bx_to, hxr]; rfl
 have hx1z : (x.extract 1 x.size).size = x.size - 1 := ext_size x 1 hx0; have hnle := nameN_le x.data.toList; rw [size_listU] at hnle; have hn1le := nameN_le xr; have hxrl : xr.length = x.size - 1 := by rw [← hx1l, size_listU, hx1z]
 have HNX := Keep.mk (fun W => tok_name x (by omega) W); have HN1 := Keep.mk (fun W => tok_name (x.extract 1 x.size) (by rw [hx1z]; omega) W); rw [hx1l] at HN1; have HTE := Keep.mk (fun n => hxtl n); have HTF := Keep.mk (fun n => hxt1 n); have HLT := Keep.mk (fun W => tok_letter x[0] W); have HDG := Keep.mk (fun W => tok_digit x[0] W); have HNM := Keep.mk (fun W => tok_number x (by omega) W); have HSG := Keep.mk (fun W m hm => tok_sign x hx0 h32 W m hm); have HSN := Keep.mk (fun (h : 0 < signN x.data.toList) => (sign_is x.data.toList h).2.1); have HNN := Keep.mk (fun (h : 0 < digN x.data.toList) => (num_is x.data.toList h).2); rw [hxr] at HNX HNM HSG hnle; have HSN := Keep.mk (fun (h : 0 < signN (x[0] :: xr)) => show signN (x[0] :: xr) ≤ x.data.toList.length by rw [← hxr] at h ⊢; exact HSN.out h); have HNN := Keep.mk (fun (h : 0 < digN (x[0] :: xr)) => show numN (x[0] :: xr) ≤ x.data.toList.length by rw [← hxr] at h ⊢; exact HNN.out h); clear hxtl hxt1 hx1l hx1z HQ HO hdl hat HSK hxr hxl hx h32; go_upto_block 0 with fail
 go_cut [9] (fun v9 wx => ∃ (n kk : Nat) (tx : ByteArray), v9 = .int .i64 n ∧ Keep (oneF s.data.toList d a = (⟨kk, tx, b⟩, b + n, 0) ∧ b + n ≤ s.size) ∧ Keep (NextB w wx p s b t4 t8 kk tx b))
 case first =>
  go_wp2_with fail
  refine (HLT.out _).mono ?_; rintro r w4 ⟨rfl, rfl⟩; clear HLT; cases hlf : letF x[0]
  ·exfalso
   have hw := HW.out; unfold wayC at hw; rw [if_neg h34, if_neg (show ¬ letF x[0] = true by rw [hlf]; decide)] at hw; (repeat' split at hw) <;> cases hw
  have ht : tokP (x[0] :: xr) = (1, 0, nameN (x[0] :: xr)) := by simp only [tokP]; rw [if_pos hlf]
  obtain ⟨n, hn⟩ : ∃ n, nameN (x[0] :: xr) = n := ⟨_, rfl⟩
  rw [hn] at ht HNX hnle; have HR := Keep.mk ((HE.out _ _ _ ht).trans (if_neg (by decide))); rw [← HTE.out n] at HR; clear ht hn HE hlf HTE HTF HDG HNM HSG HSN HNN HN1 hn1le hxrl; go_wp2_with fail
  refine (HNX.out _).mono ?_; rintro r w5 ⟨rfl, rfl⟩; clear HNX; go_upto_region 20 with fail
  go_region_with (fail)
  all_goals (
   go_wp2_with fail
   go_meet
   exact ⟨n, 1, x.extract 0 n, by go_num, ⟨HR.out, by omega⟩, ⟨HS.out.two 1 (x.extract 0 n)⟩⟩)
 case rest =>
  obtain ⟨n, kk, tx, rfl, HR, HS2⟩ := hcut; clear HS HE HTE HTF HLT HDG HNM HSG HSN HNN HN1 HNX; clear p0 p1 pf pl r0 r1 r2 rf0 rf1 rf2 rl t0 t1 t2 tf0 tf1 tf2 tl; have HS := HS2; clear HS2; have hbn := HR.out.2; obtain ⟨p0, p1⟩ := HS.out.sc.b.p2; have pf := HS.out.sc.b.froz 1; have pl := HS.out.sc.b.lt; obtain ⟨r0, rf0, r1, rf1, r2, rf2, rl⟩ := HS.out.b4.q3l; obtain ⟨t0, tf0, t1, tf1, t2, tf2, tl⟩ := HS.out.b8.q3l; go_wp2
  refine bodyPost_ret (v := .tuple #[.agg #[.int .i64 (kk : Int), .string tx, .int .i64 b], .int .i64 0, .int .i64 0]) ?_ rfl ?_
  ·simp [results, Tryz.results47, go_sem, r0, r1, r2]
  rw [HR.out.1]; exact ⟨rfl, b + n, (((HS.out.sc.set (b + n) _ (by omega)).cell HS.out.n4 HS.out.z4 0 _).cell HS.out.n4 HS.out.z4 1 _).cell HS.out.n4 HS.out.z4 2 _, hbn, fun _ => rfl⟩
open Go Go.RowKit Go.Proofs Th
/-! rows of filters with semicolons -/
def sepK : List (List TK) → List TK
 | [] => []
 | [x] => x
 | x :: y :: r => x ++ (6, ⟨#[59]⟩) :: sepK (y :: r)
theorem sep_bal : ∀ l : List (List TK), (∀ x ∈ l, Bal x) → Bal (sepK l)
 | [], _ => bal_nil
 | [x], h => h x List.mem_cons_self
 | x :: y :: r, h => by
  have h1 := h x List.mem_cons_self; have h2 := sep_bal (y :: r) fun z hz => h z (List.mem_cons_of_mem _ hz)
  intro s; simp only [sepK, walk_bal h1, walk_6 (x := ⟨#[59]⟩) (by decide) (by decide), walk_bal0 h2]
theorem sep_rd {d : Nat} : ∀ (l : List ByteArray) (ks : List (List TK)), l.length = ks.length → l ≠ [] → (∀ i (h : i < l.length) (h2 : i < ks.length) R, sepC R = true → RD d (tl l[i]) ks[i] R) → ∀ R, sepC R = true → RD d (tl (sepB ⟨#[59, 32]⟩ l)) (sepK ks) R
 | [], _, _, h, _, _, _ => absurd rfl h
 | [x], [k], _, _, h, R, hR => h 0 (by simp) (by simp) R hR
 | x :: y :: r, k :: k2 :: ks, hl, _, h, R, hR => by
  have h1 := sep_rd (d := d) (y :: r) (k2 :: ks) (by simpa using hl) (by simp) (fun i a b R hR => h (i + 1) (by simpa using a) (by simpa using b) R hR) R hR; have e : tl (sepB ⟨#[59, 32]⟩ (x :: y :: r)) = tl x ++ ([59] ++ ([32] ++ tl (sepB ⟨#[59, 32]⟩ (y :: r)))) := by
   show tl (x ++ _ ++ sepB _ (y :: r)) = _
   rw [tl_app, tl_app, List.append_assoc]; rfl
  rw [e]; exact (h 0 (by simp) (by simp) _ rfl).app ((rd_one (c := 59) rfl d _).app ((rd_blank d _).app h1))
def Rds (l : List NJ) : Prop := ∀ x ∈ l, Rd x (tokJ x)
theorem Rds.sep {l : List NJ} (h : Rds l) (h0 : l ≠ []) {d : Nat} (hd : depsJ l ≤ d) (R : List UInt8) (hR : sepC R = true) : RD d (tl (sepB ⟨#[59, 32]⟩ (spL l))) (sepK (l.map tokJ)) R := by
 refine sep_rd _ _ (by rw [spL_map, List.length_map, List.length_map]) (by rw [spL_map]; simpa using h0) (fun i a b R hR => ?_) R hR; have hi : i < l.length := by rw [spL_map, List.length_map] at a; exact a
 have hm : l[i] ∈ l := List.getElem_mem hi; have := (h _ hm).sc d (Nat.le_trans (deps_le2.1 (Nat.le_refl _) _ hm) hd) R hR; simpa only [spL_map, List.getElem_map] using this
theorem Rds.bal {l : List NJ} (h : Rds l) : Bal (sepK (l.map tokJ)) := sep_bal _ fun x hx => by
 obtain ⟨y, hy, rfl⟩ := List.mem_map.1 hx; exact (h y hy).bal
theorem call_ev {E : Env} {name : ByteArray} : ∀ (l : List NJ) (kids : List NJ) (i : Nat), l ≠ [] → Rds l → AtK E i (sepK (l.map tokJ) ++ [(6, ⟨#[41]⟩)]) → evP E (.callLoop name kids) i = some (.ok (.mk 23 name 0 0 (kids ++ l) []) (i + (sepK (l.map tokJ)).length + 1))
 | [], _, _, h, _, _ => absurd rfl h
 | [x], kids, i, _, h, hat => by
  obtain ⟨h0, hat⟩ := hat.app; obtain ⟨t1, _⟩ := hat.cons; rw [evP_step]; simp only [stepP]; replace t1 : tk (tokAt E (i + (tokJ x).length)) = _ := t1; rw [(h x List.mem_cons_self).flt h0 (by rw [t1]; decide), bindP_ok]; rw [if_neg (not_tk t1 (by decide)), want_ok t1]; rfl
 | x :: y :: r, kids, i, _, h, hat => by
  simp only [List.map_cons, sepK, List.append_assoc, List.cons_append] at hat; obtain ⟨h0, hat⟩ := hat.app; obtain ⟨t1, hat⟩ := hat.cons; have ih := call_ev (name := name) (y :: r) (kids ++ [x]) _ (by simp) (fun z hz => h z (List.mem_cons_of_mem _ hz)) hat; rw [evP_step]; simp only [stepP]; rw [(h x List.mem_cons_self).flt h0 (by rw [t1]; decide), bindP_ok, if_pos (isT_tk.2 t1), ih]; simp only [List.map_cons, sepK, List.append_assoc, List.cons_append, List.nil_append, List.length_append, List.length_cons]; congr 2; omega
theorem free_name {s : ByteArray} (h : freeB s = true) : nameB s = true ∧ inB words13 s = false := by
 unfold freeB at h; rw [Bool.and_eq_true, Bool.not_eq_true'] at h; exact h
theorem word_ne {s w : ByteArray} (h : inB words13 s = false) (hw : w ∈ words13) : ¬ s = w := by
 rintro rfl; unfold inB at h; rw [List.any_eq_false] at h; exact h s hw (decide_eq_true rfl)
theorem words_in : (⟨#[105, 102]⟩ : ByteArray) ∈ words13 ∧ (⟨#[116, 114, 121]⟩ : ByteArray) ∈ words13 ∧ (⟨#[114, 101, 100, 117, 99, 101]⟩ : ByteArray) ∈ words13 ∧ (⟨#[102, 111, 114, 101, 97, 99, 104]⟩ : ByteArray) ∈ words13 ∧ (⟨#[100, 101, 102]⟩ : ByteArray) ∈ words13 ∧ (⟨#[97, 115]⟩ : ByteArray) ∈ words13 := by simp [words13]
theorem word_first {E : Env} {i : Nat} {s : ByteArray} (t0 : tk (tokAt E i) = (1, s)) (hs : inB words13 s = false) : evP E .first i = (if isT E (i + 1) 6 ⟨#[40]⟩ then evP E (.callLoop s []) (i + 1 + 1) else okP (.mk 23 s 0 0 [] []) (i + 1)) := by
 have hk : (tokAt E i).kind = 1 := congrArg Prod.fst t0; have hx : (tokAt E i).text = s := congrArg Prod.snd t0; obtain ⟨w1, w2, w3, w4, _⟩ := words_in; rw [evP_step]; simp only [stepP]; rw [if_neg (by omega), if_neg (by omega), if_neg (by omega), if_neg (by omega), if_pos hk, hx, evP_step]; simp only [stepP]; rw [if_neg (word_ne hs w1), if_neg (word_ne hs w2), if_neg (word_ne hs w3), if_neg (word_ne hs w4), name_ok t0 hs]
theorem name_head {s : ByteArray} (h : nameB s = true) : ∃ c r, tl s = c :: r ∧ letF c = true := by
 unfold nameB at h; show ∃ c r, s.data.toList = c :: r ∧ _
 cases hs : s.data.toList with
 | nil => rw [hs] at h; cases h
 | cons c r => rw [hs] at h; simp only [isName, Bool.and_eq_true] at h; exact ⟨c, r, rfl, h.1⟩
theorem let_61 {c : UInt8} (h : letF c = true) : c ≠ 61 ∧ c ≠ 36 := by
 constructor <;> (rintro rfl; cases h)
theorem tl23 (s : ByteArray) (l : List NJ) : tl (spJ (.mk 23 s 0 0 l [])) = if l.length = 0 then tl s else tl s ++ 40 :: (tl (sepB ⟨#[59, 32]⟩ (spL l)) ++ [41]) := by
 rw [spJ]; simp only [Int.reduceEq, if_true, if_false, or_false]; split
 ·rfl
 simp only [tl_app, tl_mk, List.append_assoc, List.cons_append, List.nil_append]
theorem rd23 {s : ByteArray} {l : List NJ} (hs : freeB s = true) (h : Rds l) : ∃ T, Rd (.mk 23 s 0 0 l []) T := by
 obtain ⟨hn, hw⟩ := free_name hs; obtain ⟨c, v, e, hc⟩ := name_head hn; have ht := tl23 s l; by_cases h0 : l = []
 ·subst h0
  rw [if_pos (show ([] : List NJ).length = 0 from rfl)] at ht; refine ⟨[(1, s)], fun d hd R hR => ?_, bal_one (by simp) (by simp), ⟨_, _, rfl, ?_⟩, ⟨c, v, by rw [ht, e], (let_61 hc).1⟩, fun E i j hat hj hq => ?_⟩
  ·rw [ht]; exact rd_name hn (sep_name hR)
  ·exact ⟨by simp, fun h => by injection h with _ h; exact word_ne hw words_in.2.2.2.2.1 h⟩
  obtain ⟨t0, _⟩ := hat.cons; obtain rfl : j = i + 1 := hj; refine term_first ?_; rw [word_first t0 hw, if_neg (fun hh => hq.2 (isT_tk.1 hh))]; rfl
 rw [if_neg (fun h => h0 (List.eq_nil_of_length_eq_zero h))] at ht; refine ⟨(1, s) :: (6, ⟨#[40]⟩) :: (sepK (l.map tokJ) ++ [(6, ⟨#[41]⟩)]), fun d hd R hR => ?_, ?_, ⟨_, _, rfl, ?_⟩, ⟨c, v ++ _, by rw [ht, e]; rfl, (let_61 hc).1⟩, fun E i j hat hj hq => ?_⟩
 ·rw [ht]
  simp only [depJ] at hd; have := (rd_name (d := d) (R := 40 :: (tl (sepB ⟨#[59, 32]⟩ (spL l)) ++ [41]) ++ R) hn rfl).app ((rd_one (c := 40) rfl d (tl (sepB ⟨#[59, 32]⟩ (spL l)) ++ [41] ++ R)).app (P2 := tl (sepB ⟨#[59, 32]⟩ (spL l)) ++ [41]) ((h.sep h0 (d := d) (by omega) ([41] ++ R) rfl).app (rd_one (c := 41) rfl d R))); exact this
 ·intro s'
  simp only [walk_k (k := 1) (by decide), walk_op, walk_bal h.bal, walk_cl, walk_nil]
 ·exact ⟨by simp, fun h => by injection h with _ h; exact word_ne hw words_in.2.2.2.2.1 h⟩
 obtain ⟨t0, hat⟩ := hat.cons; obtain ⟨t1, hat⟩ := hat.cons; have hc := call_ev (name := s) l [] _ h0 h hat; obtain rfl : j = i + 1 + 1 + (sepK (l.map tokJ)).length + 1 := by rw [hj]; simp; omega
 refine term_first ?_; rw [word_first t0 hw, if_pos (isT_tk.2 t1), hc]; rfl
/-! objects -/
noncomputable def objK : Bool → List NJ → List TK
 | f, k :: v :: r => (if f = true then [] else [(6, ⟨#[44]⟩)]) ++ ((6, ⟨#[40]⟩) :: (tokJ k ++ (6, ⟨#[41]⟩) :: (6, ⟨#[58]⟩) :: (tokJ v ++ objK false r)))
 | _, _ => []
theorem obj_bal : ∀ (f : Bool) (l : List NJ), Rds l → Bal (objK f l)
 | _, [], _ => bal_nil
 | _, [_], _ => bal_nil
 | f, k :: v :: r, h => by
  have h1 := (h k (by simp)).bal; have h2 := (h v (by simp)).bal; have h3 := obj_bal false r fun z hz => h z (by simp [hz])
  intro s; cases f
  ·simp only [objK, Bool.false_eq_true, if_false, List.cons_append, List.nil_append, walk_6 (x := ⟨#[44]⟩) (by decide) (by decide), walk_op, walk_bal h1, walk_cl, walk_6 (x := ⟨#[58]⟩) (by decide) (by decide), walk_bal h2, walk_bal0 h3]
  simp only [objK, if_true, List.nil_append, walk_op, walk_bal h1, walk_cl, walk_6 (x := ⟨#[58]⟩) (by decide) (by decide), walk_bal h2, walk_bal0 h3]
theorem sep_obj (r : List NJ) (R : List UInt8) (hR : sepC R = true) : sepC (tl (objT false (spL r)) ++ R) = true := by
 match r with
 | [] => simpa [spL, objT, tl] using hR
 | [x] => simpa [spL, objT, tl] using hR
 | x :: y :: r =>
  simp only [spL, objT, tl_app, List.append_assoc]; rfl
theorem obj_rd {d : Nat} : ∀ (f : Bool) (l : List NJ), Rds l → depsJ l ≤ d → ∀ R, sepC R = true → RD d (tl (objT f (spL l))) (objK f l) R
 | f, [], _, _, R, _ => by cases f <;> simpa [spL, objT, objK, tl] using rd_nil d R
 | f, [x], _, _, R, _ => by cases f <;> simpa [spL, objT, objK, tl] using rd_nil d R
 | f, k :: v :: r, h, hd, R, hR => by
  have hk : depJ k ≤ d := Nat.le_trans (deps_le2.1 (Nat.le_refl _) _ (by simp)) hd; have hv : depJ v ≤ d := Nat.le_trans (deps_le2.1 (Nat.le_refl _) _ (by simp)) hd; have hr : depsJ r ≤ d := deps_le2.2 fun y hy => Nat.le_trans (deps_le2.1 (Nat.le_refl _) _ (by simp [hy])) hd
  have h3 := obj_rd (d := d) false r (fun z hz => h z (by simp [hz])) hr R hR; have hsr := sep_obj r R hR; have hb : RD d (40 :: (tl (spJ k) ++ 41 :: 58 :: 32 :: (tl (spJ v) ++ tl (objT false (spL r))))) ((6, ⟨#[40]⟩) :: (tokJ k ++ (6, ⟨#[41]⟩) :: (6, ⟨#[58]⟩) :: (tokJ v ++ objK false r))) R := by
   have := all_rd (d := d) (ps := [⟨[40], [(6, ⟨#[40]⟩)]⟩, ⟨tl (spJ k), tokJ k⟩, ⟨[41], [(6, ⟨#[41]⟩)]⟩, ⟨[58], [(6, ⟨#[58]⟩)]⟩, ⟨[32], []⟩, ⟨tl (spJ v), tokJ v⟩, ⟨tl (objT false (spL r)), objK false r⟩]) (R := R)
    ⟨rd_one rfl d _, (h k (by simp)).sc d hk _ rfl, rd_one rfl d _, rd_one rfl d _, rd_blank d _, (h v (by simp)).sc d hv _ (by simp only [catP, List.append_nil]; exact hsr), by simp only [catP, List.nil_append]; exact h3, trivial⟩
   simpa only [catP, catK, List.append_nil, List.nil_append, List.cons_append, List.append_assoc] using this
  cases f
  ·have e : tl (objT false (spL (k :: v :: r))) = [44] ++ ([32] ++ (40 :: (tl (spJ k) ++ 41 :: 58 :: 32 :: (tl (spJ v) ++ tl (objT false (spL r)))))) := by
    simp only [spL, objT, tl_app, tl_paren, tl_mk, List.append_assoc, List.cons_append, List.nil_append, Bool.false_eq_true, if_false]
   rw [e]; exact (rd_one (c := 44) rfl d _).app ((rd_blank d _).app hb)
  have e : tl (objT true (spL (k :: v :: r))) = 40 :: (tl (spJ k) ++ 41 :: 58 :: 32 :: (tl (spJ v) ++ tl (objT false (spL r)))) := by
   simp only [spL, objT, tl_app, tl_paren, tl_mk, List.append_assoc, List.cons_append, List.nil_append, if_true]
  rw [e]; exact hb
theorem entry_ev {E : Env} {i : Nat} {k v : NJ} {K V : List TK} (hk : Rd k K) (hv : Rd v V) (hat : AtK E i ((6, ⟨#[40]⟩) :: (K ++ (6, ⟨#[41]⟩) :: (6, ⟨#[58]⟩) :: V))) (hq : tk (tokAt E (i + 1 + K.length + 1 + 1 + V.length)) = (6, ⟨#[44]⟩) ∨ tk (tokAt E (i + 1 + K.length + 1 + 1 + V.length)) = (6, ⟨#[125]⟩)) :
  evP E .entry i = some (.ok (kidsJ 0 [k, v]) (i + 1 + K.length + 1 + 1 + V.length)) := by
 obtain ⟨t0, hat⟩ := hat.cons; obtain ⟨h1, hat⟩ := hat.app; obtain ⟨t2, hat⟩ := hat.cons; obtain ⟨t3, h4⟩ := hat.cons; have ha : Atom E (i + 1 + K.length + 1 + 1) v (i + 1 + K.length + 1 + 1 + V.length) := hv.atom h4 (by rcases hq with h | h <;> rw [h] <;> decide) (by rcases hq with h | h <;> rw [h] <;> decide); have hb := bin_one (k := 2) ha.m (by rcases hq with h | h <;> rw [str_tk h] <;> decide); have k0 : (tokAt E i).kind = 6 := congrArg Prod.fst t0; rw [evP_step]; simp only [stepP]; rw [if_neg (by omega), if_neg (by omega), if_neg (by omega), if_pos (isT_tk.2 t0), hk.flt h1 (by rw [t2]; decide), bindP_ok, want_ok t2, want_ok t3, hb]; rfl
theorem obj_ev {E : Env} : ∀ (l : List NJ) (kids : List NJ) (i : Nat), l ≠ [] → l.length % 2 = 0 → Rds l → AtK E i (objK true l ++ [(6, ⟨#[125]⟩)]) → evP E (.objLoop kids) i = some (.ok (kidsJ 16 (kids ++ l)) (i + (objK true l).length + 1))
 | [], _, _, h, _, _, _ => absurd rfl h
 | [_], _, _, _, h, _, _ => by simp at h
 | [k, v], kids, i, _, _, h, hat => by
  simp only [objK, if_true, List.nil_append, List.append_nil] at hat ⊢; obtain ⟨ha, hat⟩ := hat.app; obtain ⟨t1, _⟩ := hat.cons; have hp : i + ((6, (⟨#[40]⟩ : ByteArray)) :: (tokJ k ++ (6, ⟨#[41]⟩) :: (6, ⟨#[58]⟩) :: tokJ v)).length = i + 1 + (tokJ k).length + 1 + 1 + (tokJ v).length := by simp only [List.length_cons, List.length_append]; omega
  rw [hp] at t1 ⊢; have he := entry_ev (h k (by simp)) (h v (by simp)) ha (.inr t1); rw [evP_step]; simp only [stepP]; rw [he, bindP_ok, if_neg (not_tk t1 (by decide)), want_ok t1]; rfl
 | [_, _, _], _, _, _, h, _, _ => by simp at h
 | k :: v :: k2 :: v2 :: r, kids, i, _, hl, h, hat => by
  have e : objK true (k :: v :: k2 :: v2 :: r) = ((6, ⟨#[40]⟩) :: (tokJ k ++ (6, ⟨#[41]⟩) :: (6, ⟨#[58]⟩) :: tokJ v)) ++ (6, ⟨#[44]⟩) :: objK true (k2 :: v2 :: r) := by
   simp [objK]
  rw [e] at hat ⊢; rw [List.append_assoc] at hat; obtain ⟨ha, hat⟩ := hat.app; have hp : i + ((6, (⟨#[40]⟩ : ByteArray)) :: (tokJ k ++ (6, ⟨#[41]⟩) :: (6, ⟨#[58]⟩) :: tokJ v)).length = i + 1 + (tokJ k).length + 1 + 1 + (tokJ v).length := by simp only [List.length_cons, List.length_append]; omega
  rw [hp] at hat; rw [List.length_append, ← Nat.add_assoc, hp]; obtain ⟨t1, hat⟩ := hat.cons; have he := entry_ev (h k (by simp)) (h v (by simp)) ha (.inl t1); have ih := obj_ev (k2 :: v2 :: r) (kids ++ [k, v]) _ (by simp) (by simp only [List.length_cons] at hl ⊢; omega) (fun z hz => h z (List.mem_cons_of_mem _ (List.mem_cons_of_mem _ hz))) hat; rw [evP_step]; simp only [stepP]; rw [he, bindP_ok, if_pos (isT_tk.2 t1)]; show evP E (.objLoop (kids ++ [k, v])) _ = _
  rw [ih]; simp only [List.append_assoc, List.cons_append, List.nil_append, List.length_cons]; congr 2; omega
theorem tl16 (l : List NJ) : tl (spJ (kidsJ 16 l)) = 123 :: (tl (objT true (spL l)) ++ [125]) := by
 unfold kidsJ; rw [spJ]; simp only [Int.reduceEq, if_true, if_false, or_false, tl_app, tl_mk, List.cons_append, List.nil_append]
theorem rd16 {l : List NJ} (h2 : l.length % 2 = 0) (h : Rds l) : ∃ T, Rd (kidsJ 16 l) T := by
 have ht := tl16 l; refine ⟨(6, ⟨#[123]⟩) :: (objK true l ++ [(6, ⟨#[125]⟩)]), fun d hd R hR => ?_, ?_, ⟨_, _, rfl, by decide⟩, ⟨123, _, by rw [ht], by decide⟩, fun E i j hat hj hq => ?_⟩
 ·rw [ht]
  simp only [kidsJ, depJ] at hd; have := (rd_one (c := 123) rfl d (tl (objT true (spL l)) ++ [125] ++ R)).app ((obj_rd (d := d) true l h (by omega) ([125] ++ R) rfl).app (rd_one (c := 125) rfl d R)); exact this
 ·intro s
  simp only [walk_6 (x := ⟨#[123]⟩) (by decide) (by decide), walk_bal (obj_bal true l h), walk_6 (x := ⟨#[125]⟩) (by decide) (by decide), walk_nil]
 obtain ⟨t0, hat⟩ := hat.cons; obtain rfl : j = i + 1 + (objK true l).length + 1 := by rw [hj]; simp; omega
 refine term_first ?_; rw [ev_sign t0, evP_step]; simp only [stepP]; rw [if_neg (by decide), if_neg (by decide), if_neg (by decide), if_neg (by decide), if_pos trivial, evP_step]; simp only [stepP]; by_cases h0 : l = []
 ·subst h0
  obtain ⟨t1, _⟩ := hat.cons; rw [if_pos (isT_tk.2 t1)]; rfl
 have ho := obj_ev l [] (i + 1) h0 h2 h hat; match l, h0, h2 with
 | k :: v :: r, _, _ =>
  obtain ⟨t1, _⟩ := (show AtK E (i + 1) ((6, ⟨#[40]⟩) :: _) from hat).cons; rw [if_neg (not_tk t1 (by decide)), ho]; rfl
 | [_], _, h2 => simp at h2
end Go.Proofs.YtakncilicoefdaaGreatDoor
