/- Lemmas and contracts. Conditions: those that each lemma names. -/
import Derived.Test.YtakncilicoefdaaGreatDoorPz16
set_option maxRecDepth 100000
set_option maxHeartbeats 4000000
namespace Go.Proofs.YtakncilicoefdaaGreatDoor
open Go Go.RowKit Go.Proofs Th
inductive ARes where
 | ret (v : IV) (rc : List IV)
 | pan (x : Value)
def R6 (W : World) (S : CS) (p : Nat) (cs : List IV) : Prop := ∃ us : List Value, Box W p us ∧ RepL W S cs us ∧ (∀ u ∈ us, u.oneCell' = true) ∧ ∀ o, ¬ S p o
def VX (W : World) (S : CS) (p : Nat) : Prop := ∃ us : List Value, Box W p us ∧ (∀ u ∈ us, u.oneCell' = true) ∧ ∀ o, ¬ S p o
def EO (W W' : World) (S : CS) : CS := fun g o => S g o ∨ (W.heap.size ≤ g ∧ g < W'.heap.size)
def ARes.post (W : World) (S : CS) (p : Nat) (rc : Option (List IV)) (e : Ending) (W' : World) : ARes → Prop
 | .ret v rc' => (∃ u, e = .returned u ∧ Rep W' (EO W W' S) v u) ∧ (rc.isSome = true → R6 W' (EO W W' S) p rc') ∧ UpdR (fun k => rc.isSome = true ∧ k = p) W W'
 | .pan x => e = .panicked [{ v := x, recovered := false }] ∧ (rc.isSome = true → VX W' (EO W W' S) p) ∧ UpdR (fun k => rc.isSome = true ∧ k = p) W W'
def D7 (rc : Option (List IV)) (p : Nat) (us : List Value) : List Value := if rc.isSome = true then .pointer (some ⟨p, 0, none⟩) :: us else us
def ACalls (P : Program) (G : World → CS → Prop) (f : FuncId) (rc : Option (List IV)) (xa : List IV) (res : ARes) : Prop :=
 (∃ fn, P.funcs[f]? = some fn ∧ fn.body.isNone = false ∧ (fn.name == "runtime.NumGoroutine") = false) ∧
 ∀ (W : World) (S : CS) (p : Nat) (us : List Value), G W S → (∀ g o, S g o → g < W.heap.size) → (∀ cs, rc = some cs → R6 W S p cs) → RepL W S xa us →
  Calls P f (D7 rc p us).toArray W fun e W' => res.post W S p rc e W'
def Fm (n : Nat) (s : ASt) (dst : Option Nat) (c : FV) (st' : Nat → AObj) (K : ASt → Prop) : Prop := match dst with
 | some d => d < n ∧ K ⟨upd s.fr d c, st'⟩
 | none => K ⟨s.fr, st'⟩
def Df (s : ASt) : List Operand → Option (List IV)
 | [] => some []
 | x :: r => match DK s.st (Aw s x), Df s r with
  | some y, some l => some (y.er :: l)
  | _, _ => none
def Dx (P : Program) (G : World → CS → Prop) (f : FuncId) (xa : Option (List IV)) (d : Option Nat) (n : Nat) (s : ASt) (K : ASt → Prop) (Qp : Value → ASt → Prop) : Prop := match xa with
 | some xa => ∃ res, ACalls P G f none xa res ∧ (match res with
  | .ret v _ => Fm n s d (.im v) s.st K
  | .pan x => Qp x s)
 | none => False
def H4 (P : Program) (G : World → CS → Prop) (f : FuncId) (b : Nat) (rc : Option (List IV)) (xa : Option (List IV)) (d : Option Nat) (n : Nat) (s : ASt) (K : ASt → Prop) (Qp : Value → ASt → Prop) : Prop := match rc, xa with
 | some rc, some xa => ∃ res, ACalls P G f (some rc) xa res ∧ (match res with
  | .ret v rc' => Fm n s d (.im v) (upd s.st b (.box (rc'.map FV.im))) K
  | .pan x => ∀ L : Nat, Qp x ⟨s.fr, upd s.st b (.box (List.replicate L .junk))⟩)
 | _, _ => False
def FL (P : Program) (G : World → CS → Prop) (f : FuncId) (args : List Operand) (d : Option Nat) (n : Nat) (s : ASt) (K : ASt → Prop) (Qp : Value → ASt → Prop) : Prop := match args with
 | [] => Dx P G f (some []) d n s K Qp
 | x :: r => match Aw s x with
  | .ptr b 0 => (match s.st b with
   | .box cs => H4 P G f b (Ev s.st cs) (Df s r) d n s K Qp
   | _ => False)
  | _ => Dx P G f (Df s (x :: r)) d n s K Qp
def aop (P : Program) (G : World → CS → Prop) (n : Nat) (o : Oper) (s : ASt) (K : ASt → Prop) (Qp : Value → ASt → Prop) : Prop := match o.op with
 | .call c => (match c.callee with
  | .value (.func f) => FL P G f c.args.toList o.dst n s K Qp
  | .value (.tmp t) => (match s.fr t with
   | .im (.v (.func (.func f) first caps)) => first = #[] ∧ Dx P G f ((Df s c.args.toList).map fun xa => xa ++ caps.toList.map IV.v) o.dst n s K Qp
   | _ => False)
  | _ => AH P (.call c) o.dst s fun x st' => Fm n s o.dst x st' K)
 | .panic x => (match Aw s x with
  | .im (.v (.iface t u)) => Qp (.iface t u) s
  | _ => False)
 | op => AH P op o.dst s fun x st' => Fm n s o.dst x st' K
def O6 (x : Value) (want : Bool) : Bool := match x with
 | .bool b => b == want
 | _ => false
def DU (ops : Array Oper) (s : ASt) (g : Option (Nat × Bool)) : Option Bool := match g with
 | none => some true
 | some (j, want) => match (ops[j]?).bind (·.dst) with
  | some d => match s.fr d with
   | .im (.v x) => some (O6 x want)
   | _ => none
  | none => none
def B0 (P : Program) (G : World → CS → Prop) (n : Nat) (ops : Array Oper) : List Oper → ASt → (ASt → Prop) → (Value → ASt → Prop) → Prop
 | [], s, K, _ => K s
 | o :: r, s, K, Qp => match DU ops s o.guard with
  | some true => aop P G n o s (fun s' => B0 P G n ops r s' K Qp) Qp
  | some false => Fm n s o.dst (.im (.v undef)) s.st fun s' => B0 P G n ops r s' K Qp
  | none => False
inductive AExit where
 | normal
 | exit (id : Nat)
 | goto (l : Nat)
 | ret
 | panic (x : Value)
def Rel (X : Ctx) (s : ASt) (a : Act) (W : World) : Prop := ∃ E S, RelE X E S s a W
def Em (X : Ctx) (Q : AExit → ASt → Prop) : Exit → Act → World → Prop
 | .normal, a, W => ∃ s, Rel X s a W ∧ Q .normal s
 | .exit i, a, W => ∃ s, Rel X s a W ∧ Q (.exit i) s
 | .goto l, a, W => ∃ s, Rel X s a W ∧ Q (.goto l) s
 | .ret, a, W => ∃ s, Rel X s a W ∧ Q .ret s
 | .panic ch, a, W => ∃ s x, ch = [{ v := x, recovered := false }] ∧ Rel X s a W ∧ Q (.panic x) s
 | .outgrown, _, _ => False
def AW (P : Program) (X : Ctx) (c : Code) (Q : AExit → ASt → Prop) (s : ASt) : Prop := ∀ a W, Rel X s a W → c.wp P (Em X Q) a W
section
variable {P : Program} {X : Ctx} {E : AEnv} {S : CS} {s : ASt} {a : Act} {W : World} {o : Oper}
theorem RM {K : FV → (Nat → AObj) → Prop} {Q : Exit → Act → World → Prop} (h : RelE X E S s a W) (hop : AH P o.op o.dst s K) : Out P X s a W o K Q := by
 cases ho : o.op with
 | move x => rw [ho] at hop; exact VE h ho hop
 | assign x => rw [ho] at hop; exact RQ h ho hop
 | pick c x y => rw [ho] at hop; exact Wt h ho hop
 | alloc t => rw [ho] at hop; exact UF h ho hop
 | box t x => rw [ho] at hop; exact XX h ho hop
 | build t ps => rw [ho] at hop; exact Tr h ho hop
 | buildSlice t n ps => rw [ho] at hop; exact MQ h ho hop
 | load t x => rw [ho] at hop; exact We h ho hop
 | store t x y => rw [ho] at hop; exact UH h ho hop
 | nilCheck x => rw [ho] at hop; exact O0 h ho hop
 | binOp op t x y t' => rw [ho] at hop; exact YN h ho hop
 | unOp op t x => cases op <;> rw [ho] at hop <;> first | exact Yz h ho hop | exact hop.elim
 | makeInterface t x => rw [ho] at hop; exact Ko h ho hop
 | slice t x lo hi mx => cases mx <;> rw [ho] at hop <;> first | exact UR h ho hop | exact hop.elim
 | fieldAddr t x f => rw [ho] at hop; exact N2 h ho hop
 | field t x f => rw [ho] at hop; exact TF h ho hop
 | indexAddr t x i => rw [ho] at hop; exact N5 h ho hop
 | index t x i => rw [ho] at hop; exact T4 h ho hop
 | extract t i => rw [ho] at hop; exact Qy h ho hop
 | convert t t' x => rw [ho] at hop; exact QH h ho hop
 | typeAssert x xT t ok => cases ok <;> rw [ho] at hop <;> first | exact MC h ho hop | exact hop.elim
 | call c =>
  rw [ho] at hop; obtain ⟨callee, ⟨xs⟩, ⟨ts⟩⟩ := c; simp only [AH] at hop; split at hop
  ·rename_i b
   unfold Dm at hop; split at hop
   ·exact X2 h ho (by unfold Dm; exact hop)
   ·exact Gi h ho (by unfold Dm; exact hop)
   ·exact Ym h ho (by unfold Dm; exact hop)
   exact hop.elim
  exact hop.elim
 | _ => rw [ho] at hop; exact hop.elim
theorem FB {n : Nat} (hn : n ≤ X.N) {s0 : Nat → FV} {st' : Nat → AObj} (h : RelE X E S ⟨s0, st'⟩ a W) {dst : Option Nat} {c : FV} {u : Value} (hc : B4 W S E st' c u) {K : ASt → Prop} {st0 : Nat → AObj} (hK : Fm n ⟨s0, st0⟩ dst c st' K) : ∃ s', Rel X s' (a.put dst u) W ∧ K s' := by
 cases dst with
 | none => exact ⟨_, ⟨E, S, h⟩, hK⟩
 | some d => exact ⟨_, ⟨E, S, h.put d (Nat.lt_of_lt_of_le hK.1 hn) hc⟩, hK.2⟩
theorem MR {c : IV} {u : Value} {E' : AEnv} {st' : Nat → AObj} (h : Rep W S c u) : B4 W S E' st' (.im c) u := h
theorem Gj (h : RelE X E S s a W) : ∀ {l : List Operand} {xa : List IV}, Df s l = some xa → RepL W S xa (l.map a.eval)
 | [], xa, hl => by injection hl with hl; subst hl; exact RepL.nil W S
 | x :: r, xa, hl => by
  simp only [Df] at hl; split at hl
  ·rename_i y l' hy hr
   injection hl with hl; subst hl; exact RepL.cons (ER h (Br h x) hy).er (Gj h hr)
  cases hl
theorem MW {W W' : World} {S : CS} {R : Nat → Prop} (hu : UpdR R W W') (hR : ∀ g o, S g o → ¬ R g) (hSb : ∀ g o, S g o → g < W.heap.size) : ∀ g o, S g o → W'.cell? ⟨g, o, none⟩ = W.cell? ⟨g, o, none⟩ :=
 fun g o ho => DZ (hu.block g (hSb g o ho) (hR g o ho))
theorem RelE.called0 (h : RelE X E S s a W) {W' : World} (hu : UpdR (fun k => (none : Option (List IV)).isSome = true ∧ k = 0) W W') : RelE X E (EO W W' S) s a W' :=
 h.core (fun _ => False) s.st E _ _ (fun _ _ => ⟨rfl, rfl, rfl⟩) rfl (fun _ hj => hj.elim) hu.os hu.tape hu.output hu.size (fun g hg _ => hu.block g hg (fun h => by cases h.1)) (MW hu (fun _ _ _ h => by cases h.1) h.Sb) (fun _ _ h => Or.inl h)
  (fun g o ho => ho.imp id (fun e => Or.inl e.1)) (fun g o (ho : EO W W' S g o) => ho.elim (fun ho => Nat.lt_of_lt_of_le (h.Sb g o ho) hu.size) (fun e => e.2)) (fun _ hj => hj.elim) (fun _ _ hj => hj.elim) (fun _ _ _ hj => hj.elim)
theorem RelE.called (h : RelE X E S s a W) {b : Nat} {cs : List FV} {rc rc' : List IV} {W' : World} (hb : s.st b = .box cs) (hu : UpdR (fun k => (some rc).isSome = true ∧ k = E.box b) W W') (hr : R6 W' (EO W W' S) (E.box b) rc') :
  RelE X E (EO W W' S) ⟨s.fr, upd s.st b (.box (rc'.map FV.im))⟩ a W' := by
 have hob := h.ob b; rw [hb] at hob; obtain ⟨⟨us, hul, hB, hu1, hur, hS⟩, hloc⟩ := hob; refine h.core (· = b) _ E _ _ (fun j hj => ⟨Ce _ _ hj, rfl, rfl⟩) rfl (fun j hj => ?_) hu.os hu.tape hu.output hu.size (fun g hg hne => hu.block g hg (fun e => hne b rfl (by rw [hb]; exact congrArg some e.2.symm)))
  (MW hu (fun g o ho e => hS o (e.2 ▸ ho)) h.Sb) (fun _ _ h => Or.inl h) (fun g o ho => ho.imp id (fun e => Or.inl e.1)) (fun g o (ho : EO W W' S g o) => ho.elim (fun ho => Nat.lt_of_lt_of_le (h.Sb g o ho) hu.size) (fun e => e.2)) (fun j hj => ?_) (fun j g hj hg => ?_) (fun i j g hi hj _ _ => hi.trans hj.symm)
 ·subst hj; rw [hb, AX]; exact ⟨⟨_, rfl⟩, rfl⟩
 ·subst hj
  rw [AX]; obtain ⟨vs, r1, r2, r3, r4⟩ := hr; refine ⟨⟨vs, by simp [r2.1], r1, r3, fun i c u hc hu => ?_, r4⟩, hloc⟩; rw [List.getElem?_map] at hc; cases hq : rc'[i]? with
  | none => rw [hq] at hc; cases hc
  | some q =>
   rw [hq] at hc; simp only [Option.map_some, Option.some.injEq] at hc; subst hc; exact r2.2 i q u hq hu
 subst hj; rw [AX] at hg; rw [hb]; exact Or.inl hg
theorem RelE.calledJ (h : RelE X E S s a W) {b : Nat} {cs : List FV} {rc : List IV} {W' : World} (hb : s.st b = .box cs) (hu : UpdR (fun k => (some rc).isSome = true ∧ k = E.box b) W W') (hr : VX W' (EO W W' S) (E.box b)) :
  ∃ us : List Value, RelE X E (EO W W' S) ⟨s.fr, upd s.st b (.box (List.replicate us.length .junk))⟩ a W' := by
 have hob := h.ob b; rw [hb] at hob; obtain ⟨⟨us, hul, hB, hu1, hur, hS⟩, hloc⟩ := hob; obtain ⟨vs, r1, r3, r4⟩ := hr; refine ⟨vs, h.core (· = b) _ E _ _ (fun j hj => ⟨Ce _ _ hj, rfl, rfl⟩) rfl (fun j hj => ?_) hu.os hu.tape hu.output hu.size (fun g hg hne => hu.block g hg (fun e => hne b rfl (by rw [hb]; exact congrArg some e.2.symm)))
  (MW hu (fun g o ho e => hS o (e.2 ▸ ho)) h.Sb) (fun _ _ h => Or.inl h) (fun g o ho => ho.imp id (fun e => Or.inl e.1)) (fun g o (ho : EO W W' S g o) => ho.elim (fun ho => Nat.lt_of_lt_of_le (h.Sb g o ho) hu.size) (fun e => e.2)) (fun j hj => ?_) (fun j g hj hg => ?_) (fun i j g hi hj _ _ => hi.trans hj.symm)⟩
 ·subst hj; rw [hb, AX]; exact ⟨⟨_, rfl⟩, rfl⟩
 ·subst hj
  rw [AX]; refine ⟨⟨vs, by simp, r1, r3, fun i c u hc hu => ?_, r4⟩, hloc⟩; have := List.mem_of_getElem? hc; rw [List.eq_of_mem_replicate this]; trivial
 subst hj; rw [AX] at hg; rw [hb]; exact Or.inl hg
theorem Jx {a : Act} {c : Call} {f : FuncId} {xs : List Operand} (ho : o.op = .call c) (hc : c.callee = .value (.func f)) (hx : c.args.toList = xs) (hf : ∃ fn, P.funcs[f]? = some fn ∧ fn.body.isNone = false ∧ (fn.name == "runtime.NumGoroutine") = false) : (execOp a.eval o).run P W = .ok (.enter f (xs.map a.eval).toArray) W := by
 obtain ⟨fn, h1, h2, h3⟩ := hf; have hargs : c.args.map a.eval = (xs.map a.eval).toArray := by rw [← hx, ← Array.toList_map]
 have he : a.eval (.func f) = .func (.func f) #[] #[] := rfl; have h3' : ¬ fn.name = "runtime.NumGoroutine" := by simpa using h3
 have h2' : ¬ fn.body = none := by intro e; rw [e] at h2; cases h2
 simp only [execOp, ho, resolve, hc, he, hargs, Deferred.ofValue, invoke, callFunc, Sem.run_bind, Sem.run_pure, Result.andThen_ok]; simp [h1, h2', h3']
theorem LM {a : Act} {c : Call} {f : FuncId} {x : Operand} {caps : Array Value} (ho : o.op = .call c) (hc : c.callee = .value x) (he : a.eval x = .func (.func f) #[] caps) (hf : ∃ fn, P.funcs[f]? = some fn ∧ fn.body.isNone = false ∧ (fn.name == "runtime.NumGoroutine") = false) : (execOp a.eval o).run P W = .ok (.enter f (c.args.toList.map a.eval ++ caps.toList).toArray) W := by
 obtain ⟨fn, h1, h2, h3⟩ := hf; have hargs : c.args.map a.eval ++ caps = (c.args.toList.map a.eval ++ caps.toList).toArray := by apply Array.ext'; simp
 have h3' : ¬ fn.name = "runtime.NumGoroutine" := by simpa using h3
 have h2' : ¬ fn.body = none := by intro e; rw [e] at h2; cases h2
 rw [← hargs]; simp only [execOp, ho, resolve, hc, he, Deferred.ofValue, invoke, callFunc, Sem.run_bind, Sem.run_pure, Result.andThen_ok]; simp [h1, h2', h3']
theorem RepL.app {xs ys : List IV} {us vs : List Value} (h1 : RepL W S xs us) (h2 : RepL W S ys vs) : RepL W S (xs ++ ys) (us ++ vs) := by
 refine ⟨by rw [List.length_append, List.length_append, h1.1, h2.1], fun i x u hx hu => ?_⟩; have hl := h1.1; rcases Nat.lt_or_ge i xs.length with h | h
 ·rw [List.getElem?_append_left h] at hx
  rw [List.getElem?_append_left (by omega)] at hu; exact h1.2 i x u hx hu
 rw [List.getElem?_append_right h] at hx; rw [List.getElem?_append_right (by omega)] at hu; exact h2.2 _ x u hx (by rw [← hl]; exact hu)
theorem UQ (l : List Value) : RepL W S (l.map IV.v) l := by
 refine ⟨(List.length_map _).symm, fun i x u hx hu => ?_⟩; rw [List.getElem?_map, hu] at hx; injection hx with hx; rw [← hx]; exact .v _
theorem JD {Q : AExit → ASt → Prop} {K : ASt → Prop} {n : Nat} (hn : n ≤ X.N) (h : RelE X E S s a W) (hop : aop P X.G n o s K fun x s' => Q (.panic x) s') : o.wp P a W (fun a' W' => ∃ s', Rel X s' a' W' ∧ K s') (Em X Q) := by
 have hval : AH P o.op o.dst s (fun x st' => Fm n s o.dst x st' K) → o.wp P a W (fun a' W' => ∃ s', Rel X s' a' W' ∧ K s') (Em X Q) := by
  intro hv; refine Oper.wp_mono (fun a' W' hh => ?_) (RM (Q := Em X Q) h hv); obtain ⟨c, st', E', S', u, hK, rfl, hR, hc⟩ := hh; exact FB hn hR hc hK
 unfold aop at hop; split at hop
 ·rename_i c ho
  split at hop
  ·rename_i f hcal
   have plain : ∀ xs xa, c.args.toList = xs → Df s xs = some xa → Dx P X.G f (some xa) o.dst n s K (fun x s' => Q (.panic x) s') → o.wp P a W (fun a' W' => ∃ s', Rel X s' a' W' ∧ K s') (Em X Q) := by
    intro xs xa hxs has hc; obtain ⟨res, ⟨hf, hC⟩, hres⟩ := hc; have hcall := hC W S 0 (xs.map a.eval) h.g h.Sb (fun cs hh => by cases hh) (Gj h has); unfold Oper.wp; rw [Jx ho hcal hxs hf]; refine Calls.mono hcall (fun e W' hp => ?_); cases res with
    | ret v rc' =>
     obtain ⟨⟨u, rfl, hv⟩, _, hu⟩ := hp; exact FB hn (h.called0 hu) (MR hv) hres
    | pan x =>
     obtain ⟨rfl, _, hu⟩ := hp; exact ⟨s, x, rfl, ⟨E, _, h.called0 hu⟩, hres⟩
   unfold FL at hop; split at hop
   ·rename_i hxs
    exact plain [] [] hxs rfl hop
   rename_i x r hxs
   split at hop
   ·rename_i b hx
    split at hop
    ·rename_i cs hb
     unfold H4 at hop; split at hop
     ·rename_i rc xa hrc has
      obtain ⟨res, ⟨hf, hC⟩, hres⟩ := hop; have hob := h.ob b; rw [hb] at hob; obtain ⟨⟨us, hul, hB, hu1, hur, hS⟩, hloc⟩ := hob; have hcall := hC W S (E.box b) (r.map a.eval) h.g h.Sb (fun cs' hh => by injection hh with hh; subst hh; exact ⟨us, hB, JO h hul hur hrc, hu1, hS⟩) (Gj h has); unfold Oper.wp; rw [Jx ho hcal hxs hf, List.map_cons, C5 h hx]; refine Calls.mono hcall (fun e W' hp => ?_); cases res with
      | ret v rc' =>
       obtain ⟨⟨u, rfl, hv⟩, hr, hu⟩ := hp; exact FB hn (h.called hb hu (hr rfl)) (MR hv) hres
      | pan x =>
       obtain ⟨rfl, hr, hu⟩ := hp; obtain ⟨us', hR'⟩ := h.calledJ hb hu (hr rfl); exact ⟨_, x, rfl, ⟨E, _, hR'⟩, hres us'.length⟩
     exact hop.elim
    exact hop.elim
   unfold Dx at hop; split at hop
   ·rename_i xa has
    exact plain (x :: r) xa hxs has (by unfold Dx; exact hop)
   exact hop.elim
  ·rename_i t hcal
   split at hop
   ·rename_i f first caps hx
    obtain ⟨rfl, hop⟩ := hop; have he := Cn h (x := .tmp t) hx; unfold Dx at hop; split at hop
    ·rename_i xa has
     obtain ⟨ya, hya, rfl⟩ := Option.map_eq_some_iff.1 has; obtain ⟨res, ⟨hf, hC⟩, hres⟩ := hop; have hcall := hC W S 0 (c.args.toList.map a.eval ++ caps.toList) h.g h.Sb (fun cs hh => by cases hh) ((Gj h hya).app (UQ _)); unfold Oper.wp; rw [LM ho hcal he hf]; refine Calls.mono hcall (fun e W' hp => ?_); cases res with
     | ret v rc' =>
      obtain ⟨⟨u, rfl, hv⟩, _, hu⟩ := hp; exact FB hn (h.called0 hu) (MR hv) hres
     | pan x =>
      obtain ⟨rfl, _, hu⟩ := hp; exact ⟨s, x, rfl, ⟨E, _, h.called0 hu⟩, hres⟩
    exact hop.elim
   exact hop.elim
  exact hval (by rw [ho]; exact hop)
 ·rename_i x ho
  split at hop
  ·rename_i t u hx
   have hx' := Cn h hx; unfold Oper.wp; have : (execOp a.eval o).run P W = .halt (.panic (.iface t u)) W := by simp [execOp, ho, hx', Instr.panic, goPanic, Sem.run]
   rw [this]; exact ⟨s, _, rfl, ⟨E, S, h⟩, hop⟩
  exact hop.elim
 exact hval hop
theorem Ef {ops : Array Oper} {g : Option (Nat × Bool)} {b : Bool} (h : RelE X E S s a W) (hg : DU ops s g = some b) {o : Oper} (hog : o.guard = g) : Region.wanted o (yielded ops a.tmps) = b := by
 unfold DU at hg; split at hg
 ·injection hg with hg; subst hg; simp [Region.wanted, hog]
 rename_i j want
 split at hg
 ·rename_i d hd
  split at hg
  ·rename_i x hx
   injection hg with hg; subst hg; have hf := h.fr d; rw [hx] at hf; have hv := Dl hf; simp only [Region.wanted, hog, yielded, hd, Option.bind_some]; cases ht : a.tmps[d]? with
   | none =>
    rw [Array.getD_eq_getD_getElem?, ht] at hv; rw [← hv]; rfl
   | some y =>
    rw [Array.getD_eq_getD_getElem?, ht] at hv; simp only [Option.getD_some] at hv; subst hv; cases y <;> first | rfl | (rename_i bb; cases bb <;> cases want <;> rfl)
  cases hg
 cases hg
theorem Gk {Q : AExit → ASt → Prop} {n : Nat} (hn : n ≤ X.N) (ops : Array Oper) : ∀ (l : List Oper) {s : ASt} {a : Act} {W : World}, Rel X s a W → B0 P X.G n ops l s (fun s' => Q .normal s') (fun x s' => Q (.panic x) s') → wpList P ops (Em X Q) l a W
 | [], s, a, W, h, hop => ⟨s, h, hop⟩
 | o :: r, s, a, W, ⟨E, S, h⟩, hop => by
  simp only [B0] at hop; split at hop
  ·rename_i hg
   unfold wpList; rw [if_pos (Ef h hg rfl)]; exact Or.inl (Oper.wp_mono (fun a' W' ⟨s', hR, hK⟩ => Gk hn ops r hR hK) (JD hn h hop))
  ·rename_i hg
   unfold wpList; rw [if_neg (by rw [Ef h hg rfl]; simp)]; obtain ⟨s', hR, hK⟩ := FB (c := .im (.v undef)) (u := undef) hn h (Rep.v undef) hop; exact Gk hn ops r hR hK
  exact hop.elim
/-! code -/
def G9 (K : ASt → Prop) (Q : AExit → ASt → Prop) : AExit → ASt → Prop
 | .normal, s => K s
 | e, s => Q e s
def Jb (id : Nat) (Q : AExit → ASt → Prop) : AExit → ASt → Prop
 | .exit i, s => if i = id then Q .normal s else Q (.exit i) s
 | e, s => Q e s
theorem AW.seq {x y : Code} {Q : AExit → ASt → Prop} (h : AW P X x (G9 (AW P X y Q) Q) s) : AW P X (.seq x y) Q s := fun a W hR =>
 wp_seq (wp_mono (h a W hR) fun e a' W' hq => by
  cases e with
  | normal => obtain ⟨s', hR', hK⟩ := hq; exact hK _ _ hR'
  | _ => exact hq)
theorem AW.skip {Q : AExit → ASt → Prop} (h : Q .normal s) : AW P X .skip Q s := fun _ _ hR => wp_skip ⟨s, hR, h⟩
theorem AW.exit {id : Nat} {Q : AExit → ASt → Prop} (h : Q (.exit id) s) : AW P X (.exit id) Q s := fun _ _ hR => wp_exit ⟨s, hR, h⟩
theorem AW.ret {Q : AExit → ASt → Prop} (h : Q .ret s) : AW P X .ret Q s := fun _ _ hR => wp_ret ⟨s, hR, h⟩
theorem AW.block {id : Nat} {c : Code} {Q : AExit → ASt → Prop} (h : AW P X c (Jb id Q) s) : AW P X (.block id c) Q s := fun a W hR =>
 wp_block (wp_mono (h a W hR) fun e a' W' hq => by
  cases e with
  | exit i =>
   obtain ⟨s', hR', hK⟩ := hq; simp only [Jb] at hK; simp only [Exit.inBlock]; split at hK
   ·rename_i hi; rw [if_pos hi]; exact ⟨s', hR', hK⟩
   rename_i hi; rw [if_neg hi]; exact ⟨s', hR', hK⟩
  | _ => exact hq)
theorem AW.cond {c : Operand} {x y : Code} {Q : AExit → ASt → Prop} (t : Bool) (hc : Aw s c = .im (.v (.bool t))) (h1 : t = true → AW P X x Q s) (h2 : t = false → AW P X y Q s) : AW P X (.cond c x y) Q s := fun a W ⟨E, S, hR⟩ =>
 wp_cond_split (Cn hR hc) (fun ht => h1 ht a W ⟨E, S, hR⟩) (fun ht => h2 ht a W ⟨E, S, hR⟩)
theorem AW.region {id : Nat} {ops : Array Oper} {Q : AExit → ASt → Prop} (n : Nat) (hn : n ≤ X.N) (h : B0 P X.G n ops ops.toList s (fun s' => Q .normal s') (fun x s' => Q (.panic x) s')) : AW P X (.region id ops false) Q s := fun _a _W hR =>
 wp_region_list (Gk hn ops _ hR h)
theorem AW.loop {c : Code} {Q : AExit → ASt → Prop} (I : Nat → ASt → Prop) (n : Nat) (h0 : I n s) (hround : ∀ n s, I n s → AW P X c (G9 (fun s' => ∃ m, m < n ∧ I m s') Q) s) : AW P X (.loop c) Q s := fun a W hR b k cs => by
 have key : ∀ n s, I n s → ∀ a W, Rel X s a W → ∃ e a' w', Em X Q e a' w' ∧ Arrives P (lone (b.at a (.code c :: .inLoop c :: k)) cs W) b k cs e a' w' := by
  intro n; induction n using Nat.strongRecOn with
  | _ n ih =>
   intro s hI a W hR; obtain ⟨e, a', W', hq, harr⟩ := hround n s hI a W hR b (.inLoop c :: k) cs; cases e with
   | normal =>
    obtain ⟨s', hR', m, hm, hI'⟩ := hq; obtain ⟨e2, a2, W2, hq2, harr2⟩ := ih m hm s' hI' a' W' hR'; exact ⟨e2, a2, W2, hq2, .of_steps (Steps.trans harr (.one step_inLoop)) harr2⟩
   | exit id => exact ⟨.exit id, a', W', hq, .pass (x := .inLoop c) rfl (fun _ _ => .inl (by simp)) harr⟩
   | goto l => exact ⟨.goto l, a', W', hq, .pass (x := .inLoop c) rfl (fun _ _ => .inl (by simp)) harr⟩
   | ret => exact ⟨.ret, a', W', hq, .pass (x := .inLoop c) rfl (fun _ _ => .inl (by simp)) harr⟩
   | panic ch => exact ⟨.panic ch, a', W', hq, .pass (x := .inLoop c) rfl (fun _ _ => .inl (by simp)) harr⟩
   | outgrown => exact hq.elim
 obtain ⟨e, a', w', hq, harr⟩ := key n s h0 a W hR; exact ⟨e, a', w', hq, .of_steps (.one step_loop) harr⟩
end
end Go.Proofs.YtakncilicoefdaaGreatDoor
namespace Th
open Go Go.Lib
theorem P9 : ∀ (b : Bool) (l : List UInt8) (c : UInt8), l[Ci b l]? = some c → CI c = false ∧ c ≠ 35
 | _, [], _, h => by simp at h
 | b, d :: r, c, h => by
  simp only [Ci] at h; split at h
  ·rw [Nat.add_comm, List.getElem?_cons_succ] at h
   exact P9 _ r c h
  rename_i hn
  simp only [List.getElem?_cons_zero, Option.some.injEq] at h; subst h; refine ⟨?_, fun h => hn (Or.inr (Or.inr h))⟩; cases hb : CI d with
  | false => rfl
  | true => exact absurd (Or.inr (Or.inl hb)) hn
theorem J4 {L : List UInt8} {a b : Nat} (hb : AL L a = b) {c : UInt8} (h : L[b]? = some c) : CI c = false ∧ c ≠ 35 := by
 unfold AL at hb; rw [← hb, ← List.getElem?_drop] at h; exact P9 _ _ _ h
end Th
namespace Go.Proofs.YtakncilicoefdaaGreatDoor
open Go Go.RowKit Go.Proofs Th
attribute [local go_sem] Above.cell
theorem Upd.later {p : Nat} {w W W2 : World} (h : Upd p w W) (hb : Below w.heap.size W W2) : Upd p w W2 :=
 ⟨hb.os.trans h.os, hb.tape.trans h.tape, hb.output.trans h.output, Nat.le_trans h.size hb.size, fun k hk hp => (hb.block k hk).trans (h.block k hk hp)⟩
structure NextA (w W : World) (p : Nat) (s : ByteArray) (b t4 : Nat) : Prop where
 sc : ScP w W p s b
 b4 : Box W t4 [.int .i64 0, .string ⟨#[]⟩, .int .i64 0]
 n4 : t4 ≠ p
 z4 : w.heap.size ≤ t4
 glob : GlobX W
 g0 : 4 < w.heap.size
theorem NextA.below {w W W2 : World} {p b t4 : Nat} {s : ByteArray} (h : NextA w W p s b t4) (hb : Below W.heap.size W W2) : NextA w W2 p s b t4 :=
 ⟨h.sc.above hb, h.b4.below hb h.b4.lt, h.n4, h.z4, h.glob.below hb, h.g0⟩
structure NextB (w W : World) (p : Nat) (s : ByteArray) (b t4 t8 : Nat) (k : Int) (x : ByteArray) (at_ : Int) : Prop where
 sc : ScP w W p s b
 b4 : Box W t4 [.int .i64 0, .string ⟨#[]⟩, .int .i64 0]
 b8 : Box W t8 [.int .i64 k, .string x, .int .i64 at_]
 n4 : t4 ≠ p
 n8 : t8 ≠ p
 n48 : t4 ≠ t8
 z4 : w.heap.size ≤ t4
 z8 : w.heap.size ≤ t8
 glob : GlobX W
 g0 : 4 < w.heap.size
theorem NextB.scan {w W W2 : World} {p b t4 t8 : Nat} {s : ByteArray} {k : Int} {x : ByteArray} {at_ : Int} (h : NextB w W p s b t4 t8 k x at_) {j : Nat} (hs : ScP W W2 p s j) : NextB w W2 p s j t4 t8 k x at_ :=
 ⟨⟨hs.b, h.sc.u.trans hs.u⟩, h.b4.upd hs.u h.n4, h.b8.upd hs.u h.n8, h.n4, h.n8, h.n48, h.z4, h.z8, h.glob.upd h.sc.b hs.u, h.g0⟩
theorem Mi {w W W2 : World} {p b t4 : Nat} {s : ByteArray} (h : NextA w W p s b t4) (hp : p < w.heap.size) {k : Int} {x : ByteArray} {at_ : Int} (hb : Below W.heap.size W W2) (hB : Box W2 W.heap.size [.int .i64 k, .string x, .int .i64 at_]) : NextB w W2 p s b t4 W.heap.size k x at_ := by
 have h1 := h.sc.u.size; have h2 := h.b4.lt; exact ⟨h.sc.above hb, h.b4.below hb h.b4.lt, hB, h.n4, by omega, by omega, h.z4, h1, h.glob.below hb, h.g0⟩
theorem NextB.two {w W : World} {p b t4 t8 : Nat} {s : ByteArray} {k : Int} {x : ByteArray} {at_ : Int} (h : NextB w W p s b t4 t8 k x at_) (k2 : Int) (x2 : ByteArray) :
  NextB w ((W.setCell ⟨t8, 0, none⟩ (.int .i64 k2)).setCell ⟨t8, 1, none⟩ (.string x2)).drew p s b t4 t8 k2 x2 at_ := by
 have hb : Below w.heap.size W (((W.setCell ⟨t8, 0, none⟩ (.int .i64 k2)).setCell ⟨t8, 1, none⟩ (.string x2)).drew) := (((Below.refl _ _).setCell (p := ⟨t8, 0, none⟩) h.z8 _).setCell (p := ⟨t8, 1, none⟩) h.z8 _).trans ((Ed _).mono (by have := h.sc.u.size; simpa using this)); have hd : ∀ V : World, Below V.heap.size V V.drew := fun V => Ed V
 have h1 := ((h.b8.set (i := 0) (by simp) (.int .i64 k2)).set (i := 1) (by simp) (.string x2)); have h4 := (h.b4.other (Ne.symm h.n48) (m := t8) (o := 0) (.int .i64 k2)).other (Ne.symm h.n48) (m := t8) (o := 1) (.string x2); have hs := (h.sc.b.other h.n8 (o := 0) (.int .i64 k2)).other h.n8 (o := 1) (.string x2); refine ⟨⟨hs.below (hd _) hs.lt, h.sc.u.later hb⟩, h4.below (hd _) h4.lt, h1.below (hd _) h1.lt, h.n4, h.n8, h.n48, h.z4, h.z8, ?_, h.g0⟩; obtain ⟨m, hm⟩ := h.glob; exact ⟨m, (hb.cell (p := ⟨4, 0, none⟩) h.g0).trans hm⟩
theorem GS (s : ByteArray) (a c : Nat) : s.extract a c = ⟨((s.data.toList.drop a).take (c - a)).toArray⟩ := by
 apply GH; rw [Xr]; simp
theorem ScP.cell {w W : World} {p : Nat} {s : ByteArray} {j g : Nat} (h : ScP w W p s j) (hg : g ≠ p) (hz : w.heap.size ≤ g) (i : Nat) (v : Value) : ScP w (W.setCell ⟨g, i, none⟩ v) p s j :=
 ⟨h.b.other hg v, h.u.later ((Below.refl _ _).setCell (p := ⟨g, i, none⟩) hz v)⟩
def IJ (c : UInt8) (r : List UInt8) : Nat := if c = 34 then 1 else if Bl c = true then 2 else if c = 36 ∧ 0 < AM r then 3 else if c = 46 ∧ 0 < AM r then 4 else if Bs c = true then 5 else if Be (c :: r) = 0 then 6 else 7
def way (L : List UInt8) (b : Nat) : Nat := match L.drop b with | [] => 0 | c :: r => IJ c r
theorem Wx (c : UInt8) (r : List UInt8) : 1 ≤ IJ c r ∧ IJ c r ≤ 7 := by
 unfold IJ; repeat' split
 all_goals omega
theorem Q0 {L : List UInt8} {b : Nat} (h : L.length ≤ b) : way L b = 0 := by unfold way; rw [List.drop_eq_nil_of_le h]
theorem Iq {L : List UInt8} {b : Nat} {c : UInt8} {r : List UInt8} (h : L.drop b = c :: r) : way L b = IJ c r := by unfold way; rw [h]
open Go Go.RowKit Go.Proofs Th
/-- as deep as texts in quotes may be: none more -/
theorem ST (p : Nat) (s : ByteArray) (_hs : s.size ≤ 1000000) (f : Nat) (hf : f < s.size) (w : World) (hB : Box w p [.string s, .int .i64 f]) :
  Calls Tryz.prog 72 #[.pointer (some ⟨p, 0, none⟩), .int .i64 48] w fun r w' => E4 w p s (f, 31) r w' := by
 obtain ⟨p0, p1⟩ := hB.p2; have pf := hB.froz 1; have pl := hB.lt; have HB := Keep.mk hB; clear hB; go_enter Tryz.func72, Tryz.ntmps72
 go_wp2
 refine bodyPost_ret (v := .tuple #[.int .i64 (f : Int), .int .i64 31]) ?_ rfl ?_
 ·simp [results, Tryz.results72, go_sem]
 exact ⟨rfl, f, ⟨HB.out, Upd.refl p w⟩, by omega, fun h => by cases h⟩
structure ScanS (w W : World) (p : Nat) (s : ByteArray) (v : Value) (R : List Tf × Nat × Nat) (n j : Nat) (acc : List Tf) : Prop where
 b : Box W p [.string s, .int .i64 j]
 u : Below w.heap.size w W
 zp : w.heap.size ≤ p
 le : j ≤ s.size
 room : s.size + 1 ≤ n + j
 row : OwnT W w.heap.size v acc
 np : v.ownBlock ≠ some p
 q : BJ s.data.toList n j acc = R
 len : acc.length ≤ j
 sm : ∀ t ∈ acc, t.text.size ≤ 100000 ∧ t.at_ ≤ 100000
 glob : GlobX W
 g0 : 4 < w.heap.size
def Pf (w : World) (R : List Tf × Nat × Nat) (r : Ending) (w' : World) : Prop :=
 ∃ A c, r = .returned (.tuple #[.slice A R.1.length c, .int .i64 (R.2.1 : Int), .int .i64 (R.2.2 : Int)]) ∧ ToksIn w' (Xt w w') A c R.1 ∧ Below w.heap.size w w'
theorem Wh {B : Nat} {w w' : World} {v : Value} (hg : w.grownBy w' v.ownBlock) (hB : B ≤ w.heap.size) (hv : ∀ b, v.ownBlock = some b → B ≤ b) : Below B w w' := (Below.refl _ _).grown hg hB hv
theorem ScanS.finish {w W W2 : World} {p : Nat} {s : ByteArray} {A : Option Addr} {m c : Nat} {R : List Tf × Nat × Nat} {n j : Nat} {acc : List Tf} (h : ScanS w W p s (.slice A m c) R n j acc) (hs : s.size ≤ 50000) (hu : Upd p W W2) : ToksIn W2 (Xt w W2) A c acc ∧ Below w.heap.size w W2 := by
 have hr : OwnT W2 w.heap.size (.slice A m c) acc := h.row.keep (fun k hk => hu.block k (h.row.lt k hk).2 (fun e => h.np (by rw [hk, e]))); have hle := h.le; have hll := h.len; exact ⟨(hr.toks (by omega) h.sm (fun k hk => hr.lt k hk)).2, h.u.trans (hu.below h.u.size h.zp)⟩
theorem ScanS.step {w W W3 w7 : World} {p : Nat} {s : ByteArray} {A : Option Addr} {m c : Nat} {R : List Tf × Nat × Nat} {g j te : Nat} {acc : List Tf} {t : Tf} {v7 : Value} (h : ScanS w W p s (.slice A m c) R (g + 1) j acc) (hu : Upd p W W3) (hb : Box W3 p [.string s, .int .i64 te])
  (hO : OwnT w7 w.heap.size v7 (acc ++ [t])) (hg : W3.grownBy w7 (Value.slice A m c).ownBlock) (hv : v7.ownBlock = (Value.slice A m c).ownBlock ∨ v7.ownBlock = some W3.heap.size) (h1 : j < te) (h2 : te ≤ s.size) (ht : t.text.size ≤ 100000 ∧ t.at_ ≤ 100000)
  (hq : BJ s.data.toList g te (acc ++ [t]) = R) : ScanS w w7 p s v7 R g te (acc ++ [t]) := by
 have hpl := hb.lt; have hsz : W3.heap.size ≤ w7.heap.size := hg.size; have hpb : w7.heap[p]? = W3.heap[p]? := hg.block p hpl (fun e => h.np e.symm); have hroom := h.room; have hlen := h.len; have hb3 : Below w.heap.size W3 w7 := Wh hg (Nat.le_trans h.u.size hu.size) (fun k hk => (h.row.lt k hk).1); refine ⟨⟨fun i v hv => (DZ hpb).trans (hb.cell i v hv), fun i => ?_, Nat.lt_of_lt_of_le hpl hsz⟩, (h.u.trans (hu.below h.u.size h.zp)).trans hb3, h.zp, h2, by omega, hO, ?_, hq, by rw [List.length_append, List.length_singleton]; omega, fun x hx => ?_, ?_, h.g0⟩
 ·have := hb.froz i
  unfold World.frozen? at this ⊢; rw [hpb]; exact this
 ·rcases hv with hv | hv
  ·rw [hv]; exact h.np
  rw [hv]; intro e; injection e with e; omega
 ·rcases List.mem_append.1 hx with hx | hx
  ·exact h.sm x hx
  rw [List.mem_singleton.1 hx]; exact ht
 obtain ⟨m, hm⟩ := h.glob.upd h.b hu; have hgg : (4 : Nat) < w.heap.size := by
  exact h.g0
 exact ⟨m, (hb3.cell (p := ⟨4, 0, none⟩) hgg).trans hm⟩
theorem Qt (L : List UInt8) (n a : Nat) (acc : List Tf) : BJ L (n + 1) a acc = if (AF L 48 a).2.2 ≠ 0 then ([], (AF L 48 a).2.1, (AF L 48 a).2.2) else if (AF L 48 a).1.kind = 0 then (acc, 0, 0) else BJ L n (AF L 48 a).2.1 (acc ++ [(AF L 48 a).1]) := rfl
theorem NQ (W : World) (S : Nat → Prop) : ToksIn W S none 0 [] := ⟨Nat.le_refl _, by decide, by decide, fun _ h => absurd h List.not_mem_nil, fun h => absurd h (by decide)⟩
theorem WN (s : ByteArray) (hs : s.size ≤ 50000)
  (hN : ∀ (p : Nat) (W : World) (j : Nat), Box W p [.string s, .int .i64 j] → j ≤ s.size → GlobX W → Calls Tryz.prog 47 #[.pointer (some ⟨p, 0, none⟩), .int .i64 0] W fun r w' => DM W p s (AF s.data.toList 48 j) r w')
  (w : World) (hG : GlobX w) : Calls Tryz.prog 23 #[.string s] w fun r w' => Pf w (Bp s.data.toList) r w' := by
 have HL := Keep.mk (Ai s); by_cases hbig : 16384 < s.size
 ·have HE := Keep.mk (show Bp s.data.toList = ([], 0, 3) by unfold Bp; rw [if_pos (by rw [HL.out]; exact hbig)])
  clear hN hG; go_enter Tryz.func23, Tryz.ntmps23
  go_wp2_with fail
  go_step3
  go_wp2_with fail
  rw [Exit.noGoto_ret]; refine bodyPost_ret (v := .tuple #[.slice none 0 0, .int .i64 0, .int .i64 3]) ?_ rfl ?_
  ·simp [results, Tryz.results23, go_sem]
  rw [HE.out]; exact ⟨none, 0, rfl, NQ _ _, Below.refl _ _⟩
 have hq : Bp s.data.toList = BJ s.data.toList (s.size + 1) 0 [] := by unfold Bp; rw [if_neg (by rw [HL.out]; exact hbig), HL.out]
 rw [hq]; obtain ⟨R, hR⟩ : ∃ R, BJ s.data.toList (s.size + 1) 0 [] = R := ⟨_, rfl⟩
 rw [hR]; have HN := Keep.mk hN; have HR := Keep.mk hR; have HG := Keep.mk hG; clear hN hq hR hG; go_enter Tryz.func23, Tryz.ntmps23
 go_wp2_with fail
 go_step3
 go_wp2_with fail
 go_step3
 simp only [Exit.then]; go_wp2_with fail
 go_loopg [2] (s.size + 1) (fun gk v2 wr => ∃ (j : Nat) (acc : List Tf), Keep (ScanS w wr w.heap.size s v2 R gk j acc))
 case atStart => exact ⟨0, [], ⟨⟨Box.new [.string s, .int .i64 0] _ rfl, al1 _ _, Nat.le_refl _, Nat.zero_le _, by omega, OwnT.nil _ _, fun h => (by cases h), HR.out, Nat.le_refl _, fun _ h => absurd h List.not_mem_nil, HG.out.below (al1 _ _), (by obtain ⟨m, hm⟩ := HG.out; exact BX hm)⟩⟩⟩
 case round =>
  rename_i v2
  obtain ⟨j, acc, HS⟩ := hrel; obtain ⟨A, c, hv2, hc1, hc2⟩ := HS.out.row.form; subst hv2; have hroom := HS.out.room; have hle := HS.out.le; obtain ⟨g, rfl⟩ : ∃ g, gk = g + 1 := ⟨gk - 1, by omega⟩
  obtain ⟨t, ht⟩ : ∃ t, AF s.data.toList 48 j = t := ⟨_, rfl⟩
  have HC := Keep.mk (HN.out w.heap.size wr j HS.out.b HS.out.le HS.out.glob); have hok := CR s.data.toList 48 j (by rw [HL.out]; exact hle); have hlen := Pt s.data.toList 48 j (by rw [HL.out]; exact hle); have hq := HS.out.q; rw [Qt, ht] at hq; rw [ht] at HC hok hlen; obtain ⟨⟨tk, tx, ta⟩, te, er⟩ := t; dsimp only at hq hlen; by_cases her : er = 0
  ·subst her
   rw [if_neg (fun h => h rfl)] at hq; by_cases hk0 : tk = 0
   ·subst hk0
    have HE := Keep.mk (hq.symm.trans (if_pos rfl)); clear hq hok hlen ht hroom hle; go_wp2_with fail
    refine HC.out.mono ?_; rintro r w1 ⟨hr, j1, hs1, hl1, _⟩; simp only [GJ, if_true] at hr; subst hr; have HU := Keep.mk hs1.u; clear hs1 hl1; go_wp2_with fail
    rw [Exit.noGoto_ret]; refine bodyPost_ret (v := .tuple #[.slice A acc.length c, .int .i64 0, .int .i64 0]) ?_ rfl ?_
    ·simp [results, Tryz.results23, go_sem]
    rw [HE.out]; refine ⟨A, c, rfl, ?_⟩; exact HS.out.finish hs (HU.out.trans (Upd.of (by first | exact al1 _ _ | exact Cr _ _ _ _ _)))
   have HE := Keep.mk (hq.symm.trans (if_neg hk0)).symm; have hnk : ¬ (tk : Int) = 0 := by omega
   have hfw := hok.fwd rfl hk0; have htl := hok.le; have hsz := hok.sz; have hpl := hok.pl; have hle1 := hlen rfl hk0; rw [HL.out] at htl hsz hpl; dsimp only at hfw htl hsz hpl; have HT := Keep.mk (show tx.size ≤ 100000 ∧ ta ≤ 100000 from ⟨by omega, by omega⟩); have HLN := Keep.mk (show j < te ∧ te ≤ s.size from ⟨hfw, htl⟩); clear hq hok hlen ht hroom hle hfw htl hsz hpl hle1; go_wp2_with fail
   refine HC.out.mono ?_; rintro r w1 ⟨hr, j1, hs1, hl1, he1⟩; obtain rfl : te = j1 := (he1 rfl).symm; simp only [GJ, if_true] at hr; subst hr; have HB1 := Keep.mk hs1.b; have HU := Keep.mk hs1.u; clear hs1 hl1 he1; go_upto_region 8 with fail
   refine GV (fun W => Box W w1.heap.size (DS ⟨tk, tx, ta⟩) ∧ Box W w.heap.size [.string s, .int .i64 te] ∧ Upd w.heap.size wr W) ⟨Box.new _ _ rfl, HB1.out.alloc _, HU.out.trans (Upd.of (al1 _ _))⟩ ?_; clear HB1 HU; rintro W2 ⟨h6, hB2, hU2⟩; obtain ⟨q0, q1, q2, ql⟩ := h6.p3l; have HB2 := Keep.mk (hB2.alloc (.cells #[.int .i64 (tk : Int), .string tx, .int .i64 (ta : Int)] 66)); have HU2 := Keep.mk (hU2.trans (Upd.of (al1 W2 (.cells #[.int .i64 (tk : Int), .string tx, .int .i64 (ta : Int)] 66)))); have HX2 := Keep.mk (show Box (W2.alloc (.cells #[.int .i64 (tk : Int), .string tx, .int .i64 (ta : Int)] 66)) W2.heap.size (DS ⟨tk, tx, ta⟩) from Box.new _ _ rfl); clear h6 hB2 hU2; have HO2 := Keep.mk (HS.out.row.keep (w' := W2.alloc (.cells #[.int .i64 (tk : Int), .string tx, .int .i64 (ta : Int)] 66)) (fun k hk => HU2.out.block k (HS.out.row.lt k hk).2 (fun e => HS.out.np (by rw [hk, e])))); go_wp2_with (at_builtin; refine M0 rfl (.tmp 30) (.tmp 32) rfl w.heap.size _ _ rfl HO2.out W2.heap.size ⟨tk, tx, ta⟩ rfl HX2.out.cell ?_ ?_ ?_)
   ·have := HS.out.len; have := HS.out.le; omega
   ·exact Nat.le_trans HS.out.u.size (by have := HU2.out.size; simpa using this)
   intro v7 w7 hO7 hg7 hv7; have HS7 := Keep.mk (HS.out.step HU2.out HB2.out hO7 hg7 (by simpa using hv7) HLN.out.1 HLN.out.2 HT.out HE.out); clear hO7 hg7 hv7 HS HO2 HX2 HU2 HB2 q0 q1 q2 ql HC HN HR HG; go_wp2
   go_roundg g
   case rel => exact ⟨te, _, HS7⟩
   case measure => omega
  have HE := Keep.mk (hq.symm.trans (if_pos her)); have hne : ¬ (er : Int) = 0 := by omega
  clear hq hok hlen ht hroom hle; go_wp2_with fail
  refine HC.out.mono ?_; rintro r w1 ⟨hr, j1, hs1, hl1, _⟩; simp only [GJ, if_neg her] at hr; subst hr; have HU := Keep.mk hs1.u; clear hs1 hl1; go_wp2_with fail
  rw [Exit.noGoto_ret]; refine bodyPost_ret (v := .tuple #[.slice none 0 0, .int .i64 (te : Int), .int .i64 (er : Int)]) ?_ rfl ?_
  ·simp [results, Tryz.results23, go_sem]
  rw [HE.out]; refine ⟨none, 0, rfl, NQ _ _, ?_⟩; exact (HS.out.finish hs (HU.out.trans (Upd.of (by first | exact al1 _ _ | exact Cr _ _ _ _ _)))).2
end Go.Proofs.YtakncilicoefdaaGreatDoor
