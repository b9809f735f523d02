/- Lemmas and contracts. Conditions: those that each lemma names. -/
import Derived.Test.YtakncilicoefdaaGreatDoorPz9
import Derived.Lib.LaidU8T
set_option maxRecDepth 100000
set_option maxHeartbeats 4000000
namespace Go.Proofs.YtakncilicoefdaaGreatDoor
open Go Go.Deep Go.WideElems Go.ChangeShapes Go.WideShapes Go.ChangeAt Go.RowKit Go.Proofs Th
theorem Z1 : Kids Tryz.prog (· < Tryz.prog.types.size) := kids_rows (by kernel_rfl) (by kernel_rfl)
theorem aw : ∀ t e, t < Tryz.prog.types.size → Tryz.prog.underlying t = some (.slice e) → 0 < Tryz.prog.cellsOf e := slices_full_of _ (by kernel_rfl)
section
variable {H : Type} {enc : TypeId × Value → H} {W W' : World}
theorem RE {ts : List TypeId} {vs : List Value} {ds : List (DataW H)} {ps : List MemPlace} (h : DataW.TrodAll enc Tryz.prog W 0 (fun _ => true) true ts vs ds ps) (hb : Below W.heap.size W W')
  (hlt : ∀ p ∈ ps, p.block < W.heap.size) (hT : ∀ t ∈ ts, t < Tryz.prog.types.size) (sp : Nat → Bool) (hsp : ∀ p ∈ ps, sp p.block = true) : DataW.TrodAll enc Tryz.prog W' 0 sp true ts vs ds ps := by
 have same : ∀ p : MemPlace, p.block < W.heap.size → W.sameAt W' p := fun p hp => by
  cases p with
  | cell b o => exact hb.cell (p := ⟨b, o, none⟩) hp
  | map b => exact hb.block b hp
 have h2 := h.respare Z1 aw hT hsp; clear h hT hsp; induction ts generalizing vs ds ps with
 | nil => exact (show DataW.TrodAll enc Tryz.prog W 0 sp true [] vs ds ps → DataW.TrodAll enc Tryz.prog W' 0 sp true [] vs ds ps from fun h => by cases vs <;> cases ds <;> first | exact h | cases h) h2
 | cons t ts ih =>
  match vs, ds, h2 with
  | v :: vs, d :: ds, ⟨p, q, ⟨n, h1⟩, h3, e⟩ =>
   subst e; exact ⟨p, q, ⟨n, DataW.trod_carry n _ _ _ h1 (fun x hx => same x (hlt x (List.mem_append_left _ hx)))⟩, ih (fun x hx => hlt x (List.mem_append_right _ hx)) h3, rfl⟩
end
theorem SJ : Go.Pinned.utf8First = Lib.firstData := by kernel_rfl
theorem QB : (Rows.laid_unicode_utf8_acceptRanges : DataW Unit) = Lib.acceptData := by kernel_rfl
/-- a text that comes in -/
theorem P5 {H : Type} {enc : TypeId × Value → H} {W : World} {b0 : Nat} {v : Value} {d : DataW H} {p : List MemPlace}
  (_hv : Value.okWide Tryz.prog W .any b0 9 v) (h : DataW.Trod enc Tryz.prog W 0 (fun _ => true) true 9 v d p) (hw : ∀ k ∈ d.weights Tryz.prog 9, k ≤ reachBytes) :
  ∃ s : ByteArray, v = .string s ∧ s.size ≤ 140737488351232 := by
 obtain ⟨s, rfl⟩ := okWide_string Tryz.underlying9 _hv; obtain ⟨n, h⟩ := h; obtain ⟨s', e3, e4, w3⟩ := DataW.trod_string Tryz.underlying9 h; have e3 : [Value.string s] = [.string s'] := e3; injection e3 with e3 _; injection e3 with e5; subst e5; refine ⟨s, rfl, ?_⟩; injection e4 with e4 _; subst e4; have := hw s.data.toList.length (by simp [DataW.weights]); rwa [Ai] at this
open Go Go.RowKit Go.Proofs Th
inductive IV where
 | v (x : Value)
 | sl (es : List (List IV)) (full : Bool)
 | elt (cs : List IV) (off : Nat)
 | agg (cs : List IV)
 | tup (vs : List IV)
def IV.one : IV → Bool
 | .v x => x.oneCell'
 | .sl _ _ => true
 | .elt _ _ => true
 | _ => false
abbrev CS := Nat → Nat → Prop
inductive Rep (W : World) (S : CS) : IV → Value → Prop
 | v (x : Value) : Rep W S (.v x) x
 | sl {es : List (List IV)} {full : Bool} {A : Option Addr} {c : Nat} (esz : Nat) (f : Nat → Nat → Value) (hc : es.length ≤ c) (ht : c ≤ 9223372036854775807) (hl : es.length ≤ 140737488351232) (hf : full = true → c = es.length)
   (hz : ∀ e ∈ es, e.length = esz ∧ ∀ x ∈ e, x.one = true)
   (hA : 0 < es.length → ∃ g o, A = some ⟨g, o, none⟩ ∧ ∀ j i, j < es.length → i < esz → S g (o + j * esz + i) ∧ W.cell? ⟨g, o + j * esz + i, none⟩ = some (f j i))
   (hR : ∀ (j i : Nat) e x, es[j]? = some e → e[i]? = some x → Rep W S x (f j i)) : Rep W S (.sl es full) (.slice A es.length c)
 | elt {cs : List IV} {off : Nat} (g o : Nat) (f : Nat → Value) (h1 : ∀ x ∈ cs, x.one = true) (hA : ∀ i, i < cs.length → S g (o + i) ∧ W.cell? ⟨g, o + i, none⟩ = some (f i))
   (hR : ∀ (i : Nat) x, cs[i]? = some x → Rep W S x (f i)) : Rep W S (.elt cs off) (.pointer (some ⟨g, o + off, none⟩))
 | agg {cs : List IV} {us : List Value} (hl : us.length = cs.length) (hR : ∀ (i : Nat) x u, cs[i]? = some x → us[i]? = some u → Rep W S x u) : Rep W S (.agg cs) (.agg us.toArray)
 | tup {cs : List IV} {us : List Value} (hl : us.length = cs.length) (hR : ∀ (i : Nat) x u, cs[i]? = some x → us[i]? = some u → Rep W S x u) : Rep W S (.tup cs) (.tuple us.toArray)
theorem Rep.keep {W W' : World} {S S' : CS} {x : IV} {u : Value} (h : Rep W S x u) (hc : ∀ g o, S g o → W'.cell? ⟨g, o, none⟩ = W.cell? ⟨g, o, none⟩) (hS : ∀ g o, S g o → S' g o) : Rep W' S' x u := by
 induction h with
 | v => exact .v _
 | sl esz f h1 h2 h3 h4 h5 hA hR ih =>
  refine .sl esz f h1 h2 h3 h4 h5 (fun hn => ?_) ih; obtain ⟨g, o, e, h⟩ := hA hn; exact ⟨g, o, e, fun j i hj hi => ⟨hS _ _ (h j i hj hi).1, (hc _ _ (h j i hj hi).1).trans (h j i hj hi).2⟩⟩
 | elt g o f h1 hA hR ih => exact .elt g o f h1 (fun i hi => ⟨hS _ _ (hA i hi).1, (hc _ _ (hA i hi).1).trans (hA i hi).2⟩) ih
 | agg hl hR ih => exact .agg hl ih
 | tup hl hR ih => exact .tup hl ih
theorem Rep.one {W : World} {S : CS} {x : IV} {u : Value} (h : Rep W S x u) (h1 : x.one = true) : u.oneCell' = true := by
 cases h with
 | v x => exact h1
 | sl => rfl
 | elt => rfl
 | agg => cases h1
 | tup => cases h1
def RepL (W : World) (S : CS) (xs : List IV) (us : List Value) : Prop := us.length = xs.length ∧ ∀ (i : Nat) x u, xs[i]? = some x → us[i]? = some u → Rep W S x u
theorem RepL.keep {W W' : World} {S S' : CS} {xs : List IV} {us : List Value} (h : RepL W S xs us) (hc : ∀ g o, S g o → W'.cell? ⟨g, o, none⟩ = W.cell? ⟨g, o, none⟩) (hS : ∀ g o, S g o → S' g o) : RepL W' S' xs us :=
 ⟨h.1, fun i x u hx hu => (h.2 i x u hx hu).keep hc hS⟩
theorem RepL.nil (W : World) (S : CS) : RepL W S [] [] := ⟨rfl, fun i x u h => by simp at h⟩
theorem RepL.cons {W : World} {S : CS} {x : IV} {u : Value} {xs : List IV} {us : List Value} (h : Rep W S x u) (hs : RepL W S xs us) : RepL W S (x :: xs) (u :: us) := by
 refine ⟨by simp [hs.1], fun i y v hy hv => ?_⟩; cases i with
 | zero =>
  simp only [List.getElem?_cons_zero, Option.some.injEq] at hy hv; subst hy hv; exact h
 | succ i => simp only [List.getElem?_cons_succ] at hy hv; exact hs.2 i y v hy hv
def IV.er1 : IV → IV
 | .sl es _ => .sl es false
 | x => x
def IV.erA : IV → IV
 | .agg cs => .agg (cs.map IV.er1)
 | x => x.er1
def IV.er : IV → IV
 | .tup vs => .tup (vs.map IV.erA)
 | x => x.erA
theorem Rep.er1 {W : World} {S : CS} {x : IV} {u : Value} (h : Rep W S x u) : Rep W S x.er1 u := by
 cases h with
 | v => exact .v _
 | sl esz f h1 h2 h3 h4 h5 hA hR => exact .sl esz f h1 h2 h3 (fun h => by cases h) h5 hA hR
 | elt g o f h1 hA hR => exact .elt g o f h1 hA hR
 | agg hl hR => exact .agg hl hR
 | tup hl hR => exact .tup hl hR
theorem SD (x : IV) : x.er1.one = x.one := by cases x <;> rfl
theorem Rep.map {W : World} {S : CS} {f : IV → IV} (hf : ∀ x u, Rep W S x u → Rep W S (f x) u) {cs : List IV} {us : List Value} (h : RepL W S cs us) : RepL W S (cs.map f) us := by
 refine ⟨by simp [h.1], fun i x u hx hu => ?_⟩; rw [List.getElem?_map] at hx; cases hc : cs[i]? with
 | none => rw [hc] at hx; cases hx
 | some y =>
  rw [hc] at hx; simp only [Option.map_some, Option.some.injEq] at hx; subst hx; exact hf _ _ (h.2 i y u hc hu)
theorem Rep.erA {W : World} {S : CS} {x : IV} {u : Value} (h : Rep W S x u) : Rep W S x.erA u := by
 cases h with
 | agg hl hR =>
  obtain ⟨h1, h2⟩ := Rep.map (fun _ _ => Rep.er1) (⟨hl, hR⟩ : RepL W S _ _); exact .agg h1 h2
 | v => exact .v _
 | sl esz f h1 h2 h3 h4 h5 hA hR => exact .sl esz f h1 h2 h3 (fun h => by cases h) h5 hA hR
 | elt g o f h1 hA hR => exact .elt g o f h1 hA hR
 | tup hl hR => exact .tup hl hR
theorem Rep.er {W : World} {S : CS} {x : IV} {u : Value} (h : Rep W S x u) : Rep W S x.er u := by
 cases h with
 | tup hl hR =>
  obtain ⟨h1, h2⟩ := Rep.map (fun _ _ => Rep.erA) (⟨hl, hR⟩ : RepL W S _ _); exact .tup h1 h2
 | agg hl hR => exact Rep.erA (.agg hl hR)
 | v => exact .v _
 | sl esz f h1 h2 h3 h4 h5 hA hR => exact .sl esz f h1 h2 h3 (fun h => by cases h) h5 hA hR
 | elt g o f h1 hA hR => exact .elt g o f h1 hA hR
def lift : Value → IV
 | .slice none 0 0 => .sl [] true
 | x => .v x
theorem GG (W : World) (S : CS) (x : Value) : Rep W S (lift x) x := by
 unfold Go.Proofs.YtakncilicoefdaaGreatDoor.lift; split
 ·exact .sl (es := []) 0 (fun _ _ => undef) (Nat.le_refl _) (by simp) (by simp) (fun _ => rfl) (fun _ h => absurd h List.not_mem_nil) (fun h => absurd h (Nat.lt_irrefl _)) (fun j i e x h => by simp at h)
 exact .v _
/-! frames, boxes, rows of one's own -/
inductive FV where
 | junk
 | im (x : IV)
 | own (k n : Nat)
 | ptr (b off : Nat)
 | pin (b p : Nat)
inductive AObj where
 | none
 | box (cs : List FV)
 | row (ty esz : Nat) (es : List (List IV))
structure ASt where
 fr : Nat → FV
 st : Nat → AObj
def upd {α : Type} (f : Nat → α) (k : Nat) (x : α) : Nat → α := fun i => if i = k then x else f i
theorem AX {α : Type} (f : Nat → α) (k : Nat) (x : α) : upd f k x k = x := if_pos rfl
theorem Ce {α : Type} (f : Nat → α) {k i : Nat} (x : α) (h : i ≠ k) : upd f k x i = f i := if_neg h
theorem PZ {α : Type} (f : Nat → α) {k j : Nat} (x y : α) (h : k ≠ j) : upd (upd f k x) j y = upd (upd f j y) k x := by
 funext i; unfold upd
 by_cases h1 : i = j
 ·rw [if_pos h1, if_neg (by omega), if_pos h1]
 rw [if_neg h1]; by_cases h2 : i = k
 ·rw [if_pos h2, if_pos h2]
 rw [if_neg h2, if_neg h2, if_neg h1]
structure AEnv where
 box : Nat → Nat
 row : Nat → Value
def B4 (W : World) (S : CS) (E : AEnv) (st : Nat → AObj) : FV → Value → Prop
 | .junk, _ => True
 | .im x, u => Rep W S x u
 | .own k n, u => ∃ ty esz es, st k = .row ty esz es ∧ n ≤ es.length ∧ (es.length = n → u = E.row k)
 | .ptr b off, u => (∃ cs, st b = .box cs) ∧ u = .pointer (some ⟨E.box b, off, none⟩)
 | .pin b p, _ => (∃ cs, st b = .box cs) ∧ E.box b = p
structure UpdR (R : Nat → Prop) (w w' : World) : Prop where
 os : w'.os = w.os
 tape : w'.tape = w.tape
 output : w'.output = w.output
 size : w.heap.size ≤ w'.heap.size
 block : ∀ k, k < w.heap.size → ¬ R k → w'.heap[k]? = w.heap[k]?
theorem UpdR.refl (R : Nat → Prop) (w : World) : UpdR R w w := ⟨rfl, rfl, rfl, Nat.le_refl _, fun _ _ _ => rfl⟩
def Z7 (W : World) (S : CS) (E : AEnv) (st : Nat → AObj) (g : Nat) (cs : List FV) : Prop :=
 ∃ us : List Value, us.length = cs.length ∧ Box W g us ∧ (∀ u ∈ us, u.oneCell' = true) ∧ (∀ (i : Nat) c u, cs[i]? = some c → us[i]? = some u → B4 W S E st c u) ∧ ∀ o, ¬ S g o
def ay (W : World) (S : CS) (base : Nat) (v : Value) (ty esz : Nat) (es : List (List IV)) : Prop :=
 ∃ xs, W.ownsRow base ty esz v es.length xs ∧ 0 < esz ∧ es.length ≤ 1000000000 ∧ (∀ e ∈ es, e.length = esz ∧ ∀ x ∈ e, x.one = true) ∧ (∀ (j i : Nat) e x u, es[j]? = some e → e[i]? = some x → xs[j * esz + i]? = some u → Rep W S x u) ∧
  ∀ g, v.ownBlock = some g → ∀ o, S g o ↔ o < es.length * esz
structure Ctx where
 W0 : World
 S0 : CS
 R : Nat → Prop
 N : Nat
 p : Nat
 rcv : Bool
 G : World → CS → Prop
 gk : ∀ W W' S S', G W S → (∀ g o, S g o → W'.cell? ⟨g, o, none⟩ = W.cell? ⟨g, o, none⟩) → (∀ g o, S g o → S' g o) → G W' S'
 dfr : List Deferred
def JW (X : Ctx) (W : World) (S : CS) (E : AEnv) (st : Nat → AObj) (id : Nat) : AObj → Prop
 | .none => True
 | .box cs => Z7 W S E st (E.box id) cs ∧ (X.R (E.box id) ∨ X.W0.heap.size ≤ E.box id)
 | .row ty esz es => ay W S X.W0.heap.size (E.row id) ty esz es
def blk (E : AEnv) (id : Nat) : AObj → Option Nat
 | .none => none
 | .box _ => some (E.box id)
 | .row .. => (E.row id).ownBlock
structure RelE (X : Ctx) (E : AEnv) (S : CS) (s : ASt) (a : Act) (W : World) : Prop where
 sz : a.tmps.size = X.N
 df : a.defers = X.dfr
 fr : ∀ t, B4 W S E s.st (s.fr t) (a.tmps.getD t undef)
 ob : ∀ id, JW X W S E s.st id (s.st id)
 ap : ∀ i j g, blk E i (s.st i) = some g → blk E j (s.st j) = some g → i = j
 Sb : ∀ g o, S g o → g < W.heap.size
 S0 : ∀ g o, X.S0 g o → S g o
 Sn : ∀ g o, S g o → X.S0 g o ∨ X.W0.heap.size ≤ g
 u : UpdR X.R X.W0 W
 g : X.G W S
 pk : E.box 1000 = X.p
 bk : X.rcv = true → ∃ cs, s.st 1000 = .box cs
theorem LC {X : Ctx} {E : AEnv} {S : CS} {s : ASt} {a : Act} {W : World} (h : RelE X E S s a W) {i g : Nat} (hb : blk E i (s.st i) = some g) : g < W.heap.size := by
 have ho := h.ob i; cases hs : s.st i with
 | none => rw [hs] at hb; cases hb
 | box cs =>
  rw [hs] at hb ho; injection hb with hb; subst hb; obtain ⟨⟨us, _, hB, _⟩, _⟩ := ho; exact hB.lt
 | row ty esz es =>
  rw [hs] at hb ho; obtain ⟨xs, h1, _⟩ := ho; exact (Du h1 g hb).2
def ao (E E' : AEnv) (j : Nat) : AObj → AObj → Prop
 | .none, _ => True
 | .box _, o => (∃ cs', o = .box cs') ∧ E'.box j = E.box j
 | .row _ _ es, o => ∃ ty' esz' es', o = .row ty' esz' es' ∧ es.length < es'.length
theorem RelE.core {X : Ctx} {E : AEnv} {S : CS} {s : ASt} {a : Act} {W : World} (h : RelE X E S s a W) (C : Nat → Prop) (st' : Nat → AObj) (E' : AEnv) (S' : CS) (W' : World)
  (hst : ∀ j, ¬ C j → st' j = s.st j ∧ E'.box j = E.box j ∧ E'.row j = E.row j)
  (hp : E'.box 1000 = E.box 1000) (hk : ∀ j, C j → ao E E' j (s.st j) (st' j))
  (hos : W'.os = W.os) (htp : W'.tape = W.tape) (hou : W'.output = W.output) (hsz : W.heap.size ≤ W'.heap.size)
  (hW : ∀ g, g < W.heap.size → (∀ j, C j → blk E j (s.st j) ≠ some g) → W'.heap[g]? = W.heap[g]?)
  (hcell : ∀ g o, S g o → W'.cell? ⟨g, o, none⟩ = W.cell? ⟨g, o, none⟩)
  (hS : ∀ g o, S g o → S' g o) (hSn : ∀ g o, S' g o → S g o ∨ W.heap.size ≤ g ∨ ∃ j, C j ∧ blk E j (s.st j) = some g) (hSb : ∀ g o, S' g o → g < W'.heap.size)
  (hob : ∀ j, C j → JW X W' S' E' st' j (st' j))
  (hbk : ∀ j g, C j → blk E' j (st' j) = some g → blk E j (s.st j) = some g ∨ W.heap.size ≤ g)
  (hap : ∀ i j g, C i → C j → blk E' i (st' i) = some g → blk E' j (st' j) = some g → i = j) : RelE X E' S' ⟨s.fr, st'⟩ a W' := by
 have hF : ∀ c u, B4 W S E s.st c u → B4 W' S' E' st' c u := by
  intro c u hc; cases c with
  | junk => trivial
  | im x => exact Rep.keep hc hcell hS
  | own k n =>
   obtain ⟨ty, esz, es, h1, h2, h3⟩ := hc; by_cases hC : C k
   ·have := hk k hC
    rw [h1] at this; obtain ⟨ty', esz', es', h4, h5⟩ := this; exact ⟨ty', esz', es', h4, by omega, fun h => by omega⟩
   obtain ⟨h4, h5, h6⟩ := hst k hC; exact ⟨ty, esz, es, by rw [h4, h1], h2, fun h => by rw [h6]; exact h3 h⟩
  | ptr b off =>
   obtain ⟨⟨cs, h1⟩, h2⟩ := hc; by_cases hC : C b
   ·have := hk b hC
    rw [h1] at this; obtain ⟨h3, h4⟩ := this; exact ⟨h3, by rw [h4]; exact h2⟩
   obtain ⟨h4, h5, h6⟩ := hst b hC; exact ⟨⟨cs, by rw [h4, h1]⟩, by rw [h5]; exact h2⟩
  | pin b p =>
   obtain ⟨⟨cs, h1⟩, h2⟩ := hc; by_cases hC : C b
   ·have := hk b hC
    rw [h1] at this; obtain ⟨h3, h4⟩ := this; exact ⟨h3, by rw [h4]; exact h2⟩
   obtain ⟨h4, h5, h6⟩ := hst b hC; exact ⟨⟨cs, by rw [h4, h1]⟩, by rw [h5]; exact h2⟩
 have hold : ∀ i g, ¬ C i → blk E i (s.st i) = some g → W'.heap[g]? = W.heap[g]? := fun i g hi hg =>
  hW g (LC h hg) (fun j hj he => hi (h.ap j i g he hg ▸ hj))
 have hSold : ∀ i g o, ¬ C i → blk E i (s.st i) = some g → S' g o → S g o := fun i g o hi hg ho => by
  rcases hSn g o ho with h1 | h1 | ⟨j, hj, he⟩
  ·exact h1
  ·exact absurd (LC h hg) (by omega)
  exact absurd (h.ap j i g he hg ▸ hj) hi
 have hbo : ∀ i, ¬ C i → blk E' i (st' i) = blk E i (s.st i) := fun i hi => by
  obtain ⟨h1, h2, h3⟩ := hst i hi; rw [h1]; cases s.st i <;> simp [blk, h2, h3]
 refine ⟨h.sz, h.df, fun t => hF _ _ (h.fr t), fun i => ?_, fun i j g hi hj => ?_, hSb, fun g o ho => hS g o (h.S0 g o ho), fun g o ho => ?_, ?_, X.gk _ _ _ _ h.g hcell hS, hp.trans h.pk, fun hr => ?_⟩
 ·by_cases hC : C i
  ·exact hob i hC
  obtain ⟨h1, h2, h3⟩ := hst i hC; have ho := h.ob i; show JW X W' S' E' st' i (st' i)
  rw [h1]; have hold' := hold i; have hSold' := hSold i; cases hs : s.st i with
  | none => trivial
  | box cs =>
   rw [hs] at ho hold' hSold'; obtain ⟨⟨us, hl, hB, h4, h5, h6⟩, h7⟩ := ho; have hb := hold' (E.box i) hC rfl; refine ⟨⟨us, hl, ?_, h4, fun j c u hc hu => hF _ _ (h5 j c u hc hu), fun o ho => ?_⟩, by rw [h2]; exact h7⟩
   ·rw [h2]
    refine ⟨fun j v hv => (DZ hb).trans (hB.cell j v hv), fun j => ?_, Nat.lt_of_lt_of_le hB.lt hsz⟩; have := hB.froz j; unfold World.frozen? at this ⊢; rw [hb]; exact this
   rw [h2] at ho; exact h6 o (hSold' _ _ hC rfl ho)
  | row ty esz es =>
   rw [hs] at ho hold' hSold'; obtain ⟨xs, h4, h5, h6, h7, h8, h9⟩ := ho; refine ⟨xs, by rw [h3]; exact Oo h4 (fun k hk => hold' k hC hk), h5, h6, h7, fun j i e x u he hx hu => (h8 j i e x u he hx hu).keep hcell hS, fun g hg o => ?_⟩; rw [h3] at hg; exact ⟨fun ho => (h9 g hg o).1 (hSold' g o hC hg ho), fun ho => hS _ _ ((h9 g hg o).2 ho)⟩
 ·show i = j
  replace hi : blk E' i (st' i) = some g := hi; replace hj : blk E' j (st' j) = some g := hj; by_cases hCi : C i
  ·by_cases hCj : C j
   ·exact hap i j g hCi hCj hi hj
   rw [hbo j hCj] at hj; rcases hbk i g hCi hi with h1 | h1
   ·exact h.ap i j g h1 hj
   exact absurd (LC h hj) (by omega)
  rw [hbo i hCi] at hi; by_cases hCj : C j
  ·rcases hbk j g hCj hj with h1 | h1
   ·exact h.ap i j g hi h1
   exact absurd (LC h hi) (by omega)
  rw [hbo j hCj] at hj; exact h.ap i j g hi hj
 ·have hu := h.u.size
  rcases hSn g o ho with h1 | h1 | ⟨j, hj, he⟩
  ·exact h.Sn g o h1
  ·exact Or.inr (by omega)
  have ho' := h.ob j; cases hs : s.st j with
  | none => rw [hs] at he; cases he
  | box cs =>
   rw [hs] at he ho'; injection he with he; subst he; rcases ho'.2 with h2 | h2
   ·have := hob j hj
    have hk' := hk j hj; rw [hs] at hk'; obtain ⟨⟨cs', hcs'⟩, hbb⟩ := hk'; rw [hcs'] at this; obtain ⟨⟨_, _, _, _, _, h6⟩, _⟩ := this; rw [hbb] at h6; exact absurd ho (h6 o)
   exact Or.inr h2
  | row ty esz es =>
   rw [hs] at he ho'; obtain ⟨xs, h4, _⟩ := ho'; exact Or.inr (Du h4 g he).1
 ·refine ⟨hos.trans h.u.os, htp.trans h.u.tape, hou.trans h.u.output, Nat.le_trans h.u.size hsz, fun k hk' hR => ?_⟩
  refine (hW k (Nat.lt_of_lt_of_le hk' h.u.size) (fun j hj he => ?_)).trans (h.u.block k hk' hR); have ho' := h.ob j; cases hs : s.st j with
  | none => rw [hs] at he; cases he
  | box cs =>
   rw [hs] at he ho'; injection he with he; rcases ho'.2 with h2 | h2
   ·exact hR (he ▸ h2)
   omega
  | row ty esz es =>
   rw [hs] at he ho'; obtain ⟨xs, h4, _⟩ := ho'; have := (Du h4 k he).1; omega
 obtain ⟨cs, h1⟩ := h.bk hr; show ∃ cs, st' 1000 = .box cs
 by_cases hC : C 1000
 ·have := hk 1000 hC
  rw [h1] at this; exact this.1
 rw [(hst 1000 hC).1]; exact ⟨cs, h1⟩
theorem RelE.put {X : Ctx} {E : AEnv} {S : CS} {s : ASt} {a : Act} {W : World} (h : RelE X E S s a W) (d : Nat) (hd : d < X.N) {c : FV} {u : Value} (hc : B4 W S E s.st c u) : RelE X E S ⟨upd s.fr d c, s.st⟩ (a.put (some d) u) W := by
 refine ⟨by simp [Act.put, h.sz], h.df, fun t => ?_, h.ob, h.ap, h.Sb, h.S0, h.Sn, h.u, h.g, h.pk, h.bk⟩; show B4 W S E s.st (upd s.fr d c t) ((a.tmps.setIfInBounds d u).getD t undef)
 by_cases ht : t = d
 ·subst ht
  rw [AX]; have : (a.tmps.setIfInBounds t u).getD t undef = u := by simp [Array.getD, h.sz, hd]
  rw [this]; exact hc
 rw [Ce _ _ ht]; have : (a.tmps.setIfInBounds d u).getD t undef = a.tmps.getD t undef := by
  simp only [Array.getD_eq_getD_getElem?, Array.getElem?_setIfInBounds_ne (Ne.symm ht)]
 rw [this]; exact h.fr t
end Go.Proofs.YtakncilicoefdaaGreatDoor
namespace Th
open Go Go.Lib
def Cv {α : Type} (a : Nat → Option α) (b : Option α) : Prop := ∀ x, b = some x → ∃ f0, ∀ f, f0 ≤ f → a f = some x
theorem Cv.const {α : Type} (b : Option α) : Cv (fun _ => b) b := fun _ h => ⟨0, fun _ _ => h⟩
theorem Cv.ite {α : Type} {c : Prop} [Decidable c] {a a' : Nat → Option α} {b b' : Option α} (h1 : Cv a b) (h2 : Cv a' b') : Cv (fun f => if c then a f else a' f) (if c then b else b') := by
 by_cases hc : c
 ·simp only [if_pos hc]; exact h1
 simp only [if_neg hc]; exact h2
theorem Cv.bind {α β : Type} {a : Nat → Option (PR α)} {b : Option (PR α)} {k : Nat → α → Nat → Option (PR β)} {k' : α → Nat → Option (PR β)} (h : Cv a b) (hk : ∀ n j, Cv (fun f => k f n j) (k' n j)) :
  Cv (fun f => A3 (a f) (k f)) (A3 b k') := by
 intro x hx; cases b with
 | none => cases hx
 | some p =>
  obtain ⟨f0, h0⟩ := h p rfl; cases p with
  | bad u v => exact ⟨f0, fun f hf => by simp only [h0 f hf]; exact hx⟩
  | ok n j =>
   obtain ⟨f1, h1⟩ := hk n j x hx; exact ⟨max f0 f1, fun f hf => by simp only [h0 f (by omega)]; exact h1 f (by omega)⟩
theorem Cv.want {β : Type} {E : Env} {i t : Nat} {s : ByteArray} {k : Nat → Nat → Option (PR β)} {k' : Nat → Option (PR β)} (hk : ∀ j, Cv (fun f => k f j) (k' j)) : Cv (fun f => A8 E i t s (k f)) (A8 E i t s k') := by
 unfold A8; exact Cv.ite (hk _) (Cv.const _)
theorem Cv.kind {β : Type} {E : Env} {i t : Nat} {k : Nat → ByteArray → Nat → Option (PR β)} {k' : ByteArray → Nat → Option (PR β)} (hk : ∀ n j, Cv (fun f => k f n j) (k' n j)) : Cv (fun f => CX E i t (k f)) (CX E i t k') := by
 unfold CX; exact Cv.ite (Cv.const _) (hk _ _)
theorem Cv.args {β : Type} {E : Env} {k : Nat → List ByteArray → Nat → Option (PR β)} {k' : List ByteArray → Nat → Option (PR β)} (hk : ∀ n j, Cv (fun f => k f n j) (k' n j)) : ∀ (n : Nat) (acc : List ByteArray) (i : Nat), Cv (fun f => Db E (k f) n acc i) (Db E k' n acc i) := by
 intro n; induction n with
 | zero => intro acc i; exact Cv.const _
 | succ n ih =>
  intro acc i; simp only [Db]; exact Cv.ite (Cv.ite (ih _ _) (hk _ _)) (Cv.kind fun s j => Cv.ite (ih _ _) (hk _ _))
theorem M1 (r : Nat → Env → Job → Nat → Option (PR NJ)) (v : Env → Job → Nat → Option (PR NJ)) (h : ∀ E job i, Cv (fun f => r f E job i) (v E job i)) (E : Env) (job : Job) (i : Nat) : Cv (fun f => Ak (r f) E job i) (Ak v E job i) := by
 cases job with
 | parts texts filters places kids =>
  cases texts with
  | nil => exact Cv.const _
  | cons s texts =>
   cases filters with
   | nil => exact Cv.ite (Cv.const _) (h _ _ _)
   | cons g filters => exact Cv.ite (Cv.const _) (Cv.bind (h _ _ _) fun _ _ => h _ _ _)
 | _ =>
  simp only [Ak]; repeat' (first | exact Cv.const _ | exact h _ _ _ | refine Cv.bind ?_ ?_ | refine Cv.want ?_ | refine Cv.kind ?_ | refine Cv.args ?_ _ _ _ | refine Cv.ite ?_ ?_ | intro _)
theorem Vi : ∀ (f : Nat) (E : Env) (job : Job) (i : Nat) (x : PR NJ), AY f E job i = some x → AY (f + 1) E job i = some x := by
 intro f; induction f with
 | zero => intro E job i x h; cases h
 | succ f ih =>
  intro E job i x h; -- a family that is AY f at first, AY (f + 1) from then on
  have key := M1 (fun _ => AY (f + 1)) (AY f) (fun E job i x hx => ⟨0, fun _ _ => ih E job i x hx⟩) E job i x h; obtain ⟨f0, h0⟩ := key; exact h0 f0 (Nat.le_refl _)
theorem Ps {f g : Nat} (h : f ≤ g) {E : Env} {job : Job} {i : Nat} {x : PR NJ} (hx : AY f E job i = some x) : AY g E job i = some x := by
 obtain ⟨k, rfl⟩ := Nat.exists_eq_add_of_le h; induction k with
 | zero => exact hx
 | succ k ih => exact Vi _ _ _ _ _ (ih (by omega))
open Classical in
/-- what the parser tells with enough fuel -/
noncomputable def evP (E : Env) (job : Job) (i : Nat) : Option (PR NJ) := if h : ∃ x f, AY f E job i = some x then some h.choose else none
theorem PX {f : Nat} {E : Env} {job : Job} {i : Nat} {x : PR NJ} (h : AY f E job i = some x) : evP E job i = some x := by
 have he : ∃ x f, AY f E job i = some x := ⟨x, f, h⟩
 unfold evP; rw [dif_pos he]; obtain ⟨g, hg⟩ := he.choose_spec; have h1 := Ps (Nat.le_max_left f g) h; have h2 := Ps (Nat.le_max_right f g) hg; rw [h1] at h2; exact h2.symm
theorem Mj {E : Env} {job : Job} {i : Nat} {x : PR NJ} (h : evP E job i = some x) : ∃ f, AY f E job i = some x := by
 unfold evP at h; split at h
 ·rename_i he
  injection h with h; subst h; exact he.choose_spec
 cases h
theorem ZJ (E : Env) (job : Job) (i : Nat) : Cv (fun f => AY f E job i) (evP E job i) := fun _ h => by
 obtain ⟨f, hf⟩ := Mj h; exact ⟨f, fun g hg => Ps hg hf⟩
theorem AD (E : Env) (job : Job) (i : Nat) : evP E job i = Ak evP E job i := by
 cases h : Ak evP E job i with
 | some x =>
  obtain ⟨f0, h0⟩ := M1 (fun f => AY f) evP ZJ E job i x h; exact PX (f := f0 + 1) (h0 f0 (Nat.le_refl _))
 | none =>
  cases h2 : evP E job i with
  | none => rfl
  | some x =>
   obtain ⟨f, hf⟩ := Mj h2; cases f with
   | zero => cases hf
   | succ f =>
    have key := M1 (fun _ => evP) (AY f) (fun E job i x hx => ⟨0, fun _ _ => PX hx⟩) E job i x hf; obtain ⟨f0, h0⟩ := key; have := h0 f0 (Nat.le_refl _); rw [h] at this; cases this
end Th
namespace Th
open Go Go.Lib
def wtE (E : Env) (i : Nat) : Nat := Ei (E.l.drop i)
def DQ (E : Env) : Prop := ∀ t ∈ E.l, 1 ≤ t.text.size
theorem Dt {E : Env} (hE : DQ E) {i : Nat} (h : (Aa E i).kind ≠ 0) : wtE E (i + 1) + (Aa E i).text.size = wtE E i ∧ 1 ≤ (Aa E i).text.size := by
 have hi : i < E.l.length := by
  rcases Nat.lt_or_ge i E.l.length with h1 | h1
  ·exact h1
  exfalso; apply h; unfold Aa; rw [List.getD_eq_getElem?_getD, List.getElem?_eq_none h1]; rfl
 have ht : Aa E i = E.l[i] := by unfold Aa; rw [List.getD_eq_getElem?_getD, List.getElem?_eq_getElem hi]; rfl
 rw [ht]; refine ⟨?_, hE _ (List.getElem_mem hi)⟩; unfold wtE; rw [List.drop_eq_getElem_cons hi]; simp only [Ei, List.map_cons, List.sum_cons]; omega
theorem Ib (E : Env) (i : Nat) : wtE E (i + 1) ≤ wtE E i := by
 unfold wtE; rcases Nat.lt_or_ge i E.l.length with h | h
 ·rw [List.drop_eq_getElem_cons h]; simp only [Ei, List.map_cons, List.sum_cons]; omega
 rw [List.drop_eq_nil_of_le h, List.drop_eq_nil_of_le (by omega)]; exact Nat.le_refl _
theorem ZU (E : Env) {i : Nat} (h : E.l.length ≤ i) : wtE E i = 0 := by unfold wtE; rw [List.drop_eq_nil_of_le h]; rfl
theorem YU {E : Env} (hE : DQ E) (i : Nat) : (E.l.drop i).length ≤ wtE E i := by
 have key : ∀ l : List Tf, (∀ t ∈ l, 1 ≤ t.text.size) → l.length ≤ Ei l := by
  intro l; induction l with
  | nil => intro _; exact Nat.le_refl _
  | cons a l ih =>
   intro h; have h1 := h a List.mem_cons_self; have h2 := ih (fun t ht => h t (List.mem_cons_of_mem _ ht)); simp only [Ei, List.map_cons, List.sum_cons, List.length_cons] at h2 ⊢; omega
 exact key _ (fun t ht => hE t (List.mem_of_mem_drop ht))
theorem X0 {E : Env} (h : DQ E) (i : Nat) (hk : (Aa E i).kind ≠ 0) : (Aa E i).text.size ≤ wtE E i := by
 obtain ⟨h1, _⟩ := Dt h hk; omega
theorem Fq (g : List UInt8) (b : Nat) : DQ (B5 g b) ∧ wtE (B5 g b) 0 ≤ g.length := by
 obtain ⟨h1, h2⟩ := Jp g; exact ⟨h2, by unfold wtE; rw [List.drop_zero]; exact h1⟩
theorem Nf (q : List UInt8) : ((BS q).1.texts = [] ∧ (BS q).1.filters = []) ∨ (BS q).1.texts.length = (BS q).1.filters.length + 1 := by
 have key : ∀ (one : Nat → Tf × Nat × Nat) (n f a : Nat) (r : PartsR), r.texts.length = r.filters.length → (Bn q one n f a r).texts.length = (Bn q one n f a r).filters.length + 1 := by
  intro one n; induction n with
  | zero => intro f a r h; simp only [Bn, List.length_append, List.length_singleton]; omega
  | succ n ih =>
   intro f a r h; simp only [Bn]; split
   ·simp only [List.length_append, List.length_singleton]; omega
   split
   ·exact ih _ _ _ h
   split
   ·exact ih _ _ _ h
   exact ih _ _ _ (by simp only [List.length_append, List.length_singleton]; omega)
 unfold BS; split
 ·exact Or.inr (key _ _ _ _ _ rfl)
 exact Or.inl ⟨rfl, rfl⟩
theorem LR (l : List UInt8) : 0 ≤ (BT l).2 := by
 have hf : ∀ neg m e, 0 ≤ (fin neg m e).2 := fun neg m e => by unfold fin; split <;> first | exact Int.le_refl 0 | exact (show (0 : Int) ≤ 11 by decide)
 have hn : ∀ neg m e, 0 ≤ (Ct neg m e).2 := fun neg m e => by
  unfold Ct; split
  ·decide
  exact hf _ _ _
 have hc : ∀ neg u, 0 ≤ (Dh neg u).2 := fun neg u => by
  unfold Dh; split
  ·decide
  exact hn _ _ _
 unfold BT; split
 ·exact hc _ _
 exact hc _ _
theorem U7 (l : List UInt8) (h : (BT l).2 ≠ 0) : (BT l).2.toNat ≠ 0 := by
 have := LR l; omega
end Th
namespace Th
open Go Go.Lib
def Bd {α : Type} (E : Env) (i : Nat) (o : Option (PR α)) : Prop := ∀ a j, o = some (.ok a j) → i ≤ j ∧ j ≤ E.l.length
theorem Bd.fail {α : Type} {E : Env} {i k e : Nat} : Bd (α := α) E i (Da E k e) := fun a j h => by cases h
theorem Bd.ok {α : Type} {E : Env} {i k : Nat} {n : α} (h1 : i ≤ k) (h2 : k ≤ E.l.length) : Bd E i (okP n k) := fun a j h => by cases h; exact ⟨h1, h2⟩
theorem Bd.up {α : Type} {E : Env} {i k : Nat} {o : Option (PR α)} (h1 : i ≤ k) (h : Bd E k o) : Bd E i o := fun a j hj => ⟨Nat.le_trans h1 (h a j hj).1, (h a j hj).2⟩
theorem Bd.bind {α β : Type} {E : Env} {i : Nat} {x : Option (PR α)} {f : α → Nat → Option (PR β)} (h : Bd E i x) (hf : ∀ a j, i ≤ j → j ≤ E.l.length → Bd E j (f a j)) : Bd E i (A3 x f) := by
 cases x with
 | none => intro a j h; cases h
 | some y =>
  cases y with
  | bad a e => intro a j h; cases h
  | ok n j => exact (hf n j (h n j rfl).1 (h n j rfl).2).up (h n j rfl).1
theorem FT {E : Env} {i : Nat} (h : (Aa E i).kind ≠ 0) : i < E.l.length := by
 rcases Nat.lt_or_ge i E.l.length with h1 | h1
 ·exact h1
 unfold Aa at h; rw [List.getD_eq_getElem?_getD, List.getElem?_eq_none h1] at h; exact absurd rfl h
theorem CZ {E : Env} {i k : Nat} {s : ByteArray} (hk : k ≠ 0) (h : isT E i k s) : i < E.l.length := FT (by rw [h.1]; exact hk)
theorem VG {α β : Type} {E : Env} {i : Nat} {x : Option (PR α)} {f : α → Nat → Option (PR β)} (h : Bd E i x) (hf : ∀ a j, i ≤ j → j ≤ E.l.length → Bd E i (f a j)) : Bd E i (A3 x f) := by
 cases x with
 | none => intro a j h; cases h
 | some y =>
  cases y with
  | bad a e => intro a j h; cases h
  | ok n j => exact hf n j (h n j rfl).1 (h n j rfl).2
theorem Bd.want {β : Type} {E : Env} {i p k : Nat} {s : ByteArray} {f : Nat → Option (PR β)} (hk : k ≠ 0) (h : p + 1 ≤ E.l.length → Bd E i (f (p + 1))) : Bd E i (A8 E p k s f) := by
 unfold A8; split
 ·rename_i hT; exact h (CZ hk hT)
 exact Bd.fail
theorem Bd.kind {β : Type} {E : Env} {i p k : Nat} {f : ByteArray → Nat → Option (PR β)} (hk : k ≠ 0) (h : ∀ s, p + 1 ≤ E.l.length → Bd E i (f s (p + 1))) : Bd E i (CX E p k f) := by
 unfold CX; split
 ·exact Bd.fail
 rename_i hT
 exact h _ (FT (fun h0 => hT (Or.inl (by rw [h0]; exact Ne.symm hk))))
theorem Bd.isT {β : Type} {E : Env} {i p k : Nat} {s : ByteArray} {x y : Option (PR β)} (hk : k ≠ 0) (h : p + 1 ≤ E.l.length → Bd E i x) (h2 : Bd E i y) : Bd E i (if Th.isT E p k s then x else y) := by
 split
 ·rename_i hT; exact h (CZ hk hT)
 exact h2
theorem Bd.tok {β : Type} {E : Env} {i p k : Nat} {x y : Option (PR β)} (hk : k ≠ 0) (h : p + 1 ≤ E.l.length → Bd E i x) (h2 : Bd E i y) : Bd E i (if (Aa E p).kind = k then x else y) := by
 split
 ·rename_i hT; exact h (FT (by rw [hT]; exact hk))
 exact h2
theorem Kw {E : Env} {i : Nat} (h : Aj (Aa E i) ≠ 0) : i < E.l.length := FT fun h0 => h (by unfold Aj; rw [if_neg (by omega), if_pos (by omega)])
def Lu (E : Env) (i : Nat) : Job → Prop
 | .sign _ => i < E.l.length
 | .word _ => i < E.l.length
 | .parts _ _ _ _ => i < E.l.length
 | _ => i ≤ E.l.length
theorem XH {β : Type} (E : Env) (b : Nat) (k : List ByteArray → Nat → Option (PR β)) (hk : ∀ a j, b ≤ j → j ≤ E.l.length → Bd E b (k a j)) : ∀ (n : Nat) (acc : List ByteArray) (i : Nat), b ≤ i → i ≤ E.l.length → Bd E b (Db E k n acc i) := by
 intro n; induction n with
 | zero => intro acc i _ _ a j h; cases h
 | succ n ih =>
  intro acc i hb hi; simp only [Db]; refine Bd.tok (by decide) (fun h => Bd.isT (by decide) (fun h2 => ih _ _ (by omega) h2) (hk _ _ (by omega) h)) (Bd.kind (by decide) fun s h => Bd.isT (by decide) (fun h2 => ih _ _ (by omega) h2) (hk _ _ (by omega) h))
theorem Ju : ∀ (f : Nat) (E : Env) (job : Job) (i : Nat), Lu E i job → Bd E i (AY f E job i) := by
 intro f; induction f with
 | zero => intro E job i _ a j h; cases h
 | succ f ih =>
  intro E job i hi; have run : ∀ job i, Lu E i job → Bd E i (AY f E job i) := ih E
  cases job <;> simp only [Lu] at hi <;> simp only [AY, Ak]
  case parts texts filters places kids =>
   cases texts with
   | nil => exact Bd.ok (Nat.le_succ i) hi
   | cons t texts =>
    simp only; split
    ·exact Bd.fail
    cases filters with
    | nil => exact run (.parts _ _ _ _) _ hi
    | cons g filters =>
     simp only; intro a j h; cases hx : AY f (B5 g (E.base + (Aa E i).at_ + places.headD 0)) .whole 0 with
     | none => rw [hx] at h; cases h
     | some y =>
      rw [hx] at h; cases y with
      | bad a e => cases h
      | ok n j2 => exact run (.parts _ _ _ _) _ hi a j h
  case binLoop least top n =>
   by_cases h0 : Aj (Aa E i) < least ∨ top < Aj (Aa E i) ∨ Aj (Aa E i) = 0
   ·rw [if_pos h0]; exact Bd.ok (Nat.le_refl i) hi
   rw [if_neg h0]; have hlt := Kw (E := E) (i := i) (fun h => h0 (Or.inr (Or.inr h))); refine Bd.up (Nat.le_succ i) ?_; repeat' split
   all_goals exact Bd.bind (run _ _ hlt) fun a j _ h => run _ _ h
  case quoted =>
   split
   ·exact Bd.fail
   rename_i hq; exact run (.parts _ _ _ _) _ (FT fun h0 => hq (by rw [h0]; decide))
  all_goals (repeat' first
   | with_reducible exact Bd.fail
   | (with_reducible refine Bd.ok ?_ ?_ <;> omega)
   | (with_reducible refine Bd.want (by decide) fun _ => ?_)
   | (with_reducible refine Bd.kind (by decide) fun _ _ => ?_)
   | (with_reducible refine Bd.isT (by decide) (fun _ => ?_) ?_)
   | (with_reducible refine Bd.tok (by decide) (fun _ => ?_) ?_)
   | (with_reducible refine VG ?_ fun _ _ _ _ => ?_)
   | (with_reducible refine XH _ _ _ (fun _ _ _ _ => ?_) _ _ _ ?_ ?_ <;> try omega)
   | (with_reducible refine Bd.up ?_ (run _ _ ?_) <;> (try simp only [Lu]) <;> omega)
   | split)
end Th
namespace Th
open Go Go.Lib
theorem Yb (L : List UInt8) (quote : Nat → Nat × Nat) (a : Nat) (ha : a ≤ L.length) : (BG L quote a).1.at_ + (BG L quote a).1.text.size ≤ L.length := by
 unfold BG; cases hd : L.drop a with
 | nil => exact Nat.zero_le _
 | cons c r =>
  have hlen : (c :: r).length = L.length - a := by rw [← hd, List.length_drop]
  dsimp only; split
  ·split
   ·exact Nat.zero_le _
   show a + ByteArray.size _ ≤ _
   rw [DE, List.length_take]; omega
  split
  ·exact Nat.zero_le _
  show a + ByteArray.size _ ≤ _
  rw [DE, List.length_drop, List.length_take]; omega
theorem X7 (L : List UInt8) (d a : Nat) (ha : a ≤ L.length) : (AF L d a).1.at_ + (AF L d a).1.text.size ≤ L.length := by
 rw [B9]; exact Yb _ _ _ (C4 L a ha).2
theorem TY (L : List UInt8) : ∀ (n a : Nat) (acc : List Tf), a ≤ L.length → (∀ t ∈ acc, t.at_ + t.text.size ≤ L.length) → ∀ t ∈ (BJ L n a acc).1, t.at_ + t.text.size ≤ L.length := by
 intro n; induction n with
 | zero => intro a acc _ h; exact h
 | succ n ih =>
  intro a acc ha h; simp only [BJ]; split
  ·intro t ht; cases ht
  split
  ·exact h
  refine ih _ _ (CR L 48 a ha).le fun t ht => ?_
  rcases List.mem_append.1 ht with ht | ht
  ·exact h t ht
  rw [List.mem_singleton.1 ht]; exact X7 L 48 a ha
theorem PV (L : List UInt8) : ∀ t ∈ (Bp L).1, t.at_ + t.text.size ≤ L.length := by
 unfold Bp; split
 ·intro t ht; cases ht
 exact TY L _ _ _ (Nat.zero_le _) (fun t ht => by cases ht)
theorem NF : ∀ (l : List Tf), (∀ t ∈ l, 1 ≤ t.text.size) → l.length ≤ Ei l
 | [], _ => Nat.zero_le _
 | t :: r, h => by
  have h1 := h t List.mem_cons_self; have h2 := NF r fun x hx => h x (List.mem_cons_of_mem _ hx)
  have h3 : Ei (t :: r) = t.text.size + Ei r := by unfold Ei; rw [List.map_cons, List.sum_cons]
  rw [List.length_cons, h3]; omega
theorem Te (L : List UInt8) : (Bp L).1.length ≤ L.length := Nat.le_trans (NF _ (Jp L).2) (Jp L).1
structure PrtOk (n : Nat) (r : PartsR) : Prop where
 len : r.places.length = r.filters.length
 tx : ∀ t ∈ r.texts, t.length ≤ n
 pl : ∀ p ∈ r.places.zip r.filters, p.1 + p.2.length ≤ n
theorem Su (L : List UInt8) (one : Nat → Tf × Nat × Nat) : ∀ (n f a : Nat) (r : PartsR), PrtOk L.length r → PrtOk L.length (Bn L one n f a r) := by
 have hl : ∀ (r : PartsR) (x y : Nat), PrtOk L.length r → ∀ t ∈ r.texts ++ [(L.take x).drop y], t.length ≤ L.length := by
  intro r x y h t ht; rcases List.mem_append.1 ht with ht | ht
  ·exact h.tx t ht
  rw [List.mem_singleton.1 ht, List.length_drop, List.length_take]; omega
 intro n; induction n with
 | zero => intro f a r h; exact ⟨h.len, hl r _ _ h, h.pl⟩
 | succ n ih =>
  intro f a r h; simp only [Bn]; split
  ·exact ⟨h.len, hl r _ _ h, h.pl⟩
  split
  ·exact ih _ _ _ h
  split
  ·exact ih _ _ _ h
  rename_i h1 h2 h3
  refine ih _ _ _ ⟨?_, hl r _ _ h, ?_⟩
  ·rw [List.length_append, List.length_append, h.len]; rfl
  intro p hp; have h40 : L[a + 1]? = some 40 := Decidable.of_not_not h3; have hlt := (List.getElem?_eq_some_iff.1 h40).1; rw [List.zip_append h.len] at hp; rcases List.mem_append.1 hp with hp | hp
  ·exact h.pl p hp
  rw [List.zip_cons_cons, List.zip_nil_left, List.mem_singleton] at hp; rw [hp]; show a + 2 + List.length _ ≤ _
  rw [List.length_drop, List.length_take]; omega
theorem ND (q : List UInt8) : PrtOk q.length (BS q).1 := by
 unfold BS; split
 ·exact Su q _ _ _ _ _ ⟨rfl, fun t ht => (by cases ht), fun p hp => (by cases hp)⟩
 exact ⟨rfl, fun t ht => (by cases ht), fun p hp => (by cases hp)⟩
theorem PrtOk.at_ {n : Nat} {r : PartsR} (h : PrtOk n r) {k : Nat} (hf : k < r.filters.length) : ∃ hp : k < r.places.length, r.places[k] + r.filters[k].length ≤ n := by
 have hp : k < r.places.length := by rw [h.len]; exact hf
 refine ⟨hp, ?_⟩; have := h.pl (r.places[k], r.filters[k]) (by
  have hz : k < (r.places.zip r.filters).length := by rw [List.length_zip]; omega
  have := List.getElem_mem hz; rwa [List.getElem_zip] at this)
 exact this
end Th
namespace Go.Proofs.YtakncilicoefdaaGreatDoor
open Go Go.RowKit Go.Proofs Th
attribute [local go_sem] Above.cell
def signsK : List UInt8 := [32, 124, 61, 32, 43, 61, 32, 45, 61, 32, 42, 61, 32, 47, 61, 32, 61, 61, 32, 33, 61, 32, 60, 61, 32, 62, 61, 32, 47, 47, 32, 46, 46, 32]
theorem Ng : ∀ l ∈ DY, Lib.contains signsK (32 :: l ++ [32]) = true := by decide +kernel
def aY (l : List UInt8) : Bool := match l with
 | a :: b :: c :: d :: _ => decide (a = 32 ∧ d = 32 ∧ b ≠ 32 ∧ c ≠ 32 → [b, c] ∈ DY)
 | _ => true
theorem Sl : ∀ i, i < 35 → aY (signsK.drop i) = true := by decide +kernel
theorem Ue (b c : UInt8) (hb : b ≠ 32) (hc : c ≠ 32) : Lib.contains signsK [32, b, c, 32] = decide ([b, c] ∈ DY) := by
 by_cases h : [b, c] ∈ DY
 ·rw [decide_eq_true h]; exact Ng _ h
 rw [decide_eq_false h]; unfold Lib.contains; rw [decide_eq_false_iff_not]; intro h0; rcases Lib.index_spec signsK [32, b, c, 32] with ⟨h1, _⟩ | ⟨i, h1, h2, h3, _⟩
 ·rw [h1] at h0; exact absurd h0 (by decide)
 have h4 := Sl i (by have : signsK.length = 34 := rfl; omega); unfold Lib.occAt at h3; have h5 := List.isPrefixOf_iff_prefix.1 h3; obtain ⟨t, ht⟩ := h5; rw [← ht] at h4; exact h (of_decide_eq_true h4 ⟨rfl, rfl, hb, hc⟩)
theorem UP (c : UInt8) : decide (0 ≤ Lib.indexByte oneL c) = decide (c ∈ oneL) := by
 have : ∀ n, n < 256 → decide (0 ≤ Lib.indexByte oneL (UInt8.ofNat n)) = decide (UInt8.ofNat n ∈ oneL) := by decide +kernel
 have h := this c.toNat c.toNat_lt; simpa using h
theorem RH (l : List UInt8) (h : Lib.hasPrefix l [47, 47, 61] = true) : Be l = 3 := by
 obtain ⟨t, ht⟩ := List.isPrefixOf_iff_prefix.1 h; unfold Be; rw [if_pos (by rw [← ht]; rfl)]
theorem TN (l : List UInt8) (h : Lib.hasPrefix l [47, 47, 61] = false) : ¬ l.take 3 = [47, 47, 61] := by
 intro h2; have : Lib.hasPrefix l [47, 47, 61] = true := List.isPrefixOf_iff_prefix.2 ⟨l.drop 3, by rw [← h2, List.take_append_drop]⟩; rw [h] at this; cases this
theorem Vm {l : List UInt8} (h3 : ¬ l.take 3 = [47, 47, 61]) (h : l.take 2 ∈ DY) : Be l = 2 := by unfold Be; rw [if_neg h3, if_pos h]
theorem Xb {c : UInt8} {r : List UInt8} (h3 : ¬ (c :: r).take 3 = [47, 47, 61]) (h : ¬ (c :: r).take 2 ∈ DY) : Be (c :: r) = if c ∈ oneL then 1 else 0 := by unfold Be; rw [if_neg h3, if_neg h]
theorem WA : ∀ l ∈ DY, ∀ c ∈ l, c ≠ 32 := by decide
theorem P7 {s : ByteArray} (h : 1 < s.size) : ∃ r, s.data.toList = s[0] :: s[1] :: r := by
 obtain ⟨r, hr⟩ := Fy (s := s) (by omega); have hl := Ai s; rw [hr, List.length_cons] at hl; cases hr2 : r with
 | nil => rw [hr2] at hl; simp at hl; omega
 | cons d x =>
  refine ⟨x, ?_⟩; have : s[1] = s.data.toList[1]'(by rw [Ai]; exact h) := rfl; rw [hr, hr2, this]; congr 2
  simp [hr, hr2]
theorem KP (c : UInt8) (w : World) : Calls Tryz.prog 102 #[.string ⟨#[124, 44, 46, 91, 93, 40, 41, 123, 125, 58, 59, 61, 60, 62, 43, 45, 42, 47, 37, 63]⟩, .int .u8 c.toNat] w fun r w' => ∃ z : Int, r = .returned (.int .i64 z) ∧ w' = w ∧ (0 ≤ z ↔ c ∈ oneL) := by
 refine (Tryz.strings_IndexByte ⟨#[124, 44, 46, 91, 93, 40, 41, 123, 125, 58, 59, 61, 60, 62, 43, 45, 42, 47, 37, 63]⟩ (c.toNat : Int) w).mono ?_; rintro r w' ⟨rfl, rfl⟩; refine ⟨_, rfl, rfl, ?_⟩; have h := UP c; have e : ((c.toNat : Int)).toNat.toUInt8 = c := by simp
 rw [e]; show 0 ≤ Lib.indexByte oneL c ↔ _
 rw [decide_eq_decide] at h; exact h
theorem Yh {s : ByteArray} (h1 : 1 < s.size) : (⟨#[32]⟩ ++ s.extract 0 2 ++ ⟨#[32]⟩ : ByteArray).data.toList = ([32, s[0], s[1], 32] : List UInt8) := by
 obtain ⟨r1, hr1⟩ := P7 h1; rw [Nb, Nb, XR, hr1]; rfl
def sgB : ByteArray := ⟨#[32, 124, 61, 32, 43, 61, 32, 45, 61, 32, 42, 61, 32, 47, 61, 32, 61, 61, 32, 33, 61, 32, 60, 61, 32, 62, 61, 32, 47, 47, 32, 46, 46, 32]⟩
theorem WD : sgB.size = 34 := rfl
theorem Wb : sgB.data.toList = signsK := rfl
theorem M4 {s : ByteArray} (h1 : 1 < s.size) (w : World) (m : Int) (hm : w.cell? ⟨4, 0, none⟩ = some (.int .i64 m)) :
  Calls Tryz.prog 105 #[.string sgB, .string (⟨#[32]⟩ ++ s.extract 0 2 ++ ⟨#[32]⟩)] w fun e w' => e = .returned (.bool (Lib.contains signsK ([32, s[0], s[1], 32] : List UInt8))) ∧ w' = w := by
 have hz : sgB.size < 4294967281 := by rw [WD]; decide
 have hl := Wb; have hc := Yh h1; generalize sgB = z at *; generalize (⟨#[32]⟩ ++ s.extract 0 2 ++ ⟨#[32]⟩ : ByteArray) = y at *; have h := Tryz.strings_Contains z y m w hz hm; rw [hl, hc] at h; exact h
theorem FW (s : ByteArray) (b : Bool) (hp : Lib.hasPrefix s.data.toList [47, 47, 61] = b) (w : World) : Calls Tryz.prog 84 #[.string s, .string ⟨#[47, 47, 61]⟩] w fun e w' => e = .returned (.bool b) ∧ w' = w := by
 refine (Tryz.strings_HasPrefix s ⟨#[47, 47, 61]⟩ w).mono ?_; rintro r w' ⟨rfl, rfl⟩; exact ⟨congrArg (fun x => Ending.returned (.bool x)) hp, rfl⟩
theorem WV {c : UInt8} (h : c ≠ 32) : ¬ (c.toNat : Int) = 32 := by
 intro h2; apply h; apply UInt8.toNat_inj.1; show c.toNat = 32; omega
theorem Sp (s : ByteArray) (w : World) (hp : Lib.hasPrefix s.data.toList [47, 47, 61] = true) : Calls Tryz.prog 77 #[.string s] w fun r w' => r = .returned (.int .i64 (Be s.data.toList : Int)) ∧ w' = w := by
 have HP2 := Keep.mk (FW s true hp w); have HN := Keep.mk (RH _ hp); clear hp; go_enter Tryz.func77, Tryz.ntmps77
 go_wp2_with fail
 refine HP2.out.mono ?_; rintro r w1 ⟨rfl, rfl⟩; go_wp2
 go_ret
 exact ⟨by rw [HN.out]; rfl, rfl⟩
theorem RX (s : ByteArray) (h0 : 0 < s.size) (w : World) (h1 : ¬ 1 < s.size) (hp : Lib.hasPrefix s.data.toList [47, 47, 61] = false)
  (hN : Be s.data.toList = if s[0] ∈ oneL then 1 else 0) : Calls Tryz.prog 77 #[.string s] w fun r w' => r = .returned (.int .i64 (Be s.data.toList : Int)) ∧ w' = w := by
 have HP2 := Keep.mk (FW s false hp w); have HI := Keep.mk (KP s[0] w); by_cases ho : s[0] ∈ oneL
 ·have HN2 := Keep.mk (show Be s.data.toList = 1 by rw [hN, if_pos ho])
  have HI2 := Keep.mk (show Calls Tryz.prog 102 #[.string ⟨#[124, 44, 46, 91, 93, 40, 41, 123, 125, 58, 59, 61, 60, 62, 43, 45, 42, 47, 37, 63]⟩, .int .u8 s[0].toNat] w fun r w' => ∃ z : Int, r = .returned (.int .i64 z) ∧ 0 ≤ z ∧ w' = w from HI.out.mono fun r w' ⟨z, h1, h2, h3⟩ => ⟨z, h1, h3.2 ho, h2⟩); clear HI ho hN hp; go_enter Tryz.func77, Tryz.ntmps77
  go_wp2_with fail
  refine HP2.out.mono ?_; rintro r w1 ⟨rfl, rfl⟩; go_wp2_with fail
  refine HI2.out.mono ?_; rintro r w2 ⟨z, rfl, hz, rfl⟩; go_wp2
  go_ret
  exact ⟨by rw [HN2.out]; rfl, rfl⟩
 have HN2 := Keep.mk (show Be s.data.toList = 0 by rw [hN, if_neg ho]); have HI2 := Keep.mk (show Calls Tryz.prog 102 #[.string ⟨#[124, 44, 46, 91, 93, 40, 41, 123, 125, 58, 59, 61, 60, 62, 43, 45, 42, 47, 37, 63]⟩, .int .u8 s[0].toNat] w fun r w' => ∃ z : Int, r = .returned (.int .i64 z) ∧ z < 0 ∧ w' = w from HI.out.mono fun r w' ⟨z, h1, h2, h3⟩ => ⟨z, h1, by rcases Int.lt_or_le z 0 with h | h; exact h; exact absurd (h3.1 h) ho, h2⟩); clear HI ho hN hp; go_enter Tryz.func77, Tryz.ntmps77
 go_wp2_with fail
 refine HP2.out.mono ?_; rintro r w1 ⟨rfl, rfl⟩; go_wp2_with fail
 refine HI2.out.mono ?_; rintro r w2 ⟨z, rfl, hz, rfl⟩; go_wp2
 go_ret
 exact ⟨by rw [HN2.out]; rfl, rfl⟩
theorem U3 (s : ByteArray) (h1 : 1 < s.size) (w : World) (m : Int) (hm : w.cell? ⟨4, 0, none⟩ = some (.int .i64 m)) (hb : Lib.contains signsK ([32, s[0], s[1], 32] : List UInt8) = false) (hp : Lib.hasPrefix s.data.toList [47, 47, 61] = false)
  (hN : Be s.data.toList = if s[0] ∈ oneL then 1 else 0) : Calls Tryz.prog 77 #[.string s] w fun r w' => r = .returned (.int .i64 (Be s.data.toList : Int)) ∧ w' = w := by
 have HP2 := Keep.mk (FW s false hp w); have HI := Keep.mk (KP s[0] w); have HC := Keep.mk (M4 h1 w m hm); rw [hb] at HC; by_cases ho : s[0] ∈ oneL
 ·have HN2 := Keep.mk (show Be s.data.toList = 1 by rw [hN, if_pos ho])
  have HI2 := Keep.mk (show Calls Tryz.prog 102 #[.string ⟨#[124, 44, 46, 91, 93, 40, 41, 123, 125, 58, 59, 61, 60, 62, 43, 45, 42, 47, 37, 63]⟩, .int .u8 s[0].toNat] w fun r w' => ∃ z : Int, r = .returned (.int .i64 z) ∧ 0 ≤ z ∧ w' = w from HI.out.mono fun r w' ⟨z, h1, h2, h3⟩ => ⟨z, h1, h3.2 ho, h2⟩); clear HI ho hN hp hb hm; go_enter Tryz.func77, Tryz.ntmps77
  go_wp2_with fail
  refine HP2.out.mono ?_; rintro r w1 ⟨rfl, rfl⟩; go_wp2_with fail
  refine HC.out.mono ?_; rintro r w3 ⟨rfl, rfl⟩; go_wp2_with fail
  refine HI2.out.mono ?_; rintro r w2 ⟨z, rfl, hz, rfl⟩; go_wp2
  go_ret
  exact ⟨by rw [HN2.out]; rfl, rfl⟩
 have HN2 := Keep.mk (show Be s.data.toList = 0 by rw [hN, if_neg ho]); have HI2 := Keep.mk (show Calls Tryz.prog 102 #[.string ⟨#[124, 44, 46, 91, 93, 40, 41, 123, 125, 58, 59, 61, 60, 62, 43, 45, 42, 47, 37, 63]⟩, .int .u8 s[0].toNat] w fun r w' => ∃ z : Int, r = .returned (.int .i64 z) ∧ z < 0 ∧ w' = w from HI.out.mono fun r w' ⟨z, h1, h2, h3⟩ => ⟨z, h1, by rcases Int.lt_or_le z 0 with h | h; exact h; exact absurd (h3.1 h) ho, h2⟩); clear HI ho hN hp hb hm; go_enter Tryz.func77, Tryz.ntmps77
 go_wp2_with fail
 refine HP2.out.mono ?_; rintro r w1 ⟨rfl, rfl⟩; go_wp2_with fail
 refine HC.out.mono ?_; rintro r w3 ⟨rfl, rfl⟩; go_wp2_with fail
 refine HI2.out.mono ?_; rintro r w2 ⟨z, rfl, hz, rfl⟩; go_wp2
 go_ret
 exact ⟨by rw [HN2.out]; rfl, rfl⟩
theorem Sm (s : ByteArray) (h1 : 1 < s.size) (w : World) (m : Int) (hm : w.cell? ⟨4, 0, none⟩ = some (.int .i64 m)) (hb : Lib.contains signsK ([32, s[0], s[1], 32] : List UInt8) = true) (h32 : s[0] ≠ 32) (h132 : s[1] = 32) (hp : Lib.hasPrefix s.data.toList [47, 47, 61] = false)
  (hN : Be s.data.toList = if s[0] ∈ oneL then 1 else 0) : Calls Tryz.prog 77 #[.string s] w fun r w' => r = .returned (.int .i64 (Be s.data.toList : Int)) ∧ w' = w := by
 have HP2 := Keep.mk (FW s false hp w); have HI := Keep.mk (KP s[0] w); have HC := Keep.mk (M4 h1 w m hm); rw [hb] at HC; have b032 := WV h32; have b132 : (s[1].toNat : Int) = 32 := by rw [h132]; rfl
 by_cases ho : s[0] ∈ oneL
 ·have HN2 := Keep.mk (show Be s.data.toList = 1 by rw [hN, if_pos ho])
  have HI2 := Keep.mk (show Calls Tryz.prog 102 #[.string ⟨#[124, 44, 46, 91, 93, 40, 41, 123, 125, 58, 59, 61, 60, 62, 43, 45, 42, 47, 37, 63]⟩, .int .u8 s[0].toNat] w fun r w' => ∃ z : Int, r = .returned (.int .i64 z) ∧ 0 ≤ z ∧ w' = w from HI.out.mono fun r w' ⟨z, h1, h2, h3⟩ => ⟨z, h1, h3.2 ho, h2⟩); clear HI ho hN hp hb hm h32 h132; go_enter Tryz.func77, Tryz.ntmps77
  go_wp2_with fail
  refine HP2.out.mono ?_; rintro r w1 ⟨rfl, rfl⟩; go_wp2_with fail
  refine HC.out.mono ?_; rintro r w3 ⟨rfl, rfl⟩; go_wp2_with fail
  refine HI2.out.mono ?_; rintro r w2 ⟨z, rfl, hz, rfl⟩; go_wp2
  go_ret
  exact ⟨by rw [HN2.out]; rfl, rfl⟩
 have HN2 := Keep.mk (show Be s.data.toList = 0 by rw [hN, if_neg ho]); have HI2 := Keep.mk (show Calls Tryz.prog 102 #[.string ⟨#[124, 44, 46, 91, 93, 40, 41, 123, 125, 58, 59, 61, 60, 62, 43, 45, 42, 47, 37, 63]⟩, .int .u8 s[0].toNat] w fun r w' => ∃ z : Int, r = .returned (.int .i64 z) ∧ z < 0 ∧ w' = w from HI.out.mono fun r w' ⟨z, h1, h2, h3⟩ => ⟨z, h1, by rcases Int.lt_or_le z 0 with h | h; exact h; exact absurd (h3.1 h) ho, h2⟩); clear HI ho hN hp hb hm h32 h132; go_enter Tryz.func77, Tryz.ntmps77
 go_wp2_with fail
 refine HP2.out.mono ?_; rintro r w1 ⟨rfl, rfl⟩; go_wp2_with fail
 refine HC.out.mono ?_; rintro r w3 ⟨rfl, rfl⟩; go_wp2_with fail
 refine HI2.out.mono ?_; rintro r w2 ⟨z, rfl, hz, rfl⟩; go_wp2
 go_ret
 exact ⟨by rw [HN2.out]; rfl, rfl⟩
theorem U2 (s : ByteArray) (h1 : 1 < s.size) (w : World) (m : Int) (hm : w.cell? ⟨4, 0, none⟩ = some (.int .i64 m)) (hb : Lib.contains signsK ([32, s[0], s[1], 32] : List UInt8) = true) (h32 : s[0] ≠ 32) (h132 : s[1] ≠ 32) (hp : Lib.hasPrefix s.data.toList [47, 47, 61] = false)
  (hN : Be s.data.toList = 2) : Calls Tryz.prog 77 #[.string s] w fun r w' => r = .returned (.int .i64 (Be s.data.toList : Int)) ∧ w' = w := by
 have HP2 := Keep.mk (FW s false hp w); have HC := Keep.mk (M4 h1 w m hm); rw [hb] at HC; have b032 := WV h32; have b132 := WV h132; have c032 : ((s[0].toNat : Int) != 32) = true := by rw [bne_iff_ne]; exact b032
 have c132 : ((s[1].toNat : Int) != 32) = true := by rw [bne_iff_ne]; exact b132
 have HN := Keep.mk hN; clear hb hm h32 h132 hp hN; go_enter Tryz.func77, Tryz.ntmps77
 go_wp2_with fail
 refine HP2.out.mono ?_; rintro r w1 ⟨rfl, rfl⟩; go_wp2_with fail
 refine HC.out.mono ?_; rintro r w3 ⟨rfl, rfl⟩; go_wp2
 go_ret
 exact ⟨by rw [HN.out]; rfl, rfl⟩
theorem Qb (s : ByteArray) (h0 : 0 < s.size) (h32 : s[0] ≠ 32) (w : World) (m : Int) (hm : w.cell? ⟨4, 0, none⟩ = some (.int .i64 m)) : Calls Tryz.prog 77 #[.string s] w fun r w' => r = .returned (.int .i64 (Be s.data.toList : Int)) ∧ w' = w := by
 cases hp : Lib.hasPrefix s.data.toList [47, 47, 61]
 ·have h3 := TN _ hp
  obtain ⟨r0, hr0⟩ := Fy h0; have H1 : ¬ s.data.toList.take 2 ∈ DY → Be s.data.toList = if s[0] ∈ oneL then 1 else 0 := fun h2 => by rw [hr0] at h3 h2 ⊢; exact Xb h3 h2
  by_cases h1 : 1 < s.size
  ·obtain ⟨r1, hr1⟩ := P7 h1
   have htk : s.data.toList.take 2 = [s[0], s[1]] := by rw [hr1]; rfl
   cases hb : Lib.contains signsK ([32, s[0], s[1], 32] : List UInt8)
   ·refine U3 s h1 w m hm hb hp (H1 fun h => ?_)
    rw [htk] at h; have := Ng _ h; have this : Lib.contains signsK ([32, s[0], s[1], 32] : List UInt8) = true := this; rw [hb] at this; cases this
   by_cases h132 : s[1] = 32
   ·exact Sm s h1 w m hm hb h32 h132 hp (H1 fun h => by rw [htk] at h; exact WA _ h s[1] (by simp) h132)
   refine U2 s h1 w m hm hb h32 h132 hp (Vm h3 ?_); rw [htk]; rw [Ue _ _ h32 h132] at hb; exact of_decide_eq_true hb
  exact RX s h0 w h1 hp (H1 fun h => by
   have := (ID _ h).1; rw [List.length_take, Ai] at this; omega)
 exact Sp s w hp
open Go Go.RowKit Go.Proofs Th
structure Upd (p : Nat) (w w' : World) : Prop where
 os : w'.os = w.os
 tape : w'.tape = w.tape
 output : w'.output = w.output
 size : w.heap.size ≤ w'.heap.size
 block : ∀ k, k < w.heap.size → k ≠ p → w'.heap[k]? = w.heap[k]?
theorem Upd.refl (p : Nat) (w : World) : Upd p w w := ⟨rfl, rfl, rfl, Nat.le_refl _, fun _ _ _ => rfl⟩
theorem Upd.trans {p : Nat} {a b c : World} (h : Upd p a b) (k : Upd p b c) : Upd p a c :=
 ⟨k.os.trans h.os, k.tape.trans h.tape, k.output.trans h.output, Nat.le_trans h.size k.size, fun i hi hp => (k.block i (Nat.lt_of_lt_of_le hi h.size) hp).trans (h.block i hi hp)⟩
theorem Upd.of {p : Nat} {w w' : World} (h : Below w.heap.size w w') : Upd p w w' := ⟨h.os, h.tape, h.output, h.size, fun k hk _ => h.block k hk⟩
theorem Upd.below {p B : Nat} {w w' : World} (h : Upd p w w') (hB : B ≤ w.heap.size) (hp : B ≤ p) : Below B w w' := ⟨h.os, h.tape, h.output, h.size, fun k hk => h.block k (Nat.lt_of_lt_of_le hk hB) (by omega)⟩
theorem Upd.set (p i : Nat) (w : World) (v : Value) : Upd p w (w.setCell ⟨p, i, none⟩ v) := by
 have h := (Below.refl p w).setCell (p := ⟨p, i, none⟩) (Nat.le_refl _) v; exact ⟨h.os, h.tape, h.output, h.size, fun k _ hp => Below.heap_setCell w ⟨p, i, none⟩ v k hp⟩
theorem Box.upd {w w' : World} {g p : Nat} {cs : List Value} (h : Box w g cs) (hu : Upd p w w') (hp : g ≠ p) : Box w' g cs := by
 have hb := hu.block g h.lt hp; refine ⟨fun i v hv => (DZ hb).trans (h.cell i v hv), fun i => ?_, Nat.lt_of_lt_of_le h.lt hu.size⟩; have := h.froz i; unfold World.frozen? at this ⊢; rw [hb]; exact this
structure ToksIn (W : World) (S : Nat → Prop) (A : Option Addr) (c : Nat) (l : List Tf) : Prop where
 le : l.length ≤ c
 cap : l.length ≤ 100000
 top : c ≤ 9223372036854775807
 small : ∀ t ∈ l, t.text.size ≤ 100000 ∧ t.at_ ≤ 100000
 at_ : 0 < l.length → ∃ g o, A = some ⟨g, o, none⟩ ∧ S g ∧ ∀ j (h : j < l.length), W.cell? ⟨g, o + j * 3, none⟩ = some (.int .i64 (l[j].kind : Int)) ∧ W.cell? ⟨g, o + j * 3 + 1, none⟩ = some (.string l[j].text) ∧ W.cell? ⟨g, o + j * 3 + 2, none⟩ = some (.int .i64 (l[j].at_ : Int))
end Go.Proofs.YtakncilicoefdaaGreatDoor
namespace Th
open Go Go.Lib
mutual
/-- a node's depth -/
def AB : NJ → Nat
 | .mk _ _ _ _ l _ => 1 + Bt l
def Bt : List NJ → Nat
 | [] => 0
 | n :: r => max (AB n) (Bt r)
end
end Th
namespace Go.Proofs.YtakncilicoefdaaGreatDoor
open Go Go.RowKit Go.Proofs Th
attribute [local go_sem] Above.cell
theorem Py (s : ByteArray) : Bc s.data.toList = true ↔ 0 < s.size ∧ ∀ i (h : i < s.size), (if i = 0 then Bl s[i] else Bz s[i]) = true := by
 by_cases h0 : s.size = 0
 ·have : s.data.toList = [] := List.eq_nil_of_length_eq_zero (by rw [Ai]; exact h0)
  rw [this]; exact ⟨fun h => (by cases h), fun h => (by omega)⟩
 obtain ⟨r, hr⟩ := Fy (s := s) (by omega); have hg : ∀ i (h : i < s.size), s[i] = s.data.toList[i]'(by rw [Ai]; exact h) := fun _ _ => rfl
 have hl := Ai s; rw [hr, List.length_cons] at hl; rw [hr]; simp only [Bc, Bool.and_eq_true, List.all_eq_true]; refine ⟨fun ⟨h1, h2⟩ => ⟨by omega, fun i hi => ?_⟩, fun ⟨h1, h2⟩ => ⟨?_, fun c hc => ?_⟩⟩
 ·by_cases hi0 : i = 0
  ·subst hi0; exact h1
  rw [if_neg hi0, hg i hi]; obtain ⟨k, rfl⟩ : ∃ k, i = k + 1 := ⟨i - 1, by omega⟩
  have : s.data.toList[k + 1]'(by rw [Ai]; exact hi) = r[k]'(by omega) := by simp [hr]
  rw [this]; exact h2 _ (List.getElem_mem _)
 ·have := h2 0 h1
  simpa using this
 obtain ⟨k, hk, rfl⟩ := List.mem_iff_getElem.1 hc; have := h2 (k + 1) (by omega); rw [if_neg (by omega), hg (k + 1) (by omega)] at this; have e : s.data.toList[k + 1]'(by rw [Ai]; omega) = r[k] := by simp [hr]
 rw [e] at this; exact this
end Go.Proofs.YtakncilicoefdaaGreatDoor
namespace Th
open Go Go.Lib
theorem Sd (L : List UInt8) : ∀ (n a : Nat) (acc l : List Tf) (x : Nat × Nat), BJ L n a acc = (l, x) → x.2 = 0 → ∃ m, l = acc ++ m := by
 intro n; induction n with
 | zero => intro a acc l x h _; simp only [BJ] at h; injection h with h1 h2; exact ⟨[], by rw [← h1, List.append_nil]⟩
 | succ n ih =>
  intro a acc l x h hx; simp only [BJ] at h; split at h
  ·rename_i h1
   injection h with h2 h3; rw [← h3] at hx; exact absurd hx h1
  split at h
  ·injection h with h1 h2; exact ⟨[], by rw [← h1, List.append_nil]⟩
  obtain ⟨m, hm⟩ := ih _ _ _ _ h hx; exact ⟨(AF L 48 a).1 :: m, by rw [hm, List.append_assoc]; rfl⟩
theorem Np (c : UInt8) (r : List UInt8) : (Bj (c :: r)).1 ≠ 5 := by
 simp only [Bj]; repeat' split
 all_goals exact fun h => by cases h
theorem SB (c : UInt8) (r : List UInt8) (hc : c = 34) : AL (c :: r) 0 = 0 := by
 subst hc; rfl
theorem Jz (L : List UInt8) : AL L L.length = L.length := by
 unfold AL; rw [List.drop_length]; rfl
theorem PN (L : List UInt8) : okQ L = true ↔ ∃ t, Bp L = ([t], 0, 0) ∧ t.kind = 5 ∧ t.text.size = L.length := by
 constructor
 ·intro h
  unfold okQ at h; simp only [Bool.and_eq_true, decide_eq_true_eq] at h; obtain ⟨⟨h1, h2⟩, h3⟩ := h; cases L with
  | nil => cases h2
  | cons c r =>
   obtain rfl : c = 34 := by simpa using h2
   have ho : AF (34 :: r) 48 0 = (⟨5, ⟨(34 :: r).toArray⟩, 0⟩, (34 :: r).length, 0) := by
    rw [B9, SB _ _ rfl]; unfold BG; rw [List.drop_zero]; dsimp only; rw [if_pos rfl, h3, if_neg (by simp), Nat.sub_zero, List.take_length]
   have he : AF (34 :: r) 48 (34 :: r).length = (noTf, (34 :: r).length, 0) := by
    rw [B9, Jz]; unfold BG; rw [List.drop_length]
   refine ⟨⟨5, ⟨(34 :: r).toArray⟩, 0⟩, ?_, rfl, by rw [DE]⟩; unfold Bp; rw [if_neg (by omega)]; rw [BJ, ho]; dsimp only; rw [if_neg (by simp), if_neg (by decide)]; rw [show (34 :: r).length = r.length + 1 from rfl] at he ⊢; rw [BJ, he]; dsimp only; rw [if_neg (by simp), if_pos (show noTf.kind = 0 from rfl)]; rfl
 rintro ⟨t, h, hk, hs⟩; unfold Bp at h; split at h
 ·injection h with h1 _; cases h1
 rename_i hle
 rw [BJ] at h; split at h
 ·injection h with h1 _; cases h1
 rename_i h0
 split at h
 ·injection h with h1 _; cases h1
 rename_i hk0
 obtain ⟨m, hm⟩ := Sd L _ _ _ _ _ h rfl; obtain rfl : t = (AF L 48 0).1 := by
  rw [List.nil_append, List.singleton_append] at hm; injection hm with hm _
 have hsk := C4 L 0 (Nat.zero_le _); rw [B9] at hk hs h0; generalize AL L 0 = b at hk hs hsk h0; unfold BG at hk hs h0; cases hd : L.drop b with
 | nil => rw [hd] at hk; cases hk
 | cons c r =>
  have hlen : (c :: r).length = L.length - b := by rw [← hd, List.length_drop]
  rw [List.length_cons] at hlen; rw [hd] at hk hs h0; dsimp only at hk hs h0; split at hk
  ·rename_i hc
   rw [if_pos hc] at hs h0; obtain ⟨q1, q2⟩ := EX L 48 b (by omega); split at hk
   ·cases hk
   rename_i hq
   rw [if_neg hq, DE, List.length_take, List.length_cons] at hs; obtain rfl : b = 0 := by omega
   rw [List.drop_zero] at hd; unfold okQ; simp only [Bool.and_eq_true, decide_eq_true_eq]; refine ⟨⟨by omega, by rw [hd, hc]; rfl⟩, ?_⟩; exact Prod.ext (by show (BK L 48 0).1 = L.length; omega) (by show (BK L 48 0).2 = 0; omega)
  split at hk
  ·cases hk
  exact absurd hk (Np c r)
theorem TR (L : List UInt8) : ∀ (n a : Nat) (acc : List Tf), (BJ L n a acc).2.2 = 0 → (BJ L n a acc).2.1 = 0 := by
 intro n; induction n with
 | zero => intro a acc _; rfl
 | succ n ih =>
  intro a acc h; simp only [BJ] at h ⊢; split
  ·rename_i h1; rw [if_pos h1] at h; exact absurd h h1
  rename_i h1
  rw [if_neg h1] at h; split
  ·rfl
  rename_i h2; rw [if_neg h2] at h; exact ih _ _ h
theorem PA (L : List UInt8) (h : (Bp L).2.2 = 0) : (Bp L).2.1 = 0 := by
 unfold Bp at h ⊢; split
 ·rfl
 rename_i h1; rw [if_neg h1] at h; exact TR _ _ _ _ h
end Th
