/- Lemmas and contracts. Conditions: those that each lemma names. -/
import Derived.Test.YtakncilicoefdaaGreatDoorPt11
import Derived.Lib.LaidU8T
set_option maxRecDepth 100000
set_option maxHeartbeats 4000000
namespace Go.Proofs.YtakncilicoefdaaGreatDoor
open Go Go.Deep Go.WideElems Go.ChangeShapes Go.WideShapes Go.ChangeAt Go.RowKit Go.Proofs Th
theorem WV : Kids Tryz.prog (· < Tryz.prog.types.size) := kids_rows (by kernel_rfl) (by kernel_rfl)
theorem WP : ∀ t e, t < Tryz.prog.types.size → Tryz.prog.underlying t = some (.slice e) → 0 < Tryz.prog.cellsOf e := slices_full_of _ (by kernel_rfl)
theorem cN : Tryz.prog.cellsOf 23 = 2 := by kernel_rfl
theorem cI : Tryz.prog.cellsOf 3 = 1 := by kernel_rfl
theorem Xl : Tryz.prog.cellsOf 2 = 1 := by kernel_rfl
theorem cS : Tryz.prog.cellsOf 9 = 1 := by kernel_rfl
theorem bS : Tryz.prog.bytesOf 9 = 16 := by kernel_rfl
section
variable {H : Type} {enc : TypeId × Value → H} {W W' : World}
theorem Pu {ts : List TypeId} {vs : List Value} {ds : List (DataW H)} {ps : List MemPlace} (h : DataW.TrodAll enc Tryz.prog W 0 (fun _ => true) true ts vs ds ps) (hb : Below W.heap.size W W')
  (hlt : ∀ p ∈ ps, p.block < W.heap.size) (hT : ∀ t ∈ ts, t < Tryz.prog.types.size) (sp : Nat → Bool) (hsp : ∀ p ∈ ps, sp p.block = true) : DataW.TrodAll enc Tryz.prog W' 0 sp true ts vs ds ps := by
 have same : ∀ p : MemPlace, p.block < W.heap.size → W.sameAt W' p := fun p hp => by
  cases p with
  | cell b o => exact hb.cell (p := ⟨b, o, none⟩) hp
  | map b => exact hb.block b hp
 have h2 := h.respare WV WP hT hsp; clear h hT hsp; induction ts generalizing vs ds ps with
 | nil => exact (show DataW.TrodAll enc Tryz.prog W 0 sp true [] vs ds ps → DataW.TrodAll enc Tryz.prog W' 0 sp true [] vs ds ps from fun h => by cases vs <;> cases ds <;> first | exact h | cases h) h2
 | cons t ts ih =>
  match vs, ds, h2 with
  | v :: vs, d :: ds, ⟨p, q, ⟨n, h1⟩, h3, e⟩ =>
   subst e; exact ⟨p, q, ⟨n, DataW.trod_carry n _ _ _ h1 (fun x hx => same x (hlt x (List.mem_append_left _ hx)))⟩, ih (fun x hx => hlt x (List.mem_append_right _ hx)) h3, rfl⟩
theorem Jq {P : Program} {e : TypeId} : ∀ {l : List (DataW H)} {d : DataW H}, d ∈ l → ∀ n ∈ d.weights P e, n ∈ DataW.weightsAll P e l
 | d0 :: l, d, hd, n, hn => by
  simp only [DataW.weightsAll, List.mem_append]; rcases List.mem_cons.1 hd with rfl | h
  ·exact Or.inl hn
  exact Or.inr (Jq h n hn)
theorem ME {a : Addr} {v : Value} (h : W.cell? (a.add 0) = some v) : ∃ g o, a = ⟨g, o, none⟩ := by
 have := World.cell?_spot h; obtain ⟨g, o, sp⟩ := a; simp [Addr.add] at this; exact ⟨g, o, by rw [this]⟩
theorem Ur {n : Nat} {cs : List Value} {x : DataW H × List MemPlace} (h : DataW.trod enc Tryz.prog W 0 (fun _ => true) true n 25 cs = some x) (hw : ∀ k ∈ x.1.weights Tryz.prog 25, k ≤ reachBytes) :
  ∃ A ks c, cs = [.slice A (List.length ks) c] ∧ StrsAt W W.heap.size A c ks := by
 rcases open_slice1 Tryz.underlying25 cS h with ⟨rfl, rfl⟩ | ⟨a, len, cap, m, n', V, D, Pl, rfl, h0, hl, hm, hmm, rfl, hx⟩
 ·exact ⟨none, [], 0, rfl, Nat.le_refl _, by decide, by decide, fun _ h => absurd h List.not_mem_nil, fun h => absurd h (by decide)⟩
 simp only [if_true] at hmm; subst hmm; have hwl : (len + (m - len)) * 16 ≤ reachBytes := by
  have := hw ((len + (m - len)) * 16) (by simp only [DataW.weights, Tryz.underlying25, bS, List.length_map, List.length_range]; exact List.mem_cons_self); exact this
 obtain ⟨S, hS⟩ := choose_lt (α := ByteArray) (n := len) (p := fun i s => V i = .string s ∧ s.size ≤ reachBytes) (fun i hi => by
  obtain ⟨h1, h2⟩ := hx i (by omega); obtain ⟨s, e1, e2, h3⟩ := DataW.trod_string Tryz.underlying9 h2; injection e1 with e1 _; injection e2 with e2 _; refine ⟨s, e1, ?_⟩; have := hw s.data.toList.length (by
   simp only [DataW.weights, Tryz.underlying25]; refine List.mem_cons_of_mem _ (List.mem_append_left _ (Jq (d := D i) (List.mem_map.2 ⟨i, by simpa using hi, rfl⟩) _ ?_)); rw [e2]; simp [DataW.weights])
  rw [Al] at this; exact this)
 have hR : reachBytes = 140737488351232 := rfl; refine ⟨some a, (List.range len).map S, m, by simp, by simpa using hl, by simp; omega, by unfold maxLen at hm; omega, fun k hk => ?_, fun hn => ?_⟩
 ·obtain ⟨i, hi, rfl⟩ := List.mem_map.1 hk
  have := (hS i (by simpa using hi)).2; omega
 simp only [List.length_map, List.length_range] at hn; have hc := (hx 0 (by omega)).1; obtain ⟨g, o, rfl⟩ := ME hc; refine ⟨g, o, rfl, Bm hc, fun j hj => ?_⟩; simp only [List.length_map, List.length_range] at hj; have h1 := (hx j (by omega)).1; rw [add_plain, (hS j hj).1] at h1; simpa using h1
end
theorem PL : Go.Pinned.utf8First = Lib.firstData := by kernel_rfl
theorem OG : (Rows.laid_unicode_utf8_acceptRanges : DataW Unit) = Lib.acceptData := by kernel_rfl
open Go Go.RowKit Go.Proofs Th
inductive IV where
 | v (x : Value)
 | sl (es : List (List IV)) (full : Bool)
 | elt (cs : List IV) (off : Nat)
 | agg (cs : List IV)
 | tup (vs : List IV)
def IV.one : IV → Bool
 | .v x => x.oneCell'
 | .sl _ _ => true
 | .elt _ _ => true
 | _ => false
abbrev CS := Nat → Nat → Prop
inductive Rep (W : World) (S : CS) : IV → Value → Prop
 | v (x : Value) : Rep W S (.v x) x
 | sl {es : List (List IV)} {full : Bool} {A : Option Addr} {c : Nat} (esz : Nat) (f : Nat → Nat → Value) (hc : es.length ≤ c) (ht : c ≤ 9223372036854775807) (hl : es.length ≤ 140737488351232) (hf : full = true → c = es.length)
   (hz : ∀ e ∈ es, e.length = esz ∧ ∀ x ∈ e, x.one = true)
   (hA : 0 < es.length → ∃ g o, A = some ⟨g, o, none⟩ ∧ ∀ j i, j < es.length → i < esz → S g (o + j * esz + i) ∧ W.cell? ⟨g, o + j * esz + i, none⟩ = some (f j i))
   (hR : ∀ (j i : Nat) e x, es[j]? = some e → e[i]? = some x → Rep W S x (f j i)) : Rep W S (.sl es full) (.slice A es.length c)
 | elt {cs : List IV} {off : Nat} (g o : Nat) (f : Nat → Value) (h1 : ∀ x ∈ cs, x.one = true) (hA : ∀ i, i < cs.length → S g (o + i) ∧ W.cell? ⟨g, o + i, none⟩ = some (f i))
   (hR : ∀ (i : Nat) x, cs[i]? = some x → Rep W S x (f i)) : Rep W S (.elt cs off) (.pointer (some ⟨g, o + off, none⟩))
 | agg {cs : List IV} {us : List Value} (hl : us.length = cs.length) (hR : ∀ (i : Nat) x u, cs[i]? = some x → us[i]? = some u → Rep W S x u) : Rep W S (.agg cs) (.agg us.toArray)
 | tup {cs : List IV} {us : List Value} (hl : us.length = cs.length) (hR : ∀ (i : Nat) x u, cs[i]? = some x → us[i]? = some u → Rep W S x u) : Rep W S (.tup cs) (.tuple us.toArray)
theorem Rep.keep {W W' : World} {S S' : CS} {x : IV} {u : Value} (h : Rep W S x u) (hc : ∀ g o, S g o → W'.cell? ⟨g, o, none⟩ = W.cell? ⟨g, o, none⟩) (hS : ∀ g o, S g o → S' g o) : Rep W' S' x u := by
 induction h with
 | v => exact .v _
 | sl esz f h1 h2 h3 h4 h5 hA hR ih =>
  refine .sl esz f h1 h2 h3 h4 h5 (fun hn => ?_) ih; obtain ⟨g, o, e, h⟩ := hA hn; exact ⟨g, o, e, fun j i hj hi => ⟨hS _ _ (h j i hj hi).1, (hc _ _ (h j i hj hi).1).trans (h j i hj hi).2⟩⟩
 | elt g o f h1 hA hR ih => exact .elt g o f h1 (fun i hi => ⟨hS _ _ (hA i hi).1, (hc _ _ (hA i hi).1).trans (hA i hi).2⟩) ih
 | agg hl hR ih => exact .agg hl ih
 | tup hl hR ih => exact .tup hl ih
theorem Rep.one {W : World} {S : CS} {x : IV} {u : Value} (h : Rep W S x u) (h1 : x.one = true) : u.oneCell' = true := by
 cases h with
 | v x => exact h1
 | sl => rfl
 | elt => rfl
 | agg => cases h1
 | tup => cases h1
def RepL (W : World) (S : CS) (xs : List IV) (us : List Value) : Prop := us.length = xs.length ∧ ∀ (i : Nat) x u, xs[i]? = some x → us[i]? = some u → Rep W S x u
theorem RepL.keep {W W' : World} {S S' : CS} {xs : List IV} {us : List Value} (h : RepL W S xs us) (hc : ∀ g o, S g o → W'.cell? ⟨g, o, none⟩ = W.cell? ⟨g, o, none⟩) (hS : ∀ g o, S g o → S' g o) : RepL W' S' xs us :=
 ⟨h.1, fun i x u hx hu => (h.2 i x u hx hu).keep hc hS⟩
theorem RepL.nil (W : World) (S : CS) : RepL W S [] [] := ⟨rfl, fun i x u h => by simp at h⟩
theorem RepL.cons {W : World} {S : CS} {x : IV} {u : Value} {xs : List IV} {us : List Value} (h : Rep W S x u) (hs : RepL W S xs us) : RepL W S (x :: xs) (u :: us) := by
 refine ⟨by simp [hs.1], fun i y v hy hv => ?_⟩; cases i with
 | zero =>
  simp only [List.getElem?_cons_zero, Option.some.injEq] at hy hv; subst hy hv; exact h
 | succ i => simp only [List.getElem?_cons_succ] at hy hv; exact hs.2 i y v hy hv
def IV.er1 : IV → IV
 | .sl es _ => .sl es false
 | x => x
def IV.erA : IV → IV
 | .agg cs => .agg (cs.map IV.er1)
 | x => x.er1
def IV.er : IV → IV
 | .tup vs => .tup (vs.map IV.erA)
 | x => x.erA
theorem Rep.er1 {W : World} {S : CS} {x : IV} {u : Value} (h : Rep W S x u) : Rep W S x.er1 u := by
 cases h with
 | v => exact .v _
 | sl esz f h1 h2 h3 h4 h5 hA hR => exact .sl esz f h1 h2 h3 (fun h => by cases h) h5 hA hR
 | elt g o f h1 hA hR => exact .elt g o f h1 hA hR
 | agg hl hR => exact .agg hl hR
 | tup hl hR => exact .tup hl hR
theorem Pv (x : IV) : x.er1.one = x.one := by cases x <;> rfl
theorem Rep.map {W : World} {S : CS} {f : IV → IV} (hf : ∀ x u, Rep W S x u → Rep W S (f x) u) {cs : List IV} {us : List Value} (h : RepL W S cs us) : RepL W S (cs.map f) us := by
 refine ⟨by simp [h.1], fun i x u hx hu => ?_⟩; rw [List.getElem?_map] at hx; cases hc : cs[i]? with
 | none => rw [hc] at hx; cases hx
 | some y =>
  rw [hc] at hx; simp only [Option.map_some, Option.some.injEq] at hx; subst hx; exact hf _ _ (h.2 i y u hc hu)
theorem Rep.erA {W : World} {S : CS} {x : IV} {u : Value} (h : Rep W S x u) : Rep W S x.erA u := by
 cases h with
 | agg hl hR =>
  obtain ⟨h1, h2⟩ := Rep.map (fun _ _ => Rep.er1) (⟨hl, hR⟩ : RepL W S _ _); exact .agg h1 h2
 | v => exact .v _
 | sl esz f h1 h2 h3 h4 h5 hA hR => exact .sl esz f h1 h2 h3 (fun h => by cases h) h5 hA hR
 | elt g o f h1 hA hR => exact .elt g o f h1 hA hR
 | tup hl hR => exact .tup hl hR
theorem Rep.er {W : World} {S : CS} {x : IV} {u : Value} (h : Rep W S x u) : Rep W S x.er u := by
 cases h with
 | tup hl hR =>
  obtain ⟨h1, h2⟩ := Rep.map (fun _ _ => Rep.erA) (⟨hl, hR⟩ : RepL W S _ _); exact .tup h1 h2
 | agg hl hR => exact Rep.erA (.agg hl hR)
 | v => exact .v _
 | sl esz f h1 h2 h3 h4 h5 hA hR => exact .sl esz f h1 h2 h3 (fun h => by cases h) h5 hA hR
 | elt g o f h1 hA hR => exact .elt g o f h1 hA hR
def lift : Value → IV
 | .slice none 0 0 => .sl [] true
 | x => .v x
theorem FB (W : World) (S : CS) (x : Value) : Rep W S (lift x) x := by
 unfold Go.Proofs.YtakncilicoefdaaGreatDoor.lift; split
 ·exact .sl (es := []) 0 (fun _ _ => undef) (Nat.le_refl _) (by simp) (by simp) (fun _ => rfl) (fun _ h => absurd h List.not_mem_nil) (fun h => absurd h (Nat.lt_irrefl _)) (fun j i e x h => by simp at h)
 exact .v _
/-! frames, boxes, rows of one's own -/
inductive FV where
 | junk
 | im (x : IV)
 | own (k n : Nat)
 | ptr (b off : Nat)
 | pin (b p : Nat)
inductive AObj where
 | none
 | box (cs : List FV)
 | row (ty esz : Nat) (es : List (List IV))
structure ASt where
 fr : Nat → FV
 st : Nat → AObj
def upd {α : Type} (f : Nat → α) (k : Nat) (x : α) : Nat → α := fun i => if i = k then x else f i
theorem AK {α : Type} (f : Nat → α) (k : Nat) (x : α) : upd f k x k = x := if_pos rfl
theorem BD {α : Type} (f : Nat → α) {k i : Nat} (x : α) (h : i ≠ k) : upd f k x i = f i := if_neg h
theorem NQ {α : Type} (f : Nat → α) {k j : Nat} (x y : α) (h : k ≠ j) : upd (upd f k x) j y = upd (upd f j y) k x := by
 funext i; unfold upd
 by_cases h1 : i = j
 ·rw [if_pos h1, if_neg (by omega), if_pos h1]
 rw [if_neg h1]; by_cases h2 : i = k
 ·rw [if_pos h2, if_pos h2]
 rw [if_neg h2, if_neg h2, if_neg h1]
structure AEnv where
 box : Nat → Nat
 row : Nat → Value
def Bv (W : World) (S : CS) (E : AEnv) (st : Nat → AObj) : FV → Value → Prop
 | .junk, _ => True
 | .im x, u => Rep W S x u
 | .own k n, u => ∃ ty esz es, st k = .row ty esz es ∧ n ≤ es.length ∧ (es.length = n → u = E.row k)
 | .ptr b off, u => (∃ cs, st b = .box cs) ∧ u = .pointer (some ⟨E.box b, off, none⟩)
 | .pin b p, _ => (∃ cs, st b = .box cs) ∧ E.box b = p
structure UpdR (R : Nat → Prop) (w w' : World) : Prop where
 os : w'.os = w.os
 tape : w'.tape = w.tape
 output : w'.output = w.output
 size : w.heap.size ≤ w'.heap.size
 block : ∀ k, k < w.heap.size → ¬ R k → w'.heap[k]? = w.heap[k]?
theorem UpdR.refl (R : Nat → Prop) (w : World) : UpdR R w w := ⟨rfl, rfl, rfl, Nat.le_refl _, fun _ _ _ => rfl⟩
theorem UpdR.trans {R R' : Nat → Prop} {a b c : World} (h : UpdR R a b) (k : UpdR R' b c) (hR : ∀ i, i < a.heap.size → R' i → R i) : UpdR R a c :=
 ⟨k.os.trans h.os, k.tape.trans h.tape, k.output.trans h.output, Nat.le_trans h.size k.size, fun i hi hp => (k.block i (Nat.lt_of_lt_of_le hi h.size) (fun h2 => hp (hR i hi h2))).trans (h.block i hi hp)⟩
def W9 (W : World) (S : CS) (E : AEnv) (st : Nat → AObj) (g : Nat) (cs : List FV) : Prop :=
 ∃ us : List Value, us.length = cs.length ∧ Box W g us ∧ (∀ u ∈ us, u.oneCell' = true) ∧ (∀ (i : Nat) c u, cs[i]? = some c → us[i]? = some u → Bv W S E st c u) ∧ ∀ o, ¬ S g o
def Wp (W : World) (S : CS) (base : Nat) (v : Value) (ty esz : Nat) (es : List (List IV)) : Prop :=
 ∃ xs, W.ownsRow base ty esz v es.length xs ∧ 0 < esz ∧ es.length ≤ 1000000000 ∧ (∀ e ∈ es, e.length = esz ∧ ∀ x ∈ e, x.one = true) ∧ (∀ (j i : Nat) e x u, es[j]? = some e → e[i]? = some x → xs[j * esz + i]? = some u → Rep W S x u) ∧
  ∀ g, v.ownBlock = some g → ∀ o, S g o ↔ o < es.length * esz
structure Ctx where
 W0 : World
 S0 : CS
 R : Nat → Prop
 N : Nat
 p : Nat
 rcv : Bool
 G : World → CS → Prop
 gk : ∀ W W' S S', G W S → (∀ g o, S g o → W'.cell? ⟨g, o, none⟩ = W.cell? ⟨g, o, none⟩) → (∀ g o, S g o → S' g o) → G W' S'
 dfr : List Deferred
def GE (X : Ctx) (W : World) (S : CS) (E : AEnv) (st : Nat → AObj) (id : Nat) : AObj → Prop
 | .none => True
 | .box cs => W9 W S E st (E.box id) cs ∧ (X.R (E.box id) ∨ X.W0.heap.size ≤ E.box id)
 | .row ty esz es => Wp W S X.W0.heap.size (E.row id) ty esz es
def blk (E : AEnv) (id : Nat) : AObj → Option Nat
 | .none => none
 | .box _ => some (E.box id)
 | .row .. => (E.row id).ownBlock
structure RelE (X : Ctx) (E : AEnv) (S : CS) (s : ASt) (a : Act) (W : World) : Prop where
 sz : a.tmps.size = X.N
 df : a.defers = X.dfr
 fr : ∀ t, Bv W S E s.st (s.fr t) (a.tmps.getD t undef)
 ob : ∀ id, GE X W S E s.st id (s.st id)
 ap : ∀ i j g, blk E i (s.st i) = some g → blk E j (s.st j) = some g → i = j
 Sb : ∀ g o, S g o → g < W.heap.size
 S0 : ∀ g o, X.S0 g o → S g o
 Sn : ∀ g o, S g o → X.S0 g o ∨ X.W0.heap.size ≤ g
 u : UpdR X.R X.W0 W
 g : X.G W S
 pk : E.box 1000 = X.p
 bk : X.rcv = true → ∃ cs, s.st 1000 = .box cs
theorem JZ {X : Ctx} {E : AEnv} {S : CS} {s : ASt} {a : Act} {W : World} (h : RelE X E S s a W) {i g : Nat} (hb : blk E i (s.st i) = some g) : g < W.heap.size := by
 have ho := h.ob i; cases hs : s.st i with
 | none => rw [hs] at hb; cases hb
 | box cs =>
  rw [hs] at hb ho; injection hb with hb; subst hb; obtain ⟨⟨us, _, hB, _⟩, _⟩ := ho; exact hB.lt
 | row ty esz es =>
  rw [hs] at hb ho; obtain ⟨xs, h1, _⟩ := ho; exact (B8 h1 g hb).2
def Wy (E E' : AEnv) (j : Nat) : AObj → AObj → Prop
 | .none, _ => True
 | .box _, o => (∃ cs', o = .box cs') ∧ E'.box j = E.box j
 | .row _ _ es, o => ∃ ty' esz' es', o = .row ty' esz' es' ∧ es.length < es'.length
theorem RelE.core {X : Ctx} {E : AEnv} {S : CS} {s : ASt} {a : Act} {W : World} (h : RelE X E S s a W) (C : Nat → Prop) (st' : Nat → AObj) (E' : AEnv) (S' : CS) (W' : World)
  (hst : ∀ j, ¬ C j → st' j = s.st j ∧ E'.box j = E.box j ∧ E'.row j = E.row j)
  (hp : E'.box 1000 = E.box 1000) (hk : ∀ j, C j → Wy E E' j (s.st j) (st' j))
  (hos : W'.os = W.os) (htp : W'.tape = W.tape) (hou : W'.output = W.output) (hsz : W.heap.size ≤ W'.heap.size)
  (hW : ∀ g, g < W.heap.size → (∀ j, C j → blk E j (s.st j) ≠ some g) → W'.heap[g]? = W.heap[g]?)
  (hcell : ∀ g o, S g o → W'.cell? ⟨g, o, none⟩ = W.cell? ⟨g, o, none⟩)
  (hS : ∀ g o, S g o → S' g o) (hSn : ∀ g o, S' g o → S g o ∨ W.heap.size ≤ g ∨ ∃ j, C j ∧ blk E j (s.st j) = some g) (hSb : ∀ g o, S' g o → g < W'.heap.size)
  (hob : ∀ j, C j → GE X W' S' E' st' j (st' j))
  (hbk : ∀ j g, C j → blk E' j (st' j) = some g → blk E j (s.st j) = some g ∨ W.heap.size ≤ g)
  (hap : ∀ i j g, C i → C j → blk E' i (st' i) = some g → blk E' j (st' j) = some g → i = j) : RelE X E' S' ⟨s.fr, st'⟩ a W' := by
 have hF : ∀ c u, Bv W S E s.st c u → Bv W' S' E' st' c u := by
  intro c u hc; cases c with
  | junk => trivial
  | im x => exact Rep.keep hc hcell hS
  | own k n =>
   obtain ⟨ty, esz, es, h1, h2, h3⟩ := hc; by_cases hC : C k
   ·have := hk k hC
    rw [h1] at this; obtain ⟨ty', esz', es', h4, h5⟩ := this; exact ⟨ty', esz', es', h4, by omega, fun h => by omega⟩
   obtain ⟨h4, h5, h6⟩ := hst k hC; exact ⟨ty, esz, es, by rw [h4, h1], h2, fun h => by rw [h6]; exact h3 h⟩
  | ptr b off =>
   obtain ⟨⟨cs, h1⟩, h2⟩ := hc; by_cases hC : C b
   ·have := hk b hC
    rw [h1] at this; obtain ⟨h3, h4⟩ := this; exact ⟨h3, by rw [h4]; exact h2⟩
   obtain ⟨h4, h5, h6⟩ := hst b hC; exact ⟨⟨cs, by rw [h4, h1]⟩, by rw [h5]; exact h2⟩
  | pin b p =>
   obtain ⟨⟨cs, h1⟩, h2⟩ := hc; by_cases hC : C b
   ·have := hk b hC
    rw [h1] at this; obtain ⟨h3, h4⟩ := this; exact ⟨h3, by rw [h4]; exact h2⟩
   obtain ⟨h4, h5, h6⟩ := hst b hC; exact ⟨⟨cs, by rw [h4, h1]⟩, by rw [h5]; exact h2⟩
 have hold : ∀ i g, ¬ C i → blk E i (s.st i) = some g → W'.heap[g]? = W.heap[g]? := fun i g hi hg =>
  hW g (JZ h hg) (fun j hj he => hi (h.ap j i g he hg ▸ hj))
 have hSold : ∀ i g o, ¬ C i → blk E i (s.st i) = some g → S' g o → S g o := fun i g o hi hg ho => by
  rcases hSn g o ho with h1 | h1 | ⟨j, hj, he⟩
  ·exact h1
  ·exact absurd (JZ h hg) (by omega)
  exact absurd (h.ap j i g he hg ▸ hj) hi
 have hbo : ∀ i, ¬ C i → blk E' i (st' i) = blk E i (s.st i) := fun i hi => by
  obtain ⟨h1, h2, h3⟩ := hst i hi; rw [h1]; cases s.st i <;> simp [blk, h2, h3]
 refine ⟨h.sz, h.df, fun t => hF _ _ (h.fr t), fun i => ?_, fun i j g hi hj => ?_, hSb, fun g o ho => hS g o (h.S0 g o ho), fun g o ho => ?_, ?_, X.gk _ _ _ _ h.g hcell hS, hp.trans h.pk, fun hr => ?_⟩
 ·by_cases hC : C i
  ·exact hob i hC
  obtain ⟨h1, h2, h3⟩ := hst i hC; have ho := h.ob i; show GE X W' S' E' st' i (st' i)
  rw [h1]; have hold' := hold i; have hSold' := hSold i; cases hs : s.st i with
  | none => trivial
  | box cs =>
   rw [hs] at ho hold' hSold'; obtain ⟨⟨us, hl, hB, h4, h5, h6⟩, h7⟩ := ho; have hb := hold' (E.box i) hC rfl; refine ⟨⟨us, hl, ?_, h4, fun j c u hc hu => hF _ _ (h5 j c u hc hu), fun o ho => ?_⟩, by rw [h2]; exact h7⟩
   ·rw [h2]
    refine ⟨fun j v hv => (Bw hb).trans (hB.cell j v hv), fun j => ?_, Nat.lt_of_lt_of_le hB.lt hsz⟩; have := hB.froz j; unfold World.frozen? at this ⊢; rw [hb]; exact this
   rw [h2] at ho; exact h6 o (hSold' _ _ hC rfl ho)
  | row ty esz es =>
   rw [hs] at ho hold' hSold'; obtain ⟨xs, h4, h5, h6, h7, h8, h9⟩ := ho; refine ⟨xs, by rw [h3]; exact G0 h4 (fun k hk => hold' k hC hk), h5, h6, h7, fun j i e x u he hx hu => (h8 j i e x u he hx hu).keep hcell hS, fun g hg o => ?_⟩; rw [h3] at hg; exact ⟨fun ho => (h9 g hg o).1 (hSold' g o hC hg ho), fun ho => hS _ _ ((h9 g hg o).2 ho)⟩
 ·show i = j
  replace hi : blk E' i (st' i) = some g := hi; replace hj : blk E' j (st' j) = some g := hj; by_cases hCi : C i
  ·by_cases hCj : C j
   ·exact hap i j g hCi hCj hi hj
   rw [hbo j hCj] at hj; rcases hbk i g hCi hi with h1 | h1
   ·exact h.ap i j g h1 hj
   exact absurd (JZ h hj) (by omega)
  rw [hbo i hCi] at hi; by_cases hCj : C j
  ·rcases hbk j g hCj hj with h1 | h1
   ·exact h.ap i j g hi h1
   exact absurd (JZ h hi) (by omega)
  rw [hbo j hCj] at hj; exact h.ap i j g hi hj
 ·have hu := h.u.size
  rcases hSn g o ho with h1 | h1 | ⟨j, hj, he⟩
  ·exact h.Sn g o h1
  ·exact Or.inr (by omega)
  have ho' := h.ob j; cases hs : s.st j with
  | none => rw [hs] at he; cases he
  | box cs =>
   rw [hs] at he ho'; injection he with he; subst he; rcases ho'.2 with h2 | h2
   ·have := hob j hj
    have hk' := hk j hj; rw [hs] at hk'; obtain ⟨⟨cs', hcs'⟩, hbb⟩ := hk'; rw [hcs'] at this; obtain ⟨⟨_, _, _, _, _, h6⟩, _⟩ := this; rw [hbb] at h6; exact absurd ho (h6 o)
   exact Or.inr h2
  | row ty esz es =>
   rw [hs] at he ho'; obtain ⟨xs, h4, _⟩ := ho'; exact Or.inr (B8 h4 g he).1
 ·refine ⟨hos.trans h.u.os, htp.trans h.u.tape, hou.trans h.u.output, Nat.le_trans h.u.size hsz, fun k hk' hR => ?_⟩
  refine (hW k (Nat.lt_of_lt_of_le hk' h.u.size) (fun j hj he => ?_)).trans (h.u.block k hk' hR); have ho' := h.ob j; cases hs : s.st j with
  | none => rw [hs] at he; cases he
  | box cs =>
   rw [hs] at he ho'; injection he with he; rcases ho'.2 with h2 | h2
   ·exact hR (he ▸ h2)
   omega
  | row ty esz es =>
   rw [hs] at he ho'; obtain ⟨xs, h4, _⟩ := ho'; have := (B8 h4 k he).1; omega
 obtain ⟨cs, h1⟩ := h.bk hr; show ∃ cs, st' 1000 = .box cs
 by_cases hC : C 1000
 ·have := hk 1000 hC
  rw [h1] at this; exact this.1
 rw [(hst 1000 hC).1]; exact ⟨cs, h1⟩
theorem RelE.put {X : Ctx} {E : AEnv} {S : CS} {s : ASt} {a : Act} {W : World} (h : RelE X E S s a W) (d : Nat) (hd : d < X.N) {c : FV} {u : Value} (hc : Bv W S E s.st c u) : RelE X E S ⟨upd s.fr d c, s.st⟩ (a.put (some d) u) W := by
 refine ⟨by simp [Act.put, h.sz], h.df, fun t => ?_, h.ob, h.ap, h.Sb, h.S0, h.Sn, h.u, h.g, h.pk, h.bk⟩; show Bv W S E s.st (upd s.fr d c t) ((a.tmps.setIfInBounds d u).getD t undef)
 by_cases ht : t = d
 ·subst ht
  rw [AK]; have : (a.tmps.setIfInBounds t u).getD t undef = u := by simp [Array.getD, h.sz, hd]
  rw [this]; exact hc
 rw [BD _ _ ht]; have : (a.tmps.setIfInBounds d u).getD t undef = a.tmps.getD t undef := by
  simp only [Array.getD_eq_getD_getElem?, Array.getElem?_setIfInBounds_ne (Ne.symm ht)]
 rw [this]; exact h.fr t
open Go Go.RowKit Go.Proofs Th
def Mx (k : Int) (s : ByteArray) (m e : Int) (A : Option Addr) (n c : Nat) (A' : Option Addr) (n' c' : Nat) : List Value :=
 [.int .i64 k, .string s, .int .i64 m, .int .i64 e, .slice A n c, .slice A' n' c']
inductive NIn (W : World) (S : Nat → Prop) : NJ → List Value → Prop
 | mk {k : Int} {s : ByteArray} {m e : Int} {l : List NJ} {ks : List ByteArray} {A : Option Addr} {c : Nat} {A' : Option Addr} {c' : Nat} (f : Nat → List Value)
  (hk : I64 k) (hm : I64 m) (he : I64 e) (hs : s.size ≤ 140737488351232) (hl : l.length ≤ c) (hc : l.length ≤ 140737488351232) (hcc : c ≤ 9223372036854775807) (hK : StrsIn W S A' c' ks)
  (hL : 0 < l.length → ∃ g o, A = some ⟨g, o, none⟩ ∧ S g ∧ ∀ j, j < l.length → ∀ i v, (f j)[i]? = some v → W.cell? ⟨g, o + j * 6 + i, none⟩ = some v)
  (hT : ∀ j (h : j < l.length), NIn W S l[j] (f j)) :
  NIn W S (.mk k s m e l ks) (Mx k s m e A l.length c A' ks.length c')
theorem NIn.keep {W W' : World} {S T : Nat → Prop} {t : NJ} {cs : List Value} (h : NIn W S t cs) (hb : ∀ g, S g → W'.heap[g]? = W.heap[g]?) (hT : ∀ g, S g → T g) : NIn W' T t cs := by
 induction h with
 | mk f hk hm he hs hl hc hcc hK hL hT' ih =>
  refine .mk f hk hm he hs hl hc hcc (hK.keep hb hT) (fun hn => ?_) (fun j hj => ih j hj); obtain ⟨g, o, e, hg, h⟩ := hL hn; exact ⟨g, o, e, hT g hg, fun j hj i v hv => (Bw (hb g hg)).trans (h j hj i v hv)⟩
theorem NIn.more {W : World} {S T : Nat → Prop} {t : NJ} {cs : List Value} (h : NIn W S t cs) (hT : ∀ g, S g → T g) : NIn W T t cs := h.keep (fun _ _ => rfl) hT
theorem NIn.cells {W : World} {S : Nat → Prop} {t : NJ} {cs : List Value} (h : NIn W S t cs) : ∃ k m e s A n c A' n' c', cs = Mx k s m e A n c A' n' c' := by
 cases h with
 | mk f hk hm he hs hl hc hcc hK hL hT => exact ⟨_, _, _, _, _, _, _, _, _, _, rfl⟩
structure NodesIn (W : World) (S : Nat → Prop) (A : Option Addr) (c : Nat) (l : List NJ) : Prop where
 le : l.length ≤ c
 cap : l.length ≤ 140737488351232
 top : c ≤ 9223372036854775807
 at_ : ∀ j (h : j < l.length), ∃ g o cs, A = some ⟨g, o, none⟩ ∧ S g ∧ (∀ i v, cs[i]? = some v → W.cell? ⟨g, o + j * 6 + i, none⟩ = some v) ∧ NIn W S l[j] cs
theorem NodesIn.keep {W W' : World} {S T : Nat → Prop} {A : Option Addr} {c : Nat} {l : List NJ} (h : NodesIn W S A c l) (hb : ∀ g, S g → W'.heap[g]? = W.heap[g]?) (hT : ∀ g, S g → T g) : NodesIn W' T A c l :=
 ⟨h.le, h.cap, h.top, fun j hj => by
  obtain ⟨g, o, cs, e, hg, hc, hJ⟩ := h.at_ j hj; exact ⟨g, o, cs, e, hT g hg, fun i v hv => (Bw (hb g hg)).trans (hc i v hv), hJ.keep hb hT⟩⟩
theorem NodesIn.none_ (W : World) (S : Nat → Prop) : NodesIn W S none 0 [] := ⟨Nat.le_refl _, by decide, by decide, fun _ h => absurd h (Nat.not_lt_zero _)⟩
theorem NIn.open {W : World} {S : Nat → Prop} {k : Int} {s : ByteArray} {m e : Int} {l : List NJ} {ks : List ByteArray} {cs : List Value} (h : NIn W S (.mk k s m e l ks) cs) :
  ∃ A c A' c', cs = Mx k s m e A l.length c A' ks.length c' ∧ I64 k ∧ I64 m ∧ I64 e ∧ s.size ≤ 140737488351232 ∧ StrsIn W S A' c' ks ∧ NodesIn W S A c l := by
 cases h with
 | mk f hk hm he hs hl hc hcc hK hL hT =>
  refine ⟨_, _, _, _, rfl, hk, hm, he, hs, hK, hl, hc, hcc, fun j hj => ?_⟩; obtain ⟨g, o, e, hg, h⟩ := hL (by omega); exact ⟨g, o, f j, e, hg, h j hj, hT j hj⟩
/-! rows of a call's own -/
structure OwnN (w : World) (base : Nat) (S : Nat → Prop) (v : Value) (l : List NJ) : Prop where
 ex : ∃ xs, w.ownsRow base 27 6 v l.length xs ∧ ∀ j (h : j < l.length), NIn w S l[j] ((xs.drop (j * 6)).take 6)
theorem OwnN.nil (w : World) (base : Nat) (S : Nat → Prop) : OwnN w base S (.slice none 0 0) [] := ⟨[], World.ownsRow_nil w base _ 6, fun _ h => absurd h (Nat.not_lt_zero _)⟩
theorem OwnN.lt {w : World} {base : Nat} {S : Nat → Prop} {v : Value} {l : List NJ} (h : OwnN w base S v l) : ∀ k, v.ownBlock = some k → base ≤ k ∧ k < w.heap.size := by
 obtain ⟨xs, h1, _⟩ := h.ex; exact B8 h1
theorem OwnN.keep {w w' : World} {base : Nat} {S T : Nat → Prop} {v : Value} {l : List NJ} (h : OwnN w base S v l) (hb : ∀ g, S g → w'.heap[g]? = w.heap[g]?) (ho : ∀ k, v.ownBlock = some k → w'.heap[k]? = w.heap[k]?) (hT : ∀ g, S g → T g) : OwnN w' base T v l := by
 obtain ⟨xs, h1, h2⟩ := h.ex; exact ⟨xs, G0 h1 ho, fun j hj => (h2 j hj).keep hb hT⟩
theorem OwnN.form {w : World} {base : Nat} {S : Nat → Prop} {v : Value} {l : List NJ} (h : OwnN w base S v l) : ∃ A c, v = .slice A l.length c ∧ l.length ≤ c ∧ c ≤ 9223372036854775807 := by
 obtain ⟨xs, h1, _⟩ := h.ex; obtain ⟨_, ⟨rfl, h0⟩ | ⟨g, cap, cur, rfl, _, _, h3, h4, _⟩⟩ := h1
 ·exact ⟨none, 0, by rw [h0], by omega, by decide⟩
 exact ⟨_, _, rfl, h3, by unfold maxLen at h4; omega⟩
open Go Go.RowKit Go.Proofs Th
theorem UP {m e : Int} (h : right m e = true) : (AL m e).length ≤ 24 := by
 have h1 := Tt h; have hx := Bz h; have hi := QG e hx.1 hx.2; have hd : (Lib.decDigits m.natAbs).length = nd m := by rw [Lib.decDigits_length]; rfl
 have hs : (sgn m).length ≤ 1 := by unfold sgn; split <;> simp
 have h1 : nd m ≤ 18 := h1; unfold AL; split
 ·rename_i hc
  simp only [List.length_append, List.length_replicate]; omega
 split
 ·rename_i hc
  have hp : (pad m e).length ≤ 21 := by
   unfold pad; split
   ·rw [List.length_append, List.length_replicate]; omega
   omega
  simp only [List.length_append, List.length_take, List.length_drop, List.length_cons, List.length_nil]; omega
 simp only [List.length_append, List.length_cons, List.length_nil]; omega
theorem E7 : ∀ (b : Bool) (l : List NJ), (∀ x ∈ l, (spJ x).size + 22 ≤ 48 * wtJ x) → (BH b (l.map nmJ) (spL l)).size ≤ 48 * wtL l
 | true, [], _ => by simp [BH, spL, bsz]
 | false, [], _ => by simp [BH, spL, bsz]
 | true, x :: l, h => by
  have := E7 false l fun y hy => h y (List.mem_cons_of_mem _ hy)
  have := Hr (nmJ x); have := T7 x; rw [List.map_cons, spL, wtL]; unfold BH; rw [ByteArray.size_append]; omega
 | false, x :: l, h => by
  have := E7 true l fun y hy => h y (List.mem_cons_of_mem _ hy)
  have := h x List.mem_cons_self; rw [List.map_cons, spL, wtL]; unfold BH; simp only [ByteArray.size_append, bsz, List.length_cons, List.length_nil]; omega
theorem La : ∀ l : List NJ, (∀ x ∈ l, (spJ x).size + 22 ≤ 48 * wtJ x) → Dg 22 (spL l) ≤ 48 * wtL l
 | [], _ => by simp [spL, Dg]
 | x :: r, h => by
  have := La r fun y hy => h y (List.mem_cons_of_mem _ hy)
  have := h x List.mem_cons_self; rw [spL, CA, wtL]; omega
theorem Gl : ∀ (d : Nat) (n : NJ), Bp n ≤ d → okJ n = true → (spJ n).size + 22 ≤ 48 * wtJ n
 | 0, .mk k s m e l a, hd, _ => by rw [Bp] at hd; omega
 | d + 1, .mk k s m e l a, hd, h => by
  rw [Bp] at hd; rw [okJ, Bool.and_eq_true, Gc, List.all_eq_true] at h; obtain ⟨h1, hk⟩ := h; have hfit : Ai (.mk k s m e l a) = true := by unfold AB at h1; rw [Bool.and_eq_true] at h1; exact h1.2
  have hK : ∀ x ∈ l, (spJ x).size + 22 ≤ 48 * wtJ x := fun x hx => Gl d x (C7.1 (by omega) x hx) (hk x hx)
  have hS := La l hK; have h0 := Xm (spL l); have hz0 := Fd (show 0 ≤ 22 by omega) (spL l); have hz2 := Fd (show 2 ≤ 22 by omega) (spL l); have hz6 := Fd (show 6 ≤ 22 by omega) (spL l); have hj := E7 true l hK; have ht0 := Pg (l.map Av) (spL l) 0; have ht1 := Pg (l.map Av) (spL l) 1; have hsg := Lx k s; have hg2 : ByteArray.size ⟨#[59, 32]⟩ ≤ 2 := Nat.le_refl _; have hsp := EC ⟨#[59, 32]⟩ 2 hg2 (spL l); have hst := S4 ⟨#[59, 32]⟩ hg2 (spL l); have hsa := EC ⟨#[59, 32]⟩ 2 hg2 a; have ha2 := Ja a; have hob := Jk true (spL l); have hwa : (a.map fun x => 1 + x.size).sum = Dg 1 a := rfl; have he : ByteArray.size ⟨#[]⟩ = 0 := rfl; rw [spJ, wtJ, hwa]; by_cases k6 : k = 6
  ·obtain ⟨hl, ha⟩ := Qd hfit k6
   subst k6; simp only [show ¬ (6 : Int) = 1 by decide, show ¬ (6 : Int) = 26 by decide, show ¬ (6 : Int) = 2 by decide, show ¬ (6 : Int) = 3 by decide, show ¬ (6 : Int) = 4 by decide, show ¬ (6 : Int) = 5 by decide, if_true, if_false, ByteArray.size_append, bsz, List.length_cons, List.length_nil]; rcases ha with rfl | rfl | rfl
   ·have hl2 : l.length = 2 := hl
    rw [if_pos (show [A6].head? = some A6 from rfl), if_neg (show ¬ [A6].getLast? = some toB by decide), he]; omega
   ·have hl2 : l.length = 2 := hl
    rw [if_neg (show ¬ [toB].head? = some A6 by decide), if_pos (show [toB].getLast? = some toB from rfl), he, hl2, show 2 - 1 = 1 from rfl]; omega
   have hl3 : l.length = 3 := hl; rw [if_pos (show [A6, toB].head? = some A6 from rfl), if_pos (show [A6, toB].getLast? = some toB from rfl), hl3, show 3 - 1 = 2 from rfl]; omega
  rw [if_neg k6]; by_cases k2 : k = 2
  ·subst k2
   have hr : right m e = true := by simp [Ai] at hfit; exact hfit.1.2
   have := UP hr; simp only [show ¬ (2 : Int) = 1 by decide, show ¬ (2 : Int) = 26 by decide, if_true, if_false, F4]; omega
  rw [if_neg k2]; by_cases k3 : k = 3
  ·subst k3
   have := Q2 s.data.toList; rw [Al] at this; simp only [show ¬ (3 : Int) = 1 by decide, show ¬ (3 : Int) = 26 by decide, if_true, if_false, BQ, F4]; omega
  rw [if_neg k3]; by_cases qh1 : k = 1
  ·rw [if_pos qh1]
   simp only [bsz, List.length_cons, List.length_nil]; omega
  rw [if_neg qh1]; by_cases qh26 : k = 26
  ·rw [if_pos qh26]
   simp only [bsz, List.length_cons, List.length_nil]; omega
  rw [if_neg qh26]; by_cases qh4 : k = 4
  ·rw [if_pos qh4]
   simp only [ByteArray.size_append, bsz, List.length_cons, List.length_nil]; omega
  rw [if_neg qh4]; by_cases qh5 : k = 5
  ·rw [if_pos qh5]
   simp only [ByteArray.size_append, bsz, List.length_cons, List.length_nil]; omega
  rw [if_neg qh5]; by_cases qh7 : k = 7
  ·rw [if_pos qh7]
   simp only [ByteArray.size_append, bsz, List.length_cons, List.length_nil]; omega
  rw [if_neg qh7]; by_cases qh14 : k = 14
  ·rw [if_pos qh14]
   simp only [ByteArray.size_append, bsz, List.length_cons, List.length_nil]; omega
  rw [if_neg qh14]; by_cases qh15 : k = 15
  ·rw [if_pos qh15]
   simp only [ByteArray.size_append, bsz, List.length_cons, List.length_nil]; omega
  rw [if_neg qh15]; by_cases qh16 : k = 16
  ·rw [if_pos qh16]
   simp only [ByteArray.size_append, bsz, List.length_cons, List.length_nil]; omega
  rw [if_neg qh16]; by_cases qh17 : k = 17
  ·rw [if_pos qh17]
   simp only [ByteArray.size_append, bsz, List.length_cons, List.length_nil]; omega
  rw [if_neg qh17]; by_cases qh18 : k = 18
  ·rw [if_pos qh18]
   by_cases hl : l.length = 2
   ·rw [if_pos hl]; simp only [ByteArray.size_append, bsz, List.length_cons, List.length_nil]; omega
   rw [if_neg hl]; simp only [ByteArray.size_append, bsz, List.length_cons, List.length_nil]; omega
  rw [if_neg qh18]; by_cases qh19 : k = 19 ∨ k = 20
  ·rw [if_pos qh19]
   have hw : (if k = 19 then (⟨#[114, 101, 100, 117, 99, 101, 32]⟩ : ByteArray) else ⟨#[102, 111, 114, 101, 97, 99, 104, 32]⟩).size ≤ 8 := by split <;> decide
   simp only [ByteArray.size_append, bsz, List.length_cons, List.length_nil]; omega
  rw [if_neg qh19]; by_cases qh21 : k = 21
  ·rw [if_pos qh21]
   simp only [ByteArray.size_append, bsz, List.length_cons, List.length_nil]; omega
  rw [if_neg qh21]; by_cases qh22 : k = 22
  ·rw [if_pos qh22]
   simp only [ByteArray.size_append, bsz, List.length_cons, List.length_nil]; omega
  rw [if_neg qh22]; by_cases qh23 : k = 23
  ·rw [if_pos qh23]
   by_cases hl : l.length = 0
   ·rw [if_pos hl]; omega
   rw [if_neg hl]; simp only [ByteArray.size_append, bsz, List.length_cons, List.length_nil]; omega
  rw [if_neg qh23]; by_cases qh24 : k = 24
  ·rw [if_pos qh24]
   by_cases hl : a.length = 0
   ·rw [if_pos hl]; simp only [ByteArray.size_append, bsz, List.length_cons, List.length_nil]; omega
   rw [if_neg hl]; simp only [ByteArray.size_append, bsz, List.length_cons, List.length_nil]; omega
  rw [if_neg qh24]; simp only [ByteArray.size_append, bsz, List.length_cons, List.length_nil]; omega
open Go Go.RowKit Go.Proofs Th
attribute [local go_sem] Above.cell Above.frozen
theorem BS (n : Nat) (h : n ≠ 0) : (Ap n).length = Lib.nDigits n := by
 induction n using Nat.strongRecOn with
 | _ n ih =>
  rw [Eu n h, List.length_append, List.length_singleton, Lib.nDigits]; split
  ·rename_i h10
   rw [show n / 10 = 0 by omega, C6]; rfl
  rename_i h10
  rw [ih (n / 10) (by omega) (by omega)]
end Go.Proofs.YtakncilicoefdaaGreatDoor
