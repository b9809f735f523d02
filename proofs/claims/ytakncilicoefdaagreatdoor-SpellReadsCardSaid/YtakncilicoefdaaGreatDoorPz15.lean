/- Lemmas and contracts. Conditions: those that each lemma names. -/
import Derived.Test.YtakncilicoefdaaGreatDoorPz13
set_option maxRecDepth 100000
set_option maxHeartbeats 4000000
namespace Go.Proofs.YtakncilicoefdaaGreatDoor
open Go Go.RowKit Go.Proofs Th
section
variable {P : Program} {X : Ctx} {E : AEnv} {S : CS} {s : ASt} {a : Act} {W : World} {o : Oper} {K : FV → (Nat → AObj) → Prop} {Q : Exit → Act → World → Prop}
theorem NM {x : IV} {u : Value} (h : Rep W S x u) (h1 : (cellsOf x).all IV.one = true) : RepL W S (cellsOf x) u.cells.toList ∧ ∀ v ∈ u.cells.toList, v.oneCell' = true := by
 cases h with
 | agg hl hR =>
  refine ⟨⟨by simpa [Value.cells, cellsOf] using hl, by simpa [Value.cells, cellsOf] using hR⟩, fun v hv => ?_⟩; simp only [Value.cells] at hv; obtain ⟨k, hk, rfl⟩ := List.mem_iff_getElem.1 (by simpa using hv); rename_i cs us
  exact (hR k (cs[k]'(by omega)) us[k] (List.getElem?_eq_getElem _) (List.getElem?_eq_getElem _)).one (List.all_eq_true.1 h1 _ (List.getElem_mem _))
 | v =>
  have h2 : u.oneCell' = true := by simpa [cellsOf, IV.one] using h1
  have hz : u.cells = #[u] := by revert h2; cases u <;> intro h2 <;> first | rfl | cases h2
  rw [hz]; exact ⟨RepL.cons (.v u) (RepL.nil W S), by simpa using h2⟩
 | sl esz f g1 g2 g3 g4 g5 hA hR => exact ⟨RepL.cons (.sl esz f g1 g2 g3 g4 g5 hA hR) (RepL.nil W S), by simp [Value.cells, Value.oneCell']⟩
 | elt g oo f g1 hA hR => exact ⟨RepL.cons (.elt g oo f g1 hA hR) (RepL.nil W S), by simp [Value.cells, Value.oneCell']⟩
 | tup hl hR => simp [cellsOf, IV.one] at h1
theorem PB : ∀ (vs : List Value) (off j : Nat) (cells : Array Value), off + j + vs.length ≤ cells.size →
  ((vs.zipIdx j).foldl (fun (cs : Array Value) (p : Value × Nat) => cs.setIfInBounds (off + p.2) p.1) cells).toList = CE cells.toList (off + j) vs
 | [], off, j, cells, h => by simp [CE]
 | v :: r, off, j, cells, h => by
  simp only [List.length_cons] at h; rw [List.zipIdx_cons, List.foldl_cons, PB r off (j + 1) _ (by simp; omega)]; simp only [Array.toList_setIfInBounds]; apply List.ext_getElem?; intro i; rw [Ew _ _ _ (by simp; omega), Ew _ _ _ (by simp; omega), List.getElem?_set]; simp only [List.length_cons]; by_cases h1 : i < off + j
  ·rw [if_pos (by omega), if_pos h1, if_neg (by omega)]
  rw [if_neg h1]; by_cases h2 : i = off + j
  ·subst h2
   rw [if_pos (by omega), if_pos rfl, if_pos (by simp; omega), if_pos (by omega), Nat.sub_self]; rfl
  by_cases h3 : i < off + j + (r.length + 1)
  ·rw [if_neg (by omega), if_pos (by omega), if_pos h3, show i - (off + j) = (i - (off + (j + 1))) + 1 by omega]; rfl
  rw [if_neg (by omega), if_neg (by omega), if_neg h3, if_neg (by omega)]
theorem Sg {fields : List Field} {fs : List FI} (h : Iz P fields = some fs) : fields.mapM (fun f => (P.info? f.type).map fun i => (f.offset, i.size)) = some (fs.map fun f => (f.off, f.size)) := by
 induction fields generalizing fs with
 | nil => injection h with h; subst h; rfl
 | cons d r ih =>
  simp only [Iz] at h; split at h
  ·rename_i x y hx hy
   injection h with h; subst h; unfold OP at hx; split at hx
   ·rename_i i dd hi hu
    split at hx
    ·injection hx with hx; subst hx
     rw [List.mapM_cons, hi, ih hy]; rfl
    cases hx
   cases hx
  cases h
theorem Jf (h : RelE X E S s a W) (fs : List FI) : ∀ (parts : List (Nat × Operand)) (cells : List IV) (us : Array Value) (cs : List IV), RepL W S cells us.toList → EM s fs cells parts = some cs →
  ∃ vs : Array Value, Instr.fill ((fs.map fun f => (f.off, f.size)).toArray[·]?) us (parts.map fun p => (p.1, a.eval p.2)) = some vs ∧ RepL W S cs vs.toList
 | [], cells, us, cs, hR, hf => by
  injection hf with hf; subst hf; exact ⟨us, rfl, hR⟩
 | (i, x) :: r, cells, us, cs, hR, hf => by
  simp only [EM] at hf; split at hf
  ·rename_i f y hfi hy
   split at hf
   ·rename_i hc
    obtain ⟨c1, c2, c3⟩ := hc; have hrep := ER h (Br h x) hy; obtain ⟨hcl, hone⟩ := NM hrep c3; have hsz : us.size = cells.length := by simpa using hR.1
    have hlen : (a.eval x).cells.size = f.size := by have := hcl.1; simp at this; omega
    have hfold := PB (a.eval x).cells.toList f.off 0 us (by simp; omega); have hR2 : RepL W S (CE cells f.off (cellsOf y)) (((a.eval x).cells.toList.zipIdx 0).foldl (fun (cs : Array Value) (p : Value × Nat) => cs.setIfInBounds (f.off + p.2) p.1) us).toList := by
     rw [hfold, Nat.add_zero]; have e1 : f.off + (cellsOf y).length ≤ cells.length := by omega
     have e2 : f.off + (a.eval x).cells.toList.length ≤ us.toList.length := by simp; omega
     refine ⟨by rw [Ki _ _ _ e2, Ki _ _ _ e1]; exact hR.1, fun k z u hz hu => ?_⟩; rw [Ew _ _ _ e1] at hz; rw [Ew _ _ _ e2, hcl.1] at hu; by_cases g1 : k < f.off
     ·rw [if_pos g1] at hz hu; exact hR.2 k z u hz hu
     rw [if_neg g1] at hz hu; by_cases g2 : k < f.off + (cellsOf y).length
     ·rw [if_pos g2] at hz hu; exact hcl.2 _ z u hz hu
     rw [if_neg g2] at hz hu; exact hR.2 k z u hz hu
    obtain ⟨vs, hv1, hv2⟩ := Jf h fs r _ _ cs hR2 hf; refine ⟨vs, ?_, hv2⟩; rw [List.map_cons, Instr.fill]; have hget : (fs.map fun f => (f.off, f.size)).toArray[i]? = some (f.off, f.size) := by simp [hfi]
    rw [hget]; simp only; rw [if_neg (by simp only [Bool.or_eq_true, decide_eq_true_eq, not_or]; exact ⟨by simpa using hlen, by rw [hlen]; simp; omega⟩)]; rw [← hv1]; congr 1
    rw [← Array.foldl_toList]; simp
   cases hf
  cases hf
theorem Tp (n esz i : Nat) (x : Nat × Nat) (h : (((L4 n esz).map fun f => (f.off, f.size)).toArray)[i]? = some x) : x = (i * esz, esz) := by
 unfold L4 at h; simp only [List.getElem?_toArray, List.getElem?_map, Option.map_map] at h; cases hr : (List.range n)[i]? with
 | none => rw [hr] at h; cases h
 | some j =>
  rw [hr] at h; obtain ⟨h1, h2⟩ := List.getElem?_eq_some_iff.1 hr; rw [List.getElem_range] at h2; subst h2; injection h with h; exact h.symm
theorem Nq {p q : Nat → Option (Nat × Nat)} (hpq : ∀ i x, p i = some x → q i = some x) : ∀ {parts : List (Nat × Value)} {us vs : Array Value}, Instr.fill p us parts = some vs → Instr.fill q us parts = some vs
 | [], us, vs, h => h
 | (i, v) :: r, us, vs, h => by
  simp only [Instr.fill] at h ⊢; cases hp : p i with
  | none => rw [hp] at h; cases h
  | some x =>
   rw [hp] at h; rw [hpq i x hp]; dsimp only at h ⊢; split at h
   ·cases h
   rename_i hc
   rw [if_neg hc]; exact Nq hpq h
theorem Tr (h : RelE X E S s a W) {t : TypeId} {parts : Array (Nat × Operand)} (ho : o.op = .build t parts) (hop : AH P (.build t parts) o.dst s K) : Out P X s a W o K Q := by
 simp only [AH] at hop; split at hop
 ·rename_i fs z hti
  split at hop
  ·rename_i cs hcs
   obtain ⟨fields, i, h1, h2, h3, h4, h5, h6⟩ := Ek hti; have hz : RepL W S (z.map lift) z.toArray.toList := by
    refine ⟨by simp, fun k x u hx hu => ?_⟩; rw [List.getElem?_map, show z[k]? = some u from hu] at hx; simp only [Option.map_some, Option.some.injEq] at hx; subst hx; exact GG W S u
   obtain ⟨vs, hv1, hv2⟩ := Jf h fs parts.toList _ z.toArray cs hz hcs; have hrun := run_build (P := P) W t (parts.map fun p => (p.1, a.eval p.2)) vs (by
    unfold Program.built; rw [h2, h1]; simp only [h3, Sg h6]; rw [← hv1]; simp [Value.cells])
   refine Bm h (u := .agg vs) ?_ hop ?_
   ·simp [execOp, ho, hrun]
   have := Rep.agg hv2.1 hv2.2; rw [show vs.toList.toArray = vs by simp] at this; exact this
  exact hop.elim
 ·split at hop
  ·rename_i ar har
   obtain ⟨n, esz, z⟩ := ar; obtain ⟨e, i, j, h1, h2, h3, h4, h5, h6, h7, h8⟩ := LZ har; split at hop
   ·rename_i cs hcs
    have hz : RepL W S (z.map lift) z.toArray.toList := by
     refine ⟨by simp, fun k x u hx hu => ?_⟩; rw [List.getElem?_map, show z[k]? = some u from hu] at hx; simp only [Option.map_some, Option.some.injEq] at hx; subst hx; exact GG W S u
    obtain ⟨vs, hv1, hv2⟩ := Jf h (L4 n esz) parts.toList _ z.toArray cs hz hcs; have hv1' := Nq (q := fun i => some (i * esz, esz)) (fun i x hx => by rw [Tp n esz i x hx]) hv1; have hrun := run_build (P := P) W t (parts.map fun p => (p.1, a.eval p.2)) vs (by
     unfold Program.built; rw [h2, h1]; simp only [h3, h6, h7]; rw [← hv1']; simp [Value.cells])
    refine Bm h (u := .agg vs) ?_ hop ?_
    ·simp [execOp, ho, hrun]
    have := Rep.agg hv2.1 hv2.2; rw [show vs.toList.toArray = vs by simp] at this; exact this
   exact hop.elim
  exact hop.elim
 exact hop.elim
theorem RelE.newrow (h : RelE X E S s a W) (cells : Array Value) (ty : TypeId) : RelE X E (fun g o => S g o ∨ g = W.heap.size) s a (W.alloc (.cells cells ty)) := by
 have hb := al1 W (.cells cells ty); have hsz : (W.alloc (.cells cells ty)).heap.size = W.heap.size + 1 := by simp
 exact h.core (fun _ => False) s.st E _ _ (fun _ _ => ⟨rfl, rfl, rfl⟩) rfl (fun _ hj => hj.elim) rfl rfl rfl (by omega) (fun g hg _ => hb.block g hg) (fun g o ho => hb.cell (p := ⟨g, o, none⟩) (h.Sb g o ho)) (fun _ _ h => Or.inl h)
  (fun g o ho => ho.imp id (fun e => Or.inl (by omega))) (fun g o (ho : S g o ∨ g = W.heap.size) => ho.elim (fun ho => by have := h.Sb g o ho; omega) (fun e => by omega)) (fun _ hj => hj.elim) (fun _ _ hj => hj.elim) (fun _ _ _ hj => hj.elim)
theorem Mk (h : RelE X E S s a W) (esz : Nat) : ∀ (parts : List (Nat × Operand)) (k : Nat) (es : List (List IV)), EG s esz k parts = some es →
  es.length = parts.length ∧ (∀ e ∈ es, e.length = esz ∧ ∀ x ∈ e, x.one = true) ∧ parts.map (fun p => (p.1, a.eval p.2)) = ((parts.map fun p => a.eval p.2).zipIdx k).map (fun x => (x.2, x.1)) ∧
  (∀ v ∈ parts.map (fun p => a.eval p.2), v.cells.size = esz) ∧ ∀ (j i : Nat) e x u, es[j]? = some e → e[i]? = some x → ((parts.map fun p => a.eval p.2).flatMap fun v => v.cells.toList)[j * esz + i]? = some u → Rep W S x u
 | [], k, es, he => by
  injection he with he; subst he; exact ⟨rfl, fun e h => (by cases h), rfl, fun v h => (by cases h), fun j i e x u h => (by simp at h)⟩
 | (i, x) :: r, k, es, he => by
  simp only [EG] at he; split at he
  ·rename_i y l hy hl
   split at he
   ·rename_i hc
    obtain ⟨c1, c2, c3⟩ := hc; injection he with he; subst he; subst c1; obtain ⟨h1, h2, h3, h4, h5⟩ := Mk h esz r _ l hl; have hrep := ER h (Br h x) hy; obtain ⟨hcl, hone⟩ := NM hrep c3; have hlen : (a.eval x).cells.toList.length = esz := hcl.1.trans c2; refine ⟨by simp [h1], fun e he => ?_, by rw [List.map_cons, List.map_cons, List.zipIdx_cons, List.map_cons, h3], fun v hv => ?_, fun j q e z u he hz hu => ?_⟩
    ·rcases List.mem_cons.1 he with rfl | he
     ·exact ⟨by simp [c2], fun z hz => by
       obtain ⟨w, hw, rfl⟩ := List.mem_map.1 hz; rw [SD]; exact List.all_eq_true.1 c3 w hw⟩
     exact h2 e he
    ·rw [List.map_cons] at hv
     rcases List.mem_cons.1 hv with rfl | hv
     ·simpa using hlen
     exact h4 v hv
    rw [List.map_cons, List.flatMap_cons] at hu; cases j with
    | zero =>
     simp only [List.getElem?_cons_zero, Option.some.injEq] at he; subst he; rw [List.getElem?_map] at hz; cases hq : (cellsOf y)[q]? with
     | none => rw [hq] at hz; cases hz
     | some w =>
      rw [hq] at hz; simp only [Option.map_some, Option.some.injEq] at hz; subst hz; have hlt := (List.getElem?_eq_some_iff.1 hq).1; rw [Nat.zero_mul, Nat.zero_add, List.getElem?_append_left (by show q < (a.eval x).cells.toList.length; omega)] at hu; exact (hcl.2 q w u hq hu).er1
    | succ j =>
     rw [List.getElem?_append_right (by rw [hlen, Nat.add_mul]; omega), hlen, show (j + 1) * esz + q - esz = j * esz + q by rw [Nat.add_mul]; omega] at hu; exact h5 j q e z u he hz hu
   cases he
  cases he
theorem MQ (h : RelE X E S s a W) {t : TypeId} {n : Nat} {parts : Array (Nat × Operand)} (ho : o.op = .buildSlice t n parts) (hop : AH P (.buildSlice t n parts) o.dst s K) : Out P X s a W o K Q := by
 simp only [AH] at hop; split at hop
 ·rename_i el esz hti
  split at hop
  ·rename_i es hes
   obtain ⟨⟨g1, g2, g3⟩, hK⟩ := hop; obtain ⟨i, j, z, i1, i2, i3, i4, i5, i6, i7, i8, i9, i10⟩ := FF hti; obtain ⟨h1, h2, h3, h4, h5⟩ := Mk h esz parts.toList 0 es hes; have hpl : (parts.toList.map fun p => a.eval p.2).length = n := by rw [List.length_map, ← h1, g1]
   have hfill := Go.Great.fill_whole (s := esz) i9 (parts.toList.map fun p => a.eval p.2) ((Array.range (n * esz)).map (z.cells[· % z.cells.size]!)) h4 (by rw [hpl]; simp); have hrun := run_buildSlice (P := P) W t el n (parts.map fun p => (p.1, a.eval p.2)) ((parts.toList.map fun p => a.eval p.2).flatMap fun v => v.cells.toList).toArray j z i1 i5 i6 (by rw [i8]; omega) (by rw [i8]; have := Nat.mul_pos g2 i9; omega) (by
    rw [i8, ← hfill, ← h3]; simp)
   have hN := h.newrow ((parts.toList.map fun p => a.eval p.2).flatMap fun v => v.cells.toList).toArray el; refine EV (c := .im (.sl es true)) (u := .slice (some ⟨W.heap.size, 0, none⟩) n n) ?_ hK hN ?_
   ·simp [execOp, ho, hrun]
   subst g1; have hfl : ∀ k, k < es.length * esz → ∃ u, ((parts.toList.map fun p => a.eval p.2).flatMap fun v => v.cells.toList)[k]? = some u := fun k hk => by
    rw [Go.Great.flat_get i9 _ h4 k]; have hk2 : k / esz < (parts.toList.map fun p => a.eval p.2).length := by rw [hpl]; exact (Nat.div_lt_iff_lt_mul i9).2 hk
    rw [List.getElem?_eq_getElem hk2]; have := h4 _ (List.getElem_mem hk2); rw [Option.bind_some]; refine ⟨_, Array.getElem?_eq_getElem ?_⟩; rw [this]; exact Nat.mod_lt _ i9
   refine .sl esz (fun j i => (((parts.toList.map fun p => a.eval p.2).flatMap fun v => v.cells.toList)[j * esz + i]?).getD undef) (Nat.le_refl _) (by have := Nat.mul_le_mul_left es.length i9; omega) (by have := Nat.mul_le_mul_left es.length i9; omega) (fun _ => rfl) h2 (fun _ => ⟨W.heap.size, 0, rfl, fun j i hj hi => ⟨Or.inr rfl, ?_⟩⟩) (fun j i e x he hx => ?_)
   ·have hlt : j * esz + i < es.length * esz := by
     have := Nat.mul_le_mul_right esz (show j + 1 ≤ es.length from hj); rw [Nat.add_mul] at this; omega
    obtain ⟨u, hu⟩ := hfl _ hlt; rw [hu, Nat.zero_add]; rw [World.cell?, heap_alloc_new]; simp only [Option.isSome_none, Bool.false_eq_true, if_false]; simpa using hu
   have hj := (List.getElem?_eq_some_iff.1 he).1; have hi := (List.getElem?_eq_some_iff.1 hx).1; rw [(h2 e (List.mem_of_getElem? he)).1] at hi; have hlt : j * esz + i < es.length * esz := by
    have := Nat.mul_le_mul_right esz (show j + 1 ≤ es.length from hj); rw [Nat.add_mul] at this; omega
   obtain ⟨u, hu⟩ := hfl _ hlt; simp only [hu, Option.getD_some]; exact (h5 j i e x u he hx hu).keep (fun g o hg => (al1 W _).cell (p := ⟨g, o, none⟩) (h.Sb g o hg)) (fun _ _ h => Or.inl h)
  exact hop.elim
 exact hop.elim
theorem N2 (h : RelE X E S s a W) {t : TypeId} {x : Operand} {f : Nat} (ho : o.op = .fieldAddr t x f) (hop : AH P (.fieldAddr t x f) o.dst s K) : Out P X s a W o K Q := by
 simp only [AH] at hop; have he := Br h x; split at hop
 ·rename_i fs z hti
  obtain ⟨fields, i, h1, h2, h3, h4, h5, h6⟩ := Ek hti; have key : ∀ (fi : FI) (g off : Nat), fs[f]? = some fi → (Instr.fieldAt t (.pointer (some ⟨g, off, none⟩)) f).run P W = .ok (.pointer (some ⟨g, off + fi.off, none⟩)) W := by
   intro fi g off hfi; obtain ⟨fd, hfd, hof⟩ := MO h6 f fi hfi; unfold OP at hof; split at hof
   ·rename_i ii dd hi hu
    split at hof
    ·rename_i hpos
     injection hof with hof; subst hof; have hfd' : fields[f]? = some fd := by simpa using hfd
     simp [Instr.fieldAt, run_underlying h1, hfd', Instr.sureAddr, fieldPlace, sizeOf, typeInfo, hi, Nat.ne_of_gt hpos, EF]
    cases hof
   cases hof
  split at hop
  ·rename_i fi b off hfi hx
   have hp := C5 h hx; rw [hx] at he; exact Bm h (u := .pointer (some ⟨E.box b, off + fi.off, none⟩)) (by simp [execOp, ho, hp, key fi _ _ hfi]) hop ⟨he.1, rfl⟩
  ·rename_i fi cs off hfi hx
   rw [hx] at he; revert he
   generalize hu : a.eval x = w; intro he; cases he with
   | elt g oo fv g1 hA hR =>
    refine Bm h (u := .pointer (some ⟨g, oo + off + fi.off, none⟩)) (by simp [execOp, ho, hu, key fi _ _ hfi]) hop ?_; rw [Nat.add_assoc]; exact Rep.elt g oo fv g1 hA hR
  exact hop.elim
 exact hop.elim
theorem TF (h : RelE X E S s a W) {t : TypeId} {x : Operand} {f : Nat} (ho : o.op = .field t x f) (hop : AH P (.field t x f) o.dst s K) : Out P X s a W o K Q := by
 simp only [AH] at hop; have he := Br h x; split at hop
 ·rename_i fs z hti
  obtain ⟨fields, i, h1, h2, h3, h4, h5, h6⟩ := Ek hti; split at hop
  ·rename_i fi cs hfi hx
   obtain ⟨hag, hop⟩ := hop; split at hop
   ·rename_i y hy
    rw [hx] at he; revert he
    generalize hu : a.eval x = w; intro he; cases he with
    | agg hl hR =>
     rename_i us
     have hlt := (List.getElem?_eq_some_iff.1 hy).1; have hus : us[fi.off]? = some (us[fi.off]'(by omega)) := List.getElem?_eq_getElem _; obtain ⟨fd, hfd, hof⟩ := MO h6 f fi hfi; have hfd' : fields[f]? = some fd := by simpa using hfd
     unfold OP at hof; split at hof
     ·rename_i ii dd hi hu2
      split at hof
      ·rename_i hpos
       injection hof with hof; subst hof; replace hlt : fd.offset < cs.length := hlt; have hia : (isAgg fd.type).run P W = .ok false W := by
        simp only [isAgg, run_underlying hu2, Sem.run_bind, Result.andThen_ok]; cases dd <;> first | rfl | cases hag
       refine Bm h (u := us[fd.offset]'(by omega)) ?_ hop (hR _ y _ hy hus); have hus2 : us.toArray[fd.offset]? = some (us[fd.offset]'(by omega)) := by rw [List.getElem?_toArray]; exact hus
       simp only [execOp, ho, hu, Instr.field, run_underlying h1, Sem.run_bind, Result.andThen_ok, hfd', asAgg, Sem.run_pure, part, hia, Bool.false_eq_true, if_false, hus2]
      cases hof
     cases hof
   exact hop.elim
  exact hop.elim
 exact hop.elim
theorem KT (h : RelE X E S s a W) {c : FV} {u : Value} {es : List (List IV)} (hc : B4 W S E s.st c u) (hx : F9 s.st c = some es) : ∃ full, Rep W S (.sl es full) u := by
 unfold F9 at hx; split at hx
 ·rename_i es' full hs
  injection hx with hx; subst hx; exact ⟨full, ER h hc hs⟩
 cases hx
theorem N5 (h : RelE X E S s a W) {t : TypeId} {x i : Operand} (ho : o.op = .indexAddr t x i) (hop : AH P (.indexAddr t x i) o.dst s K) : Out P X s a W o K Q := by
 simp only [AH] at hop; split at hop
 ·rename_i el esz hti
  split at hop
  ·rename_i es k n hx hi
   obtain ⟨h0, e, he, hel, hK⟩ := hop; have hi' := Cn h hi; obtain ⟨full, hrep⟩ := KT h (Br h x) hx; obtain ⟨i', j', z, i1, i2, i3, i4, i5, i6, i7, i8, i9, i10⟩ := FF hti; revert hrep
   generalize hu : a.eval x = w; intro hrep; cases hrep with
   | sl ez f g1 g2 g3 g4 g5 hA hR =>
    have hlt := (List.getElem?_eq_some_iff.1 he).1; obtain ⟨g, oo, rfl, hc⟩ := hA (by omega); obtain rfl : esz = ez := hel.symm.trans (g5 e (List.mem_of_getElem? he)).1; have hsz : (sizeOf el).run P W = .ok esz W := by simp [sizeOf, typeInfo, i5, i8]
    have hel2 : P.elem t = el := by simp [Program.elem, i1]
    rename_i c
    have hrun := run_indexAt_slice (P := P) W t ⟨g, oo, none⟩ es.length c k n (by rw [hel2]; exact i1); rw [if_pos ⟨h0, by omega⟩, hel2, hsz] at hrun; simp only [Result.andThen_ok, EF] at hrun; refine Bm h (c := .im (.elt e 0)) (u := .pointer (some ⟨g, oo + n.toNat * esz, none⟩)) (by simp only [execOp, ho, hu, hi', hrun, Sem.run_bind, Sem.run_pure, Result.andThen_ok]) hK ?_; exact Rep.elt (off := 0) g (oo + n.toNat * esz) (f n.toNat) (g5 e (List.mem_of_getElem? he)).2 (fun i hi => hc n.toNat i hlt (by omega)) (fun i x hx => hR n.toNat i e x he hx)
  exact hop.elim
 ·split at hop
  ·rename_i ar b off k n har hx hi
   obtain ⟨len, esz, z⟩ := ar; obtain ⟨⟨h0, h1⟩, hK⟩ := hop; obtain ⟨e, i', j, e1, e2, e3, e4, e5, e6, e7, e8⟩ := LZ har; have hi' := Cn h hi; have hp := C5 h hx; have he := Br h x; rw [hx] at he; have hel : P.elem t = e := by simp [Program.elem, e1]
   have hln : P.arrayLen t = len := by simp [Program.arrayLen, e1]
   have hsz : (sizeOf e).run P W = .ok esz W := by simp [sizeOf, typeInfo, e6, e7]
   have hrun := run_indexAt_array (P := P) W t ⟨E.box b, off, none⟩ k n (by rw [hel, hln]; exact e1); rw [hln, if_pos ⟨h0, h1⟩, hel, hsz] at hrun; simp only [Result.andThen_ok, EF] at hrun; exact Bm h (u := .pointer (some ⟨E.box b, off + n.toNat * esz, none⟩)) (by simp only [execOp, ho, hp, hi', hrun, Sem.run_bind, Sem.run_pure, Result.andThen_ok]) hK ⟨he.1, rfl⟩
  exact hop.elim
 exact hop.elim
theorem T4 (h : RelE X E S s a W) {t : TypeId} {x i : Operand} (ho : o.op = .index t x i) (hop : AH P (.index t x i) o.dst s K) : Out P X s a W o K Q := by
 simp only [AH] at hop; split at hop
 ·rename_i b k n ht hx hi
  obtain ⟨h0, c, hc, hK⟩ := hop; have hx' := Cn h hx; have hi' := Cn h hi; have hlt := (List.getElem?_eq_some_iff.1 hc).1; have hget : b[n.toNat]? = some c := by
   have hlt2 : n.toNat < b.size := by have := hlt; rwa [Array.length_toList] at this
   obtain ⟨_, hcc⟩ := List.getElem?_eq_some_iff.1 hc; have : b[n.toNat] = c := by rw [← hcc]; rfl
   rw [getElem?_pos b n.toNat hlt2, this]
  have hrun : (Instr.index t (.string b) (.int k n)).run P W = .ok (.int .u8 c.toNat) W := by
   unfold Instr.index; simp only [asIntOf, Sem.run_bind, Sem.run_pure, Result.andThen_ok, run_underlying ht]; rw [if_pos h0, hget]; rfl
  exact Bm h (u := .int .u8 c.toNat) (by simp only [execOp, ho, hx', hi', hrun, Sem.run_bind, Sem.run_pure, Result.andThen_ok]) hK (.v _)
 exact hop.elim
theorem UR (h : RelE X E S s a W) {t : TypeId} {x : Operand} {lo hi : Option Operand} (ho : o.op = .slice t x lo hi none) (hop : AH P (.slice t x lo hi none) o.dst s K) : Out P X s a W o K Q := by
 simp only [AH] at hop; split at hop
 ·rename_i b ht hx
  have hx' := Cn h hx; have key : ∀ (l hh : Int), (0 ≤ l ∧ l ≤ hh ∧ hh ≤ b.size) → ∀ (lo' hi' : Option Value), (lo' = none ∧ l = 0 ∨ ∃ k, lo' = some (.int k l)) → (hi' = none ∧ hh = b.size ∨ ∃ k, hi' = some (.int k hh)) →
    (Instr.sliceAt t (.string b) lo' hi' none).run P W = .ok (.string (b.extract l.toNat hh.toNat)) W := by
   intro l hh hb lo' hi' hl hh'; rcases hl with ⟨rfl, rfl⟩ | ⟨k, rfl⟩ <;> rcases hh' with ⟨rfl, rfl⟩ | ⟨k2, rfl⟩
   ·simp [Instr.sliceAt, Instr.slice, Instr.sliceBounds, run_underlying ht]
   ·simp [Instr.sliceAt, Instr.slice, Instr.sliceBounds, Instr.sliceBound, asIntOf, run_underlying ht, hb.2.2, hb.2.1]
   ·have : l.toNat ≤ b.size := by omega
    simp [Instr.sliceAt, Instr.slice, Instr.sliceBounds, Instr.sliceBound, asIntOf, run_underlying ht, hb.1, hb.2.1]
   have h1 : 0 ≤ hh := by omega
   have h2 : l ≤ max hh 0 := by omega
   simp [Instr.sliceAt, Instr.slice, Instr.sliceBounds, Instr.sliceBound, asIntOf, run_underlying ht, hb.1, hb.2.2, h1, h2]
  have idx : ∀ (d : Nat) (y : Option Operand) (K : Int → Prop), Fu s d y K → ∃ n, K n ∧ (y.map a.eval = none ∧ n = d ∨ ∃ k, y.map a.eval = some (.int k n)) := by
   intro d y K hy; cases y with
   | none => exact ⟨d, hy, Or.inl ⟨rfl, rfl⟩⟩
   | some y =>
    simp only [Fu] at hy; split at hy
    ·rename_i k n hv
     exact ⟨n, hy, Or.inr ⟨k, by simp [Cn h hv]⟩⟩
    exact hy.elim
  obtain ⟨l, hl, hl2⟩ := idx _ _ _ hop; obtain ⟨hh, ⟨hb, hK⟩, hh2⟩ := idx _ _ _ hl; have hrun := key l hh hb (lo.map a.eval) (hi.map a.eval) hl2 hh2; exact Bm h (u := .string (b.extract l.toNat hh.toNat)) (by simp [execOp, ho, hx', hrun]) hK (.v _)
 ·rename_i el0 es fl ht hx
  split at hop
  ·rename_i el esz hti
   have idx : ∀ (d : Nat) (y : Option Operand) (K : Int → Prop), Fu s d y K → ∃ n, K n ∧ (y.map a.eval = none ∧ n = d ∨ ∃ k, y.map a.eval = some (.int k n)) := by
    intro d y K hy; cases y with
    | none => exact ⟨d, hy, Or.inl ⟨rfl, rfl⟩⟩
    | some y =>
     simp only [Fu] at hy; split at hy
     ·rename_i k n hv
      exact ⟨n, hy, Or.inr ⟨k, by simp [Cn h hv]⟩⟩
     exact hy.elim
   obtain ⟨l, hl, hl2⟩ := idx _ _ _ hop; obtain ⟨hh, ⟨⟨hb, hes⟩, hK⟩, hh2⟩ := idx _ _ _ hl; obtain ⟨i', j', z, i1, i2, i3, i4, i5, i6, i7, i8, i9, i10⟩ := FF hti; have hrep := Br h x; rw [hx] at hrep; revert hrep
   generalize hu : a.eval x = w; intro hrep; cases hrep with
   | sl ez f g1 g2 g3 g4 g5 hA hR =>
    rename_i A c
    have hsz : (sizeOf el).run P W = .ok esz W := by simp [sizeOf, typeInfo, i5, i8]
    have key : ∀ (lo' hi' : Option Value), (lo' = none ∧ l = 0 ∨ ∃ k, lo' = some (.int k l)) → (hi' = none ∧ hh = es.length ∨ ∃ k, hi' = some (.int k hh)) →
      (Instr.sliceAt t (.slice A es.length c) lo' hi' none).run P W = .ok (.slice (if c = l.toNat then A else A.map (·.add (l.toNat * esz))) (hh.toNat - l.toNat) (c - l.toNat)) W := by
     intro lo' hi' hl hh'; obtain ⟨q1, q2, q3⟩ := hb; have q4 : hh ≤ (c : Int) := by omega
     have q5 : 0 ≤ hh := by omega
     have q6 : l ≤ max hh 0 := by omega
     rcases hl with ⟨rfl, rfl⟩ | ⟨k, rfl⟩ <;> rcases hh' with ⟨rfl, rfl⟩ | ⟨k2, rfl⟩
     ·simp [Instr.sliceAt, Instr.slice, Instr.sliceBounds, run_underlying i1, hsz]
     ·simp [Instr.sliceAt, Instr.slice, Instr.sliceBounds, Instr.sliceBound, asIntOf, run_underlying i1, hsz, q4, q5]
     ·simp [Instr.sliceAt, Instr.slice, Instr.sliceBounds, Instr.sliceBound, asIntOf, run_underlying i1, hsz, q1, q2]
     simp [Instr.sliceAt, Instr.slice, Instr.sliceBounds, Instr.sliceBound, asIntOf, run_underlying i1, hsz, q1, q4, q5, q6]
    have hrun := key (lo.map a.eval) (hi.map a.eval) hl2 hh2; obtain ⟨q1, q2, q3⟩ := hb; have hlen : ((es.take hh.toNat).drop l.toNat).length = hh.toNat - l.toNat := by rw [List.length_drop, List.length_take]; omega
    have hget : ∀ j, ((es.take hh.toNat).drop l.toNat)[j]? = if j < hh.toNat - l.toNat then es[l.toNat + j]? else none := fun j => by
     rw [List.getElem?_drop, List.getElem?_take]; by_cases hj : j < hh.toNat - l.toNat
     ·rw [if_pos (by omega), if_pos hj]
     rw [if_neg (by omega), if_neg hj]
    refine Bm h (c := .im (.sl ((es.take hh.toNat).drop l.toNat) false)) (u := .slice (if c = l.toNat then A else A.map (·.add (l.toNat * esz))) (hh.toNat - l.toNat) (c - l.toNat)) (by simp [execOp, ho, hu, hrun]) hK ?_; show Rep W S (.sl ((es.take hh.toNat).drop l.toNat) false) _
    rw [← hlen]; refine .sl ez (fun j i => f (l.toNat + j) i) (by omega) (by omega) (by omega) (fun h => by cases h) (fun e he => g5 e (List.mem_of_mem_take (List.mem_of_mem_drop he))) (fun hpos => ?_) (fun j i e x he hx => ?_)
    ·obtain ⟨g, oo, rfl, hc⟩ := hA (by omega)
     obtain rfl : esz = ez := (hes es[0] (List.getElem_mem (by omega))).symm.trans (g5 es[0] (List.getElem_mem (by omega))).1; rw [if_neg (by omega)]; refine ⟨g, oo + l.toNat * esz, by simp [EF], fun j i hj hi => ?_⟩; have := hc (l.toNat + j) i (by omega) hi; rw [show oo + l.toNat * esz + j * esz + i = oo + (l.toNat + j) * esz + i by rw [Nat.add_mul]; omega]; exact this
    rw [hget] at he; split at he
    ·exact hR (l.toNat + j) i e x he hx
    cases he
  exact hop.elim
 exact hop.elim
theorem VZ {B : Prop} {op : BinOp} {u v : Value} {K : Value → Prop} (h : JK B op u v K) (t : TypeId) (hB : B → P.underlying t = some .bool) (x y : Operand) : ∃ r, K r ∧ (eqGuard op t x y u v).run P W = .ok () W ∧ (binOp op t u v).run P W = .ok r W := by
  unfold JK at h; split at h
  · rename_i k n k' n'
    obtain ⟨rfl, h⟩ := h; have hg : (eqGuard op t x y (.int k n) (.int k n')).run P W = .ok () W := by
      unfold eqGuard; split <;> rfl
    have har : ∀ (n : Int) (K : Value → Prop), F7 k n K → K (.int k (k.wrap n)) := by
      intro n K hn; unfold F7 at hn; split at hn
      · rename_i hk; subst hk
        rw [IntWalk.i64_in _ hn.1]; exact hn.2
      exact hn
    cases op <;> first
      | exact h.elim
      | exact ⟨_, har _ _ h, hg, by simp [binOp, Op.intArith]⟩
      | exact ⟨_, h.2, hg, by simp [binOp, Op.intDiv, h.1]⟩
      | (refine ⟨_, h, hg, ?_⟩
         simp [binOp, Op.intCmp, bne]; try rfl)
  · rename_i p q
    have hg : (eqGuard op t x y (.string p) (.string q)).run P W = .ok () W := by
      unfold eqGuard; split <;> rfl
    have heq : (p.toList == q.toList) = decide (p = q) := by
      by_cases e : p = q
      · subst e; simp
      rw [decide_eq_false e]; exact beq_eq_false_iff_ne.2 (fun h2 => e (by rw [ByteArray.toList_eq, ByteArray.toList_eq] at h2; exact ByteArray.ext (Array.toList_inj.1 h2)))
    cases op <;> first
      | exact h.elim
      | (obtain ⟨h1, h2⟩ := h
         refine ⟨_, h2, hg, ?_⟩; have : ¬ (9223372036854775807 : Int) < p.size + q.size := by omega
         simp [binOp, Op.stringOp, IntKind.max, IntKind.signed, IntKind.bits, this])
      | exact ⟨_, h, hg, by simp [binOp, Op.stringOp, heq]⟩
  · rename_i p q
    obtain ⟨hb, h⟩ := h; have hg : (eqGuard op t x y (.bool p) (.bool q)).run P W = .ok () W := by
      unfold eqGuard; split <;> rfl
    have hq : (Op.equal t (.bool p) (.bool q)).run P W = .ok (p == q) W := by
      unfold Op.equal Op.maxDepth Op.equalIn; simp [run_underlying (hB hb)]
    have heq : (p == q) = decide (p = q) := by cases p <;> cases q <;> rfl
    cases op <;> first
      | exact h.elim
      | exact ⟨_, h, hg, by simp [binOp, hq, heq]⟩
  exact h.elim
theorem YN (h : RelE X E S s a W) {op : BinOp} {t t' : TypeId} {x y : Operand} (ho : o.op = .binOp op t x y t') (hop : AH P (.binOp op t x y t') o.dst s K) : Out P X s a W o K Q := by
 simp only [AH] at hop; split at hop
 ·rename_i u v hx hy
  obtain ⟨r, hK, h1, h2⟩ := VZ (P := P) (W := W) hop t (fun h => h) x y; have hx' := Cn h hx; have hy' := Cn h hy; exact Bm h (u := r) (by simp [execOp, ho, hx', hy', h1, h2]) hK (.v _)
 ·rename_i p q p' q' hx hy
  obtain ⟨hE, hop⟩ := hop; have two : ∀ {z : Operand} {a1 b1 : Int}, Aw s z = .im (.agg [.v (.int .i64 a1), .v (.int .i64 b1)]) → a.eval z = .agg #[.int .i64 a1, .int .i64 b1] := by
   intro z a1 b1 hz; have he := Br h z; rw [hz] at he; revert he
   generalize a.eval z = u; intro he; cases he with
   | agg hl hR =>
    rename_i us
    match us, hl with
    | [u1, u2], _ => rw [Dl (hR 0 (.v (.int .i64 a1)) u1 rfl rfl), Dl (hR 1 (.v (.int .i64 b1)) u2 rfl rfl)]
  have hx' := two hx; have hy' := two hy; split at hop
  ·obtain ⟨h1, h2⟩ := hE .eql x y p q p' q' W (Or.inl rfl)
   exact Bm h (u := .bool (decide (p = p') && decide (q = q'))) (by simp [execOp, ho, hx', hy', h1, binOp, h2]) hop (.v _)
  ·obtain ⟨h1, h2⟩ := hE .neq x y p q p' q' W (Or.inr rfl)
   exact Bm h (u := .bool (!(decide (p = p') && decide (q = q')))) (by simp [execOp, ho, hx', hy', h1, binOp, h2]) hop (.v _)
  exact hop.elim
 exact hop.elim
theorem Yz (h : RelE X E S s a W) {t : TypeId} {x : Operand} (ho : o.op = .unOp .not t x) (hop : AH P (.unOp .not t x) o.dst s K) : Out P X s a W o K Q := by
 simp only [AH] at hop; split at hop
 ·rename_i b hx
  have hx' := Cn h hx; exact Bm h (u := .bool !b) (by simp [execOp, ho, hx', Op.unary]) hop (.v _)
 exact hop.elim
theorem QH (h : RelE X E S s a W) {t t' : TypeId} {x : Operand} (ho : o.op = .convert t t' x) (hop : AH P (.convert t t' x) o.dst s K) : Out P X s a W o K Q := by
 simp only [AH] at hop; split at hop
 ·rename_i d k k' n h1 h2 hx
  have hx' := Cn h hx; exact Bm h (u := .int k (k.wrap n)) (by simp [execOp, ho, hx', convert, run_underlying h1, run_underlying h2, Conv.intToInt]) hop (.v _)
 exact hop.elim
theorem Qy (h : RelE X E S s a W) {t : Operand} {i : Nat} (ho : o.op = .extract t i) (hop : AH P (.extract t i) o.dst s K) : Out P X s a W o K Q := by
 simp only [AH] at hop; split at hop
 ·rename_i vs hx
  split at hop
  ·rename_i x hi
   have he := Br h t; rw [hx] at he; revert he
   generalize hu : a.eval t = w; intro he; cases he with
   | tup hl hR =>
    rename_i us
    have hlt := (List.getElem?_eq_some_iff.1 hi).1; have hus : us[i]? = some (us[i]'(by omega)) := List.getElem?_eq_getElem _; refine Bm h (u := us[i]'(by omega)) ?_ hop (hR i x _ hi hus); have : us.toArray[i]? = some (us[i]'(by omega)) := by rw [List.getElem?_toArray]; exact hus
    simp only [execOp, ho, hu, Instr.extract, this, Sem.run_bind, Sem.run_pure, Result.andThen_ok]
  exact hop.elim
 exact hop.elim
theorem Lw : ∀ {cs : List IV} {l us : List Value}, Ie cs = some l → RepL W S cs us → us = l
 | [], l, us, hv, hR => by
  injection hv with hv; subst hv; exact List.eq_nil_of_length_eq_zero hR.1
 | .v x :: r, l, us, hv, hR => by
  simp only [Ie] at hv; split at hv
  ·rename_i l' hl'
   injection hv with hv; subst hv; cases us with
   | nil => exact absurd hR.1 (by simp)
   | cons u us =>
    rw [Dl (hR.2 0 _ u rfl rfl), Lw hl' ⟨Nat.succ.inj hR.1, fun i x u hx hu => hR.2 (i + 1) x u hx hu⟩]
  cases hv
 | .sl _ _ :: r, l, us, hv, hR => by cases hv
 | .elt _ _ :: r, l, us, hv, hR => by cases hv
 | .agg _ :: r, l, us, hv, hR => by cases hv
 | .tup _ :: r, l, us, hv, hR => by cases hv
theorem RV (h : RelE X E S s a W) {x : Operand} {u : Value} (hx : LN (Aw s x) = some u) : a.eval x = u := by
 have he := Br h x; unfold LN at hx; split at hx
 ·rename_i y hv
  injection hx with hx; subst hx; exact Cn h hv
 ·rename_i cs hv
  split at hx
  ·rename_i l hl
   injection hx with hx; subst hx; rw [hv] at he; revert he
   generalize a.eval x = w; intro he; cases he with
   | agg hl2 hR => rw [Lw hl ⟨hl2, hR⟩]
  cases hx
 cases hx
theorem TE (W : World) (S : CS) (u : Value) : Rep W S (Od u) u := by
 unfold Od; split
 ·rename_i us
  have h : Rep W S (.agg (us.toList.map IV.v)) (.agg us.toList.toArray) := .agg (by simp) fun i x w hx hw => by
   rw [List.getElem?_map] at hx; rw [hw] at hx; injection hx with hx; subst hx; exact .v _
  simpa using h
 exact GG W S _
theorem MC (h : RelE X E S s a W) {x : Operand} {xT t : TypeId} (ho : o.op = .typeAssert x xT t true) (hop : AH P (.typeAssert x xT t true) o.dst s K) : Out P X s a W o K Q := by
 simp only [AH] at hop; split at hop
 ·rename_i fs z t' u hti hx
  obtain ⟨rfl, hop⟩ := hop; obtain ⟨fields, i, hu, _⟩ := Ek hti; have hx' := Cn h hx; refine Bm h (u := .tuple #[u, .bool true]) ?_ hop (.tup (us := [u, .bool true]) rfl (fun i y w hy hw => ?_))
  ·simp only [execOp, ho, hx', Instr.typeAssert, run_underlying hu, Sem.run_bind, Result.andThen_ok]
   simp
  match i, hy, hw with
  | 0, hy, hw => injection hy with hy; injection hw with hw; subst hy hw; exact TE _ _ _
  | 1, hy, hw => injection hy with hy; injection hw with hw; subst hy hw; exact .v _
  | i + 2, hy, _ => exact absurd hy (by simp)
 exact hop.elim
theorem Ko (h : RelE X E S s a W) {t : TypeId} {x : Operand} (ho : o.op = .makeInterface t x) (hop : AH P (.makeInterface t x) o.dst s K) : Out P X s a W o K Q := by
 simp only [AH] at hop; split at hop
 ·exact hop.elim
 ·rename_i d u hni ht hx
  have hx' := RV h hx; refine Bm h (u := .iface t u) ?_ hop (.v _); simp only [execOp, ho, hx', Instr.makeInterface, run_underlying ht, Sem.run_bind, Result.andThen_ok]; cases d <;> first | rfl | exact (hni _ rfl).elim
 exact hop.elim
end
end Go.Proofs.YtakncilicoefdaaGreatDoor
namespace Th
open Go Go.Lib
theorem XS (L : List UInt8) (one : Nat → Tf × Nat × Nat) (hone : ∀ a, (one a).2.2 = 0 ∨ (one a).2.2 = 20 ∨ (one a).2.2 = 31 ∨ (one a).2.2 = 60) (f : Nat) : ∀ (n o a : Nat), (qGo L one f n o a).2 = 0 ∨ (qGo L one f n o a).2 = 20 ∨ (qGo L one f n o a).2 = 31 ∨ (qGo L one f n o a).2 = 60 := by
 intro n; induction n with
 | zero => intro o a; exact Or.inr (Or.inl rfl)
 | succ n ih =>
  intro o a; cases o with
  | zero =>
   simp only [qGo]; cases L[a]? with
   | none => exact Or.inr (Or.inl rfl)
   | some c =>
    dsimp only; repeat' split
    all_goals first | exact Or.inl rfl | exact ih _ _
  | succ o =>
   simp only [qGo]; split
   ·exact hone a
   split
   ·exact Or.inr (Or.inl rfl)
   exact ih _ _
theorem OT (L : List UInt8) (q : Nat → Nat × Nat) (hq : ∀ f, (q f).2 = 0 ∨ (q f).2 = 20 ∨ (q f).2 = 31 ∨ (q f).2 = 60) (a : Nat) : (BG L q a).2.2 = 0 ∨ (BG L q a).2.2 = 20 ∨ (BG L q a).2.2 = 31 ∨ (BG L q a).2.2 = 60 := by
 unfold BG; cases L.drop a with
 | nil => exact Or.inl rfl
 | cons c r =>
  dsimp only; split
  ·split
   ·exact hq a
   exact Or.inl rfl
  split
  ·exact Or.inr (Or.inr (Or.inr rfl))
  exact Or.inl rfl
theorem Vq (L : List UInt8) : ∀ (d a : Nat), (AF L d a).2.2 = 0 ∨ (AF L d a).2.2 = 20 ∨ (AF L d a).2.2 = 31 ∨ (AF L d a).2.2 = 60 := by
 intro d; induction d with
 | zero => intro a; exact OT L _ (fun f => Or.inr (Or.inr (Or.inl rfl))) _
 | succ d ih => intro a; exact OT L _ (fun f => XS L _ ih f _ 0 _) _
end Th
namespace Go.Proofs.YtakncilicoefdaaGreatDoor
open Go Go.RowKit Go.Proofs Th
attribute [local go_sem] Above.cell
def GlobX (w : World) : Prop := ∃ m : Int, w.cell? ⟨4, 0, none⟩ = some (.int .i64 m)
theorem GlobX.upd {w w' : World} {p : Nat} {s : ByteArray} {cs : List Value} (h : GlobX w) (hB : Box w p (.string s :: cs)) (hu : Upd p w w') : GlobX w' := by
 obtain ⟨m, hm⟩ := h; have hp : (4 : Nat) ≠ p := by
  rintro rfl; have h0 := hB.cell 0 _ rfl; rw [hm] at h0; cases h0
 exact ⟨m, (DZ (hu.block _ (BX hm) hp)).trans hm⟩
theorem GlobX.below {w w' : World} (h : GlobX w) (hb : Below w.heap.size w w') : GlobX w' := by
 obtain ⟨m, hm⟩ := h; exact ⟨m, (hb.cell (p := ⟨4, 0, none⟩) (BX hm)).trans hm⟩
def GJ (t : Tf) : Value := .agg #[.int .i64 (t.kind : Int), .string t.text, .int .i64 (t.at_ : Int)]
def DM (w : World) (p : Nat) (s : ByteArray) (t : Tf × Nat × Nat) (r : Ending) (w' : World) : Prop :=
 r = .returned (.tuple #[GJ t.1, .int .i64 (if t.2.2 = 0 then 0 else (t.2.1 : Int)), .int .i64 (t.2.2 : Int)]) ∧ ∃ j : Nat, ScP w w' p s j ∧ j ≤ s.size ∧ (t.2.2 = 0 → j = t.2.1)
def N0 (w : World) (p : Nat) (s : ByteArray) (d f n o a : Nat) (r : Ending) (w' : World) : Prop :=
  ∃ (j : Nat) (x e : Int), r = .returned (.tuple #[.int .i64 x, .int .i64 e]) ∧ ScP w w' p s j ∧ j ≤ s.size ∧
    ((e = 0 ∧ x = 0 ∧ ∃ n', n' ≤ n ∧ s.size + 2 ≤ n' + j ∧ a < j ∧ qGo s.data.toList (AF s.data.toList d) f n' 0 j = qGo s.data.toList (AF s.data.toList d) f n (o + 1) a ∧ ∀ m, n ≤ m → BN (AF s.data.toList d) m (o + 1) a = j) ∨
     (e = 240 ∧ qGo s.data.toList (AF s.data.toList d) f n (o + 1) a = (f, 20)) ∨
     (e ≠ 0 ∧ e ≠ 240 ∧ ∃ q : Nat × Nat, qGo s.data.toList (AF s.data.toList d) f n (o + 1) a = q ∧ x = q.1 ∧ e = q.2))
theorem Qs (one : Nat → Tf × Nat × Nat) (m a : Nat) : BN one m 0 a = a := by cases m <;> rfl
theorem O3 (L : List UInt8) (one : Nat → Tf × Nat × Nat) (f g o a : Nat) : qGo L one f (g + 1) (o + 1) a = if (one a).2.2 ≠ 0 then ((one a).2.1, (one a).2.2) else if (one a).1.kind = 0 then (f, 20)
  else qGo L one f g (if (one a).1.kind = 6 ∧ (one a).1.text = ⟨#[40]⟩ then o + 2 else if (one a).1.kind = 6 ∧ (one a).1.text = ⟨#[41]⟩ then o else o + 1) (one a).2.1 := rfl
theorem KI (one : Nat → Tf × Nat × Nat) (m o a : Nat) : BN one (m + 1) (o + 1) a = BN one m (if (one a).1.kind = 6 ∧ (one a).1.text = ⟨#[40]⟩ then o + 2 else if (one a).1.kind = 6 ∧ (one a).1.text = ⟨#[41]⟩ then o else o + 1) (one a).2.1 := rfl
theorem Cr (w : World) (o : Obj) (a b c : Value) : Below w.heap.size w ((((w.alloc o).setCell ⟨w.heap.size, 0, none⟩ a).setCell ⟨w.heap.size, 1, none⟩ b).setCell ⟨w.heap.size, 2, none⟩ c) :=
 st1 (st1 (st1 (al1 _ _) _ _ _ (Nat.le_refl _)) _ _ _ (Nat.le_refl _)) _ _ _ (Nat.le_refl _)
theorem Xv {a : ByteArray} {l : List UInt8} (h : ¬ a = ⟨l.toArray⟩) : (a.toList == l) = false := by
 rw [M5, beq_eq_false_iff_ne]; intro h2; exact h (GH h2)
structure InnerS (w W : World) (p : Nat) (s : ByteArray) (d f n o a : Nat) (g o1 j : Nat) : Prop where
 sc : ScP w W p s j
 le : j ≤ s.size
 ge : a ≤ j
 gn : g ≤ n
 ob : o1 + g ≤ n + 1 + o
 room : s.size + 2 ≤ g + j
 fwd : a < j ∨ o1 ≠ 0
 q : qGo s.data.toList (AF s.data.toList d) f g o1 j = qGo s.data.toList (AF s.data.toList d) f n (o + 1) a
 c : ∀ m, g ≤ m → BN (AF s.data.toList d) (m + (n - g)) (o + 1) a = BN (AF s.data.toList d) m o1 j
 glob : GlobX W
def Hm (tk : Nat) (tx : ByteArray) (o1 : Nat) : Nat := if tk = 6 ∧ tx = ⟨#[40]⟩ then o1 + 2 else if tk = 6 ∧ tx = ⟨#[41]⟩ then o1 else o1 + 1
theorem InnerS.step {w W W2 : World} {p : Nat} {s : ByteArray} {d f n o a g o1 j : Nat} (h : InnerS w W p s d f n o a (g + 1) (o1 + 1) j) {tk ta te : Nat} {tx : ByteArray} (ht : AF s.data.toList d j = (⟨tk, tx, ta⟩, te, 0)) (hk : tk ≠ 0) (hsc : ScP w W2 p s te) (hG : GlobX W2) : InnerS w W2 p s d f n o a g (Hm tk tx o1) te := by
 have hok := CR s.data.toList d j (by rw [Ai]; exact h.le); have hf := hok.fwd (by rw [ht]) (by rw [ht]; exact hk); have hl := hok.le; rw [ht] at hf hl; rw [Ai] at hl; dsimp only at hf hl; have hq := h.q; have hg := h.gn; have hge := h.ge; have hroom := h.room; rw [O3, ht] at hq; dsimp only at hq; rw [if_neg (fun h => h rfl), if_neg hk] at hq; have hob := h.ob; refine ⟨hsc, hl, by omega, by omega, by unfold Hm; split <;> (try split) <;> omega, by omega, Or.inl (by omega), hq, fun m hm => ?_, hG⟩; have hc := h.c (m + 1) (by omega); rw [KI, ht, show m + 1 + (n - (g + 1)) = m + (n - g) from by omega] at hc; exact hc
theorem Nl (p : Nat) (s : ByteArray) (_hs : s.size ≤ 1000000) (d : Nat) (k : Int) (hk0 : 0 ≤ k) (hk : k ≤ 100)
  (hN : ∀ (W : World) (j : Nat), Box W p [.string s, .int .i64 j] → j ≤ s.size → GlobX W → Calls Tryz.prog 47 #[.pointer (some ⟨p, 0, none⟩), .int .i64 (k + 1)] W fun r w' => DM W p s (AF s.data.toList d j) r w')
  (f n a : Nat) (ha : a ≤ s.size) (hn : s.size + 2 ≤ n + a) (hnn : n ≤ 2000000) (w : World) (hB : Box w p [.string s, .int .i64 a]) (hG : GlobX w) :
  Calls Tryz.prog 103 #[.pointer (some ⟨p, 0, none⟩), .int .i64 k] w fun r w' => N0 w p s d f n 0 a r w' := by
 have HL := Keep.mk (Ai s); have HN := Keep.mk hN; have HS0 := Keep.mk (show InnerS w w p s d f n 0 a n 1 a from ⟨⟨hB, Upd.refl p w⟩, ha, Nat.le_refl _, Nat.le_refl _, by omega, hn, Or.inr (by decide), rfl, fun m _ => by rw [Nat.sub_self]; rfl, hG⟩); clear hN ha hn hB hG; go_enter Tryz.func103, Tryz.ntmps103
 go_wp2_with fail
 go_loopg [6] n (fun gk v6 wr => ∃ (o1 j : Nat), v6 = .int .i64 o1 ∧ Keep (InnerS w wr p s d f n 0 a gk o1 j))
 case atStart => exact ⟨1, a, rfl, HS0⟩
 case round =>
  clear HS0; obtain ⟨o1, j, rfl, HS⟩ := hrel; cases o1 with
  | zero =>
   go_wp2
   refine bodyPost_ret (v := .tuple #[.int .i64 0, .int .i64 0]) ?_ rfl ?_
   ·simp [results, Tryz.results103, go_sem]
   have hg := HS.out.gn; refine ⟨j, 0, 0, rfl, HS.out.sc, HS.out.le, Or.inl ⟨rfl, rfl, gk, hg, HS.out.room, by have := HS.out.fwd; omega, HS.out.q, fun m hm => ?_⟩⟩; have := HS.out.c (m - (n - gk)) (by omega); rw [show m - (n - gk) + (n - gk) = m from by omega] at this; rw [this]; exact Qs _ _ _
  | succ o1 =>
   have hroom := HS.out.room; have hle := HS.out.le; obtain ⟨g, rfl⟩ : ∃ g, gk = g + 1 := ⟨gk - 1, by omega⟩
   obtain ⟨t, ht⟩ : ∃ t, AF s.data.toList d j = t := ⟨_, rfl⟩
   have HC := Keep.mk (HN.out wr j HS.out.sc.b HS.out.le HS.out.glob); have hok := CR s.data.toList d j (by rw [HL.out]; exact hle); have herr := Vq s.data.toList d j; have hq := HS.out.q; have hcl := fun m (hm : g + 1 ≤ m + 1) => HS.out.c (m + 1) hm
   have hgn := HS.out.gn; rw [O3, ht] at hq; simp only [KI, ht] at hcl; rw [ht] at HC hok herr; have HLN := Keep.mk HL.out; obtain ⟨⟨tk, tx, ta⟩, te, er⟩ := t; dsimp only at hq hcl herr; have ho : 0 < ((o1 : Int) + 1) := by omega
   have hoklen := hok.le; rw [HL.out] at hoklen; dsimp only at hoklen; by_cases her : er = 0
   ·subst her
    by_cases hk0 : tk = 0
    ·subst hk0
     have HQ := Keep.mk hq; clear hq hcl hok herr ht hroom hle hgn hoklen; go_wp2_with fail
     refine HC.out.mono ?_; rintro r w1 ⟨hr, j1, hs1, hl1, _⟩; simp only [GJ, if_true] at hr; subst hr; have HS1 := Keep.mk (show ScP w w1 p s j1 from ⟨hs1.b, HS.out.sc.u.trans hs1.u⟩); have HL1 := Keep.mk hl1; clear hs1 hl1; go_wp2
     refine bodyPost_ret (v := .tuple #[.int .i64 0, .int .i64 240]) ?_ rfl ?_
     ·simp [results, Tryz.results103, go_sem]
     exact ⟨j1, _, _, rfl, HS1.out.above (by first | exact al1 _ _ | exact Cr _ _ _ _ _), HL1.out, Or.inr (Or.inl ⟨rfl, HQ.out.symm.trans (by rw [if_neg (fun h => h rfl)]; exact if_pos trivial)⟩)⟩
    have hnk : ¬ (tk : Int) = 0 := by omega
    have hob : o1 ≤ 2000000 := by have := HS.out.ob; omega
    clear hq hcl hok herr hroom hle hgn hoklen; by_cases h6 : tk = 6
    ·subst h6
     by_cases h40 : tx = ⟨#[40]⟩
     ·subst h40
      have hno : Hm 6 ⟨#[40]⟩ o1 = o1 + 2 := rfl; have HST := Keep.mk (fun W2 (h1 : ScP w W2 p s te) (h2 : GlobX W2) => show InnerS w W2 p s d f n 0 a g (o1 + 2) te by
       have := HS.out.step ht hk0 h1 h2; rwa [hno] at this)
      clear ht hno; go_wp2_with fail
      refine HC.out.mono ?_; rintro r w1 ⟨hr, j1, hs1, hl1, he1⟩; obtain rfl : te = j1 := (he1 rfl).symm; simp only [GJ, if_true] at hr; subst hr; have HS1 := Keep.mk (show ScP w w1 p s te from ⟨hs1.b, HS.out.sc.u.trans hs1.u⟩); have HG1 := Keep.mk (HS.out.glob.upd HS.out.sc.b hs1.u); clear hs1 hl1 he1; go_wp2
      go_roundg g
      case rel => exact ⟨o1 + 2, te, by go_num, ⟨HST.out _ (HS1.out.above (by first | exact al1 _ _ | exact Cr _ _ _ _ _)) (HG1.out.below (by first | exact al1 _ _ | exact Cr _ _ _ _ _))⟩⟩
      case measure => omega
     have b40 := Xv h40; by_cases h41 : tx = ⟨#[41]⟩
     ·subst h41
      have hno : Hm 6 ⟨#[41]⟩ o1 = o1 := rfl; have HST := Keep.mk (fun W2 (h1 : ScP w W2 p s te) (h2 : GlobX W2) => show InnerS w W2 p s d f n 0 a g (o1) te by
       have := HS.out.step ht hk0 h1 h2; rwa [hno] at this)
      clear ht hno; go_wp2_with fail
      refine HC.out.mono ?_; rintro r w1 ⟨hr, j1, hs1, hl1, he1⟩; obtain rfl : te = j1 := (he1 rfl).symm; simp only [GJ, if_true] at hr; subst hr; have HS1 := Keep.mk (show ScP w w1 p s te from ⟨hs1.b, HS.out.sc.u.trans hs1.u⟩); have HG1 := Keep.mk (HS.out.glob.upd HS.out.sc.b hs1.u); clear hs1 hl1 he1; go_wp2
      go_roundg g
      case rel => exact ⟨o1, te, by go_num, ⟨HST.out _ (HS1.out.above (by first | exact al1 _ _ | exact Cr _ _ _ _ _)) (HG1.out.below (by first | exact al1 _ _ | exact Cr _ _ _ _ _))⟩⟩
      case measure => omega
     have b41 := Xv h41; have hno : Hm 6 tx o1 = o1 + 1 := by unfold Hm; rw [if_neg (fun h => h40 h.2), if_neg (fun h => h41 h.2)]
     have HST := Keep.mk (fun W2 (h1 : ScP w W2 p s te) (h2 : GlobX W2) => show InnerS w W2 p s d f n 0 a g (o1 + 1) te by
      have := HS.out.step ht hk0 h1 h2; rwa [hno] at this)
     clear ht hno; go_wp2_with fail
     refine HC.out.mono ?_; rintro r w1 ⟨hr, j1, hs1, hl1, he1⟩; obtain rfl : te = j1 := (he1 rfl).symm; simp only [GJ, if_true] at hr; subst hr; have HS1 := Keep.mk (show ScP w w1 p s te from ⟨hs1.b, HS.out.sc.u.trans hs1.u⟩); have HG1 := Keep.mk (HS.out.glob.upd HS.out.sc.b hs1.u); clear hs1 hl1 he1; go_wp2
     go_roundg g
     case rel => exact ⟨o1 + 1, te, by go_num, ⟨HST.out _ (HS1.out.above (by first | exact al1 _ _ | exact Cr _ _ _ _ _)) (HG1.out.below (by first | exact al1 _ _ | exact Cr _ _ _ _ _))⟩⟩
     case measure => omega
    have h6' : ¬ (tk : Int) = 6 := by omega
    have hno : Hm tk tx o1 = o1 + 1 := by unfold Hm; rw [if_neg (fun h => h6 h.1), if_neg (fun h => h6 h.1)]
    have HST := Keep.mk (fun W2 (h1 : ScP w W2 p s te) (h2 : GlobX W2) => show InnerS w W2 p s d f n 0 a g (o1 + 1) te by
     have := HS.out.step ht hk0 h1 h2; rwa [hno] at this)
    clear ht hno; go_wp2_with fail
    refine HC.out.mono ?_; rintro r w1 ⟨hr, j1, hs1, hl1, he1⟩; obtain rfl : te = j1 := (he1 rfl).symm; simp only [GJ, if_true] at hr; subst hr; have HS1 := Keep.mk (show ScP w w1 p s te from ⟨hs1.b, HS.out.sc.u.trans hs1.u⟩); have HG1 := Keep.mk (HS.out.glob.upd HS.out.sc.b hs1.u); clear hs1 hl1 he1; go_wp2
    go_roundg g
    case rel => exact ⟨o1 + 1, te, by go_num, ⟨HST.out _ (HS1.out.above (by first | exact al1 _ _ | exact Cr _ _ _ _ _)) (HG1.out.below (by first | exact al1 _ _ | exact Cr _ _ _ _ _))⟩⟩
    case measure => omega
   have HQ := Keep.mk (hq.symm.trans (if_pos her)); have hne : ¬ (er : Int) = 0 := by omega
   have hne2 : ¬ (er : Int) = 240 := by omega
   clear hq hcl hok herr ht hroom hle hgn hoklen; go_wp2_with fail
   refine HC.out.mono ?_; rintro r w1 ⟨hr, j1, hs1, hl1, _⟩; simp only [GJ, if_neg her] at hr; subst hr; have HS1 := Keep.mk (show ScP w w1 p s j1 from ⟨hs1.b, HS.out.sc.u.trans hs1.u⟩); have HL1 := Keep.mk hl1; clear hs1 hl1; go_wp2
   refine bodyPost_ret (v := .tuple #[.int .i64 (te : Int), .int .i64 (er : Int)]) ?_ rfl ?_
   ·simp [results, Tryz.results103, go_sem]
   exact ⟨j1, _, _, rfl, HS1.out.above (by first | exact al1 _ _ | exact Cr _ _ _ _ _), HL1.out, Or.inr (Or.inr ⟨hne, hne2, _, HQ.out, rfl, rfl⟩)⟩
open Go Go.RowKit Go.Proofs Th
theorem YK {m e : Int} (h : right m e = true) : (BF m e).length ≤ 24 := by
 have h1 := VN h; have hx := DX h; have hi := T8 e hx.1 hx.2; have hd : (Lib.decDigits m.natAbs).length = nd m := by rw [Lib.decDigits_length]; rfl
 have hs : (sgn m).length ≤ 1 := by unfold sgn; split <;> simp
 have h1 : nd m ≤ 18 := h1; unfold BF; split
 ·rename_i hc
  simp only [List.length_append, List.length_replicate]; omega
 split
 ·rename_i hc
  have hp : (pad m e).length ≤ 21 := by
   unfold pad; split
   ·rw [List.length_append, List.length_replicate]; omega
   omega
  simp only [List.length_append, List.length_take, List.length_drop, List.length_cons, List.length_nil]; omega
 simp only [List.length_append, List.length_cons, List.length_nil]; omega
end Go.Proofs.YtakncilicoefdaaGreatDoor
namespace Th
open Go Go.Lib
def Vf (t : Tf) : Nat := if Aj t = 2 then 2 else Aj t + 1
def V7 (t : Tf) : Nat := if Aj t = 2 then 1 else if Aj t = 3 ∨ Aj t = 6 then Aj t - 1 else Aj t
theorem PH (t : Tf) : Aj t ≤ 8 := by
 unfold Aj; repeat' split
 all_goals omega
theorem Nr (E : Env) (k i : Nat) : evP E (.binary k) i = A3 (evP E .minus i) fun n j => evP E (.binLoop k 8 n) j := by rw [AD]; rfl
theorem NH {E : Env} {i : Nat} (h : ¬ isT E i 1 ⟨#[100, 101, 102]⟩) : evP E .filter i = A3 (evP E (.binary 1) i) fun n j => if isT E j 6 ⟨#[124]⟩ then A3 (evP E .filter (j + 1)) fun m k => okP (Ax 8 ⟨#[]⟩ n m) k else okP n j := by
 rw [AD]; simp only [Ak]; rw [if_neg h]
theorem Nn {E : Env} {k top i : Nat} {n : NJ} (h : Aj (Aa E i) < k ∨ top < Aj (Aa E i) ∨ Aj (Aa E i) = 0) : evP E (.binLoop k top n) i = some (.ok n i) := by
 rw [AD]; simp only [Ak]; rw [if_pos h]; rfl
theorem Ya {E : Env} {k top i : Nat} {n : NJ} (h : ¬ (Aj (Aa E i) < k ∨ top < Aj (Aa E i) ∨ Aj (Aa E i) = 0)) :
  evP E (.binLoop k top n) i = A3 (evP E (.binary (Vf (Aa E i))) (i + 1)) fun m j => evP E (.binLoop k (V7 (Aa E i)) (B8 (Aa E i) n m)) j := by
 rw [AD]; simp only [Ak]; rw [if_neg h]; unfold Vf V7; by_cases h4 : Aj (Aa E i) = 2
 ·rw [if_pos h4, if_pos h4, if_pos h4]
 rw [if_neg h4, if_neg h4, if_neg h4]; by_cases h5 : Aj (Aa E i) = 3 ∨ Aj (Aa E i) = 6
 ·rw [if_pos h5, if_pos h5]
 rw [if_neg h5, if_neg h5]
def Nxt (q : Nat × ByteArray) : Prop := q.1 ≠ 3 ∧ q ≠ (6, ⟨#[63]⟩) ∧ q ≠ (6, ⟨#[91]⟩) ∧ q ≠ (6, ⟨#[46]⟩) ∧ q ≠ (1, ⟨#[97, 115]⟩)
instance (q : Nat × ByteArray) : Decidable (Nxt q) := by unfold Nxt; exact inferInstance
structure Atom (E : Env) (i : Nat) (n : NJ) (j : Nat) : Prop where
 m : evP E .minus i = some (.ok n j)
 d : ¬ isT E i 1 ⟨#[100, 101, 102]⟩
theorem Rs {E : Env} {i j : Nat} {n : NJ} {q : Nat × ByteArray} (h0 : tk (Aa E i) = q) (hq : q ≠ (6, ⟨#[45]⟩) ∧ q ≠ (1, ⟨#[100, 101, 102]⟩)) (hf : evP E .first i = some (.ok n j)) (h2 : Nxt (tk (Aa E j))) : Atom E i n j := by
 obtain ⟨n1, n2, n3, n4, n5⟩ := h2; have h4 : evP E (.termLoop n) j = some (.ok n j) := by
  rw [AD]; simp only [Ak]; rw [if_neg (show ¬ (Aa E j).kind = 3 from n1), if_neg (fun h => n2 (AV.1 h)), if_neg (fun h => n3 (AV.1 h)), if_neg (fun h => n4 (AV.1 h))]; rfl
 have h5 : evP E .term i = some (.ok n j) := by
  rw [AD]; simp only [Ak]; rw [hf]; exact h4
 refine ⟨?_, fun h => hq.2 (by rw [← h0]; exact AV.1 h)⟩; rw [AD]; simp only [Ak]; rw [if_neg (fun h => hq.1 (by rw [← h0]; exact AV.1 h)), h5]; show (if isT E j 1 ⟨#[97, 115]⟩ then _ else _) = _
 rw [if_neg (fun h => n5 (AV.1 h))]; rfl
theorem Gt {E : Env} {i : Nat} {s : ByteArray} (h0 : tk (Aa E i) = (6, s)) : evP E .first i = evP E (.sign s) i := by
 have hk : (Aa E i).kind = 6 := congrArg Prod.fst h0; have ht : (Aa E i).text = s := congrArg Prod.snd h0; rw [AD]; simp only [Ak]; rw [if_neg (by omega), if_neg (by omega), if_neg (by omega), if_neg (by omega), if_neg (by omega), if_pos hk, ht]
theorem J8 {E : Env} {k i j : Nat} {n : NJ} (hm : evP E .minus i = some (.ok n j)) (h : Aj (Aa E j) < k ∨ Aj (Aa E j) = 0) : evP E (.binary k) i = some (.ok n j) := by
 rw [Nr, hm]; exact Nn (h.imp id .inr)
theorem XK {E : Env} {k i j e : Nat} {x y : NJ} (hx : evP E .minus i = some (.ok x j)) (h0 : Aj (Aa E j) ≠ 0) (hk : k ≤ Aj (Aa E j)) (hy : evP E (.binary (Vf (Aa E j))) (j + 1) = some (.ok y e)) :
  evP E (.binary k) i = evP E (.binLoop k (V7 (Aa E j)) (B8 (Aa E j) x y)) e := by
 have := PH (Aa E j); rw [Nr, hx]; show evP E (.binLoop k 8 x) j = _
 rw [Ya (by omega), hy]; rfl
def Ka (q : Nat × ByteArray) (a b : NJ) : NJ := if q = (6, ⟨#[124]⟩) then Ax 8 ⟨#[]⟩ a b else B8 ⟨q.1, q.2, 0⟩ a b
def JM (q : Nat × ByteArray) : Nat := Aj ⟨q.1, q.2, 0⟩
theorem Jy {t : Tf} {q : Nat × ByteArray} (h : tk t = q) : Aj t = JM q := Ky h
theorem Yx {t : Tf} {q : Nat × ByteArray} (h : tk t = q) (hq : q ≠ (6, ⟨#[124]⟩)) (a b : NJ) : B8 t a b = Ka q a b := by unfold Ka; rw [if_neg hq]; exact Uc h a b
theorem V9 : JM (6, ⟨#[124]⟩) = 0 := by decide
def Ok (q : Nat × ByteArray) : Prop := JM q = 0 ∧ q ≠ (6, ⟨#[124]⟩)
instance (q : Nat × ByteArray) : Decidable (Ok q) := by unfold Ok; exact inferInstance
theorem Mr {E : Env} {i e : Nat} {n : NJ} (hd : ¬ isT E i 1 ⟨#[100, 101, 102]⟩) (h : evP E (.binary 1) i = some (.ok n e)) (he : tk (Aa E e) ≠ (6, ⟨#[124]⟩)) : evP E .filter i = some (.ok n e) := by
 rw [NH hd, h]; show (if isT E e 6 ⟨#[124]⟩ then _ else _) = _
 rw [if_neg (fun h => he (AV.1 h))]; rfl
theorem QG {E : Env} {i j e : Nat} {n m : NJ} (hd : ¬ isT E i 1 ⟨#[100, 101, 102]⟩) (h : evP E (.binary 1) i = some (.ok n j)) (hj : tk (Aa E j) = (6, ⟨#[124]⟩)) (hm : evP E .filter (j + 1) = some (.ok m e)) : evP E .filter i = some (.ok (Ax 8 ⟨#[]⟩ n m) e) := by
 rw [NH hd, h]; show (if isT E j 6 ⟨#[124]⟩ then _ else _) = _
 rw [if_pos (AV.2 hj), hm]; rfl
theorem Ia {E : Env} {i e : Nat} {x : NJ} (hx : Atom E i x e) (he : Ok (tk (Aa E e))) : evP E .filter i = some (.ok x e) :=
 Mr hx.d (J8 hx.m (.inr ((Jy rfl).trans he.1))) he.2
theorem Zu {E : Env} {i j e : Nat} {x y : NJ} {q : Nat × ByteArray} (hx : Atom E i x j) (hq : tk (Aa E j) = q) (hs : q = (6, ⟨#[124]⟩) ∨ JM q ≠ 0) (hy : Atom E (j + 1) y e) (he : Ok (tk (Aa E e))) : evP E .filter i = some (.ok (Ka q x y) e) := by
 have he0 : Aj (Aa E e) = 0 := (Jy rfl).trans he.1; by_cases hp : q = (6, ⟨#[124]⟩)
 ·subst hp
  exact QG hx.d (J8 hx.m (.inr ((Jy hq).trans V9))) hq (Ia hy he)
 have hs : JM q ≠ 0 := hs.resolve_left hp; have h1 := Jy hq; refine Mr hx.d ?_ he.2; rw [XK hx.m (by omega) (by omega) (J8 hy.m (.inr he0)), Nn (.inr (.inr he0)), Yx hq hp]
/-! texts -/
def Flt (P : List UInt8) (n : NJ) : Prop := ∃ l, Bp P = (l, 0, 0) ∧ evP (B5 P 0) .filter 0 = some (.ok n l.length)
theorem MG {P : List UInt8} {l : List Tf} {x : Nat × Nat} (h : Bp P = (l, x)) (b : Nat) : (B5 P b).l = l := by unfold B5; rw [h]
theorem Oi (E : Env) : evP E .whole 0 = A3 (evP E .filter 0) fun n j => if j < E.l.length then Da E j 60 else okP n j := by rw [AD]; rfl
theorem Ur {P : List UInt8} {l : List Tf} {n : NJ} {j : Nat} (h : Bp P = (l, 0, 0)) (hw : evP (B5 P 0) .whole 0 = some (.ok n j)) : Flt P n := by
 refine ⟨l, h, ?_⟩; rw [Oi, MG h] at hw; cases hf : evP (B5 P 0) .filter 0 with
 | none => rw [hf] at hw; cases hw
 | some r =>
  rw [hf] at hw; cases r with
  | bad a e => cases hw
  | ok m k =>
   obtain ⟨f, hff⟩ := Mj hf; have hb := (Ju f _ _ _ (show Lu (B5 P 0) 0 .filter from Nat.zero_le _) m k hff).2; rw [MG h] at hb; replace hw : (if k < l.length then Da (B5 P 0) k 60 else okP m k) = some (.ok n j) := hw; split at hw
   ·cases hw
   cases hw; rw [show l.length = j by omega]
theorem S1 {P : List UInt8} {n : NJ} (h : Flt P n) : ∃ j, evP (B5 P 0) .whole 0 = some (.ok n j) := by
 obtain ⟨l, h1, h2⟩ := h; refine ⟨l.length, ?_⟩; rw [Oi, h2, MG h1]; show (if l.length < l.length then _ else _) = _
 rw [if_neg (Nat.lt_irrefl _)]; rfl
theorem O1 {E : Env} {A : List (Nat × ByteArray)} {i : Nat} (h : E.l.map tk = A) (hi : i = A.length) : tk (Aa E i) = (0, ⟨#[]⟩) := by
 rw [Re (by rw [hi, ← h, List.length_map]; exact Nat.le_refl _)]; rfl
def par (P : List UInt8) : List UInt8 := 40 :: (P ++ [10, 41])
end Th
