/- Lemmas and contracts. Conditions: those that each lemma names. -/
import Derived.Test.YtakncilicoefdaaGreatDoorPc14
import Derived.Test.YtakncilicoefdaaGreatDoorPc3
import Derived.Test.YtakncilicoefdaaGreatDoorPc11
import Derived.Test.YtakncilicoefdaaGreatDoorPc10
import Derived.Test.YtakncilicoefdaaGreatDoorPc12
import Derived.Test.YtakncilicoefdaaGreatDoorPc13
import Derived.StillTailTactics
set_option maxRecDepth 100000
set_option maxHeartbeats 4000000
namespace Go.Proofs.YtakncilicoefdaaGreatDoor
open Go Go.RowKit Go.Proofs Th
section
variable {P : Program} {X : Ctx} {E : AEnv} {S : CS} {s : ASt} {a : Act} {W : World} {o : Oper} {K : FV → (Nat → AObj) → Prop} {Q : Exit → Act → World → Prop}
theorem rep_cells {x : IV} {u : Value} (h : Rep W S x u) (h1 : (cellsOf x).all IV.one = true) : RepL W S (cellsOf x) u.cells.toList ∧ ∀ v ∈ u.cells.toList, v.oneCell' = true := by
 cases h with
 | agg hl hR =>
  refine ⟨⟨by simpa [Value.cells, cellsOf] using hl, by simpa [Value.cells, cellsOf] using hR⟩, fun v hv => ?_⟩; simp only [Value.cells] at hv; obtain ⟨k, hk, rfl⟩ := List.mem_iff_getElem.1 (by simpa using hv); rename_i cs us
  exact (hR k (cs[k]'(by omega)) us[k] (List.getElem?_eq_getElem _) (List.getElem?_eq_getElem _)).one (List.all_eq_true.1 h1 _ (List.getElem_mem _))
 | v =>
  have h2 : u.oneCell' = true := by simpa [cellsOf, IV.one] using h1
  have hz : u.cells = #[u] := by revert h2; cases u <;> intro h2 <;> first | rfl | cases h2
  rw [hz]; exact ⟨RepL.cons (.v u) (RepL.nil W S), by simpa using h2⟩
 | sl esz f g1 g2 g3 g4 g5 hA hR => exact ⟨RepL.cons (.sl esz f g1 g2 g3 g4 g5 hA hR) (RepL.nil W S), by simp [Value.cells, Value.oneCell']⟩
 | elt g oo f g1 hA hR => exact ⟨RepL.cons (.elt g oo f g1 hA hR) (RepL.nil W S), by simp [Value.cells, Value.oneCell']⟩
 | tup hl hR => simp [cellsOf, IV.one] at h1
theorem fold_seg : ∀ (vs : List Value) (off j : Nat) (cells : Array Value), off + j + vs.length ≤ cells.size →
  ((vs.zipIdx j).foldl (fun (cs : Array Value) (p : Value × Nat) => cs.setIfInBounds (off + p.2) p.1) cells).toList = setSeg cells.toList (off + j) vs
 | [], off, j, cells, h => by simp [setSeg]
 | v :: r, off, j, cells, h => by
  simp only [List.length_cons] at h; rw [List.zipIdx_cons, List.foldl_cons, fold_seg r off (j + 1) _ (by simp; omega)]; simp only [Array.toList_setIfInBounds]; apply List.ext_getElem?; intro i; rw [seg_get _ _ _ (by simp; omega), seg_get _ _ _ (by simp; omega), List.getElem?_set]; simp only [List.length_cons]; by_cases h1 : i < off + j
  ·rw [if_pos (by omega), if_pos h1, if_neg (by omega)]
  rw [if_neg h1]; by_cases h2 : i = off + j
  ·subst h2
   rw [if_pos (by omega), if_pos rfl, if_pos (by simp; omega), if_pos (by omega), Nat.sub_self]; rfl
  by_cases h3 : i < off + j + (r.length + 1)
  ·rw [if_neg (by omega), if_pos (by omega), if_pos h3, show i - (off + j) = (i - (off + (j + 1))) + 1 by omega]; rfl
  rw [if_neg (by omega), if_neg (by omega), if_neg h3, if_neg (by omega)]
theorem places_get {fields : List Field} {fs : List FI} (h : fisOf P fields = some fs) : fields.mapM (fun f => (P.info? f.type).map fun i => (f.offset, i.size)) = some (fs.map fun f => (f.off, f.size)) := by
 induction fields generalizing fs with
 | nil => injection h with h; subst h; rfl
 | cons d r ih =>
  simp only [fisOf] at h; split at h
  ·rename_i x y hx hy
   injection h with h; subst h; unfold fiOf at hx; split at hx
   ·rename_i i dd hi hu
    split at hx
    ·injection hx with hx; subst hx
     rw [List.mapM_cons, hi, ih hy]; rfl
    cases hx
   cases hx
  cases h
theorem afill_rep (h : RelE X E S s a W) (fs : List FI) : ∀ (parts : List (Nat × Operand)) (cells : List IV) (us : Array Value) (cs : List IV), RepL W S cells us.toList → afill s fs cells parts = some cs →
  ∃ vs : Array Value, Instr.fill ((fs.map fun f => (f.off, f.size)).toArray[·]?) us (parts.map fun p => (p.1, a.eval p.2)) = some vs ∧ RepL W S cs vs.toList
 | [], cells, us, cs, hR, hf => by
  injection hf with hf; subst hf; exact ⟨us, rfl, hR⟩
 | (i, x) :: r, cells, us, cs, hR, hf => by
  simp only [afill] at hf; split at hf
  ·rename_i f y hfi hy
   split at hf
   ·rename_i hc
    obtain ⟨c1, c2, c3⟩ := hc; have hrep := toIV_rep h (eval_rep h x) hy; obtain ⟨hcl, hone⟩ := rep_cells hrep c3; have hsz : us.size = cells.length := by simpa using hR.1
    have hlen : (a.eval x).cells.size = f.size := by have := hcl.1; simp at this; omega
    have hfold := fold_seg (a.eval x).cells.toList f.off 0 us (by simp; omega); have hR2 : RepL W S (setSeg cells f.off (cellsOf y)) (((a.eval x).cells.toList.zipIdx 0).foldl (fun (cs : Array Value) (p : Value × Nat) => cs.setIfInBounds (f.off + p.2) p.1) us).toList := by
     rw [hfold, Nat.add_zero]; have e1 : f.off + (cellsOf y).length ≤ cells.length := by omega
     have e2 : f.off + (a.eval x).cells.toList.length ≤ us.toList.length := by simp; omega
     refine ⟨by rw [seg_len _ _ _ e2, seg_len _ _ _ e1]; exact hR.1, fun k z u hz hu => ?_⟩; rw [seg_get _ _ _ e1] at hz; rw [seg_get _ _ _ e2, hcl.1] at hu; by_cases g1 : k < f.off
     ·rw [if_pos g1] at hz hu; exact hR.2 k z u hz hu
     rw [if_neg g1] at hz hu; by_cases g2 : k < f.off + (cellsOf y).length
     ·rw [if_pos g2] at hz hu; exact hcl.2 _ z u hz hu
     rw [if_neg g2] at hz hu; exact hR.2 k z u hz hu
    obtain ⟨vs, hv1, hv2⟩ := afill_rep h fs r _ _ cs hR2 hf; refine ⟨vs, ?_, hv2⟩; rw [List.map_cons, Instr.fill]; have hget : (fs.map fun f => (f.off, f.size)).toArray[i]? = some (f.off, f.size) := by simp [hfi]
    rw [hget]; simp only; rw [if_neg (by simp only [Bool.or_eq_true, decide_eq_true_eq, not_or]; exact ⟨by simpa using hlen, by rw [hlen]; simp; omega⟩)]; rw [← hv1]; congr 1
    rw [← Array.foldl_toList]; simp
   cases hf
  cases hf
theorem arrFI_get (n esz i : Nat) (x : Nat × Nat) (h : (((arrFI n esz).map fun f => (f.off, f.size)).toArray)[i]? = some x) : x = (i * esz, esz) := by
 unfold arrFI at h; simp only [List.getElem?_toArray, List.getElem?_map, Option.map_map] at h; cases hr : (List.range n)[i]? with
 | none => rw [hr] at h; cases h
 | some j =>
  rw [hr] at h; obtain ⟨h1, h2⟩ := List.getElem?_eq_some_iff.1 hr; rw [List.getElem_range] at h2; subst h2; injection h with h; exact h.symm
theorem fill_more {p q : Nat → Option (Nat × Nat)} (hpq : ∀ i x, p i = some x → q i = some x) : ∀ {parts : List (Nat × Value)} {us vs : Array Value}, Instr.fill p us parts = some vs → Instr.fill q us parts = some vs
 | [], us, vs, h => h
 | (i, v) :: r, us, vs, h => by
  simp only [Instr.fill] at h ⊢; cases hp : p i with
  | none => rw [hp] at h; cases h
  | some x =>
   rw [hp] at h; rw [hpq i x hp]; dsimp only at h ⊢; split at h
   ·cases h
   rename_i hc
   rw [if_neg hc]; exact fill_more hpq h
theorem val_build (h : RelE X E S s a W) {t : TypeId} {parts : Array (Nat × Operand)} (ho : o.op = .build t parts) (hop : aval P (.build t parts) o.dst s K) : Out P X s a W o K Q := by
 simp only [aval] at hop; split at hop
 ·rename_i fs z hti
  split at hop
  ·rename_i cs hcs
   obtain ⟨fields, i, h1, h2, h3, h4, h5, h6⟩ := ti_struct hti; have hz : RepL W S (z.map lift) z.toArray.toList := by
    refine ⟨by simp, fun k x u hx hu => ?_⟩; rw [List.getElem?_map, show z[k]? = some u from hu] at hx; simp only [Option.map_some, Option.some.injEq] at hx; subst hx; exact Rep.lift W S u
   obtain ⟨vs, hv1, hv2⟩ := afill_rep h fs parts.toList _ z.toArray cs hz hcs; have hrun := run_build (P := P) W t (parts.map fun p => (p.1, a.eval p.2)) vs (by
    unfold Program.built; rw [h2, h1]; simp only [h3, places_get h6]; rw [← hv1]; simp [Value.cells])
   refine out_same h (u := .agg vs) ?_ hop ?_
   ·simp [execOp, ho, hrun]
   have := Rep.agg hv2.1 hv2.2; rw [show vs.toList.toArray = vs by simp] at this; exact this
  exact hop.elim
 ·split at hop
  ·rename_i ar har
   obtain ⟨n, esz, z⟩ := ar; obtain ⟨e, i, j, h1, h2, h3, h4, h5, h6, h7, h8⟩ := arr_of har; split at hop
   ·rename_i cs hcs
    have hz : RepL W S (z.map lift) z.toArray.toList := by
     refine ⟨by simp, fun k x u hx hu => ?_⟩; rw [List.getElem?_map, show z[k]? = some u from hu] at hx; simp only [Option.map_some, Option.some.injEq] at hx; subst hx; exact Rep.lift W S u
    obtain ⟨vs, hv1, hv2⟩ := afill_rep h (arrFI n esz) parts.toList _ z.toArray cs hz hcs; have hv1' := fill_more (q := fun i => some (i * esz, esz)) (fun i x hx => by rw [arrFI_get n esz i x hx]) hv1; have hrun := run_build (P := P) W t (parts.map fun p => (p.1, a.eval p.2)) vs (by
     unfold Program.built; rw [h2, h1]; simp only [h3, h6, h7]; rw [← hv1']; simp [Value.cells])
    refine out_same h (u := .agg vs) ?_ hop ?_
    ·simp [execOp, ho, hrun]
    have := Rep.agg hv2.1 hv2.2; rw [show vs.toList.toArray = vs by simp] at this; exact this
   exact hop.elim
  exact hop.elim
 exact hop.elim
theorem RelE.newrow (h : RelE X E S s a W) (cells : Array Value) (ty : TypeId) : RelE X E (fun g o => S g o ∨ g = W.heap.size) s a (W.alloc (.cells cells ty)) := by
 have hb := al1 W (.cells cells ty); have hsz : (W.alloc (.cells cells ty)).heap.size = W.heap.size + 1 := by simp
 exact h.core (fun _ => False) s.st E _ _ (fun _ _ => ⟨rfl, rfl, rfl⟩) rfl (fun _ hj => hj.elim) rfl rfl rfl (by omega) (fun g hg _ => hb.block g hg) (fun g o ho => hb.cell (p := ⟨g, o, none⟩) (h.Sb g o ho)) (fun _ _ h => Or.inl h)
  (fun g o ho => ho.imp id (fun e => Or.inl (by omega))) (fun g o (ho : S g o ∨ g = W.heap.size) => ho.elim (fun ho => by have := h.Sb g o ho; omega) (fun e => by omega)) (fun _ hj => hj.elim) (fun _ _ hj => hj.elim) (fun _ _ _ hj => hj.elim)
theorem aelems_rep (h : RelE X E S s a W) (esz : Nat) : ∀ (parts : List (Nat × Operand)) (k : Nat) (es : List (List IV)), aelems s esz k parts = some es →
  es.length = parts.length ∧ (∀ e ∈ es, e.length = esz ∧ ∀ x ∈ e, x.one = true) ∧ parts.map (fun p => (p.1, a.eval p.2)) = ((parts.map fun p => a.eval p.2).zipIdx k).map (fun x => (x.2, x.1)) ∧
  (∀ v ∈ parts.map (fun p => a.eval p.2), v.cells.size = esz) ∧ ∀ (j i : Nat) e x u, es[j]? = some e → e[i]? = some x → ((parts.map fun p => a.eval p.2).flatMap fun v => v.cells.toList)[j * esz + i]? = some u → Rep W S x u
 | [], k, es, he => by
  injection he with he; subst he; exact ⟨rfl, fun e h => (by cases h), rfl, fun v h => (by cases h), fun j i e x u h => (by simp at h)⟩
 | (i, x) :: r, k, es, he => by
  simp only [aelems] at he; split at he
  ·rename_i y l hy hl
   split at he
   ·rename_i hc
    obtain ⟨c1, c2, c3⟩ := hc; injection he with he; subst he; subst c1; obtain ⟨h1, h2, h3, h4, h5⟩ := aelems_rep h esz r _ l hl; have hrep := toIV_rep h (eval_rep h x) hy; obtain ⟨hcl, hone⟩ := rep_cells hrep c3; have hlen : (a.eval x).cells.toList.length = esz := hcl.1.trans c2; refine ⟨by simp [h1], fun e he => ?_, by rw [List.map_cons, List.map_cons, List.zipIdx_cons, List.map_cons, h3], fun v hv => ?_, fun j q e z u he hz hu => ?_⟩
    ·rcases List.mem_cons.1 he with rfl | he
     ·exact ⟨by simp [c2], fun z hz => by
       obtain ⟨w, hw, rfl⟩ := List.mem_map.1 hz; rw [IV.er1_one]; exact List.all_eq_true.1 c3 w hw⟩
     exact h2 e he
    ·rw [List.map_cons] at hv
     rcases List.mem_cons.1 hv with rfl | hv
     ·simpa using hlen
     exact h4 v hv
    rw [List.map_cons, List.flatMap_cons] at hu; cases j with
    | zero =>
     simp only [List.getElem?_cons_zero, Option.some.injEq] at he; subst he; rw [List.getElem?_map] at hz; cases hq : (cellsOf y)[q]? with
     | none => rw [hq] at hz; cases hz
     | some w =>
      rw [hq] at hz; simp only [Option.map_some, Option.some.injEq] at hz; subst hz; have hlt := (List.getElem?_eq_some_iff.1 hq).1; rw [Nat.zero_mul, Nat.zero_add, List.getElem?_append_left (by show q < (a.eval x).cells.toList.length; omega)] at hu; exact (hcl.2 q w u hq hu).er1
    | succ j =>
     rw [List.getElem?_append_right (by rw [hlen, Nat.add_mul]; omega), hlen, show (j + 1) * esz + q - esz = j * esz + q by rw [Nat.add_mul]; omega] at hu; exact h5 j q e z u he hz hu
   cases he
  cases he
theorem val_buildSlice (h : RelE X E S s a W) {t : TypeId} {n : Nat} {parts : Array (Nat × Operand)} (ho : o.op = .buildSlice t n parts) (hop : aval P (.buildSlice t n parts) o.dst s K) : Out P X s a W o K Q := by
 simp only [aval] at hop; split at hop
 ·rename_i el esz hti
  split at hop
  ·rename_i es hes
   obtain ⟨⟨g1, g2, g3⟩, hK⟩ := hop; obtain ⟨i, j, z, i1, i2, i3, i4, i5, i6, i7, i8, i9, i10⟩ := ti_slice hti; obtain ⟨h1, h2, h3, h4, h5⟩ := aelems_rep h esz parts.toList 0 es hes; have hpl : (parts.toList.map fun p => a.eval p.2).length = n := by rw [List.length_map, ← h1, g1]
   have hfill := Go.Great.fill_whole (s := esz) i9 (parts.toList.map fun p => a.eval p.2) ((Array.range (n * esz)).map (z.cells[· % z.cells.size]!)) h4 (by rw [hpl]; simp); have hrun := run_buildSlice (P := P) W t el n (parts.map fun p => (p.1, a.eval p.2)) ((parts.toList.map fun p => a.eval p.2).flatMap fun v => v.cells.toList).toArray j z i1 i5 i6 (by rw [i8]; omega) (by rw [i8]; have := Nat.mul_pos g2 i9; omega) (by
    rw [i8, ← hfill, ← h3]; simp)
   have hN := h.newrow ((parts.toList.map fun p => a.eval p.2).flatMap fun v => v.cells.toList).toArray el; refine out_run (c := .im (.sl es true)) (u := .slice (some ⟨W.heap.size, 0, none⟩) n n) ?_ hK hN ?_
   ·simp [execOp, ho, hrun]
   subst g1; have hfl : ∀ k, k < es.length * esz → ∃ u, ((parts.toList.map fun p => a.eval p.2).flatMap fun v => v.cells.toList)[k]? = some u := fun k hk => by
    rw [Go.Great.flat_get i9 _ h4 k]; have hk2 : k / esz < (parts.toList.map fun p => a.eval p.2).length := by rw [hpl]; exact (Nat.div_lt_iff_lt_mul i9).2 hk
    rw [List.getElem?_eq_getElem hk2]; have := h4 _ (List.getElem_mem hk2); rw [Option.bind_some]; refine ⟨_, Array.getElem?_eq_getElem ?_⟩; rw [this]; exact Nat.mod_lt _ i9
   refine .sl esz (fun j i => (((parts.toList.map fun p => a.eval p.2).flatMap fun v => v.cells.toList)[j * esz + i]?).getD undef) (Nat.le_refl _) (by have := Nat.mul_le_mul_left es.length i9; omega) (by have := Nat.mul_le_mul_left es.length i9; omega) (fun _ => rfl) h2 (fun _ => ⟨W.heap.size, 0, rfl, fun j i hj hi => ⟨Or.inr rfl, ?_⟩⟩) (fun j i e x he hx => ?_)
   ·have hlt : j * esz + i < es.length * esz := by
     have := Nat.mul_le_mul_right esz (show j + 1 ≤ es.length from hj); rw [Nat.add_mul] at this; omega
    obtain ⟨u, hu⟩ := hfl _ hlt; rw [hu, Nat.zero_add]; rw [World.cell?, heap_alloc_new]; simp only [Option.isSome_none, Bool.false_eq_true, if_false]; simpa using hu
   have hj := (List.getElem?_eq_some_iff.1 he).1; have hi := (List.getElem?_eq_some_iff.1 hx).1; rw [(h2 e (List.mem_of_getElem? he)).1] at hi; have hlt : j * esz + i < es.length * esz := by
    have := Nat.mul_le_mul_right esz (show j + 1 ≤ es.length from hj); rw [Nat.add_mul] at this; omega
   obtain ⟨u, hu⟩ := hfl _ hlt; simp only [hu, Option.getD_some]; exact (h5 j i e x u he hx hu).keep (fun g o hg => (al1 W _).cell (p := ⟨g, o, none⟩) (h.Sb g o hg)) (fun _ _ h => Or.inl h)
  exact hop.elim
 exact hop.elim
theorem val_fieldAddr (h : RelE X E S s a W) {t : TypeId} {x : Operand} {f : Nat} (ho : o.op = .fieldAddr t x f) (hop : aval P (.fieldAddr t x f) o.dst s K) : Out P X s a W o K Q := by
 simp only [aval] at hop; have he := eval_rep h x; split at hop
 ·rename_i fs z hti
  obtain ⟨fields, i, h1, h2, h3, h4, h5, h6⟩ := ti_struct hti; have key : ∀ (fi : FI) (g off : Nat), fs[f]? = some fi → (Instr.fieldAt t (.pointer (some ⟨g, off, none⟩)) f).run P W = .ok (.pointer (some ⟨g, off + fi.off, none⟩)) W := by
   intro fi g off hfi; obtain ⟨fd, hfd, hof⟩ := fis_get h6 f fi hfi; unfold fiOf at hof; split at hof
   ·rename_i ii dd hi hu
    split at hof
    ·rename_i hpos
     injection hof with hof; subst hof; have hfd' : fields[f]? = some fd := by simpa using hfd
     simp [Instr.fieldAt, run_underlying h1, hfd', Instr.sureAddr, fieldPlace, sizeOf, typeInfo, hi, Nat.ne_of_gt hpos, add_at]
    cases hof
   cases hof
  split at hop
  ·rename_i fi b off hfi hx
   have hp := eval_ptr h hx; rw [hx] at he; exact out_same h (u := .pointer (some ⟨E.box b, off + fi.off, none⟩)) (by simp [execOp, ho, hp, key fi _ _ hfi]) hop ⟨he.1, rfl⟩
  ·rename_i fi cs off hfi hx
   rw [hx] at he; revert he
   generalize hu : a.eval x = w; intro he; cases he with
   | elt g oo fv g1 hA hR =>
    refine out_same h (u := .pointer (some ⟨g, oo + off + fi.off, none⟩)) (by simp [execOp, ho, hu, key fi _ _ hfi]) hop ?_; rw [Nat.add_assoc]; exact Rep.elt g oo fv g1 hA hR
  exact hop.elim
 exact hop.elim
theorem val_field (h : RelE X E S s a W) {t : TypeId} {x : Operand} {f : Nat} (ho : o.op = .field t x f) (hop : aval P (.field t x f) o.dst s K) : Out P X s a W o K Q := by
 simp only [aval] at hop; have he := eval_rep h x; split at hop
 ·rename_i fs z hti
  obtain ⟨fields, i, h1, h2, h3, h4, h5, h6⟩ := ti_struct hti; split at hop
  ·rename_i fi cs hfi hx
   obtain ⟨hag, hop⟩ := hop; split at hop
   ·rename_i y hy
    rw [hx] at he; revert he
    generalize hu : a.eval x = w; intro he; cases he with
    | agg hl hR =>
     rename_i us
     have hlt := (List.getElem?_eq_some_iff.1 hy).1; have hus : us[fi.off]? = some (us[fi.off]'(by omega)) := List.getElem?_eq_getElem _; obtain ⟨fd, hfd, hof⟩ := fis_get h6 f fi hfi; have hfd' : fields[f]? = some fd := by simpa using hfd
     unfold fiOf at hof; split at hof
     ·rename_i ii dd hi hu2
      split at hof
      ·rename_i hpos
       injection hof with hof; subst hof; replace hlt : fd.offset < cs.length := hlt; have hia : (isAgg fd.type).run P W = .ok false W := by
        simp only [isAgg, run_underlying hu2, Sem.run_bind, Result.andThen_ok]; cases dd <;> first | rfl | cases hag
       refine out_same h (u := us[fd.offset]'(by omega)) ?_ hop (hR _ y _ hy hus); have hus2 : us.toArray[fd.offset]? = some (us[fd.offset]'(by omega)) := by rw [List.getElem?_toArray]; exact hus
       simp only [execOp, ho, hu, Instr.field, run_underlying h1, Sem.run_bind, Result.andThen_ok, hfd', asAgg, Sem.run_pure, part, hia, Bool.false_eq_true, if_false, hus2]
      cases hof
     cases hof
   exact hop.elim
  exact hop.elim
 exact hop.elim
theorem toSl_rep (h : RelE X E S s a W) {c : FV} {u : Value} {es : List (List IV)} (hc : RepF W S E s.st c u) (hx : toSl s.st c = some es) : ∃ full, Rep W S (.sl es full) u := by
 unfold toSl at hx; split at hx
 ·rename_i es' full hs
  injection hx with hx; subst hx; exact ⟨full, toIV_rep h hc hs⟩
 cases hx
theorem val_indexAddr (h : RelE X E S s a W) {t : TypeId} {x i : Operand} (ho : o.op = .indexAddr t x i) (hop : aval P (.indexAddr t x i) o.dst s K) : Out P X s a W o K Q := by
 simp only [aval] at hop; split at hop
 ·rename_i el esz hti
  split at hop
  ·rename_i es k n hx hi
   obtain ⟨h0, e, he, hel, hK⟩ := hop; have hi' := eval_v h hi; obtain ⟨full, hrep⟩ := toSl_rep h (eval_rep h x) hx; obtain ⟨i', j', z, i1, i2, i3, i4, i5, i6, i7, i8, i9, i10⟩ := ti_slice hti; revert hrep
   generalize hu : a.eval x = w; intro hrep; cases hrep with
   | sl ez f g1 g2 g3 g4 g5 hA hR =>
    have hlt := (List.getElem?_eq_some_iff.1 he).1; obtain ⟨g, oo, rfl, hc⟩ := hA (by omega); obtain rfl : esz = ez := hel.symm.trans (g5 e (List.mem_of_getElem? he)).1; have hsz : (sizeOf el).run P W = .ok esz W := by simp [sizeOf, typeInfo, i5, i8]
    have hel2 : P.elem t = el := by simp [Program.elem, i1]
    rename_i c
    have hrun := run_indexAt_slice (P := P) W t ⟨g, oo, none⟩ es.length c k n (by rw [hel2]; exact i1); rw [if_pos ⟨h0, by omega⟩, hel2, hsz] at hrun; simp only [Result.andThen_ok, add_at] at hrun; refine out_same h (c := .im (.elt e 0)) (u := .pointer (some ⟨g, oo + n.toNat * esz, none⟩)) (by simp only [execOp, ho, hu, hi', hrun, Sem.run_bind, Sem.run_pure, Result.andThen_ok]) hK ?_; exact Rep.elt (off := 0) g (oo + n.toNat * esz) (f n.toNat) (g5 e (List.mem_of_getElem? he)).2 (fun i hi => hc n.toNat i hlt (by omega)) (fun i x hx => hR n.toNat i e x he hx)
  exact hop.elim
 ·split at hop
  ·rename_i ar b off k n har hx hi
   obtain ⟨len, esz, z⟩ := ar; obtain ⟨⟨h0, h1⟩, hK⟩ := hop; obtain ⟨e, i', j, e1, e2, e3, e4, e5, e6, e7, e8⟩ := arr_of har; have hi' := eval_v h hi; have hp := eval_ptr h hx; have he := eval_rep h x; rw [hx] at he; have hel : P.elem t = e := by simp [Program.elem, e1]
   have hln : P.arrayLen t = len := by simp [Program.arrayLen, e1]
   have hsz : (sizeOf e).run P W = .ok esz W := by simp [sizeOf, typeInfo, e6, e7]
   have hrun := run_indexAt_array (P := P) W t ⟨E.box b, off, none⟩ k n (by rw [hel, hln]; exact e1); rw [hln, if_pos ⟨h0, h1⟩, hel, hsz] at hrun; simp only [Result.andThen_ok, add_at] at hrun; exact out_same h (u := .pointer (some ⟨E.box b, off + n.toNat * esz, none⟩)) (by simp only [execOp, ho, hp, hi', hrun, Sem.run_bind, Sem.run_pure, Result.andThen_ok]) hK ⟨he.1, rfl⟩
  exact hop.elim
 exact hop.elim
theorem val_index (h : RelE X E S s a W) {t : TypeId} {x i : Operand} (ho : o.op = .index t x i) (hop : aval P (.index t x i) o.dst s K) : Out P X s a W o K Q := by
 simp only [aval] at hop; split at hop
 ·rename_i b k n ht hx hi
  obtain ⟨h0, c, hc, hK⟩ := hop; have hx' := eval_v h hx; have hi' := eval_v h hi; have hlt := (List.getElem?_eq_some_iff.1 hc).1; have hget : b[n.toNat]? = some c := by
   have hlt2 : n.toNat < b.size := by have := hlt; rwa [Array.length_toList] at this
   obtain ⟨_, hcc⟩ := List.getElem?_eq_some_iff.1 hc; have : b[n.toNat] = c := by rw [← hcc]; rfl
   rw [getElem?_pos b n.toNat hlt2, this]
  have hrun : (Instr.index t (.string b) (.int k n)).run P W = .ok (.int .u8 c.toNat) W := by
   unfold Instr.index; simp only [asIntOf, Sem.run_bind, Sem.run_pure, Result.andThen_ok, run_underlying ht]; rw [if_pos h0, hget]; rfl
  exact out_same h (u := .int .u8 c.toNat) (by simp only [execOp, ho, hx', hi', hrun, Sem.run_bind, Sem.run_pure, Result.andThen_ok]) hK (.v _)
 exact hop.elim
theorem val_slice (h : RelE X E S s a W) {t : TypeId} {x : Operand} {lo hi : Option Operand} (ho : o.op = .slice t x lo hi none) (hop : aval P (.slice t x lo hi none) o.dst s K) : Out P X s a W o K Q := by
 simp only [aval] at hop; split at hop
 ·rename_i b ht hx
  have hx' := eval_v h hx; have key : ∀ (l hh : Int), (0 ≤ l ∧ l ≤ hh ∧ hh ≤ b.size) → ∀ (lo' hi' : Option Value), (lo' = none ∧ l = 0 ∨ ∃ k, lo' = some (.int k l)) → (hi' = none ∧ hh = b.size ∨ ∃ k, hi' = some (.int k hh)) →
    (Instr.sliceAt t (.string b) lo' hi' none).run P W = .ok (.string (b.extract l.toNat hh.toNat)) W := by
   intro l hh hb lo' hi' hl hh'; rcases hl with ⟨rfl, rfl⟩ | ⟨k, rfl⟩ <;> rcases hh' with ⟨rfl, rfl⟩ | ⟨k2, rfl⟩
   ·simp [Instr.sliceAt, Instr.slice, Instr.sliceBounds, run_underlying ht]
   ·simp [Instr.sliceAt, Instr.slice, Instr.sliceBounds, Instr.sliceBound, asIntOf, run_underlying ht, hb.2.2, hb.2.1]
   ·have : l.toNat ≤ b.size := by omega
    simp [Instr.sliceAt, Instr.slice, Instr.sliceBounds, Instr.sliceBound, asIntOf, run_underlying ht, hb.1, hb.2.1]
   have h1 : 0 ≤ hh := by omega
   have h2 : l ≤ max hh 0 := by omega
   simp [Instr.sliceAt, Instr.slice, Instr.sliceBounds, Instr.sliceBound, asIntOf, run_underlying ht, hb.1, hb.2.2, h1, h2]
  have idx : ∀ (d : Nat) (y : Option Operand) (K : Int → Prop), aidx s d y K → ∃ n, K n ∧ (y.map a.eval = none ∧ n = d ∨ ∃ k, y.map a.eval = some (.int k n)) := by
   intro d y K hy; cases y with
   | none => exact ⟨d, hy, Or.inl ⟨rfl, rfl⟩⟩
   | some y =>
    simp only [aidx] at hy; split at hy
    ·rename_i k n hv
     exact ⟨n, hy, Or.inr ⟨k, by simp [eval_v h hv]⟩⟩
    exact hy.elim
  obtain ⟨l, hl, hl2⟩ := idx _ _ _ hop; obtain ⟨hh, ⟨hb, hK⟩, hh2⟩ := idx _ _ _ hl; have hrun := key l hh hb (lo.map a.eval) (hi.map a.eval) hl2 hh2; exact out_same h (u := .string (b.extract l.toNat hh.toNat)) (by simp [execOp, ho, hx', hrun]) hK (.v _)
 ·rename_i el0 es fl ht hx
  split at hop
  ·rename_i el esz hti
   have idx : ∀ (d : Nat) (y : Option Operand) (K : Int → Prop), aidx s d y K → ∃ n, K n ∧ (y.map a.eval = none ∧ n = d ∨ ∃ k, y.map a.eval = some (.int k n)) := by
    intro d y K hy; cases y with
    | none => exact ⟨d, hy, Or.inl ⟨rfl, rfl⟩⟩
    | some y =>
     simp only [aidx] at hy; split at hy
     ·rename_i k n hv
      exact ⟨n, hy, Or.inr ⟨k, by simp [eval_v h hv]⟩⟩
     exact hy.elim
   obtain ⟨l, hl, hl2⟩ := idx _ _ _ hop; obtain ⟨hh, ⟨⟨hb, hes⟩, hK⟩, hh2⟩ := idx _ _ _ hl; obtain ⟨i', j', z, i1, i2, i3, i4, i5, i6, i7, i8, i9, i10⟩ := ti_slice hti; have hrep := eval_rep h x; rw [hx] at hrep; revert hrep
   generalize hu : a.eval x = w; intro hrep; cases hrep with
   | sl ez f g1 g2 g3 g4 g5 hA hR =>
    rename_i A c
    have hsz : (sizeOf el).run P W = .ok esz W := by simp [sizeOf, typeInfo, i5, i8]
    have key : ∀ (lo' hi' : Option Value), (lo' = none ∧ l = 0 ∨ ∃ k, lo' = some (.int k l)) → (hi' = none ∧ hh = es.length ∨ ∃ k, hi' = some (.int k hh)) →
      (Instr.sliceAt t (.slice A es.length c) lo' hi' none).run P W = .ok (.slice (if c = l.toNat then A else A.map (·.add (l.toNat * esz))) (hh.toNat - l.toNat) (c - l.toNat)) W := by
     intro lo' hi' hl hh'; obtain ⟨q1, q2, q3⟩ := hb; have q4 : hh ≤ (c : Int) := by omega
     have q5 : 0 ≤ hh := by omega
     have q6 : l ≤ max hh 0 := by omega
     rcases hl with ⟨rfl, rfl⟩ | ⟨k, rfl⟩ <;> rcases hh' with ⟨rfl, rfl⟩ | ⟨k2, rfl⟩
     ·simp [Instr.sliceAt, Instr.slice, Instr.sliceBounds, run_underlying i1, hsz]
     ·simp [Instr.sliceAt, Instr.slice, Instr.sliceBounds, Instr.sliceBound, asIntOf, run_underlying i1, hsz, q4, q5]
     ·simp [Instr.sliceAt, Instr.slice, Instr.sliceBounds, Instr.sliceBound, asIntOf, run_underlying i1, hsz, q1, q2]
     simp [Instr.sliceAt, Instr.slice, Instr.sliceBounds, Instr.sliceBound, asIntOf, run_underlying i1, hsz, q1, q4, q5, q6]
    have hrun := key (lo.map a.eval) (hi.map a.eval) hl2 hh2; obtain ⟨q1, q2, q3⟩ := hb; have hlen : ((es.take hh.toNat).drop l.toNat).length = hh.toNat - l.toNat := by rw [List.length_drop, List.length_take]; omega
    have hget : ∀ j, ((es.take hh.toNat).drop l.toNat)[j]? = if j < hh.toNat - l.toNat then es[l.toNat + j]? else none := fun j => by
     rw [List.getElem?_drop, List.getElem?_take]; by_cases hj : j < hh.toNat - l.toNat
     ·rw [if_pos (by omega), if_pos hj]
     rw [if_neg (by omega), if_neg hj]
    refine out_same h (c := .im (.sl ((es.take hh.toNat).drop l.toNat) false)) (u := .slice (if c = l.toNat then A else A.map (·.add (l.toNat * esz))) (hh.toNat - l.toNat) (c - l.toNat)) (by simp [execOp, ho, hu, hrun]) hK ?_; show Rep W S (.sl ((es.take hh.toNat).drop l.toNat) false) _
    rw [← hlen]; refine .sl ez (fun j i => f (l.toNat + j) i) (by omega) (by omega) (by omega) (fun h => by cases h) (fun e he => g5 e (List.mem_of_mem_take (List.mem_of_mem_drop he))) (fun hpos => ?_) (fun j i e x he hx => ?_)
    ·obtain ⟨g, oo, rfl, hc⟩ := hA (by omega)
     obtain rfl : esz = ez := (hes es[0] (List.getElem_mem (by omega))).symm.trans (g5 es[0] (List.getElem_mem (by omega))).1; rw [if_neg (by omega)]; refine ⟨g, oo + l.toNat * esz, by simp [add_at], fun j i hj hi => ?_⟩; have := hc (l.toNat + j) i (by omega) hi; rw [show oo + l.toNat * esz + j * esz + i = oo + (l.toNat + j) * esz + i by rw [Nat.add_mul]; omega]; exact this
    rw [hget] at he; split at he
    ·exact hR (l.toNat + j) i e x he hx
    cases he
  exact hop.elim
 exact hop.elim
theorem abin_run {B : Prop} {op : BinOp} {u v : Value} {K : Value → Prop} (h : abin B op u v K) (t : TypeId) (hB : B → P.underlying t = some .bool) (x y : Operand) : ∃ r, K r ∧ (eqGuard op t x y u v).run P W = .ok () W ∧ (binOp op t u v).run P W = .ok r W := by
  unfold abin at h; split at h
  · rename_i k n k' n'
    obtain ⟨rfl, h⟩ := h; have hg : (eqGuard op t x y (.int k n) (.int k n')).run P W = .ok () W := by
      unfold eqGuard; split <;> rfl
    have har : ∀ (n : Int) (K : Value → Prop), ainR k n K → K (.int k (k.wrap n)) := by
      intro n K hn; unfold ainR at hn; split at hn
      · rename_i hk; subst hk
        rw [IntWalk.i64_in _ hn.1]; exact hn.2
      exact hn
    cases op <;> first
      | exact h.elim
      | exact ⟨_, har _ _ h, hg, by simp [binOp, Op.intArith]⟩
      | exact ⟨_, h.2, hg, by simp [binOp, Op.intDiv, h.1]⟩
      | (refine ⟨_, h, hg, ?_⟩
         simp [binOp, Op.intCmp, bne]; try rfl)
  · rename_i p q
    have hg : (eqGuard op t x y (.string p) (.string q)).run P W = .ok () W := by
      unfold eqGuard; split <;> rfl
    have heq : (p.toList == q.toList) = decide (p = q) := by
      by_cases e : p = q
      · subst e; simp
      rw [decide_eq_false e]; exact beq_eq_false_iff_ne.2 (fun h2 => e (by rw [ByteArray.toList_eq, ByteArray.toList_eq] at h2; exact ByteArray.ext (Array.toList_inj.1 h2)))
    cases op <;> first
      | exact h.elim
      | (obtain ⟨h1, h2⟩ := h
         refine ⟨_, h2, hg, ?_⟩; have : ¬ (9223372036854775807 : Int) < p.size + q.size := by omega
         simp [binOp, Op.stringOp, IntKind.max, IntKind.signed, IntKind.bits, this])
      | exact ⟨_, h, hg, by simp [binOp, Op.stringOp, heq]⟩
  · rename_i p q
    obtain ⟨hb, h⟩ := h; have hg : (eqGuard op t x y (.bool p) (.bool q)).run P W = .ok () W := by
      unfold eqGuard; split <;> rfl
    have hq : (Op.equal t (.bool p) (.bool q)).run P W = .ok (p == q) W := by
      unfold Op.equal Op.maxDepth Op.equalIn; simp [run_underlying (hB hb)]
    have heq : (p == q) = decide (p = q) := by cases p <;> cases q <;> rfl
    cases op <;> first
      | exact h.elim
      | exact ⟨_, h, hg, by simp [binOp, hq, heq]⟩
  exact h.elim
theorem val_bin (h : RelE X E S s a W) {op : BinOp} {t t' : TypeId} {x y : Operand} (ho : o.op = .binOp op t x y t') (hop : aval P (.binOp op t x y t') o.dst s K) : Out P X s a W o K Q := by
 simp only [aval] at hop; split at hop
 ·rename_i u v hx hy
  obtain ⟨r, hK, h1, h2⟩ := abin_run (P := P) (W := W) hop t (fun h => h) x y; have hx' := eval_v h hx; have hy' := eval_v h hy; exact out_same h (u := r) (by simp [execOp, ho, hx', hy', h1, h2]) hK (.v _)
 ·rename_i p q p' q' hx hy
  obtain ⟨hE, hop⟩ := hop; have two : ∀ {z : Operand} {a1 b1 : Int}, valOf s z = .im (.agg [.v (.int .i64 a1), .v (.int .i64 b1)]) → a.eval z = .agg #[.int .i64 a1, .int .i64 b1] := by
   intro z a1 b1 hz; have he := eval_rep h z; rw [hz] at he; revert he
   generalize a.eval z = u; intro he; cases he with
   | agg hl hR =>
    rename_i us
    match us, hl with
    | [u1, u2], _ => rw [rep_v (hR 0 (.v (.int .i64 a1)) u1 rfl rfl), rep_v (hR 1 (.v (.int .i64 b1)) u2 rfl rfl)]
  have hx' := two hx; have hy' := two hy; split at hop
  ·obtain ⟨h1, h2⟩ := hE .eql x y p q p' q' W (Or.inl rfl)
   exact out_same h (u := .bool (decide (p = p') && decide (q = q'))) (by simp [execOp, ho, hx', hy', h1, binOp, h2]) hop (.v _)
  ·obtain ⟨h1, h2⟩ := hE .neq x y p q p' q' W (Or.inr rfl)
   exact out_same h (u := .bool (!(decide (p = p') && decide (q = q')))) (by simp [execOp, ho, hx', hy', h1, binOp, h2]) hop (.v _)
  exact hop.elim
 exact hop.elim
theorem val_not (h : RelE X E S s a W) {t : TypeId} {x : Operand} (ho : o.op = .unOp .not t x) (hop : aval P (.unOp .not t x) o.dst s K) : Out P X s a W o K Q := by
 simp only [aval] at hop; split at hop
 ·rename_i b hx
  have hx' := eval_v h hx; exact out_same h (u := .bool !b) (by simp [execOp, ho, hx', Op.unary]) hop (.v _)
 exact hop.elim
theorem val_convert (h : RelE X E S s a W) {t t' : TypeId} {x : Operand} (ho : o.op = .convert t t' x) (hop : aval P (.convert t t' x) o.dst s K) : Out P X s a W o K Q := by
 simp only [aval] at hop; split at hop
 ·rename_i d k k' n h1 h2 hx
  have hx' := eval_v h hx; exact out_same h (u := .int k (k.wrap n)) (by simp [execOp, ho, hx', convert, run_underlying h1, run_underlying h2, Conv.intToInt]) hop (.v _)
 exact hop.elim
theorem val_extract (h : RelE X E S s a W) {t : Operand} {i : Nat} (ho : o.op = .extract t i) (hop : aval P (.extract t i) o.dst s K) : Out P X s a W o K Q := by
 simp only [aval] at hop; split at hop
 ·rename_i vs hx
  split at hop
  ·rename_i x hi
   have he := eval_rep h t; rw [hx] at he; revert he
   generalize hu : a.eval t = w; intro he; cases he with
   | tup hl hR =>
    rename_i us
    have hlt := (List.getElem?_eq_some_iff.1 hi).1; have hus : us[i]? = some (us[i]'(by omega)) := List.getElem?_eq_getElem _; refine out_same h (u := us[i]'(by omega)) ?_ hop (hR i x _ hi hus); have : us.toArray[i]? = some (us[i]'(by omega)) := by rw [List.getElem?_toArray]; exact hus
    simp only [execOp, ho, hu, Instr.extract, this, Sem.run_bind, Sem.run_pure, Result.andThen_ok]
  exact hop.elim
 exact hop.elim
theorem valsOf_rep : ∀ {cs : List IV} {l us : List Value}, valsOf cs = some l → RepL W S cs us → us = l
 | [], l, us, hv, hR => by
  injection hv with hv; subst hv; exact List.eq_nil_of_length_eq_zero hR.1
 | .v x :: r, l, us, hv, hR => by
  simp only [valsOf] at hv; split at hv
  ·rename_i l' hl'
   injection hv with hv; subst hv; cases us with
   | nil => exact absurd hR.1 (by simp)
   | cons u us =>
    rw [rep_v (hR.2 0 _ u rfl rfl), valsOf_rep hl' ⟨Nat.succ.inj hR.1, fun i x u hx hu => hR.2 (i + 1) x u hx hu⟩]
  cases hv
 | .sl _ _ :: r, l, us, hv, hR => by cases hv
 | .elt _ _ :: r, l, us, hv, hR => by cases hv
 | .agg _ :: r, l, us, hv, hR => by cases hv
 | .tup _ :: r, l, us, hv, hR => by cases hv
theorem toVal_eval (h : RelE X E S s a W) {x : Operand} {u : Value} (hx : toVal (valOf s x) = some u) : a.eval x = u := by
 have he := eval_rep h x; unfold toVal at hx; split at hx
 ·rename_i y hv
  injection hx with hx; subst hx; exact eval_v h hv
 ·rename_i cs hv
  split at hx
  ·rename_i l hl
   injection hx with hx; subst hx; rw [hv] at he; revert he
   generalize a.eval x = w; intro he; cases he with
   | agg hl2 hR => rw [valsOf_rep hl ⟨hl2, hR⟩]
  cases hx
 cases hx
theorem liftA_rep (W : World) (S : CS) (u : Value) : Rep W S (liftA u) u := by
 unfold liftA; split
 ·rename_i us
  have h : Rep W S (.agg (us.toList.map IV.v)) (.agg us.toList.toArray) := .agg (by simp) fun i x w hx hw => by
   rw [List.getElem?_map] at hx; rw [hw] at hx; injection hx with hx; subst hx; exact .v _
  simpa using h
 exact Rep.lift W S _
theorem val_typeAssert (h : RelE X E S s a W) {x : Operand} {xT t : TypeId} (ho : o.op = .typeAssert x xT t true) (hop : aval P (.typeAssert x xT t true) o.dst s K) : Out P X s a W o K Q := by
 simp only [aval] at hop; split at hop
 ·rename_i fs z t' u hti hx
  obtain ⟨rfl, hop⟩ := hop; obtain ⟨fields, i, hu, _⟩ := ti_struct hti; have hx' := eval_v h hx; refine out_same h (u := .tuple #[u, .bool true]) ?_ hop (.tup (us := [u, .bool true]) rfl (fun i y w hy hw => ?_))
  ·simp only [execOp, ho, hx', Instr.typeAssert, run_underlying hu, Sem.run_bind, Result.andThen_ok]
   simp
  match i, hy, hw with
  | 0, hy, hw => injection hy with hy; injection hw with hw; subst hy hw; exact liftA_rep _ _ _
  | 1, hy, hw => injection hy with hy; injection hw with hw; subst hy hw; exact .v _
  | i + 2, hy, _ => exact absurd hy (by simp)
 exact hop.elim
theorem val_makeInterface (h : RelE X E S s a W) {t : TypeId} {x : Operand} (ho : o.op = .makeInterface t x) (hop : aval P (.makeInterface t x) o.dst s K) : Out P X s a W o K Q := by
 simp only [aval] at hop; split at hop
 ·exact hop.elim
 ·rename_i d u hni ht hx
  have hx' := toVal_eval h hx; refine out_same h (u := .iface t u) ?_ hop (.v _); simp only [execOp, ho, hx', Instr.makeInterface, run_underlying ht, Sem.run_bind, Result.andThen_ok]; cases d <;> first | rfl | exact (hni _ rfl).elim
 exact hop.elim
end
open Go Go.RowKit Go.Proofs Th
attribute [local go_sem] Above.cell
theorem pre_open (s : ByteArray) (a : Nat) (b : Bool) (hb : decide (s.data.toList[a]? = some 40) = b) (w : World) : Calls Tryz.prog 84 #[.string (s.extract a s.size), .string ⟨#[40]⟩] w fun e w' => e = .returned (.bool b) ∧ w' = w := by
 have h := Tryz.strings_HasPrefix (s.extract a s.size) ⟨#[40]⟩ w; rw [bx_to, show (⟨#[40]⟩ : ByteArray).data.toList = [40] from rfl, pre_one, hb] at h; exact h
def QuotePost (w : World) (p : Nat) (s : ByteArray) (q : Nat × Nat) (r : Ending) (w' : World) : Prop :=
 r = .returned (.tuple #[.int .i64 (if q.2 = 0 then 0 else (q.1 : Int)), .int .i64 (q.2 : Int)]) ∧ ∃ j : Nat, ScP w w' p s j ∧ j ≤ s.size ∧ (q.2 = 0 → j = q.1)
structure QuoteS (w W : World) (p : Nat) (s : ByteArray) (d f : Nat) (q : Nat × Nat) (g a : Nat) : Prop where
 sc : ScP w W p s (min a s.size)
 room : s.size + 2 ≤ g + a
 gn : g ≤ s.size + 2
 q : qGo s.data.toList (oneF s.data.toList d) f g 0 a = q
 glob : GlobX W
theorem qGo_char (L : List UInt8) (one : Nat → Tf × Nat × Nat) (f g a : Nat) (c : UInt8) (h : L[a]? = some c) : qGo L one f (g + 1) 0 a = if c = 34 then (a + 1, 0) else if c ≠ 92 then qGo L one f g 0 (a + 1) else if L[a + 1]? = some 40 then qGo L one f g 1 (a + 2) else qGo L one f g 0 (a + 2) := by
 simp only [qGo]; rw [h]
theorem qGo_none (L : List UInt8) (one : Nat → Tf × Nat × Nat) (f g a : Nat) (h : L[a]? = none) : qGo L one f (g + 1) 0 a = (f, 20) := by
 simp only [qGo]; rw [h]
theorem tok_quote (p : Nat) (s : ByteArray) (hs : s.size ≤ 1000000) (d : Nat) (k : Int) (hk0 : 0 ≤ k) (hk : k < 48)
  (hN : ∀ (W : World) (j : Nat), Box W p [.string s, .int .i64 j] → j ≤ s.size → GlobX W → Calls Tryz.prog 47 #[.pointer (some ⟨p, 0, none⟩), .int .i64 (k + 1)] W fun r w' => NextPost W p s (oneF s.data.toList d j) r w')
  (f : Nat) (hf : f < s.size) (w : World) (hB : Box w p [.string s, .int .i64 f]) (hG : GlobX w) :
  Calls Tryz.prog 72 #[.pointer (some ⟨p, 0, none⟩), .int .i64 k] w fun r w' => QuotePost w p s (quoteF s.data.toList (d + 1) f) r w' := by
 have HL := Keep.mk (size_listU s); have HA := Keep.mk (fun j h => at_some s j h); have HAN := Keep.mk (fun j h => at_none s j h); have HI := Keep.mk (fun n a (ha : a ≤ s.size) hn hnn W hB hG => tok_inner p s hs d k hk0 (by omega) hN f n a ha hn hnn W hB hG); obtain ⟨q, hq⟩ : ∃ q, quoteF s.data.toList (d + 1) f = q := ⟨_, rfl⟩
 rw [hq]; have hq0 : qGo s.data.toList (oneF s.data.toList d) f (s.size + 2) 0 (f + 1) = q := by rw [← hq, ← HL.out]; rfl
 clear hN hq; have HQ0 := Keep.mk hq0; clear hq0; have HS := Keep.mk (show ScP w w p s f from ⟨hB, Upd.refl p w⟩); have HG := Keep.mk hG; have bk : (k == 48) = false := by rw [beq_eq_false_iff_ne]; omega
 clear hB hG; obtain ⟨p0, p1⟩ := HS.out.b.p2; have pf := HS.out.b.froz 1; have pl := HS.out.b.lt; go_enter Tryz.func72, Tryz.ntmps72
 go_wp2_with fail
 go_loopg [] (s.size + 2) (fun gk wr => ∃ a : Nat, f < a ∧ a ≤ s.size + 1 ∧ Keep (QuoteS w wr p s d f q gk a))
 case atStart =>
  have hm : min (f + 1) s.size = f + 1 := by omega
  exact ⟨f + 1, by omega, by omega, ⟨⟨by rw [hm]; exact HS.out.set (f + 1) _ (by omega), by omega, Nat.le_refl _, HQ0.out, HG.out.upd HS.out.b (Upd.set p 1 w _)⟩⟩⟩
 case round =>
  clear HS HG HQ0; clear p0 p1 pf pl; obtain ⟨a, hfa, ham, HQ⟩ := hrel; have hroom := HQ.out.room; have hgn := HQ.out.gn; have hqq := HQ.out.q; have HG := Keep.mk HQ.out.glob; by_cases hlt : a < s.size
  ·have hmin : min a s.size = a := by omega
   have HS := Keep.mk (show ScP w wr p s a by have := HQ.out.sc; rwa [hmin] at this); obtain ⟨g, rfl⟩ : ∃ g, gk = g + 1 := ⟨gk - 1, by omega⟩
   rw [qGo_char _ _ _ _ _ _ (HA.out a hlt)] at hqq; clear HQ hmin; obtain ⟨p0, p1⟩ := HS.out.b.p2; have pf := HS.out.b.froz 1; have pl := HS.out.b.lt; go_wp2_with fail
   refine wp_region_above (by kernel_rfl) (by kernel_rfl) ?_; repeat (go_big_quiet_step (fail))
   refine wpQuiet_nil ?_; rintro W2 ⟨z, hz⟩; replace HS := Keep.mk (hz ▸ HS.out.above z.property); replace HG := Keep.mk (hz ▸ HG.out.below z.property); clear p0 p1 pf pl; clear hz z; obtain ⟨p0, p1⟩ := HS.out.b.p2; have pf := HS.out.b.froz 1; have pl := HS.out.b.lt; go_wp2_with fail
   refine wp_region_above (by kernel_rfl) (by kernel_rfl) ?_; repeat (go_big_quiet_step (fail))
   refine wpQuiet_nil ?_; rintro W2 ⟨z, hz⟩; replace HS := Keep.mk (hz ▸ HS.out.above z.property); replace HG := Keep.mk (hz ▸ HG.out.below z.property); clear p0 p1 pf pl; clear hz z; obtain ⟨p0, p1⟩ := HS.out.b.p2; have pf := HS.out.b.froz 1; have pl := HS.out.b.lt; by_cases h34 : s[a] = 34
   ·rw [if_pos h34] at hqq
    have HE := Keep.mk hqq.symm; have f34 : (s[a].toNat : Int) = 34 := by rw [h34]; rfl
    clear hqq h34 HI; go_wp2
    refine bodyPost_ret (v := .tuple #[.int .i64 0, .int .i64 0]) ?_ rfl ?_
    ·simp [results, Tryz.results72, go_sem]
    rw [HE.out]; exact ⟨rfl, a + 1, HS.out.set (a + 1) _ (by omega), by omega, fun _ => rfl⟩
   rw [if_neg h34] at hqq; have f34 : ¬ (s[a].toNat : Int) = 34 := fun h => h34 (UInt8.toNat_inj.1 (by show s[a].toNat = 34; omega))
   by_cases h92 : s[a] = 92
   ·rw [if_neg (fun h => h h92)] at hqq
    have f92 : (s[a].toNat : Int) = 92 := by rw [h92]; rfl
    obtain ⟨b, hb⟩ : ∃ b, decide (s.data.toList[a + 1]? = some 40) = b := ⟨_, rfl⟩
    have HC := Keep.mk (fun (z : Above W2) => calls_same (pre_open s (a + 1) b hb z.val)); clear h34 h92; go_wp2_with fail
    refine wp_region_above (by kernel_rfl) (by kernel_rfl) ?_; repeat (go_big_quiet_step ((go_at_call 84; exact calls_above (HC.out _))))
    refine wpQuiet_nil ?_; rintro W2 ⟨z, hz⟩; replace HS := Keep.mk (hz ▸ HS.out.above z.property); replace HG := Keep.mk (hz ▸ HG.out.below z.property); clear p0 p1 pf pl; clear hz z; obtain ⟨p0, p1⟩ := HS.out.b.p2; have pf := HS.out.b.froz 1; have pl := HS.out.b.lt; clear HC; cases b
    ·have h40 := of_decide_eq_false hb
     rw [if_neg h40] at hqq; have HQ2 := Keep.mk hqq; clear hb h40 hqq; go_upto_region 19 with fail
     go_still_tail 14, (by kernel_rfl)
     change wpList _ _ _ _ _ W2.drew; have hS3 := HS.out.above (below_drawn W2); have hG3 := HG.out.below (below_drawn W2); clear HS HG; clear p0 p1 pf pl; have HS := Keep.mk hS3; have HG := Keep.mk hG3; clear hS3 hG3; change Keep (ScP w W2.drew p s a) at HS; change Keep (GlobX W2.drew) at HG; generalize W2.drew = W3 at HS HG ⊢; obtain ⟨p0, p1⟩ := HS.out.b.p2; have pf := HS.out.b.froz 1; have pl := HS.out.b.lt; go_wp2
     go_roundg g
     case rel => exact ⟨a + 2, by omega, by omega, ⟨⟨HS.out.set (min (a + 2) s.size) _ (by omega), by omega, by omega, HQ2.out, HG.out.upd HS.out.b (Upd.set p 1 _ _)⟩⟩⟩
     case measure => omega
    have h40 := of_decide_eq_true hb; rw [if_pos h40] at hqq; have ha2 : a + 2 ≤ s.size := by
     have := (List.getElem?_eq_some_iff.1 h40).1; rw [HL.out] at this; omega
    have HQ2 := Keep.mk hqq; have HS3 := Keep.mk (fun z hz => HS.out.set (a + 2) z hz); have HG3 := Keep.mk (fun v => HG.out.upd HS.out.b (Upd.set p 1 _ v)); clear hb h40 hqq; go_wp2_with fail
    refine (HI.out g (a + 2) ha2 (by omega) (by omega) _ (HS3.out _ (by omega)).b (HG3.out _)).mono ?_; rintro r w3 ⟨j, x, e, rfl, hsc, hj, hcase⟩; have HS4 := Keep.mk (show ScP w w3 p s j from ⟨hsc.b, (HS3.out _ (by omega)).u.trans hsc.u⟩); have HG4 := Keep.mk ((HG3.out _).upd (HS3.out _ (by omega)).b hsc.u); clear hsc HS3 HG3; rcases hcase with ⟨rfl, _, n', hn1, hn2, hn3, hn4, _⟩ | ⟨rfl, hq2⟩ | ⟨he0, he240, q2, hq2, rfl, rfl⟩
    ·have HQ3 := Keep.mk (hn4.trans HQ2.out)
     clear hn4; go_wp2
     go_roundg n'
     case rel => exact ⟨j, by omega, by omega, ⟨⟨by rw [show min j s.size = j from by omega]; exact HS4.out, by omega, by omega, HQ3.out, HG4.out⟩⟩⟩
     case measure => omega
    ·have HQ3 := Keep.mk (HQ2.out.symm.trans hq2)
     clear hq2; go_wp2
     refine bodyPost_ret (v := .tuple #[.int .i64 (f : Int), .int .i64 20]) ?_ rfl ?_
     ·simp [results, Tryz.results72, go_sem]
     rw [HQ3.out]; exact ⟨rfl, j, HS4.out, hj, fun h => by cases h⟩
    have HQ3 := Keep.mk (HQ2.out.symm.trans hq2); have hne : ¬ q2.2 = 0 := fun h => he0 (by rw [h]; rfl)
    clear hq2; go_wp2
    refine bodyPost_ret (v := .tuple #[.int .i64 (q2.1 : Int), .int .i64 (q2.2 : Int)]) ?_ rfl ?_
    ·simp [results, Tryz.results72, go_sem]
    rw [HQ3.out]; exact ⟨by rw [if_neg hne], j, HS4.out, hj, fun h => absurd h hne⟩
   rw [if_pos h92] at hqq; have f92 : ¬ (s[a].toNat : Int) = 92 := fun h => h92 (UInt8.toNat_inj.1 (by show s[a].toNat = 92; omega))
   have g92 : ((s[a].toNat : Int) == 92) = false := by rw [beq_eq_false_iff_ne]; exact f92
   have HQ2 := Keep.mk hqq; clear h34 h92 hqq; go_wp2_with fail
   refine wp_region_above (by kernel_rfl) (by kernel_rfl) ?_; repeat (go_big_quiet_step (fail))
   refine wpQuiet_nil ?_; rintro W2 ⟨z, hz⟩; replace HS := Keep.mk (hz ▸ HS.out.above z.property); replace HG := Keep.mk (hz ▸ HG.out.below z.property); clear p0 p1 pf pl; clear hz z; obtain ⟨p0, p1⟩ := HS.out.b.p2; have pf := HS.out.b.froz 1; have pl := HS.out.b.lt; go_wp2
   go_roundg g
   case rel => exact ⟨a + 1, by omega, by omega, ⟨⟨by rw [show min (a + 1) s.size = a + 1 from by omega]; exact HS.out.set (a + 1) _ (by omega), by omega, by omega, HQ2.out, HG.out.upd HS.out.b (Upd.set p 1 _ _)⟩⟩⟩
   case measure => omega
  have hmin : min a s.size = s.size := by omega
  have HS := Keep.mk (show ScP w wr p s s.size by have := HQ.out.sc; rwa [hmin] at this); have HE : Keep (q = (f, 20)) := by
   obtain ⟨g, rfl⟩ : ∃ g, gk = g + 1 := ⟨gk - 1, by omega⟩
   rw [qGo_none _ _ _ _ _ (HAN.out a hlt)] at hqq; exact ⟨hqq.symm⟩
  clear HQ hmin hqq HI; obtain ⟨p0, p1⟩ := HS.out.b.p2; have pf := HS.out.b.froz 1; have pl := HS.out.b.lt; go_wp2_with fail
  refine wp_region_above (by kernel_rfl) (by kernel_rfl) ?_; repeat (go_big_quiet_step (fail))
  refine wpQuiet_nil ?_; rintro W2 ⟨z, hz⟩; replace HS := Keep.mk (hz ▸ HS.out.above z.property); replace HG := Keep.mk (hz ▸ HG.out.below z.property); clear p0 p1 pf pl; clear hz z; obtain ⟨p0, p1⟩ := HS.out.b.p2; have pf := HS.out.b.froz 1; have pl := HS.out.b.lt; go_wp2
  refine bodyPost_ret (v := .tuple #[.int .i64 (f : Int), .int .i64 20]) ?_ rfl ?_
  ·simp [results, Tryz.results72, go_sem]
  rw [HE.out]; exact ⟨rfl, s.size, HS.out, Nat.le_refl _, fun h => by cases h⟩
open Go Go.RowKit Go.Proofs Th
def cells3 (t : Tf) : List Value := [.int .i64 (t.kind : Int), .string t.text, .int .i64 (t.at_ : Int)]
structure OwnT (w : World) (base : Nat) (v : Value) (l : List Tf) : Prop where
 row : w.ownsRow base 66 3 v l.length (l.flatMap cells3)
theorem OwnT.nil (w : World) (base : Nat) : OwnT w base (.slice none 0 0) [] := ⟨World.ownsRow_nil w base _ 3⟩
theorem OwnT.keep {w w' : World} {base : Nat} {v : Value} {l : List Tf} (h : OwnT w base v l) (hb : ∀ k, v.ownBlock = some k → w'.heap[k]? = w.heap[k]?) : OwnT w' base v l := ⟨row_keep h.row hb⟩
theorem OwnT.lt {w : World} {base : Nat} {v : Value} {l : List Tf} (h : OwnT w base v l) : ∀ k, v.ownBlock = some k → base ≤ k ∧ k < w.heap.size := own_block_lt h.row
theorem OwnT.form {w : World} {base : Nat} {v : Value} {l : List Tf} (h : OwnT w base v l) : ∃ A c, v = .slice A l.length c ∧ l.length ≤ c ∧ c ≤ 9223372036854775807 := by
 obtain ⟨_, ⟨rfl, h0⟩ | ⟨g, cap, cur, rfl, _, _, h3, h4, _⟩⟩ := h.row
 ·exact ⟨none, 0, by rw [h0], by omega, by decide⟩
 exact ⟨_, _, rfl, h3, by unfold maxLen at h4; omega⟩
theorem flat_at : ∀ (l : List Tf) (j : Nat) (h : j < l.length) (i : Nat), i < 3 → (l.flatMap cells3)[j * 3 + i]? = (cells3 l[j])[i]?
 | t :: l, 0, _, i, hi => by
  rw [List.flatMap_cons, List.getElem?_append_left (by show _ < 3; omega), Nat.zero_mul, Nat.zero_add]; rfl
 | t :: l, j + 1, h, i, hi => by
  rw [List.flatMap_cons, List.getElem?_append_right (by show 3 ≤ _; omega), show (j + 1) * 3 + i - (cells3 t).length = j * 3 + i from by show _ - 3 = _; omega]; exact flat_at l j (by simpa using h) i hi
theorem OwnT.toks {w : World} {base : Nat} {A : Option Addr} {n c : Nat} {l : List Tf} {S : Nat → Prop} (h : OwnT w base (.slice A n c) l) (hl : l.length ≤ 100000) (hsm : ∀ t ∈ l, t.text.size ≤ 100000 ∧ t.at_ ≤ 100000) (hS : ∀ k, (Value.slice A n c).ownBlock = some k → S k) : n = l.length ∧ ToksIn w S A c l := by
 obtain ⟨A', c', e, h1, h2⟩ := h.form; injection e with e1 e2 e3; subst e1 e2 e3; refine ⟨rfl, h1, hl, h2, hsm, fun hn => ?_⟩; have h3' := h.row; obtain ⟨hx, ⟨_, h0⟩ | ⟨g, cap, cur, e, _, _, _⟩⟩ := h.row
 ·omega
 injection e with e1 _ e3; subst e1; refine ⟨g, 0, rfl, hS g rfl, fun j hj => ?_⟩; have key : ∀ i, i < 3 → ∀ u, (cells3 l[j])[i]? = some u → w.cell? ⟨g, 0 + j * 3 + i, none⟩ = some u := fun i hi u hu => by
  have hc := World.ownsRow.cells h3' (g := g) rfl (j * 3 + i) u (by rw [flat_at l j hj i hi]; exact hu); rw [add_at] at hc; rw [← hc]; congr 2; omega
 exact ⟨key 0 (by omega) _ rfl, key 1 (by omega) _ rfl, key 2 (by omega) _ rfl⟩
theorem toks_info : (Tryz.prog.info? 66).map (fun i => (i.zero, i.size, i.bytes)) = some (some (.agg #[.int .i64 0, .string ⟨#[]⟩, .int .i64 0]), 3, 32) := by kernel_rfl
/-- append of one token -/
theorem run_append_tok {w : World} (ty : TypeId) (base : Nat) (v : Value) (l : List Tf) (hown : OwnT w base v l) (p : Nat) (t : Tf) (hcell : ∀ i u, (cells3 t)[i]? = some u → w.cell? ⟨p, i, none⟩ = some u)
  (hl : l.length + 1 ≤ 1000000000) (hbase : base ≤ w.heap.size) :
  ∃ v' w', (Builtin.append_ #[45, 45] ty #[v, .slice (some ⟨p, 0, none⟩) 1 1]).run Tryz.prog w = .ok v' w' ∧ OwnT w' base v' (l ++ [t]) ∧ w.grownBy w' v.ownBlock ∧ (v'.ownBlock = v.ownBlock ∨ v'.ownBlock = some w.heap.size) := by
 obtain ⟨i, hi, hz, hsize, hby⟩ := info_parts toks_info; have hone : ∀ u ∈ cells3 t, u.oneCell' = true := by
  intro u hu; simp only [cells3, List.mem_cons, List.not_mem_nil, or_false] at hu; rcases hu with rfl | rfl | rfl <;> rfl
 obtain ⟨v', w', hrun, h3, h4, _, h5⟩ := run_append_own_at (P := Tryz.prog) w base 45 ty 66 i _ 3 32 Tryz.underlying45 hi hz hsize hby rfl (by omega) v l.length (l.flatMap cells3) hown.row ⟨p, 0, none⟩ 1 1 (cells3 t) (by show 3 = 1 * 3; omega) (fun j u hu => by rw [add_at, Nat.zero_add]; exact hcell j u hu) hone (by simp [maxLen]; omega) (by omega) hbase; refine ⟨v', w', hrun, ⟨by rw [List.length_append, List.length_singleton, List.flatMap_append, List.flatMap_singleton]; exact h3⟩, h4, h5⟩
theorem wpList_app_tok {w : World} {ops : Array Oper} {rest : List Oper} {o : Oper} {a : Act} {Q : Exit → Act → World → Prop} (hgd : o.guard = none) (s x : Operand)
  (ho : o.op = .call { callee := .builtin .append, args := #[s, x], argTypes := #[45, 45] })
  (base : Nat) (v : Value) (l : List Tf) (hs : a.eval s = v) (hown : OwnT w base v l) (p : Nat) (t : Tf) (hx : a.eval x = .slice (some ⟨p, 0, none⟩) 1 1) (hcell : ∀ i u, (cells3 t)[i]? = some u → w.cell? ⟨p, i, none⟩ = some u)
  (hl : l.length + 1 ≤ 1000000000) (hbase : base ≤ w.heap.size)
  (h : ∀ v' w', OwnT w' base v' (l ++ [t]) → w.grownBy w' v.ownBlock → (v'.ownBlock = v.ownBlock ∨ v'.ownBlock = some w.heap.size) → wpList Tryz.prog ops Q rest (a.put o.dst v') w') : wpList Tryz.prog ops Q (o :: rest) a w := by
 refine wpList_plain hgd fun K hK => ?_
 obtain ⟨v', w', hrun, h2, h3, h4⟩ := run_append_tok (w := w) o.type base v l hown p t hcell hl hbase; unfold Oper.wp execOp; simp only [ho, resolve, invoke, builtin, Sem.run_bind, Sem.run_pure, Result.andThen_ok, List.map_toArray, List.map_cons, List.map_nil, hs, hx, hrun]; exact hK _ _ (h v' w' h2 h3 h4)
end Go.Proofs.YtakncilicoefdaaGreatDoor
namespace Th
open Go Go.Lib
inductive PS (L : List UInt8) : NJ → Nat → Nat → Prop
 | ok {n : NJ} (h : Flt L n) (hd : depJ n ≤ 48) : PS L n 0 0
 | deep {n : NJ} (h : Flt L n) (hd : 48 < depJ n) : PS L noNJ 0 31
 | bad {a e : Nat} (he : e ≠ 0) (ha : a ≤ L.length) (hn : ∀ n, ¬ Flt L n) (hf : ∀ l a' e', scanF L = (l, 0, 0) → evP (envOf L 0) .whole 0 = some (.bad a' e') → e = e') : PS L noNJ a e
theorem PS.of_flt {L : List UInt8} {n m : NJ} {a e : Nat} (h : PS L n a e) (hm : Flt L m) : (depJ m ≤ 48 ∧ n = m ∧ a = 0 ∧ e = 0) ∨ (48 < depJ m ∧ n = noNJ ∧ a = 0 ∧ e = 31) := by
 cases h with
 | ok h hd => obtain rfl := h.uniq hm; exact .inl ⟨hd, rfl, rfl, rfl⟩
 | deep h hd => obtain rfl := h.uniq hm; exact .inr ⟨hd, rfl, rfl, rfl⟩
 | bad _ _ hn _ => exact absurd hm (hn m)
theorem scan_at (L : List UInt8) : (scanF L).2.1 ≤ L.length := by
 have key : ∀ (n a : Nat) (acc : List Tf), a ≤ L.length → (scanGo L n a acc).2.1 ≤ L.length := by
  intro n; induction n with
  | zero => intro a acc _; exact Nat.zero_le _
  | succ n ih =>
   intro a acc ha; have hok := oneF_ok L 48 a ha; simp only [scanGo]; split
   ·exact hok.le
   split
   ·exact Nat.zero_le _
   exact ih _ _ hok.le
 unfold scanF; split
 ·exact Nat.zero_le _
 exact key _ _ _ (Nat.zero_le _)
end Th
namespace Go.Proofs.YtakncilicoefdaaGreatDoor
open Go Go.RowKit Go.Proofs Th
def tl (b : ByteArray) : List UInt8 := b.data.toList
theorem tl_app (a b : ByteArray) : tl (a ++ b) = tl a ++ tl b := by
 unfold tl; rw [ByteArray.data_append, Array.toList_append]
theorem tl_mk (l : List UInt8) : tl ⟨l.toArray⟩ = l := rfl
theorem tl_len (b : ByteArray) : (tl b).length = b.size := rfl
theorem tl_paren (s : ByteArray) : tl (paren s) = 40 :: (tl s ++ [41]) := by unfold paren; rw [tl_app, tl_app]; rfl
def AtK (E : Env) (i : Nat) (T : List TK) : Prop := ∃ C, (E.l.map tk).drop i = T ++ C
theorem AtK.app {E : Env} {i : Nat} {a b : List TK} (h : AtK E i (a ++ b)) : AtK E i a ∧ AtK E (i + a.length) b := by
 obtain ⟨C, h⟩ := h; rw [List.append_assoc] at h; exact ⟨⟨_, h⟩, C, by rw [← List.drop_drop, h, List.drop_left]⟩
theorem AtK.cons {E : Env} {i : Nat} {q : TK} {b : List TK} (h : AtK E i (q :: b)) : tk (tokAt E i) = q ∧ AtK E (i + 1) b := by
 obtain ⟨C, h⟩ := h; refine ⟨?_, C, by rw [← List.drop_drop, h]; rfl⟩; have h2 := congrArg List.head? h; rw [List.head?_drop, List.getElem?_map] at h2; unfold tokAt; rw [List.getD_eq_getElem?_getD]; cases he : E.l[i]? with
 | none => rw [he] at h2; cases h2
 | some t => rw [he] at h2; injection h2
theorem AtK.len {E : Env} {i : Nat} {T : List TK} (h : AtK E i T) : T.length ≤ E.l.length := by
 obtain ⟨C, h⟩ := h; have := congrArg List.length h; simp only [List.length_drop, List.length_map, List.length_append] at this; omega
def Gq (q : TK) : Prop := q.1 ≠ 5 ∧ q ≠ (6, ⟨#[40]⟩)
instance (q : TK) : Decidable (Gq q) := by unfold Gq; exact inferInstance
def EndT (q : TK) : Prop := Gq q ∧ q.1 ≠ 3 ∧ q ≠ (6, ⟨#[63]⟩) ∧ q ≠ (6, ⟨#[91]⟩) ∧ q ≠ (6, ⟨#[46]⟩)
instance (q : TK) : Decidable (EndT q) := by unfold EndT; exact inferInstance
def Cl (q : TK) : Prop := EndT q ∧ q ≠ (1, ⟨#[97, 115]⟩) ∧ EndQ q
instance (q : TK) : Decidable (Cl q) := by unfold Cl; exact inferInstance
def HdK (q : TK) : Prop := q ≠ (6, ⟨#[45]⟩) ∧ q ≠ (1, ⟨#[100, 101, 102]⟩)
instance (q : TK) : Decidable (HdK q) := by unfold HdK; exact inferInstance
structure RdP (P : List UInt8) (dp : Nat) (n : NJ) (T : List TK) : Prop where
 sc : ∀ d, dp ≤ d → ∀ R, sepC R = true → RD d P T R
 bal : Bal T
 hd : ∃ q r, T = q :: r ∧ HdK q
 c61 : ∃ c r, P = c :: r ∧ c ≠ 61
 ev : ∀ E i j, AtK E i T → j = i + T.length → Gq (tk (tokAt E j)) → evP E .term i = evP E (.termLoop n) j
abbrev Rd (n : NJ) (T : List TK) : Prop := RdP (tl (spJ n)) (depJ n) n T
theorem loop_end {E : Env} {j : Nat} {n : NJ} (h : EndT (tk (tokAt E j))) : evP E (.termLoop n) j = some (.ok n j) := by
 obtain ⟨_, n1, n2, n3, n4⟩ := h; rw [evP_step]; simp only [stepP]; rw [if_neg (show ¬ (tokAt E j).kind = 3 from n1), if_neg (fun h => n2 (isT_tk.1 h)), if_neg (fun h => n3 (isT_tk.1 h)), if_neg (fun h => n4 (isT_tk.1 h))]; rfl
theorem term_first {E : Env} {i j : Nat} {n : NJ} (h : evP E .first i = some (.ok n j)) : evP E .term i = evP E (.termLoop n) j := by
 rw [evP_step]; simp only [stepP]; rw [h]; rfl
theorem par_first {E : Env} {i j : Nat} {n : NJ} (h0 : tk (tokAt E i) = (6, ⟨#[40]⟩)) (hf : evP E .filter (i + 1) = some (.ok n j)) (h1 : tk (tokAt E j) = (6, ⟨#[41]⟩)) : evP E .first i = some (.ok n (j + 1)) := by
 rw [ev_sign h0, evP_step]; simp only [stepP]; rw [if_neg (by decide), if_neg (by decide), if_pos trivial, hf]; show wantP E j 6 ⟨#[41]⟩ _ = _
 unfold wantP; rw [if_pos (isT_tk.2 h1)]; rfl
section
variable {P : List UInt8} {dp : Nat} {n : NJ} {T : List TK} {E : Env} {i : Nat}
theorem RdP.term (h : RdP P dp n T) (hat : AtK E i T) (hq : EndT (tk (tokAt E (i + T.length)))) : evP E .term i = some (.ok n (i + T.length)) := by
 rw [h.ev E i _ hat rfl hq.1, loop_end hq]
theorem RdP.atom (h : RdP P dp n T) (hat : AtK E i T) (hq : EndT (tk (tokAt E (i + T.length)))) (ha : tk (tokAt E (i + T.length)) ≠ (1, ⟨#[97, 115]⟩)) : Atom E i n (i + T.length) := by
 obtain ⟨q, r, e, h1, h2⟩ := h.hd; have h5 := h.term hat hq; rw [e] at hat; have h0 := hat.cons.1; refine ⟨?_, fun hh => h2 (by rw [← h0]; exact isT_tk.1 hh)⟩; rw [evP_step]; simp only [stepP]; rw [if_neg (fun hh => h1 (by rw [← h0]; exact isT_tk.1 hh)), h5]; show (if isT E _ 1 ⟨#[97, 115]⟩ then _ else _) = _
 rw [if_neg (fun hh => ha (isT_tk.1 hh))]; rfl
theorem RdP.flt (h : RdP P dp n T) (hat : AtK E i T) (hq : Cl (tk (tokAt E (i + T.length)))) : evP E .filter i = some (.ok n (i + T.length)) := ev_one (h.atom hat hq.1 hq.2.1) hq.2.2
end
theorem walk_bal {a r : List TK} (h : Bal a) (s : Nat) : walkB (s + 1) (a ++ r) = walkB (s + 1) r := walk_app a r _ _ (h s)
theorem walk_bal0 {a : List TK} (h : Bal a) (s : Nat) : walkB (s + 1) a = some (s + 1) := h s
theorem walk_op (r : List TK) (s : Nat) : walkB (s + 1) ((6, ⟨#[40]⟩) :: r) = walkB (s + 1 + 1) r := rfl
theorem walk_cl (r : List TK) (s : Nat) : walkB (s + 1 + 1) ((6, ⟨#[41]⟩) :: r) = walkB (s + 1) r := rfl
theorem walk_k {k : Nat} (hk : k ≠ 6) (x : ByteArray) (r : List TK) (s : Nat) : walkB (s + 1) ((k, x) :: r) = walkB (s + 1) r := by
 show walkB (brk (s + 1) (k, x)) r = _
 unfold brk; rw [if_neg (fun h => hk h.1), if_neg (fun h => hk h.1)]
theorem walk_6 {x : ByteArray} (h1 : x ≠ ⟨#[40]⟩) (h2 : x ≠ ⟨#[41]⟩) (r : List TK) (s : Nat) : walkB (s + 1) ((6, x) :: r) = walkB (s + 1) r := by
 show walkB (brk (s + 1) (6, x)) r = _
 unfold brk; rw [if_neg (fun h => h1 h.2), if_neg (fun h => h2 h.2)]
theorem walk_nil (s : Nat) : walkB s [] = some s := by cases s <;> rfl
open Classical in
/-- the tokens of a filter's text -/
noncomputable def tokJ (n : NJ) : List TK := if h : ∃ T, Rd n T then h.choose else []
theorem rd_tok2 {n : NJ} (h : ∃ T, Rd n T) : Rd n (tokJ n) := by
 unfold tokJ; rw [dif_pos h]; exact h.choose_spec
theorem RdP.par {P : List UInt8} {dp : Nat} {n : NJ} {T : List TK} (h : RdP P dp n T) : RdP (40 :: (P ++ [41])) dp n ((6, ⟨#[40]⟩) :: (T ++ [(6, ⟨#[41]⟩)])) where
 sc d hd R hR := by
  have := (rd_one (c := 40) rfl d ((P ++ [41]) ++ R)).app ((h.sc d hd ([41] ++ R) rfl).app (rd_one (c := 41) rfl d R)); exact this
 bal := h.bal.par
 hd := ⟨_, _, rfl, by decide⟩
 c61 := ⟨_, _, rfl, by decide⟩
 ev E i j hat hj hq := by
  obtain ⟨t0, hat⟩ := hat.cons; obtain ⟨h1, hat⟩ := hat.app; obtain ⟨t2, _⟩ := hat.cons; obtain rfl : j = i + 1 + T.length + 1 := by rw [hj]; simp; omega
  exact term_first (par_first t0 (h.flt h1 (by rw [t2]; decide)) t2)
def tgX (x : NJ) : List UInt8 := if tightK (kindJ x) = true then tl (spJ x) else 40 :: (tl (spJ x) ++ [41])
theorem rd_tg {x : NJ} {T : List TK} (h : Rd x T) : ∃ G, RdP (tgX x) (depJ x) x G := by
 unfold tgX; split
 ·exact ⟨_, h⟩
 exact ⟨_, h.par⟩
theorem tl_tg (ks : List Int) (ts : List ByteArray) (i : Nat) (x : NJ) (h1 : ks.getD i 0 = kindJ x) (h2 : ts.getD i ⟨#[]⟩ = spJ x) : tl (tgJ ks ts i) = tgX x := by
 unfold tgJ tgX; rw [h1, h2]; split
 ·rfl
 exact tl_paren _
/-! kinds without kids -/
theorem rd1 : ∃ T, Rd selfJ T := by
 refine ⟨[(6, ⟨#[46]⟩)], fun d _ R hR => rd_dot hR, bal_one (by decide) (by decide), ⟨_, _, rfl, by decide⟩, ⟨46, [], rfl, by decide⟩, fun E i j hat hj hq => ?_⟩; obtain ⟨t0, _⟩ := hat.cons; obtain rfl : j = i + 1 := hj; refine term_first ?_; rw [ev_sign t0, evP_step]; simp only [stepP]; rw [if_pos trivial, if_neg (show ¬ (tokAt E (i + 1)).kind = 5 from hq.1)]; rfl
theorem rd26 : ∃ T, Rd (kidsJ 26 []) T := by
 refine ⟨[(6, ⟨#[46, 46]⟩)], fun d _ R hR => rd_dots d R, bal_one (by decide) (by decide), ⟨_, _, rfl, by decide⟩, ⟨46, [46], rfl, by decide⟩, fun E i j hat hj hq => ?_⟩; obtain ⟨t0, _⟩ := hat.cons; obtain rfl : j = i + 1 := hj; refine term_first ?_; rw [ev_sign t0, evP_step]; simp only [stepP]; rw [if_neg (by decide), if_pos trivial]; rfl
theorem all_digK {l : List UInt8} (h : AllDig l) : l.all isDg = true := by
 rw [List.all_eq_true]; intro c hc; have := h c hc; simpa [isDg] using this
theorem digs_of {l : List UInt8} (h : AllDig l) (h0 : l ≠ []) : isDigs l = true := by
 rw [isDigs_iff]; exact ⟨List.length_pos_iff.2 h0, all_digK h⟩
theorem text_num {m e : Int} (h0 : 0 ≤ m) : isNum (textN m e) = true := by
 have hs : sgn m = [] := by unfold sgn; rw [if_neg (by omega)]
 have hd := (dec_all m.natAbs).1; have hn := dec_nil m.natAbs; unfold textN; rw [hs, List.nil_append, List.nil_append]; split
 ·exact isNum_of (D := Lib.decDigits m.natAbs ++ List.replicate e.toNat 48) (F := []) (E := []) ⟨by simp, digs_of (allDig_append hd (all_zeros _)) (by simp [hn]), .inl rfl, .inl rfl⟩
 split
 ·rename_i h
  have hpd : AllDig (pad m e) ∧ (1 - e) ≤ ((pad m e).length : Int) := by
   have hn := nd_pos m; unfold pad nd at *; split
   ·exact ⟨allDig_append (all_zeros _) hd, by rw [List.length_append, List.length_replicate, Lib.decDigits_length]; omega⟩
   exact ⟨hd, by rw [Lib.decDigits_length]; omega⟩
  obtain ⟨p1, p3⟩ := hpd; generalize pad m e = Q at *; refine isNum_of (D := Q.take ((Q.length : Int) + e).toNat) (F := 46 :: Q.drop ((Q.length : Int) + e).toNat) (E := []) ⟨by simp, digs_of (fun x hx => p1 x (List.mem_of_mem_take hx)) ?_, .inr ⟨_, rfl, digs_of (fun x hx => p1 x (List.mem_of_mem_drop hx)) ?_⟩, .inl rfl⟩
  ·intro hh
   have := congrArg List.length hh; rw [List.length_take, List.length_nil] at this; omega
  intro hh; have := congrArg List.length hh; rw [List.length_drop, List.length_nil] at this; omega
 refine isNum_of (D := Lib.decDigits m.natAbs) (F := []) (E := 101 :: Lib.itoa e) ⟨by simp, digs_of hd hn, .inl rfl, .inr ⟨101, _, rfl, .inl rfl, ?_⟩⟩; unfold Lib.itoa; split
 ·show isDigs (unsign (45 :: Lib.decDigits e.natAbs)) = true
  exact digs_of (dec_all _).1 (dec_nil _)
 have h1 := (dec_all e.toNat).1; have h2 := dec_nil e.toNat; cases hq : Lib.decDigits e.toNat with
 | nil => exact absurd hq h2
 | cons c x =>
  rw [hq] at h1; have hc := h1 c List.mem_cons_self; show isDigs (if c = 43 ∨ c = 45 then x else c :: x) = true
  rw [if_neg (by rintro (rfl | rfl) <;> simp at hc)]; exact digs_of h1 (by simp)
theorem rd2 {m e : Int} (h0 : 0 ≤ m) (hr : right m e = true) : ∃ T, Rd (.mk 2 ⟨#[]⟩ m e [] []) T := by
 have ht : tl (spJ (.mk 2 ⟨#[]⟩ m e [] [])) = textN m e := by rw [spJ, if_neg (by decide), if_neg (by decide), if_pos rfl]; rfl
 have hn := text_num (e := e) h0; have hp := parse_text m e hr; refine ⟨[(4, ⟨(textN m e).toArray⟩)], ?_⟩; unfold Rd; rw [ht]; refine ⟨fun d _ R hR => rd_num hn hR, bal_one (by simp) (by simp), ⟨_, _, rfl, by simp [HdK]⟩, ?_, fun E i j hat hj hq => ?_⟩
 ·cases hl : textN m e with
  | nil => rw [hl] at hn; simp [isNum, headE, isDigs] at hn
  | cons c x =>
   rw [hl] at hn; exact ⟨c, x, rfl, by have := num_head c x hn; rintro rfl; cases this⟩
 obtain ⟨t0, _⟩ := hat.cons; obtain rfl : j = i + 1 := hj; have hk : (tokAt E i).kind = 4 := congrArg Prod.fst t0; have hx : (tokAt E i).text = ⟨(textN m e).toArray⟩ := congrArg Prod.snd t0; refine term_first ?_; rw [evP_step]; simp only [stepP]; rw [if_neg (by omega), if_neg (by omega), if_neg (by omega), if_pos hk, hx]; dsimp only; rw [hp]; rfl
theorem rd22 {s : ByteArray} (hs : nameB s = true) : ∃ T, Rd (knownJ s) T := by
 have ht : tl (spJ (knownJ s)) = 36 :: tl s := by
  unfold knownJ; rw [spJ]; simp only [Int.reduceEq, if_true, if_false, or_false]; rw [tl_app]; rfl
 refine ⟨[(2, s)], ?_⟩; unfold Rd; rw [ht]; refine ⟨fun d _ R hR => rd_known hs (sep_name hR), bal_one (by simp) (by simp), ⟨_, _, rfl, by simp [HdK]⟩, ⟨36, _, rfl, by decide⟩, fun E i j hat hj hq => ?_⟩; obtain ⟨t0, _⟩ := hat.cons; obtain rfl : j = i + 1 := hj; have hk : (tokAt E i).kind = 2 := congrArg Prod.fst t0; have hx : (tokAt E i).text = s := congrArg Prod.snd t0; refine term_first ?_; rw [evP_step]; simp only [stepP]; rw [if_neg (by omega), if_pos hk, hx]; rfl
/-! texts in quotes -/
theorem quoted_ev {E : Env} {i : Nat} {q : ByteArray} {ts fs : List (List UInt8)} {ps : List Nat} (ht : tk (tokAt E i) = (5, q)) (hp : partsF q.data.toList = (⟨ts, fs, ps⟩, 0)) : evP E .quoted i = evP E (.parts ts fs ps []) i := by
 have hk : (tokAt E i).kind = 5 := congrArg Prod.fst ht; have hx : (tokAt E i).text = q := congrArg Prod.snd ht; rw [evP_step]; simp only [stepP]; rw [if_neg (by omega), hx, hp]
theorem read_body (s : ByteArray) (hv : Lib.validD s.data.toList = true) : readQ (textQ (bodyD (tl s))) = (tl s, (bodyD (tl s)).length + 2, 0) := by
 have h := readQ_quote (tl s) hv []; rw [List.append_nil] at h; show readQ (34 :: (bodyD (tl s) ++ [34])) = _
 rw [show 34 :: (bodyD (tl s) ++ [34]) = quoteD (tl s) from rfl, h]; simp [quoteD]
def flatN : List (NJ × ByteArray) → List NJ
 | [] => []
 | (x, s) :: r => x :: strJ s :: flatN r
theorem parts_ev {E : Env} {i : Nat} : ∀ (r : List (NJ × ByteArray)) (s : ByteArray) (ps : List Nat) (kids : List NJ), Lib.validD s.data.toList = true → (∀ x ∈ r, Lib.validD x.2.data.toList = true ∧ ∀ b, ∃ j, evP (envOf (tl (spJ x.1)) b) .whole 0 = some (.ok x.1 j)) →
  evP E (.parts (bodyD (tl s) :: r.map fun x => bodyD (tl x.2)) (r.map fun x => tl (spJ x.1)) ps kids) i = okP (joinQ (kids ++ strJ s :: flatN r)) (i + 1)
 | [], s, ps, kids, hs, _ => by
  have h := read_body s hs; rw [evP_step]; simp only [stepP, List.map_nil]; rw [h]; dsimp only; rw [if_neg (by simp), evP_step]; simp only [stepP]; rfl
 | (x, t) :: r, s, ps, kids, hs, hr => by
  have h := read_body s hs; obtain ⟨h1, h2⟩ := hr (x, t) List.mem_cons_self; obtain ⟨j, hj⟩ := h2 (E.base + (tokAt E i).at_ + ps.headD 0); rw [evP_step]; simp only [stepP, List.map_cons]; rw [h]; dsimp only; rw [if_neg (by simp), hj]; show evP E (.parts (bodyD (tl t) :: _) _ _ _) i = _
  rw [parts_ev r t ps.tail _ h1 fun y hy => hr y (List.mem_cons_of_mem _ hy)]; simp only [flatN, List.append_assoc, List.cons_append, List.nil_append]; rfl
theorem RdP.whole {P : List UInt8} {dp : Nat} {n : NJ} {T : List TK} (h : RdP P dp n T) (hd : dp ≤ 48) (hl : P.length ≤ 16384) (b : Nat) : ∃ l, scanF P = (l, 0, 0) ∧ l.map tk = T ∧ evP (envOf P b) .filter 0 = some (.ok n l.length) := by
 obtain ⟨l, h1, h2⟩ := scan_rsc ((h.sc 48 hd [] rfl).rsc) hl; refine ⟨l, h1, h2, ?_⟩; have hE : (envOf P b).l = l := envOf_l h1 b; have hn : T.length = l.length := by rw [← h2, List.length_map]
 have hat : AtK (envOf P b) 0 T := ⟨[], by rw [hE, h2, List.append_nil]; rfl⟩; have := h.flt hat (by rw [tok_end (by rw [hE, ← hn]; omega)]; decide); rw [this, Nat.zero_add, hn]
theorem RdP.whole2 {P : List UInt8} {dp : Nat} {n : NJ} {T : List TK} (h : RdP P dp n T) (hd : dp ≤ 48) (hl : P.length ≤ 16384) (b : Nat) : ∃ j, evP (envOf P b) .whole 0 = some (.ok n j) := by
 obtain ⟨l, h1, h2, h3⟩ := h.whole hd hl b; refine ⟨l.length, ?_⟩; rw [ev_whole, h3, envOf_l h1]; show (if l.length < l.length then _ else _) = _
 rw [if_neg (Nat.lt_irrefl _)]; rfl
theorem rd_quoted {n : NJ} {s : ByteArray} {r : List (NJ × ByteArray)} (ht : tl (spJ n) = 34 :: (jn (bodyD (tl s)) (r.map fun x => ⟨tl (spJ x.1), tokJ x.1, bodyD (tl x.2)⟩) ++ [34])) (hn : n = joinQ (strJ s :: flatN r)) (hd : depJ n ≤ 48) (h1 : 1 ≤ depJ n) (hl : (spJ n).size ≤ 16384)
  (hs : Lib.validD s.data.toList = true) (hr : ∀ x ∈ r, Lib.validD x.2.data.toList = true ∧ Rd x.1 (tokJ x.1) ∧ depJ x.1 + 1 ≤ depJ n ∧ (spJ x.1).size ≤ 16384) : ∃ T, Rd n T := by
 have hf : ∀ d, depJ n ≤ d + 1 → ∀ x ∈ (r.map fun x => (⟨tl (spJ x.1), tokJ x.1, bodyD (tl x.2)⟩ : Fp)), FpOk d x := by
  intro d hd x hx; obtain ⟨y, hy, rfl⟩ := List.mem_map.1 hx; obtain ⟨h1, h2, h3, _⟩ := hr y hy; exact ⟨body_bd _ _ (Nat.le_refl _), fun R => h2.sc d (by omega) _ rfl, h2.bal⟩
 have hb := body_bd _ (tl s) (Nat.le_refl _); refine ⟨[(5, spJ n)], ?_⟩; refine ⟨fun d hd R _ => ?_, bal_one (by simp) (by simp), ⟨_, _, rfl, by simp [HdK]⟩, ?_, fun E i j hat hj hq => ?_⟩
 ·obtain ⟨k, rfl⟩ : ∃ k, d = k + 1 := ⟨d - 1, by omega⟩
  have := rd_quote hb (hf k hd) R; rw [← ht] at this; exact this
 ·rw [ht]; exact ⟨34, _, rfl, by decide⟩
 obtain ⟨t0, _⟩ := hat.cons; obtain rfl : j = i + 1 := hj; have hk : (tokAt E i).kind = 5 := congrArg Prod.fst t0; obtain ⟨ps, hp⟩ := quote_jn hb (hf 47 (by omega)) (by rw [← ht]; exact hl); rw [← ht] at hp; refine term_first ?_; rw [evP_step]; simp only [stepP]; rw [if_neg (by omega), if_neg (by omega), if_pos hk, quoted_ev t0 hp]; simp only [List.map_map, Function.comp_def]; rw [parts_ev r s ps [] hs fun x hx => ?_]
 ·rw [hn]; rfl
 obtain ⟨h1, h2, h3, h4⟩ := hr x hx; exact ⟨h1, fun b => h2.whole2 (by omega) (by rw [tl_len]; exact h4) b⟩
end Go.Proofs.YtakncilicoefdaaGreatDoor
