/- Lemmas and contracts. Conditions: those that each lemma names. -/
import Derived.Test.YtakncilicoefdaaGreatDoorPz12
set_option maxRecDepth 100000
set_option maxHeartbeats 4000000
namespace Go.Proofs.YtakncilicoefdaaGreatDoor
open Go Go.RowKit Go.Proofs Th
section
variable {P : Program} {X : Ctx} {E : AEnv} {S : CS} {s : ASt} {a : Act} {W : World} {o : Oper} {K : FV → (Nat → AObj) → Prop} {Q : Exit → Act → World → Prop}
theorem Dl {x u : Value} (h : Rep W S (.v x) u) : u = x := by cases h; rfl
theorem Cn (h : RelE X E S s a W) {x : Operand} {u : Value} (hx : Aw s x = .im (.v u)) : a.eval x = u := by
 have := Br h x; rw [hx] at this; exact Dl this
theorem C5 (h : RelE X E S s a W) {x : Operand} {b off : Nat} (hx : Aw s x = .ptr b off) : a.eval x = .pointer (some ⟨E.box b, off, none⟩) := by
 have := Br h x; rw [hx] at this; exact this.2
theorem RelE.newbox (h : RelE X E S s a W) {d : Nat} (h1000 : d ≠ 1000) (hd : s.st d = .none) (us : List Value) (cs : List FV) (ty : TypeId) (hl : us.length = cs.length) (h1 : ∀ u ∈ us, u.oneCell' = true)
  (hr : ∀ (i : Nat) c u, cs[i]? = some c → us[i]? = some u → B4 W S E s.st c u) : RelE X { E with box := upd E.box d W.heap.size } S ⟨s.fr, upd s.st d (.box cs)⟩ a (W.alloc (.cells us.toArray ty)) := by
 have hb := al1 W (.cells us.toArray ty); have hsz : (W.alloc (.cells us.toArray ty)).heap.size = W.heap.size + 1 := by simp
 have hcell : ∀ g o, S g o → (W.alloc (.cells us.toArray ty)).cell? ⟨g, o, none⟩ = W.cell? ⟨g, o, none⟩ := fun g o ho => hb.cell (p := ⟨g, o, none⟩) (h.Sb g o ho)
 have hF : ∀ c u, B4 W S E s.st c u → B4 (W.alloc (.cells us.toArray ty)) S { E with box := upd E.box d W.heap.size } (upd s.st d (.box cs)) c u := by
  intro c u hc; cases c with
  | junk => trivial
  | im x => exact Rep.keep hc hcell (fun _ _ h => h)
  | own k n =>
   obtain ⟨t, z, es, e1, e2⟩ := hc; exact ⟨t, z, es, by rw [Ce _ _ (fun e => by subst e; rw [hd] at e1; cases e1)]; exact e1, e2⟩
  | ptr b off =>
   obtain ⟨⟨cs', e1⟩, e2⟩ := hc; have hne : b ≠ d := fun e => by subst e; rw [hd] at e1; cases e1
   exact ⟨⟨cs', by rw [Ce _ _ hne]; exact e1⟩, by rw [e2]; simp only [Ce _ _ hne]⟩
  | pin b p =>
   obtain ⟨⟨cs', e1⟩, e2⟩ := hc; have hne : b ≠ d := fun e => by subst e; rw [hd] at e1; cases e1
   exact ⟨⟨cs', by rw [Ce _ _ hne]; exact e1⟩, by simp only [Ce _ _ hne]; exact e2⟩
 refine h.core (· = d) _ _ S _ (fun j hj => ⟨Ce _ _ hj, Ce _ _ hj, rfl⟩) (Ce _ _ (Ne.symm h1000)) (fun j hj => ?_) rfl rfl rfl (by omega) (fun g hg _ => hb.block g hg) hcell (fun _ _ h => h) (fun g o h => Or.inl h) (fun g o ho => by have := h.Sb g o ho; omega) (fun j hj => ?_) (fun j g hj hg => ?_) (fun i j g hi hj _ _ => hi.trans hj.symm)
 ·subst hj; rw [hd]; trivial
 ·subst hj
  rw [AX]; refine ⟨⟨us, hl, ?_, h1, fun i c u hc hu => hF c u (hr i c u hc hu), fun o ho => ?_⟩, Or.inr ?_⟩
  ·simp only [AX]; exact Box.new us ty rfl
  ·simp only [AX] at ho; exact absurd (h.Sb _ _ ho) (by omega)
  simp only [AX]; exact h.u.size
 subst hj; rw [AX] at hg; simp only [blk, AX, Option.some.injEq] at hg; exact Or.inr (by omega)
theorem VE (h : RelE X E S s a W) {x : Operand} (ho : o.op = .move x) (hop : AH P (.move x) o.dst s K) : Out P X s a W o K Q :=
 Bm h (by simp [execOp, ho]) hop (Br h x)
theorem RQ (h : RelE X E S s a W) {x : Operand} (ho : o.op = .assign x) (hop : AH P (.assign x) o.dst s K) : Out P X s a W o K Q :=
 Bm h (by simp [execOp, ho]) hop (Br h x)
theorem Wt (h : RelE X E S s a W) {c x y : Operand} (ho : o.op = .pick c x y) (hop : AH P (.pick c x y) o.dst s K) : Out P X s a W o K Q := by
 simp only [AH] at hop; split at hop
 ·rename_i t ht
  have hc := Cn h ht; refine Bm h (u := if t = true then a.eval x else a.eval y) (by simp [execOp, ho, hc, asBool]) hop ?_; cases t
  ·exact Br h y
  exact Br h x
 exact hop.elim
theorem O0 (h : RelE X E S s a W) {x : Operand} (ho : o.op = .nilCheck x) (hop : AH P (.nilCheck x) o.dst s K) : Out P X s a W o K Q := by
 simp only [AH] at hop; have he := Br h x; split at hop
 ·rename_i b off hx
  have hc := C5 h hx; exact Bm h (u := a.eval x) (by simp [execOp, ho, hc]) hop (by rw [hx] at he; exact he)
 ·rename_i cs off hx
  rw [hx] at he; have : ∃ ad, a.eval x = .pointer (some ad) := by
   revert he; generalize a.eval x = u; intro he; cases he; exact ⟨_, rfl⟩
  obtain ⟨ad, hc⟩ := this; exact Bm h (u := a.eval x) (by simp [execOp, ho, hc]) hop he
 exact hop.elim
theorem Ft (zs : List Value) : ∀ (i : Nat) c u, (zs.map fun x => FV.im (lift x))[i]? = some c → zs[i]? = some u → B4 W S E s.st c u := by
 intro i c u hc hu; rw [List.getElem?_map, hu] at hc; simp only [Option.map_some, Option.some.injEq] at hc; subst hc; exact GG W S u
theorem UF (h : RelE X E S s a W) {t : TypeId} (ho : o.op = .alloc t) (hop : AH P (.alloc t) o.dst s K) : Out P X s a W o K Q := by
 simp only [AH] at hop; split at hop
 ·rename_i d hdst
  obtain ⟨hne, hop⟩ := hop; split at hop
  ·rename_i ti hd hti
   have key : ∃ zv : Value, (zeroValue t).run P W = .ok zv W ∧ zv.cells.toList.length = (Fh ti).length ∧ (∀ u ∈ zv.cells.toList, u.oneCell' = true) ∧ (∀ (i : Nat) c u, (Fh ti)[i]? = some c → zv.cells.toList[i]? = some u → B4 W S E s.st c u) := by
    cases ti with
    | flat z =>
     obtain ⟨dd, i, h1, h2, h3, h4, h5, h6⟩ := Rg hti; have hz : z.cells = #[z] := by cases z <;> first | rfl | cases h5
     refine ⟨z, by simp [zeroValue, typeInfo, h2, h4], by simp [hz, Fh], by simp [hz, h5], ?_⟩; rw [hz]; exact Ft [z]
    | slice e esz =>
     obtain ⟨i, j, z, h1, h2, h3, h4, _⟩ := FF hti; refine ⟨.slice none 0 0, by simp [zeroValue, typeInfo, h2, h4], rfl, by simp [Value.cells, Value.oneCell'], ?_⟩; exact Ft [.slice none 0 0]
    | struct fs z =>
     obtain ⟨fields, i, h1, h2, h3, h4, h5, h6⟩ := Ek hti; refine ⟨.agg z.toArray, by simp [zeroValue, typeInfo, h2, h3], by simp [Value.cells, Fh], fun u hu => by simpa using List.all_eq_true.1 h5 u (by simpa [Value.cells] using hu), ?_⟩; simpa [Value.cells, Fh] using Ft (W := W) (S := S) (E := E) (s := s) z
   obtain ⟨zv, h1, h2, h3, h4⟩ := key; have hN := h.newbox hne hd zv.cells.toList (Fh ti) t h2 h3 h4; refine EV (W' := W.alloc (.cells zv.cells.toList.toArray t)) ?_ hop hN ⟨⟨_, AX _ _ _⟩, rfl⟩; simp [execOp, ho, Instr.alloc, h1, newVar, newRow, AX]
  ·rename_i hd hti
   split at hop
   ·rename_i ar har
    obtain ⟨n, esz, z⟩ := ar; obtain ⟨e, i, j, h1, h2, h3, h4, h5, _⟩ := LZ har; have hN := h.newbox hne hd z (z.map fun x => .im (lift x)) t (by simp) (fun u hu => List.all_eq_true.1 h5 u hu) (Ft z); refine EV (W' := W.alloc (.cells z.toArray t)) ?_ hop hN ⟨⟨_, AX _ _ _⟩, rfl⟩; simp [execOp, ho, Instr.alloc, zeroValue, typeInfo, h2, h3, newVar, newRow, AX, Value.cells]
   exact hop.elim
  exact hop.elim
 exact hop.elim
theorem ok_one (h : RelE X E S s a W) {c : FV} {u : Value} (hc : B4 W S E s.st c u) (h1 : c.ok s.st) : u.oneCell' = true := by
 cases c with
 | junk => exact h1.elim
 | im y => exact Rep.one hc h1
 | ptr b off => rw [hc.2]; rfl
 | pin b p => exact h1.elim
 | own k n =>
  obtain ⟨ty, esz, es, e1, e2, e3⟩ := hc; simp only [FV.ok, e1] at h1; rw [e3 h1]; have ho := h.ob k; rw [e1] at ho; obtain ⟨xs, ⟨_, hv⟩, _⟩ := ho; rcases hv with ⟨hv, _⟩ | ⟨g, cap, cur, hv, _⟩ <;> (rw [hv]; rfl)
theorem XX (h : RelE X E S s a W) {t : TypeId} {x : Operand} (ho : o.op = .box t x) (hop : AH P (.box t x) o.dst s K) : Out P X s a W o K Q := by
 simp only [AH] at hop; have he := Br h x; split at hop
 ·rename_i d hdst
  obtain ⟨hne, hop⟩ := hop; split at hop
  ·rename_i cs hd hx
   obtain ⟨h1, hop⟩ := hop; rw [hx] at he; revert he
   generalize hu : a.eval x = u; intro he; cases he with
   | agg hl hR =>
    rename_i us
    have hN := h.newbox hne hd us (cs.map FV.im) t (by simp [hl]) (fun u hu => by
     obtain ⟨i, hi, rfl⟩ := List.mem_iff_getElem.1 hu; exact (hR i (cs[i]'(by omega)) us[i] (List.getElem?_eq_getElem _) (List.getElem?_eq_getElem _)).one (List.all_eq_true.1 h1 _ (List.getElem_mem _))) (fun i c u hc hu => by
     rw [List.getElem?_map] at hc; cases hy : cs[i]? with
     | none => rw [hy] at hc; cases hc
     | some y =>
      rw [hy] at hc; simp only [Option.map_some, Option.some.injEq] at hc; subst hc; exact hR i y u hy hu)
    refine EV (W' := W.alloc (.cells us.toArray t)) ?_ hop hN ⟨⟨_, AX _ _ _⟩, rfl⟩; simp [execOp, ho, Instr.box, hu, newVar, newRow, Value.cells, AX]
  ·rename_i c hd _
   obtain ⟨h1, hop⟩ := hop; have hone : (a.eval x).oneCell' = true := ok_one h he h1; have hz : (a.eval x).cells = #[a.eval x] := by revert hone; cases a.eval x <;> intro hone <;> first | rfl | cases hone
   have hN := h.newbox hne hd [a.eval x] [Aw s x] t rfl (by simpa using hone) (fun i c u hc hu => by
    cases i with
    | zero => simp only [List.getElem?_cons_zero, Option.some.injEq] at hc hu; subst hc hu; exact he
    | succ i => simp at hc)
   refine EV (W' := W.alloc (.cells #[a.eval x] t)) ?_ hop hN ⟨⟨_, AX _ _ _⟩, rfl⟩; simp [execOp, ho, Instr.box, newVar, newRow, hz, AX]
  exact hop.elim
 exact hop.elim
theorem Js (t : TypeId) {ti : TI} (hti : Cg P t = some ti) (g o : Nat) (us : List Value) (hc : ∀ (j : Nat) u, us[j]? = some u → W.cell? ⟨g, o + j, none⟩ = some u) :
  (∀ fs z, ti = .struct fs z → us.length = z.length → (Instr.loadAt t (.pointer (some ⟨g, o, none⟩))).run P W = .ok (.agg us.toArray) W) ∧
  ((∀ fs z, ti ≠ .struct fs z) → ∀ u, us[0]? = some u → (Instr.loadAt t (.pointer (some ⟨g, o, none⟩))).run P W = .ok u W) := by
 refine ⟨fun fs z e hl => ?_, fun hs u hu => ?_⟩
 ·subst e
  obtain ⟨fields, i, h1, h2, h3, h4, _⟩ := Ek hti; have hsz : (sizeOf t).run P W = .ok us.length W := by simp [sizeOf, typeInfo, h2, h4, hl]
  have hag : (isAgg t).run P W = .ok true W := by simp [isAgg, run_underlying h1]
  have := run_loadCells_list (P := P) W ⟨g, o, none⟩ us (fun j v hv => by rw [EF]; exact hc j v hv); simp [Instr.loadAt, Instr.sureAddr, loadVar, hag, hsz, this]
 obtain ⟨d, i, h1, h2, h3, h4⟩ := U8 hti hs; have hag : (isAgg t).run P W = .ok false W := by
  simp only [isAgg, run_underlying h1, Sem.run_bind, Result.andThen_ok]; cases d <;> first | rfl | cases h4
 have := hc 0 u hu; simp [Instr.loadAt, Instr.sureAddr, loadVar, hag, load, Sem.run, show W.cell? ⟨g, o, none⟩ = some u from this]
theorem G1 {α : Type} (l : List α) (o n j : Nat) (x : α) (h : ((l.drop o).take n)[j]? = some x) : l[o + j]? = some x ∧ j < n := by
 have hj : j < n := by
  have := (List.getElem?_eq_some_iff.1 h).1; rw [List.length_take] at this; omega
 rw [List.getElem?_take_of_lt hj, List.getElem?_drop] at h; exact ⟨h, hj⟩
theorem JI (h : RelE X E S s a W) {t : TypeId} {cs : List FV} {off : Nat} {K : FV → Prop} (hop : Ej s.st (Cg P t) cs off K) (g o : Nat) (us : List Value) (hl : us.length = cs.length)
  (hc : ∀ (j : Nat) u, us[j]? = some u → W.cell? ⟨g, o + j, none⟩ = some u) (hr : ∀ (i : Nat) c u, cs[i]? = some c → us[i]? = some u → B4 W S E s.st c u) :
  ∃ c u, K c ∧ (Instr.loadAt t (.pointer (some ⟨g, o + off, none⟩))).run P W = .ok u W ∧ B4 W S E s.st c u := by
 unfold Ej at hop; split at hop
 ·rename_i fs z hti
  split at hop
  ·rename_i xs hxs
   obtain ⟨hxl, hop⟩ := hop; have hseg : ((us.drop off).take z.length).length = ((cs.drop off).take z.length).length := by simp [hl]
   have hR := JO h (us := (us.drop off).take z.length) hseg (fun i c u hc1 hu1 => hr (off + i) c u (G1 _ _ _ _ _ hc1).1 (G1 _ _ _ _ _ hu1).1) hxs; refine ⟨_, _, hop, (Js t hti g (o + off) ((us.drop off).take z.length) (fun j u hu => ?_)).1 fs z rfl (by rw [hR.1, hxl]), Rep.agg hR.1 hR.2⟩; have := hc (off + j) u (G1 _ _ _ _ _ hu).1; rwa [← Nat.add_assoc] at this
  exact hop.elim
 ·rename_i ti hns hti
  split at hop
  ·rename_i c hcs
   have hlt := (List.getElem?_eq_some_iff.1 hcs).1; have hu : us[off]? = some (us[off]'(by omega)) := List.getElem?_eq_getElem _; refine ⟨c, us[off]'(by omega), hop, (Js t hti g (o + off) [us[off]'(by omega)] (fun j u hj => ?_)).2 (fun fs z e => hns fs z e) _ rfl, hr off c _ hcs hu⟩; cases j with
   | zero =>
    simp only [List.getElem?_cons_zero, Option.some.injEq] at hj; subst hj; exact hc off _ hu
   | succ j => simp at hj
  exact hop.elim
 exact hop.elim
theorem We (h : RelE X E S s a W) {t : TypeId} {x : Operand} (ho : o.op = .load t x) (hop : AH P (.load t x) o.dst s K) : Out P X s a W o K Q := by
 simp only [AH] at hop; have he := Br h x; split at hop
 ·rename_i b off hx
  have hp := C5 h hx; split at hop
  ·rename_i cs hst
   have hob := h.ob b; rw [hst] at hob; obtain ⟨⟨us, hl, hB, h1, hr, hS⟩, _⟩ := hob; obtain ⟨c, u, hK, hrun, hc⟩ := JI h hop (E.box b) 0 us hl (fun j u hu => by rw [Nat.zero_add]; exact hB.cell j u hu) hr; rw [Nat.zero_add] at hrun; exact Bm h (u := u) (by simp [execOp, ho, hp, hrun]) hK hc
  exact hop.elim
 ·rename_i cs off hx
  rw [hx] at he; revert he
  generalize hu : a.eval x = w; intro he; cases he with
  | elt g oo f h1 hA hR =>
   obtain ⟨c, u, hK, hrun, hc⟩ := JI h hop g oo ((List.range cs.length).map f) (by simp) (fun j u hj => by
    have hlt := (List.getElem?_eq_some_iff.1 hj).1; simp only [List.length_map, List.length_range] at hlt; rw [List.getElem?_map, List.getElem?_range hlt] at hj; simp only [Option.map_some, Option.some.injEq] at hj; subst hj; exact (hA j hlt).2) (fun i c u hc hu => by
    have hlt := (List.getElem?_eq_some_iff.1 hu).1; simp only [List.length_map, List.length_range] at hlt; rw [List.getElem?_map, List.getElem?_range hlt] at hu; simp only [Option.map_some, Option.some.injEq] at hu; subst hu; rw [List.getElem?_map] at hc; cases hy : cs[i]? with
    | none => rw [hy] at hc; cases hc
    | some y =>
     rw [hy] at hc; simp only [Option.map_some, Option.some.injEq] at hc; subst hc; exact hR i y hy)
   exact Bm h (u := u) (by simp [execOp, ho, hu, hrun]) hK hc
 exact hop.elim
theorem F6 (g : Nat) : ∀ (vs : List Value) (o : Nat) (w : World), (w.setCells g o vs).heap.size = w.heap.size ∧ (∀ k, k ≠ g → (w.setCells g o vs).heap[k]? = w.heap[k]?) ∧ (w.setCells g o vs).os = w.os ∧ (w.setCells g o vs).tape = w.tape ∧ (w.setCells g o vs).output = w.output
 | [], _, w => ⟨rfl, fun _ _ => rfl, rfl, rfl, rfl⟩
 | v :: r, o, w => by
  obtain ⟨h1, h2, h3, h4, h5⟩ := F6 g r (o + 1) (w.setCell ⟨g, o, none⟩ v); rw [World.setCells]; exact ⟨by rw [h1]; simp, fun k hk => (h2 k hk).trans (Below.heap_setCell w ⟨g, o, none⟩ v k hk), h3, h4, h5⟩
theorem Ew {α : Type} (l : List α) (o : Nat) (xs : List α) (hl : o + xs.length ≤ l.length) (i : Nat) : (CE l o xs)[i]? = if i < o then l[i]? else if i < o + xs.length then xs[i - o]? else l[i]? := by
 unfold CE; have h1 : (l.take o).length = o := by rw [List.length_take]; omega
 by_cases hi : i < o
 ·rw [if_pos hi, List.getElem?_append_left (by omega), List.getElem?_take_of_lt hi]
 rw [if_neg hi, List.getElem?_append_right (by omega), h1]; by_cases h2 : i < o + xs.length
 ·rw [if_pos h2, List.getElem?_append_left (by omega)]
 rw [if_neg h2, List.getElem?_append_right (by omega), List.getElem?_drop]; congr 1; omega
theorem Ki {α : Type} (l : List α) (o : Nat) (xs : List α) (hl : o + xs.length ≤ l.length) : (CE l o xs).length = l.length := by
 unfold CE; simp; omega
theorem Box.setCells {w : World} {g o : Nat} {us vs : List Value} (h : Box w g us) (ho : o + vs.length ≤ us.length) : Box (w.setCells g o vs) g (CE us o vs) := by
 have hs : ∀ j, j < vs.length → (w.cell? ⟨g, o + j, none⟩).isSome = true := fun j hj => by rw [h.cell (o + j) _ (List.getElem?_eq_getElem (by omega))]; rfl
 refine ⟨fun i v hv => ?_, fun i => by rw [World.frozen?_setCells]; exact h.froz i, by rw [(F6 g vs o w).1]; exact h.lt⟩; rw [Ew us o vs ho] at hv; split at hv
 ·rename_i hi
  rw [World.cell?_setCells_out g vs o w ⟨g, i, none⟩ (fun _ _ => Or.inl hi)]; exact h.cell i v hv
 split at hv
 ·rename_i h1 h2
  have := World.cell?_setCells_in g vs o w hs (i - o) (by omega); rw [show o + (i - o) = i by omega] at this; rw [this, ← hv, List.getElem?_eq_getElem]
 rw [World.cell?_setCells_out g vs o w ⟨g, i, none⟩ (fun _ _ => Or.inr (by show o + vs.length ≤ i; omega))]; exact h.cell i v hv
theorem RelE.setbox (h : RelE X E S s a W) {b off : Nat} {cs xs : List FV} {vs : List Value} (hst : s.st b = .box cs) (ho : off + xs.length ≤ cs.length) (hl : vs.length = xs.length) (h1 : ∀ u ∈ vs, u.oneCell' = true)
  (hr : ∀ (i : Nat) c u, xs[i]? = some c → vs[i]? = some u → B4 W S E s.st c u) : RelE X E S ⟨s.fr, upd s.st b (.box (CE cs off xs))⟩ a (W.setCells (E.box b) off vs) := by
 have hob := h.ob b; rw [hst] at hob; obtain ⟨⟨us, hul, hB, hu1, hur, hS⟩, hloc⟩ := hob; obtain ⟨e1, e2, e3, e4, e5⟩ := F6 (E.box b) vs off W; have hcell : ∀ g o, S g o → (W.setCells (E.box b) off vs).cell? ⟨g, o, none⟩ = W.cell? ⟨g, o, none⟩ := fun g o hg => DZ (e2 g (fun e => hS o (e ▸ hg)))
 have hF : ∀ c u, B4 W S E s.st c u → B4 (W.setCells (E.box b) off vs) S E (upd s.st b (.box (CE cs off xs))) c u := by
  intro c u hc; cases c with
  | junk => trivial
  | im x => exact Rep.keep hc hcell (fun _ _ h => h)
  | own k n =>
   obtain ⟨t, z, es, f1, f2⟩ := hc; exact ⟨t, z, es, by rw [Ce _ _ (fun e => by subst e; rw [hst] at f1; cases f1)]; exact f1, f2⟩
  | ptr b' off' =>
   obtain ⟨⟨cs', f1⟩, f2⟩ := hc; refine ⟨?_, f2⟩; by_cases hb : b' = b
   ·subst hb; exact ⟨_, AX _ _ _⟩
   exact ⟨cs', by rw [Ce _ _ hb]; exact f1⟩
  | pin b' p' =>
   obtain ⟨⟨cs', f1⟩, f2⟩ := hc; refine ⟨?_, f2⟩; by_cases hb : b' = b
   ·subst hb; exact ⟨_, AX _ _ _⟩
   exact ⟨cs', by rw [Ce _ _ hb]; exact f1⟩
 refine h.core (· = b) _ E S _ (fun j hj => ⟨Ce _ _ hj, rfl, rfl⟩) rfl (fun j hj => ?_) e3 e4 e5 (by omega) (fun g _ hne => e2 g (fun e => hne b rfl (by rw [hst]; exact congrArg some e.symm))) hcell (fun _ _ h => h) (fun g o h => Or.inl h) (fun g o hg => by rw [e1]; exact h.Sb g o hg) (fun j hj => ?_) (fun j g hj hg => ?_) (fun i j g hi hj _ _ => hi.trans hj.symm)
 ·subst hj; rw [hst, AX]; exact ⟨⟨_, rfl⟩, rfl⟩
 ·subst hj
  rw [AX]; refine ⟨⟨CE us off vs, by rw [Ki _ _ _ (by omega), Ki _ _ _ ho, hul], hB.setCells (by omega), fun u hu => ?_, fun i c u hc hu => hF c u ?_, hS⟩, hloc⟩
  ·obtain ⟨i, hi⟩ := List.mem_iff_getElem?.1 hu
   rw [Ew us off vs (by omega)] at hi; repeat' split at hi
   ·exact hu1 u (List.mem_of_getElem? hi)
   ·exact h1 u (List.mem_of_getElem? hi)
   exact hu1 u (List.mem_of_getElem? hi)
  rw [Ew us off vs (by omega), hl] at hu; rw [Ew cs off xs ho] at hc; by_cases g1 : i < off
  ·rw [if_pos g1] at hc hu; exact hur i c u hc hu
  rw [if_neg g1] at hc hu; by_cases g2 : i < off + xs.length
  ·rw [if_pos g2] at hc hu; exact hr _ c u hc hu
  rw [if_neg g2] at hc hu; exact hur i c u hc hu
 subst hj; rw [AX] at hg; rw [hst]; exact Or.inl hg
theorem I5 (t : TypeId) {i : TypeInfo} (hi : P.info? t = some i) (b off : Nat) (u : Value) {us : List Value} (hB : Box W b us) (hsz : i.size = u.cells.size) (ho : off + u.cells.size ≤ us.length) (h1 : ∀ v ∈ u.cells.toList, v.oneCell' = true) :
  (Instr.storeAt t (.pointer (some ⟨b, off, none⟩)) u).run P W = .ok () (W.setCells b off u.cells.toList) := by
 have hl : u.cells.toList.length = u.cells.size := by simp
 have hz : (sizeOf t).run P W = .ok u.cells.size W := by simp [sizeOf, typeInfo, hi, hsz]
 have := run_storeCells_cells (P := P) b off u.cells.toList 0 W (fun j hj => by rw [Nat.add_zero, hB.cell (off + j) _ (List.getElem?_eq_getElem (by omega))]; rfl) (fun j _ => hB.froz _) h1; rw [Nat.add_zero] at this; simp [Instr.storeAt, Instr.sureAddr, storeVar, hz, this]
theorem Ns (h : RelE X E S s a W) {t : TypeId} {x y : Operand} (ho : o.op = .store t x y) {b off : Nat} {cs : List FV} {xs : List IV} {i : TypeInfo} (hx : Aw s x = .ptr b off) (hst : s.st b = .box cs) (hy : Aw s y = .im (.agg xs)) (i2 : P.info? t = some i) (i4 : i.size = xs.length)
  (g2 : off + xs.length ≤ cs.length) (g3 : xs.all IV.one = true) (hK : K .junk (upd s.st b (.box (CE cs off (xs.map FV.im))))) : Out P X s a W o K Q := by
 have he := Br h y; have hp := C5 h hx; have hob := h.ob b; rw [hst] at hob; obtain ⟨⟨us, hul, hB, hu1, hur, hS⟩, hloc⟩ := hob; rw [hy] at he; revert he
 generalize hu : a.eval y = w; intro he; cases he with
 | agg hl hR =>
  rename_i vs
  have hone : ∀ u ∈ vs, u.oneCell' = true := fun u hu => by
   obtain ⟨k, hk, rfl⟩ := List.mem_iff_getElem.1 hu; exact (hR k (xs[k]'(by omega)) vs[k] (List.getElem?_eq_getElem _) (List.getElem?_eq_getElem _)).one (List.all_eq_true.1 g3 _ (List.getElem_mem _))
  have hrun := I5 (P := P) t i2 (E.box b) off (.agg vs.toArray) hB (by simp [Value.cells, i4, hl]) (by simp [Value.cells]; omega) (by simpa [Value.cells] using hone); have hN := h.setbox (off := off) (xs := xs.map FV.im) (vs := vs) hst (by simp; omega) (by simp [hl]) hone (fun k c u hc hu => by
   rw [List.getElem?_map] at hc; cases hq : xs[k]? with
   | none => rw [hq] at hc; cases hc
   | some q =>
    rw [hq] at hc; simp only [Option.map_some, Option.some.injEq] at hc; subst hc; exact hR k q u hq hu)
  refine Oj (W' := W.setCells (E.box b) off vs) ?_ hK hN trivial; simp only [Value.cells] at hrun; simp [execOp, ho, hp, hu, hrun]
theorem UH (h : RelE X E S s a W) {t : TypeId} {x y : Operand} (ho : o.op = .store t x y) (hop : AH P (.store t x y) o.dst s K) : Out P X s a W o K Q := by
 simp only [AH] at hop; have he := Br h y; split at hop
 ·rename_i b off hx
  have hp := C5 h hx; split at hop
  ·rename_i cs hst
   have hob := h.ob b; rw [hst] at hob; obtain ⟨⟨us, hul, hB, hu1, hur, hS⟩, hloc⟩ := hob; split at hop
   ·rename_i fs z hti
    split at hop
    ·rename_i xs hy
     obtain ⟨⟨g1, g2, g3⟩, hK⟩ := hop; obtain ⟨fields, i, i1, i2, i3, i4, _⟩ := Ek hti; exact Ns h ho hx hst hy i2 (by omega) (by omega) g3 hK
    exact hop.elim
   ·rename_i ti hns hti
    obtain ⟨⟨g1, g2⟩, hK⟩ := hop; obtain ⟨d, i, i1, i2, i3, i4⟩ := U8 hti (fun fs z e => hns fs z e); have hone := ok_one h he g2; have hz : (a.eval y).cells = #[a.eval y] := by revert hone; cases a.eval y <;> intro hone <;> first | rfl | cases hone
    have hrun := I5 (P := P) t i2 (E.box b) off (a.eval y) hB (by simp [hz, i3]) (by simp [hz]; omega) (by simpa [hz] using hone); have hN := h.setbox (off := off) (xs := [Aw s y]) (vs := [a.eval y]) hst (by simp; omega) rfl (by simpa using hone) (fun k c u hc hu => by
     cases k with
     | zero => simp only [List.getElem?_cons_zero, Option.some.injEq] at hc hu; subst hc hu; exact he
     | succ k => simp at hc)
    have hset : CE cs off [Aw s y] = cs.set off (Aw s y) := by
     apply List.ext_getElem?; intro k; rw [Ew cs off _ (by simp; omega), List.getElem?_set]; simp only [List.length_singleton]; by_cases k1 : k < off
     ·rw [if_pos k1, if_neg (by omega)]
     rw [if_neg k1]; by_cases k2 : k < off + 1
     ·obtain rfl : k = off := by omega
      rw [if_pos k2, if_pos rfl, if_pos g1, Nat.sub_self]; rfl
     rw [if_neg k2, if_neg (by omega)]
    rw [hset] at hN; refine Oj (W' := W.setCells (E.box b) off [a.eval y]) ?_ hK hN trivial; rw [hz] at hrun; simp [execOp, ho, hp, hrun]
   split at hop
   ·rename_i ar xs har hy
    obtain ⟨n, esz, z⟩ := ar; obtain ⟨⟨g1, g2, g3⟩, hK⟩ := hop; obtain ⟨e, i, j, h1, h2, h3, h4, _⟩ := LZ har; dsimp only at g1 g2; exact Ns h ho hx hst hy h2 (by omega) (by omega) g3 hK
   exact hop.elim
  exact hop.elim
 exact hop.elim
end
end Go.Proofs.YtakncilicoefdaaGreatDoor
namespace Th
open Go Go.Lib
theorem BE {α β : Type} {a : α} {i : Nat} {f : α → Nat → Option (PR β)} : A3 (okP a i) f = f a i := rfl
end Th
namespace Th
open Go Go.Lib
theorem Jq (L : List UInt8) (j : Nat) (c : UInt8) (h : L[j]? = some c) : AL L j = j + (if CI c = true ∨ c = 35 then 1 + Ci (decide (c = 35)) (L.drop (j + 1)) else 0) := by
 obtain ⟨hl, he⟩ := List.getElem?_eq_some_iff.1 h; unfold AL; rw [List.drop_eq_getElem_cons hl, he]; simp only [Ci]; congr 1
 by_cases h2 : CI c = true ∨ c = 35
 ·rw [if_pos (by rcases h2 with h2 | h2 <;> simp [h2]), if_pos h2]
  congr 2
  by_cases h3 : c = 35
  ·subst h3; rfl
  simp [h3]
 rw [if_neg (fun h => h2 (by rcases h with h | h; cases h; exact h)), if_neg h2]
theorem Si {L : List UInt8} {j : Nat} {c : UInt8} (h : L[j]? = some c) (hb : CI c = true) : AL L j = AL L (j + 1) := by
 have h35 : ¬ c = 35 := by rintro rfl; cases hb
 rw [Jq L j c h, if_pos (Or.inl hb), decide_eq_false h35]; unfold AL; omega
theorem TQ {L : List UInt8} {j : Nat} {c : UInt8} (h : L[j]? = some c) (hb : CI c = false) (h35 : c ≠ 35) : AL L j = j := by
 rw [Jq L j c h, if_neg (by rw [hb]; exact fun h => h.elim (fun h => by cases h) h35)]; omega
theorem OB {L : List UInt8} {j : Nat} (h : j = L.length) : AL L j = j := by
 unfold AL; rw [h, List.drop_length]; rfl
theorem Nh : ∀ l : List UInt8, indexByte l 10 < 0 → Ci true l = l.length
 | [], _ => rfl
 | c :: r, h => by
  by_cases hc : c = 10
  ·subst hc; simp [indexByte] at h
  have h2 : indexByte r 10 < 0 := by
   simp only [indexByte] at h; rw [if_neg (by simpa using hc)] at h; split at h
   ·rename_i hh; rw [beq_iff_eq] at hh; omega
   omega
  simp only [Ci, true_or, if_true, List.length_cons]; rw [decide_eq_true ⟨trivial, hc⟩, Nh r h2]; omega
theorem Ni : ∀ (l : List UInt8) (n : Nat), indexByte l 10 = n → Ci true l = n + Ci false (l.drop n) ∧ n < l.length
 | [], n, h => by simp [indexByte] at h
 | c :: r, n, h => by
  by_cases hc : c = 10
  ·subst hc
   have hn : n = 0 := by simp [indexByte] at h; omega
   subst hn; simp [Ci, CI]
  simp only [indexByte] at h; rw [if_neg (by simpa using hc)] at h; split at h
  ·omega
  rename_i hh
  rw [beq_iff_eq] at hh; have hge := indexByte_ge r 10; obtain ⟨m, rfl⟩ : ∃ m, n = m + 1 := ⟨n - 1, by omega⟩
  obtain ⟨h1, h2⟩ := Ni r m (by omega); simp only [Ci, true_or, if_true, List.length_cons, List.drop_succ_cons]; rw [decide_eq_true ⟨trivial, hc⟩, h1]; omega
end Th
namespace Go.Proofs.YtakncilicoefdaaGreatDoor
open Go Go.RowKit Go.Proofs Th
attribute [local go_sem] Above.cell
theorem Tj (s : ByteArray) (j : Nat) (_hj : j ≤ s.size) (w : World) : Calls Tryz.prog 102 #[.string (s.extract j s.size), .int .u8 10] w fun r w' => r = .returned (.int .i64 (Lib.indexByte (s.data.toList.drop j) 10)) ∧ w' = w := by
 have h := Tryz.strings_IndexByte (s.extract j s.size) 10 w; rw [EK] at h; exact h
theorem QJ {c : UInt8} (h : CI c = true) : (c.toNat : Int) = 32 ∨ (c.toNat : Int) = 9 ∨ (c.toNat : Int) = 10 ∨ (c.toNat : Int) = 13 := by
 unfold CI at h; simp only [Bool.or_eq_true, decide_eq_true_eq] at h; omega
theorem S6 {c : UInt8} (h : CI c = false) : ¬ (c.toNat : Int) = 32 ∧ ¬ (c.toNat : Int) = 9 ∧ ¬ (c.toNat : Int) = 10 ∧ ¬ (c.toNat : Int) = 13 := by
 unfold CI at h; simp only [Bool.or_eq_false_iff, decide_eq_false_iff_not] at h; omega
structure ScP (W0 W : World) (p : Nat) (s : ByteArray) (j : Nat) : Prop where
 b : Box W p [.string s, .int .i64 j]
 u : Upd p W0 W
theorem ScP.above {W0 W W2 : World} {p : Nat} {s : ByteArray} {j : Nat} (h : ScP W0 W p s j) (hb : Below W.heap.size W W2) : ScP W0 W2 p s j := ⟨h.b.below hb h.b.lt, h.u.trans (Upd.of hb)⟩
theorem ScP.set {W0 W : World} {p : Nat} {s : ByteArray} {j : Nat} (h : ScP W0 W p s j) (k : Nat) (z : Int) (hz : z = k) : ScP W0 (W.setCell ⟨p, 1, none⟩ (.int .i64 z)) p s k := by
 subst hz; exact ⟨h.b.set (i := 1) (by simp) (.int .i64 k), h.u.trans (Upd.set p 1 W _)⟩
theorem IC (p : Nat) (s : ByteArray) (a : Nat) (hs : s.size ≤ 1000000) (ha : a ≤ s.size) (w : World) (hB : Box w p [.string s, .int .i64 a]) :
  Calls Tryz.prog 71 #[.pointer (some ⟨p, 0, none⟩)] w fun r w' => r = .returned (.tuple #[]) ∧ ScP w w' p s (AL s.data.toList a) := by
 have HL := Keep.mk (Ai s); have HA := Keep.mk (fun j h => JS s j h); go_enter Tryz.func71, Tryz.ntmps71
 go_wp2_with fail
 go_loopg [] (s.size - a) (fun gk wr => ∃ j : Nat, j + gk = s.size ∧ Keep (ScP w wr p s j) ∧ Keep (AL s.data.toList j = AL s.data.toList a))
 case atStart => exact ⟨a, by omega, ⟨⟨hB, Upd.refl p w⟩⟩, ⟨rfl⟩⟩
 case round =>
  clear hB ha; obtain ⟨j, hj, HS, HK⟩ := hrel; obtain ⟨p0, p1⟩ := HS.out.b.p2; have pf := HS.out.b.froz 1; have pl := HS.out.b.lt; by_cases hlt : j < s.size
  ·have hgk : gk ≠ 0 := by omega
   have hat := HA.out j hlt; go_wp2_with fail
   refine A9 (by kernel_rfl) (by kernel_rfl) ?_; repeat (go_big_quiet_step (fail))
   refine wpQuiet_nil ?_; rintro W2 ⟨z, hz⟩; replace HS := Keep.mk (hz ▸ HS.out.above z.property); clear p0 p1 pf pl; clear hz z; obtain ⟨p0, p1⟩ := HS.out.b.p2; have pf := HS.out.b.froz 1; have pl := HS.out.b.lt; go_wp2_with fail
   refine A9 (by kernel_rfl) (by kernel_rfl) ?_; repeat (go_big_quiet_step (fail))
   refine wpQuiet_nil ?_; rintro W2 ⟨z, hz⟩; replace HS := Keep.mk (hz ▸ HS.out.above z.property); clear p0 p1 pf pl; clear hz z; obtain ⟨p0, p1⟩ := HS.out.b.p2; have pf := HS.out.b.froz 1; have pl := HS.out.b.lt; cases hb : CI s[j]
   ·obtain ⟨f1, f2, f3, f4⟩ := S6 hb
    by_cases h35 : s[j] = 35
    ·have f5 : (s[j].toNat : Int) = 35 := by rw [h35]; rfl
     have hidx : ∃ zi : Int, Lib.indexByte (s.data.toList.drop j) 10 = zi := ⟨_, rfl⟩
     obtain ⟨zi, hzi⟩ := hidx; have HC := Keep.mk (fun (z : Above W2) => Fk (Tj s j (by omega) z.val)); rw [hzi] at HC; have hge := Lib.indexByte_ge (s.data.toList.drop j) 10; rw [hzi] at hge; have hsk := Jq s.data.toList j s[j] hat; rw [h35, if_pos (Or.inr rfl), decide_eq_true rfl] at hsk; have hdr : s.data.toList.drop j = s[j] :: s.data.toList.drop (j + 1) := by
      obtain ⟨hl, he⟩ := List.getElem?_eq_some_iff.1 hat; rw [List.drop_eq_getElem_cons hl, he]
     have hix : Lib.indexByte (s.data.toList.drop j) 10 = if Lib.indexByte (s.data.toList.drop (j + 1)) 10 == -1 then -1 else Lib.indexByte (s.data.toList.drop (j + 1)) 10 + 1 := by
      rw [hdr, h35]; rfl
     have hge1 := Lib.indexByte_ge (s.data.toList.drop (j + 1)) 10; go_wp2_with fail
     refine A9 (by kernel_rfl) (by kernel_rfl) ?_; repeat (go_big_quiet_step ((go_at_call 102; exact FM (HC.out _))))
     refine wpQuiet_nil ?_; rintro W2 ⟨z, hz⟩; replace HS := Keep.mk (hz ▸ HS.out.above z.property); clear p0 p1 pf pl; clear hz z; obtain ⟨p0, p1⟩ := HS.out.b.p2; have pf := HS.out.b.froz 1; have pl := HS.out.b.lt; by_cases hz0 : zi < 0
     ·have HE := Keep.mk (show AL s.data.toList s.size = AL s.data.toList a by
       have h1 : Lib.indexByte (s.data.toList.drop (j + 1)) 10 < 0 := by
        rw [hzi] at hix; split at hix
        ·rename_i h; rw [beq_iff_eq] at h; omega
        omega
       have h2 := Nh _ h1; rw [h2, List.length_drop, HL.out] at hsk; rw [OB HL.out.symm, ← HK.out, hsk]; omega)
      clear hzi hge hsk hdr hix hge1 hat hb h35 HC; go_wp2_with fail
      refine A9 (by kernel_rfl) (by kernel_rfl) ?_; repeat (go_big_quiet_step (fail))
      refine wpQuiet_nil ?_; rintro W2 ⟨z, hz⟩; replace HS := Keep.mk (hz ▸ HS.out.above z.property); clear p0 p1 pf pl; clear hz z; obtain ⟨p0, p1⟩ := HS.out.b.p2; have pf := HS.out.b.froz 1; have pl := HS.out.b.lt; go_wp2
      go_roundg 0
      case rel => exact ⟨s.size, by omega, ⟨HS.out.set s.size _ (by omega)⟩, HE⟩
      case measure => omega
     obtain ⟨n, rfl⟩ : ∃ n : Nat, zi = n := ⟨zi.toNat, by omega⟩
     have h1 : Lib.indexByte (s.data.toList.drop (j + 1)) 10 = ((n - 1 : Nat) : Int) ∧ 1 ≤ n := by
      rw [hzi] at hix; split at hix
      ·omega
      rename_i h; rw [beq_iff_eq] at h; omega
     obtain ⟨h2, h3⟩ := Ni _ _ h1.1; rw [List.length_drop, HL.out] at h3; have h4 := h1.2; have HE := Keep.mk (show AL s.data.toList (j + n) = AL s.data.toList a by
      rw [← HK.out, hsk, h2, List.drop_drop]; unfold AL; rw [show j + 1 + (n - 1) = j + n from by omega]; omega)
     clear hzi hge hsk hdr hix hge1 hat hb h35 HC h1 h2; go_wp2
     go_roundg (gk - n)
     case rel => exact ⟨j + n, by omega, ⟨HS.out.set (j + n) _ (by omega)⟩, HE⟩
     case measure => omega
    have f5 : ¬ (s[j].toNat : Int) = 35 := fun h => h35 (UInt8.toNat_inj.1 (by show s[j].toNat = 35; omega))
    have HE := Keep.mk (HK.out.symm.trans (TQ hat hb h35)); clear hb hat h35; go_wp2
    refine bodyPost_ret (results_none rfl _ _ _) rfl ⟨rfl, ?_⟩; rw [HE.out]; exact HS.out
   have HE := Keep.mk ((Si hat hb).symm.trans HK.out); clear hat; rcases QJ hb with f1 | f1 | f1 | f1
   all_goals (
    clear hb; go_wp2
    go_roundg (gk - 1)
    case rel => exact ⟨j + 1, by omega, ⟨HS.out.set (j + 1) _ (by omega)⟩, HE⟩
    case measure => omega)
  have HE := Keep.mk (HK.out.symm.trans (OB (by rw [HL.out]; omega))); go_wp2_with fail
  refine A9 (by kernel_rfl) (by kernel_rfl) ?_; repeat (go_big_quiet_step (fail))
  refine wpQuiet_nil ?_; rintro W2 ⟨z, hz⟩; replace HS := Keep.mk (hz ▸ HS.out.above z.property); clear p0 p1 pf pl; clear hz z; obtain ⟨p0, p1⟩ := HS.out.b.p2; have pf := HS.out.b.froz 1; have pl := HS.out.b.lt; go_wp2
  go_end0
  exact ⟨rfl, by rw [HE.out]; exact HS.out⟩
open Go Go.RowKit Go.Proofs Th
def Ah : List ByteArray → ByteArray
 | [] => ⟨#[]⟩
 | x :: r => x ++ Ah r
def tgB (k : Int) (t : ByteArray) : ByteArray := if LF k = true then t else DG t
def Cp (gap : ByteArray) : ByteArray → List ByteArray → ByteArray
 | out, [] => out
 | out, t :: r => Cp gap ((if out = ⟨#[]⟩ then out else out ++ gap) ++ t) r
theorem T8 (e : Int) (h0 : -64 ≤ e) (h1 : e ≤ 64) : (Lib.itoa e).length ≤ 3 := by
 have key : ∀ u : Nat, u ≤ 64 → (Lib.decDigits u).length ≤ 2 := by
  intro u hu; rw [Lib.decDigits_length]; by_cases h : u < 10
  ·rw [Lib.nDigits_small h]; omega
  rw [Lib.nDigits_big h, Lib.nDigits_small (by omega)]; omega
 unfold Lib.itoa; split
 ·have := key e.natAbs (by omega); simp; omega
 have := key e.toNat (by omega); omega
theorem bsz (l : List UInt8) : ByteArray.size ⟨l.toArray⟩ = l.length := by simp [ByteArray.size]
theorem HJ (l : List UInt8) : (bs l).size = l.length := by unfold bs; exact bsz l
theorem VO (m e : Int) : 0 < (BF m e).length := by
 have hd : 0 < (Lib.decDigits m.natAbs).length := by
  rw [Lib.decDigits_length]; by_cases h : m.natAbs < 10
  ·rw [Lib.nDigits_small h]; omega
  rw [Lib.nDigits_big h]; omega
 unfold BF; split
 ·simp only [List.length_append]; omega
 split
 ·simp only [List.length_append, List.length_cons]; omega
 simp only [List.length_append, List.length_cons]; omega
def Cu (c : Nat) (ts : List ByteArray) : Nat := (ts.map fun x => c + x.size).sum
theorem Ao (c : Nat) (x : ByteArray) (r : List ByteArray) : Cu c (x :: r) = c + x.size + Cu c r := by simp [Cu]
theorem AC (c : Nat) : Cu c [] = 0 := rfl
theorem GR (gap : ByteArray) (c : Nat) (hc : gap.size ≤ c) : ∀ ts : List ByteArray, (Ba gap ts).size ≤ Cu c ts
 | [] => by simp [Ba, bsz]
 | [x] => by rw [Ao, Ba]; omega
 | x :: y :: r => by
  have := GR gap c hc (y :: r); rw [Ao]; show (x ++ gap ++ Ba gap (y :: r)).size ≤ _
  rw [ByteArray.size_append, ByteArray.size_append]; omega
theorem KY : ∀ (f : Bool) (ts : List ByteArray), (Cs f ts).size ≤ Cu 6 ts
 | _, [] => by simp [Cs, bsz]
 | _, [x] => by simp [Cs, bsz]
 | f, x :: y :: r => by
  have := KY false r; rw [Ao, Ao]; unfold Cs; have hb : (if f = true then (⟨#[]⟩ : ByteArray) else ⟨#[44, 32]⟩).size ≤ 2 := by cases f <;> decide
  have hp : (DG x).size = x.size + 2 := by unfold DG; simp only [ByteArray.size_append, bsz, List.length_cons, List.length_nil]; omega
  simp only [ByteArray.size_append, bsz, List.length_cons, List.length_nil, hp]; omega
theorem Ub (s : ByteArray) : (EJ s).size ≤ 6 * s.size := by
 unfold EJ; rw [HJ]; have := K1 s.data.toList; rw [Ai] at this; exact this
theorem Dn (s : ByteArray) : (DG s).size = s.size + 2 := by unfold DG; simp only [ByteArray.size_append, bsz, List.length_cons, List.length_nil]; omega
theorem X1 (ks : List Int) (ts : List ByteArray) (i : Nat) : (tgJ ks ts i).size ≤ (ts.getD i ⟨#[]⟩).size + 2 := by
 unfold tgJ; split
 ·omega
 rw [Dn]; omega
theorem Hy {c d : Nat} (h : c ≤ d) : ∀ ts : List ByteArray, Cu c ts ≤ Cu d ts
 | [] => Nat.le_refl _
 | x :: r => by rw [Ao, Ao]; have := Hy h r; omega
theorem Pb : ∀ ts : List ByteArray, Cu 22 ts ≤ 6 * Cu 4 ts
 | [] => Nat.le_refl _
 | x :: r => by rw [Ao, Ao]; have := Pb r; omega
theorem MM {x : NJ} : ∀ {l : List NJ}, x ∈ l → (spJ x).size + 22 ≤ Cu 22 (spL l)
 | y :: r, h => by
  rw [spL, Ao]; rcases List.mem_cons.1 h with rfl | h
  ·omega
  have := MM h; omega
mutual
/-- a node's own texts are short, and its kids' texts are not too long -/
def smB : NJ → Bool
 | .mk _ s _ _ l a => decide (s.size ≤ 200000) && decide (Cu 2 a ≤ 200000) && decide (Cu 22 (spL l) ≤ 60000000000) && KN l
def KN : List NJ → Bool
 | [] => true
 | n :: r => smB n && KN r
end
theorem MU : ∀ l : List NJ, KN l = true ↔ ∀ x ∈ l, smB x = true
 | [] => by simp [KN]
 | n :: r => by rw [KN, Bool.and_eq_true, MU r]; simp
theorem FY {k : Int} {s : ByteArray} {m e : Int} {l : List NJ} {a : List ByteArray} : smB (.mk k s m e l a) = true ↔ s.size ≤ 200000 ∧ Cu 2 a ≤ 200000 ∧ Cu 22 (spL l) ≤ 60000000000 ∧ ∀ x ∈ l, smB x = true := by
 rw [smB, Bool.and_eq_true, Bool.and_eq_true, Bool.and_eq_true, MU, decide_eq_true_eq, decide_eq_true_eq, decide_eq_true_eq, and_assoc, and_assoc]
theorem MJ {x : ByteArray} : ∀ {a : List ByteArray}, x ∈ a → x.size ≤ Cu 2 a
 | y :: r, h => by
  rw [Ao]; rcases List.mem_cons.1 h with rfl | h
  ·omega
  have := MJ h; omega
theorem ag : ∀ x : NJ, smB x = true → (nmJ x).size ≤ 200000
 | .mk _ _ _ _ _ _, h => (FY.1 h).1
theorem Sw {k : Int} {s : ByteArray} {m e : Int} {l : List NJ} {a : List ByteArray} (h : Ac (.mk k s m e l a) = true) (h6 : k = 6) : l.length = a.length + 1 ∧ (a = [fromB] ∨ a = [toB] ∨ a = [fromB, toB]) := by
 subst h6; simp [Ac] at h; simpa [or_assoc] using h
theorem WR {s : ByteArray} (h : B7 s = true) : 0 < s.size := by
 unfold B7 Bf at h; rw [Bool.and_eq_true] at h; have h := h.1; rw [← Ai]; cases hs : s.data.toList with
 | nil => rw [hs] at h; cases h
 | cons c r => simp
theorem Zz : ∀ (n : NJ), okJ n = true → 0 < (spJ n).size
 | .mk k s m e l a, h => by
  rw [okJ, Bool.and_eq_true] at h; obtain ⟨h1, hk⟩ := h; have hfit : Ac (.mk k s m e l a) = true := by unfold ES at h1; rw [Bool.and_eq_true] at h1; exact h1.2
  rw [spJ]; by_cases q1 : k = 1
  ·rw [if_pos q1]
   simp only [bsz, List.length_cons, List.length_nil]; omega
  rw [if_neg q1]; by_cases q26 : k = 26
  ·rw [if_pos q26]
   simp only [bsz, List.length_cons, List.length_nil]; omega
  rw [if_neg q26]; by_cases q2 : k = 2
  ·rw [if_pos q2]
   rw [HJ]; exact VO m e
  rw [if_neg q2]; by_cases q3 : k = 3
  ·rw [if_pos q3]
   unfold Dw D8; rw [HJ]; simp
  rw [if_neg q3]; by_cases q4 : k = 4
  ·rw [if_pos q4]
   simp only [ByteArray.size_append, bsz, List.length_cons, List.length_nil]; omega
  rw [if_neg q4]; by_cases q5 : k = 5
  ·rw [if_pos q5]
   simp only [ByteArray.size_append, bsz, List.length_cons, List.length_nil]; omega
  rw [if_neg q5]; by_cases q6 : k = 6
  ·rw [if_pos q6]
   simp only [ByteArray.size_append, bsz, List.length_cons, List.length_nil]; omega
  rw [if_neg q6]; by_cases q7 : k = 7
  ·rw [if_pos q7]
   simp only [ByteArray.size_append, bsz, List.length_cons, List.length_nil]; omega
  rw [if_neg q7]; by_cases q14 : k = 14
  ·rw [if_pos q14]
   simp only [ByteArray.size_append, bsz, List.length_cons, List.length_nil]; omega
  rw [if_neg q14]; by_cases q15 : k = 15
  ·rw [if_pos q15]
   simp only [ByteArray.size_append, bsz, List.length_cons, List.length_nil]; omega
  rw [if_neg q15]; by_cases q16 : k = 16
  ·rw [if_pos q16]
   simp only [ByteArray.size_append, bsz, List.length_cons, List.length_nil]; omega
  rw [if_neg q16]; by_cases q17 : k = 17
  ·rw [if_pos q17]
   simp only [ByteArray.size_append, bsz, List.length_cons, List.length_nil]; omega
  rw [if_neg q17]; by_cases q18 : k = 18
  ·rw [if_pos q18]
   simp only [ByteArray.size_append, bsz, List.length_cons, List.length_nil]; omega
  rw [if_neg q18]; by_cases q19 : k = 19 ∨ k = 20
  ·rw [if_pos q19]
   simp only [ByteArray.size_append, bsz, List.length_cons, List.length_nil]; omega
  rw [if_neg q19]; by_cases q21 : k = 21
  ·rw [if_pos q21]
   simp only [ByteArray.size_append, bsz, List.length_cons, List.length_nil]; omega
  rw [if_neg q21]; by_cases q22 : k = 22
  ·rw [if_pos q22]
   simp only [ByteArray.size_append, bsz, List.length_cons, List.length_nil]; omega
  rw [if_neg q22]; by_cases q23 : k = 23
  ·rw [if_pos q23]
   by_cases hl : l.length = 0
   ·rw [if_pos hl]; exact WR (by subst q23; simpa [Ac] using hfit)
   rw [if_neg hl]; simp only [ByteArray.size_append, bsz, List.length_cons, List.length_nil]; omega
  rw [if_neg q23]; by_cases q24 : k = 24
  ·rw [if_pos q24]
   simp only [ByteArray.size_append, bsz, List.length_cons, List.length_nil]; omega
  rw [if_neg q24]; simp only [ByteArray.size_append, bsz, List.length_cons, List.length_nil]; omega
theorem Rp (gap : ByteArray) : ∀ (ts : List ByteArray) (out : ByteArray), out ≠ ⟨#[]⟩ → (∀ t ∈ ts, 0 < t.size) → Cp gap out ts = (if ts = [] then out else out ++ gap ++ Ba gap ts)
 | [], out, _, _ => rfl
 | [t], out, ho, _ => by
  show (if out = ⟨#[]⟩ then out else out ++ gap) ++ t = _
  rw [if_neg ho, if_neg (by simp)]; rfl
 | t :: u :: r, out, ho, ht => by
  have hne : out ++ gap ++ t ≠ ⟨#[]⟩ := fun h => by
   have h1 : (out ++ gap ++ t).size = 0 := by rw [h]; rfl
   have h2 := ht t List.mem_cons_self; rw [ByteArray.size_append] at h1; omega
  have := Rp gap (u :: r) (out ++ gap ++ t) hne (fun y hy => ht y (List.mem_cons_of_mem _ hy)); show Cp gap ((if out = ⟨#[]⟩ then out else out ++ gap) ++ t) (u :: r) = _
  rw [if_neg ho, this, if_neg (by simp), if_neg (by simp)]; show out ++ gap ++ t ++ gap ++ Ba gap (u :: r) = out ++ gap ++ (t ++ gap ++ Ba gap (u :: r))
  simp [ByteArray.append_assoc]
theorem Is (gap : ByteArray) (ts : List ByteArray) (ht : ∀ t ∈ ts, 0 < t.size) : Cp gap ⟨#[]⟩ ts = Ba gap ts := by
 cases ts with
 | nil => rfl
 | cons t r =>
  have hne : t ≠ ⟨#[]⟩ := fun h => by
   have := ht t List.mem_cons_self; rw [h] at this; exact absurd this (by decide)
  show Cp gap ((if (⟨#[]⟩ : ByteArray) = ⟨#[]⟩ then _ else _) ++ t) r = _
  rw [if_pos rfl, show (⟨#[]⟩ : ByteArray) ++ t = t from ByteArray.empty_append, Rp gap r t hne fun y hy => ht y (List.mem_cons_of_mem _ hy)]; cases r with
  | nil => rw [if_pos rfl]; rfl
  | cons u r => rw [if_neg (by simp)]; rfl
end Go.Proofs.YtakncilicoefdaaGreatDoor
namespace Th
open Go Go.Lib
theorem AV {E : Env} {i k : Nat} {s : ByteArray} : isT E i k s ↔ tk (Aa E i) = (k, s) := by
 unfold isT tk; exact ⟨fun h => Prod.ext h.1 h.2, fun h => ⟨congrArg Prod.fst h, congrArg Prod.snd h⟩⟩
theorem J6 (t : Tf) : t.kind = (tk t).1 := rfl
theorem Ig (t : Tf) : t.text = (tk t).2 := rfl
theorem Re {E : Env} {i : Nat} (h : E.l.length ≤ i) : Aa E i = noTf := by
 unfold Aa; rw [List.getD_eq_getElem?_getD, List.getElem?_eq_none h]; rfl
def Bar (q : Nat × ByteArray) : Prop := q.1 = 0 ∨ (q.1 = 6 ∧ q.2 ≠ ⟨#[45]⟩ ∧ q.2 ≠ ⟨#[46]⟩ ∧ q.2 ≠ ⟨#[46, 46]⟩ ∧ q.2 ≠ ⟨#[40]⟩ ∧ q.2 ≠ ⟨#[91]⟩ ∧ q.2 ≠ ⟨#[123]⟩)
instance (q : Nat × ByteArray) : Decidable (Bar q) := by unfold Bar; exact inferInstance
theorem Vz {E : Env} {i : Nat} (h : Bar (tk (Aa E i))) : evP E .filter i = Da E i 60 := by
 have hk : (Aa E i).kind = 0 ∨ (Aa E i).kind = 6 := h.imp id And.left; have hn : ∀ k, k ≠ 0 → k ≠ 6 → (Aa E i).kind ≠ k := fun k h0 h6 h => by omega
 have h1 : evP E .first i = Da E i 60 := by
  rw [AD]; simp only [Ak]; rw [if_neg (hn 3 (by decide) (by decide)), if_neg (hn 2 (by decide) (by decide)), if_neg (hn 5 (by decide) (by decide)), if_neg (hn 4 (by decide) (by decide)), if_neg (hn 1 (by decide) (by decide))]; split
  ·rename_i h6
   rcases h with h | ⟨_, h⟩
   ·exact absurd (show (Aa E i).kind = 0 from h) (by omega)
   obtain ⟨ha, hb, hc, hd, he, hf⟩ := h; rw [AD]; simp only [Ak]; rw [if_neg (show ¬ (Aa E i).text = _ from hb), if_neg (show ¬ (Aa E i).text = _ from hc), if_neg (show ¬ (Aa E i).text = _ from hd), if_neg (show ¬ (Aa E i).text = _ from he), if_neg (show ¬ (Aa E i).text = _ from hf)]
  rfl
 have h2 : evP E .minus i = Da E i 60 := by
  rw [AD]; simp only [Ak]; rw [if_neg, AD E .term]
  ·simp only [Ak]
   rw [h1]; rfl
  rintro ⟨h6, h7⟩; rcases h with h | ⟨_, h, _⟩
  ·exact absurd (show (Aa E i).kind = 0 from h) (by omega)
  exact h h7
 rw [AD]; simp only [Ak]; rw [if_neg (fun h => hn 1 (by decide) (by decide) h.1), AD E (.binary 1)]; simp only [Ak]; rw [h2]; rfl
theorem Ky {t t' : Tf} (h : tk t = tk t') : Aj t = Aj t' := by
 unfold Aj; rw [J6, Ig, h]; rfl
theorem Uc {t t' : Tf} (h : tk t = tk t') (a b : NJ) : B8 t a b = B8 t' a b := by
 unfold B8; rw [Ky h, Ig, h]; rfl
end Th
