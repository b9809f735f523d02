/- Lemmas and contracts. Conditions: those that each lemma names. -/
import Derived.Test.YtakncilicoefdaaGreatDoorPc12
import Derived.Test.YtakncilicoefdaaGreatDoorPc9
set_option maxRecDepth 100000
set_option maxHeartbeats 4000000
namespace Go.Proofs.YtakncilicoefdaaGreatDoor
open Go Go.RowKit Go.Proofs Th
section
variable {P : Program} {X : Ctx} {E : AEnv} {S : CS} {s : ASt} {a : Act} {W : World} {o : Oper} {K : FV → (Nat → AObj) → Prop} {Q : Exit → Act → World → Prop}
theorem rep_v {x u : Value} (h : Rep W S (.v x) u) : u = x := by cases h; rfl
theorem eval_v (h : RelE X E S s a W) {x : Operand} {u : Value} (hx : valOf s x = .im (.v u)) : a.eval x = u := by
 have := eval_rep h x; rw [hx] at this; exact rep_v this
theorem eval_ptr (h : RelE X E S s a W) {x : Operand} {b off : Nat} (hx : valOf s x = .ptr b off) : a.eval x = .pointer (some ⟨E.box b, off, none⟩) := by
 have := eval_rep h x; rw [hx] at this; exact this.2
theorem RelE.newbox (h : RelE X E S s a W) {d : Nat} (h1000 : d ≠ 1000) (hd : s.st d = .none) (us : List Value) (cs : List FV) (ty : TypeId) (hl : us.length = cs.length) (h1 : ∀ u ∈ us, u.oneCell' = true)
  (hr : ∀ (i : Nat) c u, cs[i]? = some c → us[i]? = some u → RepF W S E s.st c u) : RelE X { E with box := upd E.box d W.heap.size } S ⟨s.fr, upd s.st d (.box cs)⟩ a (W.alloc (.cells us.toArray ty)) := by
 have hb := al1 W (.cells us.toArray ty); have hsz : (W.alloc (.cells us.toArray ty)).heap.size = W.heap.size + 1 := by simp
 have hcell : ∀ g o, S g o → (W.alloc (.cells us.toArray ty)).cell? ⟨g, o, none⟩ = W.cell? ⟨g, o, none⟩ := fun g o ho => hb.cell (p := ⟨g, o, none⟩) (h.Sb g o ho)
 have hF : ∀ c u, RepF W S E s.st c u → RepF (W.alloc (.cells us.toArray ty)) S { E with box := upd E.box d W.heap.size } (upd s.st d (.box cs)) c u := by
  intro c u hc; cases c with
  | junk => trivial
  | im x => exact Rep.keep hc hcell (fun _ _ h => h)
  | own k n =>
   obtain ⟨t, z, es, e1, e2⟩ := hc; exact ⟨t, z, es, by rw [upd_ne _ _ (fun e => by subst e; rw [hd] at e1; cases e1)]; exact e1, e2⟩
  | ptr b off =>
   obtain ⟨⟨cs', e1⟩, e2⟩ := hc; have hne : b ≠ d := fun e => by subst e; rw [hd] at e1; cases e1
   exact ⟨⟨cs', by rw [upd_ne _ _ hne]; exact e1⟩, by rw [e2]; simp only [upd_ne _ _ hne]⟩
  | pin b p =>
   obtain ⟨⟨cs', e1⟩, e2⟩ := hc; have hne : b ≠ d := fun e => by subst e; rw [hd] at e1; cases e1
   exact ⟨⟨cs', by rw [upd_ne _ _ hne]; exact e1⟩, by simp only [upd_ne _ _ hne]; exact e2⟩
 refine h.core (· = d) _ _ S _ (fun j hj => ⟨upd_ne _ _ hj, upd_ne _ _ hj, rfl⟩) (upd_ne _ _ (Ne.symm h1000)) (fun j hj => ?_) rfl rfl rfl (by omega) (fun g hg _ => hb.block g hg) hcell (fun _ _ h => h) (fun g o h => Or.inl h) (fun g o ho => by have := h.Sb g o ho; omega) (fun j hj => ?_) (fun j g hj hg => ?_) (fun i j g hi hj _ _ => hi.trans hj.symm)
 ·subst hj; rw [hd]; trivial
 ·subst hj
  rw [upd_same]; refine ⟨⟨us, hl, ?_, h1, fun i c u hc hu => hF c u (hr i c u hc hu), fun o ho => ?_⟩, Or.inr ?_⟩
  ·simp only [upd_same]; exact Box.new us ty rfl
  ·simp only [upd_same] at ho; exact absurd (h.Sb _ _ ho) (by omega)
  simp only [upd_same]; exact h.u.size
 subst hj; rw [upd_same] at hg; simp only [blk, upd_same, Option.some.injEq] at hg; exact Or.inr (by omega)
theorem val_move (h : RelE X E S s a W) {x : Operand} (ho : o.op = .move x) (hop : aval P (.move x) o.dst s K) : Out P X s a W o K Q :=
 out_same h (by simp [execOp, ho]) hop (eval_rep h x)
theorem val_assign (h : RelE X E S s a W) {x : Operand} (ho : o.op = .assign x) (hop : aval P (.assign x) o.dst s K) : Out P X s a W o K Q :=
 out_same h (by simp [execOp, ho]) hop (eval_rep h x)
theorem val_pick (h : RelE X E S s a W) {c x y : Operand} (ho : o.op = .pick c x y) (hop : aval P (.pick c x y) o.dst s K) : Out P X s a W o K Q := by
 simp only [aval] at hop; split at hop
 ·rename_i t ht
  have hc := eval_v h ht; refine out_same h (u := if t = true then a.eval x else a.eval y) (by simp [execOp, ho, hc, asBool]) hop ?_; cases t
  ·exact eval_rep h y
  exact eval_rep h x
 exact hop.elim
theorem val_nilCheck (h : RelE X E S s a W) {x : Operand} (ho : o.op = .nilCheck x) (hop : aval P (.nilCheck x) o.dst s K) : Out P X s a W o K Q := by
 simp only [aval] at hop; have he := eval_rep h x; split at hop
 ·rename_i b off hx
  have hc := eval_ptr h hx; exact out_same h (u := a.eval x) (by simp [execOp, ho, hc]) hop (by rw [hx] at he; exact he)
 ·rename_i cs off hx
  rw [hx] at he; have : ∃ ad, a.eval x = .pointer (some ad) := by
   revert he; generalize a.eval x = u; intro he; cases he; exact ⟨_, rfl⟩
  obtain ⟨ad, hc⟩ := this; exact out_same h (u := a.eval x) (by simp [execOp, ho, hc]) hop he
 exact hop.elim
theorem lift_rep_all (zs : List Value) : ∀ (i : Nat) c u, (zs.map fun x => FV.im (lift x))[i]? = some c → zs[i]? = some u → RepF W S E s.st c u := by
 intro i c u hc hu; rw [List.getElem?_map, hu] at hc; simp only [Option.map_some, Option.some.injEq] at hc; subst hc; exact Rep.lift W S u
theorem val_alloc (h : RelE X E S s a W) {t : TypeId} (ho : o.op = .alloc t) (hop : aval P (.alloc t) o.dst s K) : Out P X s a W o K Q := by
 simp only [aval] at hop; split at hop
 ·rename_i d hdst
  obtain ⟨hne, hop⟩ := hop; split at hop
  ·rename_i ti hd hti
   have key : ∃ zv : Value, (zeroValue t).run P W = .ok zv W ∧ zv.cells.toList.length = (zeroFV ti).length ∧ (∀ u ∈ zv.cells.toList, u.oneCell' = true) ∧ (∀ (i : Nat) c u, (zeroFV ti)[i]? = some c → zv.cells.toList[i]? = some u → RepF W S E s.st c u) := by
    cases ti with
    | flat z =>
     obtain ⟨dd, i, h1, h2, h3, h4, h5, h6⟩ := ti_flat hti; have hz : z.cells = #[z] := by cases z <;> first | rfl | cases h5
     refine ⟨z, by simp [zeroValue, typeInfo, h2, h4], by simp [hz, zeroFV], by simp [hz, h5], ?_⟩; rw [hz]; exact lift_rep_all [z]
    | slice e esz =>
     obtain ⟨i, j, z, h1, h2, h3, h4, _⟩ := ti_slice hti; refine ⟨.slice none 0 0, by simp [zeroValue, typeInfo, h2, h4], rfl, by simp [Value.cells, Value.oneCell'], ?_⟩; exact lift_rep_all [.slice none 0 0]
    | struct fs z =>
     obtain ⟨fields, i, h1, h2, h3, h4, h5, h6⟩ := ti_struct hti; refine ⟨.agg z.toArray, by simp [zeroValue, typeInfo, h2, h3], by simp [Value.cells, zeroFV], fun u hu => by simpa using List.all_eq_true.1 h5 u (by simpa [Value.cells] using hu), ?_⟩; simpa [Value.cells, zeroFV] using lift_rep_all (W := W) (S := S) (E := E) (s := s) z
   obtain ⟨zv, h1, h2, h3, h4⟩ := key; have hN := h.newbox hne hd zv.cells.toList (zeroFV ti) t h2 h3 h4; refine out_run (W' := W.alloc (.cells zv.cells.toList.toArray t)) ?_ hop hN ⟨⟨_, upd_same _ _ _⟩, rfl⟩; simp [execOp, ho, Instr.alloc, h1, newVar, newRow, upd_same]
  ·rename_i hd hti
   split at hop
   ·rename_i ar har
    obtain ⟨n, esz, z⟩ := ar; obtain ⟨e, i, j, h1, h2, h3, h4, h5, _⟩ := arr_of har; have hN := h.newbox hne hd z (z.map fun x => .im (lift x)) t (by simp) (fun u hu => List.all_eq_true.1 h5 u hu) (lift_rep_all z); refine out_run (W' := W.alloc (.cells z.toArray t)) ?_ hop hN ⟨⟨_, upd_same _ _ _⟩, rfl⟩; simp [execOp, ho, Instr.alloc, zeroValue, typeInfo, h2, h3, newVar, newRow, upd_same, Value.cells]
   exact hop.elim
  exact hop.elim
 exact hop.elim
theorem ok_one (h : RelE X E S s a W) {c : FV} {u : Value} (hc : RepF W S E s.st c u) (h1 : c.ok s.st) : u.oneCell' = true := by
 cases c with
 | junk => exact h1.elim
 | im y => exact Rep.one hc h1
 | ptr b off => rw [hc.2]; rfl
 | pin b p => exact h1.elim
 | own k n =>
  obtain ⟨ty, esz, es, e1, e2, e3⟩ := hc; simp only [FV.ok, e1] at h1; rw [e3 h1]; have ho := h.ob k; rw [e1] at ho; obtain ⟨xs, ⟨_, hv⟩, _⟩ := ho; rcases hv with ⟨hv, _⟩ | ⟨g, cap, cur, hv, _⟩ <;> (rw [hv]; rfl)
theorem val_box (h : RelE X E S s a W) {t : TypeId} {x : Operand} (ho : o.op = .box t x) (hop : aval P (.box t x) o.dst s K) : Out P X s a W o K Q := by
 simp only [aval] at hop; have he := eval_rep h x; split at hop
 ·rename_i d hdst
  obtain ⟨hne, hop⟩ := hop; split at hop
  ·rename_i cs hd hx
   obtain ⟨h1, hop⟩ := hop; rw [hx] at he; revert he
   generalize hu : a.eval x = u; intro he; cases he with
   | agg hl hR =>
    rename_i us
    have hN := h.newbox hne hd us (cs.map FV.im) t (by simp [hl]) (fun u hu => by
     obtain ⟨i, hi, rfl⟩ := List.mem_iff_getElem.1 hu; exact (hR i (cs[i]'(by omega)) us[i] (List.getElem?_eq_getElem _) (List.getElem?_eq_getElem _)).one (List.all_eq_true.1 h1 _ (List.getElem_mem _))) (fun i c u hc hu => by
     rw [List.getElem?_map] at hc; cases hy : cs[i]? with
     | none => rw [hy] at hc; cases hc
     | some y =>
      rw [hy] at hc; simp only [Option.map_some, Option.some.injEq] at hc; subst hc; exact hR i y u hy hu)
    refine out_run (W' := W.alloc (.cells us.toArray t)) ?_ hop hN ⟨⟨_, upd_same _ _ _⟩, rfl⟩; simp [execOp, ho, Instr.box, hu, newVar, newRow, Value.cells, upd_same]
  ·rename_i c hd _
   obtain ⟨h1, hop⟩ := hop; have hone : (a.eval x).oneCell' = true := ok_one h he h1; have hz : (a.eval x).cells = #[a.eval x] := by revert hone; cases a.eval x <;> intro hone <;> first | rfl | cases hone
   have hN := h.newbox hne hd [a.eval x] [valOf s x] t rfl (by simpa using hone) (fun i c u hc hu => by
    cases i with
    | zero => simp only [List.getElem?_cons_zero, Option.some.injEq] at hc hu; subst hc hu; exact he
    | succ i => simp at hc)
   refine out_run (W' := W.alloc (.cells #[a.eval x] t)) ?_ hop hN ⟨⟨_, upd_same _ _ _⟩, rfl⟩; simp [execOp, ho, Instr.box, newVar, newRow, hz, upd_same]
  exact hop.elim
 exact hop.elim
theorem run_load_any (t : TypeId) {ti : TI} (hti : tiOf P t = some ti) (g o : Nat) (us : List Value) (hc : ∀ (j : Nat) u, us[j]? = some u → W.cell? ⟨g, o + j, none⟩ = some u) :
  (∀ fs z, ti = .struct fs z → us.length = z.length → (Instr.loadAt t (.pointer (some ⟨g, o, none⟩))).run P W = .ok (.agg us.toArray) W) ∧
  ((∀ fs z, ti ≠ .struct fs z) → ∀ u, us[0]? = some u → (Instr.loadAt t (.pointer (some ⟨g, o, none⟩))).run P W = .ok u W) := by
 refine ⟨fun fs z e hl => ?_, fun hs u hu => ?_⟩
 ·subst e
  obtain ⟨fields, i, h1, h2, h3, h4, _⟩ := ti_struct hti; have hsz : (sizeOf t).run P W = .ok us.length W := by simp [sizeOf, typeInfo, h2, h4, hl]
  have hag : (isAgg t).run P W = .ok true W := by simp [isAgg, run_underlying h1]
  have := run_loadCells_list (P := P) W ⟨g, o, none⟩ us (fun j v hv => by rw [add_at]; exact hc j v hv); simp [Instr.loadAt, Instr.sureAddr, loadVar, hag, hsz, this]
 obtain ⟨d, i, h1, h2, h3, h4⟩ := ti_one hti hs; have hag : (isAgg t).run P W = .ok false W := by
  simp only [isAgg, run_underlying h1, Sem.run_bind, Result.andThen_ok]; cases d <;> first | rfl | cases h4
 have := hc 0 u hu; simp [Instr.loadAt, Instr.sureAddr, loadVar, hag, load, Sem.run, show W.cell? ⟨g, o, none⟩ = some u from this]
theorem getElem?_seg {α : Type} (l : List α) (o n j : Nat) (x : α) (h : ((l.drop o).take n)[j]? = some x) : l[o + j]? = some x ∧ j < n := by
 have hj : j < n := by
  have := (List.getElem?_eq_some_iff.1 h).1; rw [List.length_take] at this; omega
 rw [List.getElem?_take_of_lt hj, List.getElem?_drop] at h; exact ⟨h, hj⟩
theorem aload_rep (h : RelE X E S s a W) {t : TypeId} {cs : List FV} {off : Nat} {K : FV → Prop} (hop : aload s.st (tiOf P t) cs off K) (g o : Nat) (us : List Value) (hl : us.length = cs.length)
  (hc : ∀ (j : Nat) u, us[j]? = some u → W.cell? ⟨g, o + j, none⟩ = some u) (hr : ∀ (i : Nat) c u, cs[i]? = some c → us[i]? = some u → RepF W S E s.st c u) :
  ∃ c u, K c ∧ (Instr.loadAt t (.pointer (some ⟨g, o + off, none⟩))).run P W = .ok u W ∧ RepF W S E s.st c u := by
 unfold aload at hop; split at hop
 ·rename_i fs z hti
  split at hop
  ·rename_i xs hxs
   obtain ⟨hxl, hop⟩ := hop; have hseg : ((us.drop off).take z.length).length = ((cs.drop off).take z.length).length := by simp [hl]
   have hR := allIV_rep h (us := (us.drop off).take z.length) hseg (fun i c u hc1 hu1 => hr (off + i) c u (getElem?_seg _ _ _ _ _ hc1).1 (getElem?_seg _ _ _ _ _ hu1).1) hxs; refine ⟨_, _, hop, (run_load_any t hti g (o + off) ((us.drop off).take z.length) (fun j u hu => ?_)).1 fs z rfl (by rw [hR.1, hxl]), Rep.agg hR.1 hR.2⟩; have := hc (off + j) u (getElem?_seg _ _ _ _ _ hu).1; rwa [← Nat.add_assoc] at this
  exact hop.elim
 ·rename_i ti hns hti
  split at hop
  ·rename_i c hcs
   have hlt := (List.getElem?_eq_some_iff.1 hcs).1; have hu : us[off]? = some (us[off]'(by omega)) := List.getElem?_eq_getElem _; refine ⟨c, us[off]'(by omega), hop, (run_load_any t hti g (o + off) [us[off]'(by omega)] (fun j u hj => ?_)).2 (fun fs z e => hns fs z e) _ rfl, hr off c _ hcs hu⟩; cases j with
   | zero =>
    simp only [List.getElem?_cons_zero, Option.some.injEq] at hj; subst hj; exact hc off _ hu
   | succ j => simp at hj
  exact hop.elim
 exact hop.elim
theorem val_load (h : RelE X E S s a W) {t : TypeId} {x : Operand} (ho : o.op = .load t x) (hop : aval P (.load t x) o.dst s K) : Out P X s a W o K Q := by
 simp only [aval] at hop; have he := eval_rep h x; split at hop
 ·rename_i b off hx
  have hp := eval_ptr h hx; split at hop
  ·rename_i cs hst
   have hob := h.ob b; rw [hst] at hob; obtain ⟨⟨us, hl, hB, h1, hr, hS⟩, _⟩ := hob; obtain ⟨c, u, hK, hrun, hc⟩ := aload_rep h hop (E.box b) 0 us hl (fun j u hu => by rw [Nat.zero_add]; exact hB.cell j u hu) hr; rw [Nat.zero_add] at hrun; exact out_same h (u := u) (by simp [execOp, ho, hp, hrun]) hK hc
  exact hop.elim
 ·rename_i cs off hx
  rw [hx] at he; revert he
  generalize hu : a.eval x = w; intro he; cases he with
  | elt g oo f h1 hA hR =>
   obtain ⟨c, u, hK, hrun, hc⟩ := aload_rep h hop g oo ((List.range cs.length).map f) (by simp) (fun j u hj => by
    have hlt := (List.getElem?_eq_some_iff.1 hj).1; simp only [List.length_map, List.length_range] at hlt; rw [List.getElem?_map, List.getElem?_range hlt] at hj; simp only [Option.map_some, Option.some.injEq] at hj; subst hj; exact (hA j hlt).2) (fun i c u hc hu => by
    have hlt := (List.getElem?_eq_some_iff.1 hu).1; simp only [List.length_map, List.length_range] at hlt; rw [List.getElem?_map, List.getElem?_range hlt] at hu; simp only [Option.map_some, Option.some.injEq] at hu; subst hu; rw [List.getElem?_map] at hc; cases hy : cs[i]? with
    | none => rw [hy] at hc; cases hc
    | some y =>
     rw [hy] at hc; simp only [Option.map_some, Option.some.injEq] at hc; subst hc; exact hR i y hy)
   exact out_same h (u := u) (by simp [execOp, ho, hu, hrun]) hK hc
 exact hop.elim
theorem setCells_heap (g : Nat) : ∀ (vs : List Value) (o : Nat) (w : World), (w.setCells g o vs).heap.size = w.heap.size ∧ (∀ k, k ≠ g → (w.setCells g o vs).heap[k]? = w.heap[k]?) ∧ (w.setCells g o vs).os = w.os ∧ (w.setCells g o vs).tape = w.tape ∧ (w.setCells g o vs).output = w.output
 | [], _, w => ⟨rfl, fun _ _ => rfl, rfl, rfl, rfl⟩
 | v :: r, o, w => by
  obtain ⟨h1, h2, h3, h4, h5⟩ := setCells_heap g r (o + 1) (w.setCell ⟨g, o, none⟩ v); rw [World.setCells]; exact ⟨by rw [h1]; simp, fun k hk => (h2 k hk).trans (Below.heap_setCell w ⟨g, o, none⟩ v k hk), h3, h4, h5⟩
theorem seg_get {α : Type} (l : List α) (o : Nat) (xs : List α) (hl : o + xs.length ≤ l.length) (i : Nat) : (setSeg l o xs)[i]? = if i < o then l[i]? else if i < o + xs.length then xs[i - o]? else l[i]? := by
 unfold setSeg; have h1 : (l.take o).length = o := by rw [List.length_take]; omega
 by_cases hi : i < o
 ·rw [if_pos hi, List.getElem?_append_left (by omega), List.getElem?_take_of_lt hi]
 rw [if_neg hi, List.getElem?_append_right (by omega), h1]; by_cases h2 : i < o + xs.length
 ·rw [if_pos h2, List.getElem?_append_left (by omega)]
 rw [if_neg h2, List.getElem?_append_right (by omega), List.getElem?_drop]; congr 1; omega
theorem seg_len {α : Type} (l : List α) (o : Nat) (xs : List α) (hl : o + xs.length ≤ l.length) : (setSeg l o xs).length = l.length := by
 unfold setSeg; simp; omega
theorem Box.setCells {w : World} {g o : Nat} {us vs : List Value} (h : Box w g us) (ho : o + vs.length ≤ us.length) : Box (w.setCells g o vs) g (setSeg us o vs) := by
 have hs : ∀ j, j < vs.length → (w.cell? ⟨g, o + j, none⟩).isSome = true := fun j hj => by rw [h.cell (o + j) _ (List.getElem?_eq_getElem (by omega))]; rfl
 refine ⟨fun i v hv => ?_, fun i => by rw [World.frozen?_setCells]; exact h.froz i, by rw [(setCells_heap g vs o w).1]; exact h.lt⟩; rw [seg_get us o vs ho] at hv; split at hv
 ·rename_i hi
  rw [World.cell?_setCells_out g vs o w ⟨g, i, none⟩ (fun _ _ => Or.inl hi)]; exact h.cell i v hv
 split at hv
 ·rename_i h1 h2
  have := World.cell?_setCells_in g vs o w hs (i - o) (by omega); rw [show o + (i - o) = i by omega] at this; rw [this, ← hv, List.getElem?_eq_getElem]
 rw [World.cell?_setCells_out g vs o w ⟨g, i, none⟩ (fun _ _ => Or.inr (by show o + vs.length ≤ i; omega))]; exact h.cell i v hv
theorem RelE.setbox (h : RelE X E S s a W) {b off : Nat} {cs xs : List FV} {vs : List Value} (hst : s.st b = .box cs) (ho : off + xs.length ≤ cs.length) (hl : vs.length = xs.length) (h1 : ∀ u ∈ vs, u.oneCell' = true)
  (hr : ∀ (i : Nat) c u, xs[i]? = some c → vs[i]? = some u → RepF W S E s.st c u) : RelE X E S ⟨s.fr, upd s.st b (.box (setSeg cs off xs))⟩ a (W.setCells (E.box b) off vs) := by
 have hob := h.ob b; rw [hst] at hob; obtain ⟨⟨us, hul, hB, hu1, hur, hS⟩, hloc⟩ := hob; obtain ⟨e1, e2, e3, e4, e5⟩ := setCells_heap (E.box b) vs off W; have hcell : ∀ g o, S g o → (W.setCells (E.box b) off vs).cell? ⟨g, o, none⟩ = W.cell? ⟨g, o, none⟩ := fun g o hg => cell_block (e2 g (fun e => hS o (e ▸ hg)))
 have hF : ∀ c u, RepF W S E s.st c u → RepF (W.setCells (E.box b) off vs) S E (upd s.st b (.box (setSeg cs off xs))) c u := by
  intro c u hc; cases c with
  | junk => trivial
  | im x => exact Rep.keep hc hcell (fun _ _ h => h)
  | own k n =>
   obtain ⟨t, z, es, f1, f2⟩ := hc; exact ⟨t, z, es, by rw [upd_ne _ _ (fun e => by subst e; rw [hst] at f1; cases f1)]; exact f1, f2⟩
  | ptr b' off' =>
   obtain ⟨⟨cs', f1⟩, f2⟩ := hc; refine ⟨?_, f2⟩; by_cases hb : b' = b
   ·subst hb; exact ⟨_, upd_same _ _ _⟩
   exact ⟨cs', by rw [upd_ne _ _ hb]; exact f1⟩
  | pin b' p' =>
   obtain ⟨⟨cs', f1⟩, f2⟩ := hc; refine ⟨?_, f2⟩; by_cases hb : b' = b
   ·subst hb; exact ⟨_, upd_same _ _ _⟩
   exact ⟨cs', by rw [upd_ne _ _ hb]; exact f1⟩
 refine h.core (· = b) _ E S _ (fun j hj => ⟨upd_ne _ _ hj, rfl, rfl⟩) rfl (fun j hj => ?_) e3 e4 e5 (by omega) (fun g _ hne => e2 g (fun e => hne b rfl (by rw [hst]; exact congrArg some e.symm))) hcell (fun _ _ h => h) (fun g o h => Or.inl h) (fun g o hg => by rw [e1]; exact h.Sb g o hg) (fun j hj => ?_) (fun j g hj hg => ?_) (fun i j g hi hj _ _ => hi.trans hj.symm)
 ·subst hj; rw [hst, upd_same]; exact ⟨⟨_, rfl⟩, rfl⟩
 ·subst hj
  rw [upd_same]; refine ⟨⟨setSeg us off vs, by rw [seg_len _ _ _ (by omega), seg_len _ _ _ ho, hul], hB.setCells (by omega), fun u hu => ?_, fun i c u hc hu => hF c u ?_, hS⟩, hloc⟩
  ·obtain ⟨i, hi⟩ := List.mem_iff_getElem?.1 hu
   rw [seg_get us off vs (by omega)] at hi; repeat' split at hi
   ·exact hu1 u (List.mem_of_getElem? hi)
   ·exact h1 u (List.mem_of_getElem? hi)
   exact hu1 u (List.mem_of_getElem? hi)
  rw [seg_get us off vs (by omega), hl] at hu; rw [seg_get cs off xs ho] at hc; by_cases g1 : i < off
  ·rw [if_pos g1] at hc hu; exact hur i c u hc hu
  rw [if_neg g1] at hc hu; by_cases g2 : i < off + xs.length
  ·rw [if_pos g2] at hc hu; exact hr _ c u hc hu
  rw [if_neg g2] at hc hu; exact hur i c u hc hu
 subst hj; rw [upd_same] at hg; rw [hst]; exact Or.inl hg
theorem run_store_any (t : TypeId) {i : TypeInfo} (hi : P.info? t = some i) (b off : Nat) (u : Value) {us : List Value} (hB : Box W b us) (hsz : i.size = u.cells.size) (ho : off + u.cells.size ≤ us.length) (h1 : ∀ v ∈ u.cells.toList, v.oneCell' = true) :
  (Instr.storeAt t (.pointer (some ⟨b, off, none⟩)) u).run P W = .ok () (W.setCells b off u.cells.toList) := by
 have hl : u.cells.toList.length = u.cells.size := by simp
 have hz : (sizeOf t).run P W = .ok u.cells.size W := by simp [sizeOf, typeInfo, hi, hsz]
 have := run_storeCells_cells (P := P) b off u.cells.toList 0 W (fun j hj => by rw [Nat.add_zero, hB.cell (off + j) _ (List.getElem?_eq_getElem (by omega))]; rfl) (fun j _ => hB.froz _) h1; rw [Nat.add_zero] at this; simp [Instr.storeAt, Instr.sureAddr, storeVar, hz, this]
theorem store_agg (h : RelE X E S s a W) {t : TypeId} {x y : Operand} (ho : o.op = .store t x y) {b off : Nat} {cs : List FV} {xs : List IV} {i : TypeInfo} (hx : valOf s x = .ptr b off) (hst : s.st b = .box cs) (hy : valOf s y = .im (.agg xs)) (i2 : P.info? t = some i) (i4 : i.size = xs.length)
  (g2 : off + xs.length ≤ cs.length) (g3 : xs.all IV.one = true) (hK : K .junk (upd s.st b (.box (setSeg cs off (xs.map FV.im))))) : Out P X s a W o K Q := by
 have he := eval_rep h y; have hp := eval_ptr h hx; have hob := h.ob b; rw [hst] at hob; obtain ⟨⟨us, hul, hB, hu1, hur, hS⟩, hloc⟩ := hob; rw [hy] at he; revert he
 generalize hu : a.eval y = w; intro he; cases he with
 | agg hl hR =>
  rename_i vs
  have hone : ∀ u ∈ vs, u.oneCell' = true := fun u hu => by
   obtain ⟨k, hk, rfl⟩ := List.mem_iff_getElem.1 hu; exact (hR k (xs[k]'(by omega)) vs[k] (List.getElem?_eq_getElem _) (List.getElem?_eq_getElem _)).one (List.all_eq_true.1 g3 _ (List.getElem_mem _))
  have hrun := run_store_any (P := P) t i2 (E.box b) off (.agg vs.toArray) hB (by simp [Value.cells, i4, hl]) (by simp [Value.cells]; omega) (by simpa [Value.cells] using hone); have hN := h.setbox (off := off) (xs := xs.map FV.im) (vs := vs) hst (by simp; omega) (by simp [hl]) hone (fun k c u hc hu => by
   rw [List.getElem?_map] at hc; cases hq : xs[k]? with
   | none => rw [hq] at hc; cases hc
   | some q =>
    rw [hq] at hc; simp only [Option.map_some, Option.some.injEq] at hc; subst hc; exact hR k q u hq hu)
  refine out_skip (W' := W.setCells (E.box b) off vs) ?_ hK hN trivial; simp only [Value.cells] at hrun; simp [execOp, ho, hp, hu, hrun]
theorem val_store (h : RelE X E S s a W) {t : TypeId} {x y : Operand} (ho : o.op = .store t x y) (hop : aval P (.store t x y) o.dst s K) : Out P X s a W o K Q := by
 simp only [aval] at hop; have he := eval_rep h y; split at hop
 ·rename_i b off hx
  have hp := eval_ptr h hx; split at hop
  ·rename_i cs hst
   have hob := h.ob b; rw [hst] at hob; obtain ⟨⟨us, hul, hB, hu1, hur, hS⟩, hloc⟩ := hob; split at hop
   ·rename_i fs z hti
    split at hop
    ·rename_i xs hy
     obtain ⟨⟨g1, g2, g3⟩, hK⟩ := hop; obtain ⟨fields, i, i1, i2, i3, i4, _⟩ := ti_struct hti; exact store_agg h ho hx hst hy i2 (by omega) (by omega) g3 hK
    exact hop.elim
   ·rename_i ti hns hti
    obtain ⟨⟨g1, g2⟩, hK⟩ := hop; obtain ⟨d, i, i1, i2, i3, i4⟩ := ti_one hti (fun fs z e => hns fs z e); have hone := ok_one h he g2; have hz : (a.eval y).cells = #[a.eval y] := by revert hone; cases a.eval y <;> intro hone <;> first | rfl | cases hone
    have hrun := run_store_any (P := P) t i2 (E.box b) off (a.eval y) hB (by simp [hz, i3]) (by simp [hz]; omega) (by simpa [hz] using hone); have hN := h.setbox (off := off) (xs := [valOf s y]) (vs := [a.eval y]) hst (by simp; omega) rfl (by simpa using hone) (fun k c u hc hu => by
     cases k with
     | zero => simp only [List.getElem?_cons_zero, Option.some.injEq] at hc hu; subst hc hu; exact he
     | succ k => simp at hc)
    have hset : setSeg cs off [valOf s y] = cs.set off (valOf s y) := by
     apply List.ext_getElem?; intro k; rw [seg_get cs off _ (by simp; omega), List.getElem?_set]; simp only [List.length_singleton]; by_cases k1 : k < off
     ·rw [if_pos k1, if_neg (by omega)]
     rw [if_neg k1]; by_cases k2 : k < off + 1
     ·obtain rfl : k = off := by omega
      rw [if_pos k2, if_pos rfl, if_pos g1, Nat.sub_self]; rfl
     rw [if_neg k2, if_neg (by omega)]
    rw [hset] at hN; refine out_skip (W' := W.setCells (E.box b) off [a.eval y]) ?_ hK hN trivial; rw [hz] at hrun; simp [execOp, ho, hp, hrun]
   split at hop
   ·rename_i ar xs har hy
    obtain ⟨n, esz, z⟩ := ar; obtain ⟨⟨g1, g2, g3⟩, hK⟩ := hop; obtain ⟨e, i, j, h1, h2, h3, h4, _⟩ := arr_of har; dsimp only at g1 g2; exact store_agg h ho hx hst hy h2 (by omega) (by omega) g3 hK
   exact hop.elim
  exact hop.elim
 exact hop.elim
end
end Go.Proofs.YtakncilicoefdaaGreatDoor
namespace Th
open Go Go.Lib
theorem qGo_err (L : List UInt8) (one : Nat → Tf × Nat × Nat) (hone : ∀ a, (one a).2.2 = 0 ∨ (one a).2.2 = 20 ∨ (one a).2.2 = 31 ∨ (one a).2.2 = 60) (f : Nat) : ∀ (n o a : Nat), (qGo L one f n o a).2 = 0 ∨ (qGo L one f n o a).2 = 20 ∨ (qGo L one f n o a).2 = 31 ∨ (qGo L one f n o a).2 = 60 := by
 intro n; induction n with
 | zero => intro o a; exact Or.inr (Or.inl rfl)
 | succ n ih =>
  intro o a; cases o with
  | zero =>
   simp only [qGo]; cases L[a]? with
   | none => exact Or.inr (Or.inl rfl)
   | some c =>
    dsimp only; repeat' split
    all_goals first | exact Or.inl rfl | exact ih _ _
  | succ o =>
   simp only [qGo]; split
   ·exact hone a
   split
   ·exact Or.inr (Or.inl rfl)
   exact ih _ _
theorem oneG_err (L : List UInt8) (q : Nat → Nat × Nat) (hq : ∀ f, (q f).2 = 0 ∨ (q f).2 = 20 ∨ (q f).2 = 31 ∨ (q f).2 = 60) (a : Nat) : (oneG L q a).2.2 = 0 ∨ (oneG L q a).2.2 = 20 ∨ (oneG L q a).2.2 = 31 ∨ (oneG L q a).2.2 = 60 := by
 unfold oneG; cases L.drop a with
 | nil => exact Or.inl rfl
 | cons c r =>
  dsimp only; split
  ·split
   ·exact hq a
   exact Or.inl rfl
  split
  ·exact Or.inr (Or.inr (Or.inr rfl))
  exact Or.inl rfl
theorem oneF_err (L : List UInt8) : ∀ (d a : Nat), (oneF L d a).2.2 = 0 ∨ (oneF L d a).2.2 = 20 ∨ (oneF L d a).2.2 = 31 ∨ (oneF L d a).2.2 = 60 := by
 intro d; induction d with
 | zero => intro a; exact oneG_err L _ (fun f => Or.inr (Or.inr (Or.inl rfl))) _
 | succ d ih => intro a; exact oneG_err L _ (fun f => qGo_err L _ ih f _ 0 _) _
end Th
namespace Go.Proofs.YtakncilicoefdaaGreatDoor
open Go Go.RowKit Go.Proofs Th
attribute [local go_sem] Above.cell
def GlobX (w : World) : Prop := ∃ m : Int, w.cell? ⟨4, 0, none⟩ = some (.int .i64 m)
theorem GlobX.upd {w w' : World} {p : Nat} {s : ByteArray} {cs : List Value} (h : GlobX w) (hB : Box w p (.string s :: cs)) (hu : Upd p w w') : GlobX w' := by
 obtain ⟨m, hm⟩ := h; have hp : (4 : Nat) ≠ p := by
  rintro rfl; have h0 := hB.cell 0 _ rfl; rw [hm] at h0; cases h0
 exact ⟨m, (cell_block (hu.block _ (lt_of_cell hm) hp)).trans hm⟩
theorem GlobX.below {w w' : World} (h : GlobX w) (hb : Below w.heap.size w w') : GlobX w' := by
 obtain ⟨m, hm⟩ := h; exact ⟨m, (hb.cell (p := ⟨4, 0, none⟩) (lt_of_cell hm)).trans hm⟩
def tokV (t : Tf) : Value := .agg #[.int .i64 (t.kind : Int), .string t.text, .int .i64 (t.at_ : Int)]
def NextPost (w : World) (p : Nat) (s : ByteArray) (t : Tf × Nat × Nat) (r : Ending) (w' : World) : Prop :=
 r = .returned (.tuple #[tokV t.1, .int .i64 (if t.2.2 = 0 then 0 else (t.2.1 : Int)), .int .i64 (t.2.2 : Int)]) ∧ ∃ j : Nat, ScP w w' p s j ∧ j ≤ s.size ∧ (t.2.2 = 0 → j = t.2.1)
def InnerPost (w : World) (p : Nat) (s : ByteArray) (d f n o a : Nat) (r : Ending) (w' : World) : Prop :=
  ∃ (j : Nat) (x e : Int), r = .returned (.tuple #[.int .i64 x, .int .i64 e]) ∧ ScP w w' p s j ∧ j ≤ s.size ∧
    ((e = 0 ∧ x = 0 ∧ ∃ n', n' ≤ n ∧ s.size + 2 ≤ n' + j ∧ a < j ∧ qGo s.data.toList (oneF s.data.toList d) f n' 0 j = qGo s.data.toList (oneF s.data.toList d) f n (o + 1) a ∧ ∀ m, n ≤ m → closeF (oneF s.data.toList d) m (o + 1) a = j) ∨
     (e = 240 ∧ qGo s.data.toList (oneF s.data.toList d) f n (o + 1) a = (f, 20)) ∨
     (e ≠ 0 ∧ e ≠ 240 ∧ ∃ q : Nat × Nat, qGo s.data.toList (oneF s.data.toList d) f n (o + 1) a = q ∧ x = q.1 ∧ e = q.2))
theorem closeF_zero (one : Nat → Tf × Nat × Nat) (m a : Nat) : closeF one m 0 a = a := by cases m <;> rfl
theorem qGo_step (L : List UInt8) (one : Nat → Tf × Nat × Nat) (f g o a : Nat) : qGo L one f (g + 1) (o + 1) a = if (one a).2.2 ≠ 0 then ((one a).2.1, (one a).2.2) else if (one a).1.kind = 0 then (f, 20)
  else qGo L one f g (if (one a).1.kind = 6 ∧ (one a).1.text = ⟨#[40]⟩ then o + 2 else if (one a).1.kind = 6 ∧ (one a).1.text = ⟨#[41]⟩ then o else o + 1) (one a).2.1 := rfl
theorem closeF_step (one : Nat → Tf × Nat × Nat) (m o a : Nat) : closeF one (m + 1) (o + 1) a = closeF one m (if (one a).1.kind = 6 ∧ (one a).1.text = ⟨#[40]⟩ then o + 2 else if (one a).1.kind = 6 ∧ (one a).1.text = ⟨#[41]⟩ then o else o + 1) (one a).2.1 := rfl
theorem three_below (w : World) (o : Obj) (a b c : Value) : Below w.heap.size w ((((w.alloc o).setCell ⟨w.heap.size, 0, none⟩ a).setCell ⟨w.heap.size, 1, none⟩ b).setCell ⟨w.heap.size, 2, none⟩ c) :=
 st1 (st1 (st1 (al1 _ _) _ _ _ (Nat.le_refl _)) _ _ _ (Nat.le_refl _)) _ _ _ (Nat.le_refl _)
theorem lb_ne {a : ByteArray} {l : List UInt8} (h : ¬ a = ⟨l.toArray⟩) : (a.toList == l) = false := by
 rw [ba_list, beq_eq_false_iff_ne]; intro h2; exact h (ba_inj h2)
structure InnerS (w W : World) (p : Nat) (s : ByteArray) (d f n o a : Nat) (g o1 j : Nat) : Prop where
 sc : ScP w W p s j
 le : j ≤ s.size
 ge : a ≤ j
 gn : g ≤ n
 ob : o1 + g ≤ n + 1 + o
 room : s.size + 2 ≤ g + j
 fwd : a < j ∨ o1 ≠ 0
 q : qGo s.data.toList (oneF s.data.toList d) f g o1 j = qGo s.data.toList (oneF s.data.toList d) f n (o + 1) a
 c : ∀ m, g ≤ m → closeF (oneF s.data.toList d) (m + (n - g)) (o + 1) a = closeF (oneF s.data.toList d) m o1 j
 glob : GlobX W
def nextO (tk : Nat) (tx : ByteArray) (o1 : Nat) : Nat := if tk = 6 ∧ tx = ⟨#[40]⟩ then o1 + 2 else if tk = 6 ∧ tx = ⟨#[41]⟩ then o1 else o1 + 1
theorem InnerS.step {w W W2 : World} {p : Nat} {s : ByteArray} {d f n o a g o1 j : Nat} (h : InnerS w W p s d f n o a (g + 1) (o1 + 1) j) {tk ta te : Nat} {tx : ByteArray} (ht : oneF s.data.toList d j = (⟨tk, tx, ta⟩, te, 0)) (hk : tk ≠ 0) (hsc : ScP w W2 p s te) (hG : GlobX W2) : InnerS w W2 p s d f n o a g (nextO tk tx o1) te := by
 have hok := oneF_ok s.data.toList d j (by rw [size_listU]; exact h.le); have hf := hok.fwd (by rw [ht]) (by rw [ht]; exact hk); have hl := hok.le; rw [ht] at hf hl; rw [size_listU] at hl; dsimp only at hf hl; have hq := h.q; have hg := h.gn; have hge := h.ge; have hroom := h.room; rw [qGo_step, ht] at hq; dsimp only at hq; rw [if_neg (fun h => h rfl), if_neg hk] at hq; have hob := h.ob; refine ⟨hsc, hl, by omega, by omega, by unfold nextO; split <;> (try split) <;> omega, by omega, Or.inl (by omega), hq, fun m hm => ?_, hG⟩; have hc := h.c (m + 1) (by omega); rw [closeF_step, ht, show m + 1 + (n - (g + 1)) = m + (n - g) from by omega] at hc; exact hc
theorem tok_inner (p : Nat) (s : ByteArray) (_hs : s.size ≤ 1000000) (d : Nat) (k : Int) (hk0 : 0 ≤ k) (hk : k ≤ 100)
  (hN : ∀ (W : World) (j : Nat), Box W p [.string s, .int .i64 j] → j ≤ s.size → GlobX W → Calls Tryz.prog 47 #[.pointer (some ⟨p, 0, none⟩), .int .i64 (k + 1)] W fun r w' => NextPost W p s (oneF s.data.toList d j) r w')
  (f n a : Nat) (ha : a ≤ s.size) (hn : s.size + 2 ≤ n + a) (hnn : n ≤ 2000000) (w : World) (hB : Box w p [.string s, .int .i64 a]) (hG : GlobX w) :
  Calls Tryz.prog 103 #[.pointer (some ⟨p, 0, none⟩), .int .i64 k] w fun r w' => InnerPost w p s d f n 0 a r w' := by
 have HL := Keep.mk (size_listU s); have HN := Keep.mk hN; have HS0 := Keep.mk (show InnerS w w p s d f n 0 a n 1 a from ⟨⟨hB, Upd.refl p w⟩, ha, Nat.le_refl _, Nat.le_refl _, by omega, hn, Or.inr (by decide), rfl, fun m _ => by rw [Nat.sub_self]; rfl, hG⟩); clear hN ha hn hB hG; go_enter Tryz.func103, Tryz.ntmps103
 go_wp2_with fail
 go_loopg [6] n (fun gk v6 wr => ∃ (o1 j : Nat), v6 = .int .i64 o1 ∧ Keep (InnerS w wr p s d f n 0 a gk o1 j))
 case atStart => exact ⟨1, a, rfl, HS0⟩
 case round =>
  clear HS0; obtain ⟨o1, j, rfl, HS⟩ := hrel; cases o1 with
  | zero =>
   go_wp2
   refine bodyPost_ret (v := .tuple #[.int .i64 0, .int .i64 0]) ?_ rfl ?_
   ·simp [results, Tryz.results103, go_sem]
   have hg := HS.out.gn; refine ⟨j, 0, 0, rfl, HS.out.sc, HS.out.le, Or.inl ⟨rfl, rfl, gk, hg, HS.out.room, by have := HS.out.fwd; omega, HS.out.q, fun m hm => ?_⟩⟩; have := HS.out.c (m - (n - gk)) (by omega); rw [show m - (n - gk) + (n - gk) = m from by omega] at this; rw [this]; exact closeF_zero _ _ _
  | succ o1 =>
   have hroom := HS.out.room; have hle := HS.out.le; obtain ⟨g, rfl⟩ : ∃ g, gk = g + 1 := ⟨gk - 1, by omega⟩
   obtain ⟨t, ht⟩ : ∃ t, oneF s.data.toList d j = t := ⟨_, rfl⟩
   have HC := Keep.mk (HN.out wr j HS.out.sc.b HS.out.le HS.out.glob); have hok := oneF_ok s.data.toList d j (by rw [HL.out]; exact hle); have herr := oneF_err s.data.toList d j; have hq := HS.out.q; have hcl := fun m (hm : g + 1 ≤ m + 1) => HS.out.c (m + 1) hm
   have hgn := HS.out.gn; rw [qGo_step, ht] at hq; simp only [closeF_step, ht] at hcl; rw [ht] at HC hok herr; have HLN := Keep.mk HL.out; obtain ⟨⟨tk, tx, ta⟩, te, er⟩ := t; dsimp only at hq hcl herr; have ho : 0 < ((o1 : Int) + 1) := by omega
   have hoklen := hok.le; rw [HL.out] at hoklen; dsimp only at hoklen; by_cases her : er = 0
   ·subst her
    by_cases hk0 : tk = 0
    ·subst hk0
     have HQ := Keep.mk hq; clear hq hcl hok herr ht hroom hle hgn hoklen; go_wp2_with fail
     refine HC.out.mono ?_; rintro r w1 ⟨hr, j1, hs1, hl1, _⟩; simp only [tokV, if_true] at hr; subst hr; have HS1 := Keep.mk (show ScP w w1 p s j1 from ⟨hs1.b, HS.out.sc.u.trans hs1.u⟩); have HL1 := Keep.mk hl1; clear hs1 hl1; go_wp2
     refine bodyPost_ret (v := .tuple #[.int .i64 0, .int .i64 240]) ?_ rfl ?_
     ·simp [results, Tryz.results103, go_sem]
     exact ⟨j1, _, _, rfl, HS1.out.above (by first | exact al1 _ _ | exact three_below _ _ _ _ _), HL1.out, Or.inr (Or.inl ⟨rfl, HQ.out.symm.trans (by rw [if_neg (fun h => h rfl)]; exact if_pos trivial)⟩)⟩
    have hnk : ¬ (tk : Int) = 0 := by omega
    have hob : o1 ≤ 2000000 := by have := HS.out.ob; omega
    clear hq hcl hok herr hroom hle hgn hoklen; by_cases h6 : tk = 6
    ·subst h6
     by_cases h40 : tx = ⟨#[40]⟩
     ·subst h40
      have hno : nextO 6 ⟨#[40]⟩ o1 = o1 + 2 := rfl; have HST := Keep.mk (fun W2 (h1 : ScP w W2 p s te) (h2 : GlobX W2) => show InnerS w W2 p s d f n 0 a g (o1 + 2) te by
       have := HS.out.step ht hk0 h1 h2; rwa [hno] at this)
      clear ht hno; go_wp2_with fail
      refine HC.out.mono ?_; rintro r w1 ⟨hr, j1, hs1, hl1, he1⟩; obtain rfl : te = j1 := (he1 rfl).symm; simp only [tokV, if_true] at hr; subst hr; have HS1 := Keep.mk (show ScP w w1 p s te from ⟨hs1.b, HS.out.sc.u.trans hs1.u⟩); have HG1 := Keep.mk (HS.out.glob.upd HS.out.sc.b hs1.u); clear hs1 hl1 he1; go_wp2
      go_roundg g
      case rel => exact ⟨o1 + 2, te, by go_num, ⟨HST.out _ (HS1.out.above (by first | exact al1 _ _ | exact three_below _ _ _ _ _)) (HG1.out.below (by first | exact al1 _ _ | exact three_below _ _ _ _ _))⟩⟩
      case measure => omega
     have b40 := lb_ne h40; by_cases h41 : tx = ⟨#[41]⟩
     ·subst h41
      have hno : nextO 6 ⟨#[41]⟩ o1 = o1 := rfl; have HST := Keep.mk (fun W2 (h1 : ScP w W2 p s te) (h2 : GlobX W2) => show InnerS w W2 p s d f n 0 a g (o1) te by
       have := HS.out.step ht hk0 h1 h2; rwa [hno] at this)
      clear ht hno; go_wp2_with fail
      refine HC.out.mono ?_; rintro r w1 ⟨hr, j1, hs1, hl1, he1⟩; obtain rfl : te = j1 := (he1 rfl).symm; simp only [tokV, if_true] at hr; subst hr; have HS1 := Keep.mk (show ScP w w1 p s te from ⟨hs1.b, HS.out.sc.u.trans hs1.u⟩); have HG1 := Keep.mk (HS.out.glob.upd HS.out.sc.b hs1.u); clear hs1 hl1 he1; go_wp2
      go_roundg g
      case rel => exact ⟨o1, te, by go_num, ⟨HST.out _ (HS1.out.above (by first | exact al1 _ _ | exact three_below _ _ _ _ _)) (HG1.out.below (by first | exact al1 _ _ | exact three_below _ _ _ _ _))⟩⟩
      case measure => omega
     have b41 := lb_ne h41; have hno : nextO 6 tx o1 = o1 + 1 := by unfold nextO; rw [if_neg (fun h => h40 h.2), if_neg (fun h => h41 h.2)]
     have HST := Keep.mk (fun W2 (h1 : ScP w W2 p s te) (h2 : GlobX W2) => show InnerS w W2 p s d f n 0 a g (o1 + 1) te by
      have := HS.out.step ht hk0 h1 h2; rwa [hno] at this)
     clear ht hno; go_wp2_with fail
     refine HC.out.mono ?_; rintro r w1 ⟨hr, j1, hs1, hl1, he1⟩; obtain rfl : te = j1 := (he1 rfl).symm; simp only [tokV, if_true] at hr; subst hr; have HS1 := Keep.mk (show ScP w w1 p s te from ⟨hs1.b, HS.out.sc.u.trans hs1.u⟩); have HG1 := Keep.mk (HS.out.glob.upd HS.out.sc.b hs1.u); clear hs1 hl1 he1; go_wp2
     go_roundg g
     case rel => exact ⟨o1 + 1, te, by go_num, ⟨HST.out _ (HS1.out.above (by first | exact al1 _ _ | exact three_below _ _ _ _ _)) (HG1.out.below (by first | exact al1 _ _ | exact three_below _ _ _ _ _))⟩⟩
     case measure => omega
    have h6' : ¬ (tk : Int) = 6 := by omega
    have hno : nextO tk tx o1 = o1 + 1 := by unfold nextO; rw [if_neg (fun h => h6 h.1), if_neg (fun h => h6 h.1)]
    have HST := Keep.mk (fun W2 (h1 : ScP w W2 p s te) (h2 : GlobX W2) => show InnerS w W2 p s d f n 0 a g (o1 + 1) te by
     have := HS.out.step ht hk0 h1 h2; rwa [hno] at this)
    clear ht hno; go_wp2_with fail
    refine HC.out.mono ?_; rintro r w1 ⟨hr, j1, hs1, hl1, he1⟩; obtain rfl : te = j1 := (he1 rfl).symm; simp only [tokV, if_true] at hr; subst hr; have HS1 := Keep.mk (show ScP w w1 p s te from ⟨hs1.b, HS.out.sc.u.trans hs1.u⟩); have HG1 := Keep.mk (HS.out.glob.upd HS.out.sc.b hs1.u); clear hs1 hl1 he1; go_wp2
    go_roundg g
    case rel => exact ⟨o1 + 1, te, by go_num, ⟨HST.out _ (HS1.out.above (by first | exact al1 _ _ | exact three_below _ _ _ _ _)) (HG1.out.below (by first | exact al1 _ _ | exact three_below _ _ _ _ _))⟩⟩
    case measure => omega
   have HQ := Keep.mk (hq.symm.trans (if_pos her)); have hne : ¬ (er : Int) = 0 := by omega
   have hne2 : ¬ (er : Int) = 240 := by omega
   clear hq hcl hok herr ht hroom hle hgn hoklen; go_wp2_with fail
   refine HC.out.mono ?_; rintro r w1 ⟨hr, j1, hs1, hl1, _⟩; simp only [tokV, if_neg her] at hr; subst hr; have HS1 := Keep.mk (show ScP w w1 p s j1 from ⟨hs1.b, HS.out.sc.u.trans hs1.u⟩); have HL1 := Keep.mk hl1; clear hs1 hl1; go_wp2
   refine bodyPost_ret (v := .tuple #[.int .i64 (te : Int), .int .i64 (er : Int)]) ?_ rfl ?_
   ·simp [results, Tryz.results103, go_sem]
   exact ⟨j1, _, _, rfl, HS1.out.above (by first | exact al1 _ _ | exact three_below _ _ _ _ _), HL1.out, Or.inr (Or.inr ⟨hne, hne2, _, HQ.out, rfl, rfl⟩)⟩
open Go Go.RowKit Go.Proofs Th
theorem text_24 {m e : Int} (h : right m e = true) : (textN m e).length ≤ 24 := by
 have h1 := nd_small h; have hx := right_exp h; have hi := itoa_len3 e hx.1 hx.2; have hd : (Lib.decDigits m.natAbs).length = nd m := by rw [Lib.decDigits_length]; rfl
 have hs : (sgn m).length ≤ 1 := by unfold sgn; split <;> simp
 have h1 : nd m ≤ 18 := h1; unfold textN; split
 ·rename_i hc
  simp only [List.length_append, List.length_replicate]; omega
 split
 ·rename_i hc
  have hp : (pad m e).length ≤ 21 := by
   unfold pad; split
   ·rw [List.length_append, List.length_replicate]; omega
   omega
  simp only [List.length_append, List.length_take, List.length_drop, List.length_cons, List.length_nil]; omega
 simp only [List.length_append, List.length_cons, List.length_nil]; omega
theorem join_size2 : ∀ (b : Bool) (l : List NJ), (∀ x ∈ l, (spJ x).size + 22 ≤ 48 * wtJ x) → (joinT b (l.map nmJ) (spL l)).size ≤ 48 * wtL l
 | true, [], _ => by simp [joinT, spL, bsz]
 | false, [], _ => by simp [joinT, spL, bsz]
 | true, x :: l, h => by
  have := join_size2 false l fun y hy => h y (List.mem_cons_of_mem _ hy)
  have := body_size (nmJ x); have := nm_wt x; rw [List.map_cons, spL, wtL]; unfold joinT; rw [ByteArray.size_append]; omega
 | false, x :: l, h => by
  have := join_size2 true l fun y hy => h y (List.mem_cons_of_mem _ hy)
  have := h x List.mem_cons_self; rw [List.map_cons, spL, wtL]; unfold joinT; simp only [ByteArray.size_append, bsz, List.length_cons, List.length_nil]; omega
theorem sum_wt2 : ∀ l : List NJ, (∀ x ∈ l, (spJ x).size + 22 ≤ 48 * wtJ x) → sumZ 22 (spL l) ≤ 48 * wtL l
 | [], _ => by simp [spL, sumZ]
 | x :: r, h => by
  have := sum_wt2 r fun y hy => h y (List.mem_cons_of_mem _ hy)
  have := h x List.mem_cons_self; rw [spL, sumZ_cons, wtL]; omega
theorem sp_size2 : ∀ (d : Nat) (n : NJ), depJ n ≤ d → okJ n = true → (spJ n).size + 22 ≤ 48 * wtJ n
 | 0, .mk k s m e l a, hd, _ => by rw [depJ] at hd; omega
 | d + 1, .mk k s m e l a, hd, h => by
  rw [depJ] at hd; rw [okJ, Bool.and_eq_true, okL_all, List.all_eq_true] at h; obtain ⟨h1, hk⟩ := h; have hfit : fitJ (.mk k s m e l a) = true := by unfold oneJ at h1; rw [Bool.and_eq_true] at h1; exact h1.2
  have hK : ∀ x ∈ l, (spJ x).size + 22 ≤ 48 * wtJ x := fun x hx => sp_size2 d x (deps_le2.1 (by omega) x hx) (hk x hx)
  have hS := sum_wt2 l hK; have h0 := get3 (spL l); have hz0 := sumZ_le (show 0 ≤ 22 by omega) (spL l); have hz2 := sumZ_le (show 2 ≤ 22 by omega) (spL l); have hz6 := sumZ_le (show 6 ≤ 22 by omega) (spL l); have hj := join_size2 true l hK; have ht0 := tg_size (l.map kindJ) (spL l) 0; have ht1 := tg_size (l.map kindJ) (spL l) 1; have hsg := sign_size k s; have hg2 : ByteArray.size ⟨#[59, 32]⟩ ≤ 2 := Nat.le_refl _; have hsp := sep_size ⟨#[59, 32]⟩ 2 hg2 (spL l); have hst := get_tail ⟨#[59, 32]⟩ hg2 (spL l); have hsa := sep_size ⟨#[59, 32]⟩ 2 hg2 a; have ha2 := sumZ_two a; have hob := obj_size true (spL l); have hwa : (a.map fun x => 1 + x.size).sum = sumZ 1 a := rfl; have he : ByteArray.size ⟨#[]⟩ = 0 := rfl; rw [spJ, wtJ, hwa]; by_cases k6 : k = 6
  ·obtain ⟨hl, ha⟩ := bareA hfit k6
   subst k6; simp only [show ¬ (6 : Int) = 1 by decide, show ¬ (6 : Int) = 26 by decide, show ¬ (6 : Int) = 2 by decide, show ¬ (6 : Int) = 3 by decide, show ¬ (6 : Int) = 4 by decide, show ¬ (6 : Int) = 5 by decide, if_true, if_false, ByteArray.size_append, bsz, List.length_cons, List.length_nil]; rcases ha with rfl | rfl | rfl
   ·have hl2 : l.length = 2 := hl
    rw [if_pos (show [fromB].head? = some fromB from rfl), if_neg (show ¬ [fromB].getLast? = some toB by decide), he]; omega
   ·have hl2 : l.length = 2 := hl
    rw [if_neg (show ¬ [toB].head? = some fromB by decide), if_pos (show [toB].getLast? = some toB from rfl), he, hl2, show 2 - 1 = 1 from rfl]; omega
   have hl3 : l.length = 3 := hl; rw [if_pos (show [fromB, toB].head? = some fromB from rfl), if_pos (show [fromB, toB].getLast? = some toB from rfl), hl3, show 3 - 1 = 2 from rfl]; omega
  rw [if_neg k6]; by_cases k2 : k = 2
  ·subst k2
   have hr : right m e = true := by simp [fitJ] at hfit; exact hfit.1.2
   have := text_24 hr; simp only [show ¬ (2 : Int) = 1 by decide, show ¬ (2 : Int) = 26 by decide, if_true, if_false, bs_size]; omega
  rw [if_neg k2]; by_cases k3 : k = 3
  ·subst k3
   have := quoteD_le s.data.toList; rw [size_listU] at this; simp only [show ¬ (3 : Int) = 1 by decide, show ¬ (3 : Int) = 26 by decide, if_true, if_false, quoteB, bs_size]; omega
  rw [if_neg k3]; by_cases qh1 : k = 1
  ·rw [if_pos qh1]
   simp only [bsz, List.length_cons, List.length_nil]; omega
  rw [if_neg qh1]; by_cases qh26 : k = 26
  ·rw [if_pos qh26]
   simp only [bsz, List.length_cons, List.length_nil]; omega
  rw [if_neg qh26]; by_cases qh4 : k = 4
  ·rw [if_pos qh4]
   simp only [ByteArray.size_append, bsz, List.length_cons, List.length_nil]; omega
  rw [if_neg qh4]; by_cases qh5 : k = 5
  ·rw [if_pos qh5]
   simp only [ByteArray.size_append, bsz, List.length_cons, List.length_nil]; omega
  rw [if_neg qh5]; by_cases qh7 : k = 7
  ·rw [if_pos qh7]
   simp only [ByteArray.size_append, bsz, List.length_cons, List.length_nil]; omega
  rw [if_neg qh7]; by_cases qh14 : k = 14
  ·rw [if_pos qh14]
   simp only [ByteArray.size_append, bsz, List.length_cons, List.length_nil]; omega
  rw [if_neg qh14]; by_cases qh15 : k = 15
  ·rw [if_pos qh15]
   simp only [ByteArray.size_append, bsz, List.length_cons, List.length_nil]; omega
  rw [if_neg qh15]; by_cases qh16 : k = 16
  ·rw [if_pos qh16]
   simp only [ByteArray.size_append, bsz, List.length_cons, List.length_nil]; omega
  rw [if_neg qh16]; by_cases qh17 : k = 17
  ·rw [if_pos qh17]
   simp only [ByteArray.size_append, bsz, List.length_cons, List.length_nil]; omega
  rw [if_neg qh17]; by_cases qh18 : k = 18
  ·rw [if_pos qh18]
   by_cases hl : l.length = 2
   ·rw [if_pos hl]; simp only [ByteArray.size_append, bsz, List.length_cons, List.length_nil]; omega
   rw [if_neg hl]; simp only [ByteArray.size_append, bsz, List.length_cons, List.length_nil]; omega
  rw [if_neg qh18]; by_cases qh19 : k = 19 ∨ k = 20
  ·rw [if_pos qh19]
   have hw : (if k = 19 then (⟨#[114, 101, 100, 117, 99, 101, 32]⟩ : ByteArray) else ⟨#[102, 111, 114, 101, 97, 99, 104, 32]⟩).size ≤ 8 := by split <;> decide
   simp only [ByteArray.size_append, bsz, List.length_cons, List.length_nil]; omega
  rw [if_neg qh19]; by_cases qh21 : k = 21
  ·rw [if_pos qh21]
   simp only [ByteArray.size_append, bsz, List.length_cons, List.length_nil]; omega
  rw [if_neg qh21]; by_cases qh22 : k = 22
  ·rw [if_pos qh22]
   simp only [ByteArray.size_append, bsz, List.length_cons, List.length_nil]; omega
  rw [if_neg qh22]; by_cases qh23 : k = 23
  ·rw [if_pos qh23]
   by_cases hl : l.length = 0
   ·rw [if_pos hl]; omega
   rw [if_neg hl]; simp only [ByteArray.size_append, bsz, List.length_cons, List.length_nil]; omega
  rw [if_neg qh23]; by_cases qh24 : k = 24
  ·rw [if_pos qh24]
   by_cases hl : a.length = 0
   ·rw [if_pos hl]; simp only [ByteArray.size_append, bsz, List.length_cons, List.length_nil]; omega
   rw [if_neg hl]; simp only [ByteArray.size_append, bsz, List.length_cons, List.length_nil]; omega
  rw [if_neg qh24]; simp only [ByteArray.size_append, bsz, List.length_cons, List.length_nil]; omega
end Go.Proofs.YtakncilicoefdaaGreatDoor
namespace Th
open Go Go.Lib
def argA (t : Tf) : Nat := if strength t = 2 then 2 else strength t + 1
def topA (t : Tf) : Nat := if strength t = 2 then 1 else if strength t = 3 ∨ strength t = 6 then strength t - 1 else strength t
theorem strength_le8 (t : Tf) : strength t ≤ 8 := by
 unfold strength; repeat' split
 all_goals omega
theorem ev_binary (E : Env) (k i : Nat) : evP E (.binary k) i = bindP (evP E .minus i) fun n j => evP E (.binLoop k 8 n) j := by rw [evP_step]; rfl
theorem ev_filter {E : Env} {i : Nat} (h : ¬ isT E i 1 ⟨#[100, 101, 102]⟩) : evP E .filter i = bindP (evP E (.binary 1) i) fun n j => if isT E j 6 ⟨#[124]⟩ then bindP (evP E .filter (j + 1)) fun m k => okP (nodeJ 8 ⟨#[]⟩ n m) k else okP n j := by
 rw [evP_step]; simp only [stepP]; rw [if_neg h]
theorem loop_stop {E : Env} {k top i : Nat} {n : NJ} (h : strength (tokAt E i) < k ∨ top < strength (tokAt E i) ∨ strength (tokAt E i) = 0) : evP E (.binLoop k top n) i = some (.ok n i) := by
 rw [evP_step]; simp only [stepP]; rw [if_pos h]; rfl
theorem loop_go {E : Env} {k top i : Nat} {n : NJ} (h : ¬ (strength (tokAt E i) < k ∨ top < strength (tokAt E i) ∨ strength (tokAt E i) = 0)) :
  evP E (.binLoop k top n) i = bindP (evP E (.binary (argA (tokAt E i))) (i + 1)) fun m j => evP E (.binLoop k (topA (tokAt E i)) (joinedJ (tokAt E i) n m)) j := by
 rw [evP_step]; simp only [stepP]; rw [if_neg h]; unfold argA topA; by_cases h4 : strength (tokAt E i) = 2
 ·rw [if_pos h4, if_pos h4, if_pos h4]
 rw [if_neg h4, if_neg h4, if_neg h4]; by_cases h5 : strength (tokAt E i) = 3 ∨ strength (tokAt E i) = 6
 ·rw [if_pos h5, if_pos h5]
 rw [if_neg h5, if_neg h5]
def Nxt (q : Nat × ByteArray) : Prop := q.1 ≠ 3 ∧ q ≠ (6, ⟨#[63]⟩) ∧ q ≠ (6, ⟨#[91]⟩) ∧ q ≠ (6, ⟨#[46]⟩) ∧ q ≠ (1, ⟨#[97, 115]⟩)
instance (q : Nat × ByteArray) : Decidable (Nxt q) := by unfold Nxt; exact inferInstance
structure Atom (E : Env) (i : Nat) (n : NJ) (j : Nat) : Prop where
 m : evP E .minus i = some (.ok n j)
 d : ¬ isT E i 1 ⟨#[100, 101, 102]⟩
theorem ev_term {E : Env} {i j : Nat} {n : NJ} {q : Nat × ByteArray} (h0 : tk (tokAt E i) = q) (hq : q ≠ (6, ⟨#[45]⟩) ∧ q ≠ (1, ⟨#[100, 101, 102]⟩)) (hf : evP E .first i = some (.ok n j)) (h2 : Nxt (tk (tokAt E j))) : Atom E i n j := by
 obtain ⟨n1, n2, n3, n4, n5⟩ := h2; have h4 : evP E (.termLoop n) j = some (.ok n j) := by
  rw [evP_step]; simp only [stepP]; rw [if_neg (show ¬ (tokAt E j).kind = 3 from n1), if_neg (fun h => n2 (isT_tk.1 h)), if_neg (fun h => n3 (isT_tk.1 h)), if_neg (fun h => n4 (isT_tk.1 h))]; rfl
 have h5 : evP E .term i = some (.ok n j) := by
  rw [evP_step]; simp only [stepP]; rw [hf]; exact h4
 refine ⟨?_, fun h => hq.2 (by rw [← h0]; exact isT_tk.1 h)⟩; rw [evP_step]; simp only [stepP]; rw [if_neg (fun h => hq.1 (by rw [← h0]; exact isT_tk.1 h)), h5]; show (if isT E j 1 ⟨#[97, 115]⟩ then _ else _) = _
 rw [if_neg (fun h => n5 (isT_tk.1 h))]; rfl
theorem ev_sign {E : Env} {i : Nat} {s : ByteArray} (h0 : tk (tokAt E i) = (6, s)) : evP E .first i = evP E (.sign s) i := by
 have hk : (tokAt E i).kind = 6 := congrArg Prod.fst h0; have ht : (tokAt E i).text = s := congrArg Prod.snd h0; rw [evP_step]; simp only [stepP]; rw [if_neg (by omega), if_neg (by omega), if_neg (by omega), if_neg (by omega), if_neg (by omega), if_pos hk, ht]
theorem bin_one {E : Env} {k i j : Nat} {n : NJ} (hm : evP E .minus i = some (.ok n j)) (h : strength (tokAt E j) < k ∨ strength (tokAt E j) = 0) : evP E (.binary k) i = some (.ok n j) := by
 rw [ev_binary, hm]; exact loop_stop (h.imp id .inr)
theorem bin_two {E : Env} {k i j e : Nat} {x y : NJ} (hx : evP E .minus i = some (.ok x j)) (h0 : strength (tokAt E j) ≠ 0) (hk : k ≤ strength (tokAt E j)) (hy : evP E (.binary (argA (tokAt E j))) (j + 1) = some (.ok y e)) :
  evP E (.binary k) i = evP E (.binLoop k (topA (tokAt E j)) (joinedJ (tokAt E j) x y)) e := by
 have := strength_le8 (tokAt E j); rw [ev_binary, hx]; show evP E (.binLoop k 8 x) j = _
 rw [loop_go (by omega), hy]; rfl
def joinK (q : Nat × ByteArray) (a b : NJ) : NJ := if q = (6, ⟨#[124]⟩) then nodeJ 8 ⟨#[]⟩ a b else joinedJ ⟨q.1, q.2, 0⟩ a b
def strK (q : Nat × ByteArray) : Nat := strength ⟨q.1, q.2, 0⟩
theorem str_tk {t : Tf} {q : Nat × ByteArray} (h : tk t = q) : strength t = strK q := strength_tk h
theorem join_tk {t : Tf} {q : Nat × ByteArray} (h : tk t = q) (hq : q ≠ (6, ⟨#[124]⟩)) (a b : NJ) : joinedJ t a b = joinK q a b := by unfold joinK; rw [if_neg hq]; exact joined_tk h a b
theorem pipe_str : strK (6, ⟨#[124]⟩) = 0 := by decide
def EndQ (q : Nat × ByteArray) : Prop := strK q = 0 ∧ q ≠ (6, ⟨#[124]⟩)
instance (q : Nat × ByteArray) : Decidable (EndQ q) := by unfold EndQ; exact inferInstance
theorem filter_end {E : Env} {i e : Nat} {n : NJ} (hd : ¬ isT E i 1 ⟨#[100, 101, 102]⟩) (h : evP E (.binary 1) i = some (.ok n e)) (he : tk (tokAt E e) ≠ (6, ⟨#[124]⟩)) : evP E .filter i = some (.ok n e) := by
 rw [ev_filter hd, h]; show (if isT E e 6 ⟨#[124]⟩ then _ else _) = _
 rw [if_neg (fun h => he (isT_tk.1 h))]; rfl
theorem filter_pipe {E : Env} {i j e : Nat} {n m : NJ} (hd : ¬ isT E i 1 ⟨#[100, 101, 102]⟩) (h : evP E (.binary 1) i = some (.ok n j)) (hj : tk (tokAt E j) = (6, ⟨#[124]⟩)) (hm : evP E .filter (j + 1) = some (.ok m e)) : evP E .filter i = some (.ok (nodeJ 8 ⟨#[]⟩ n m) e) := by
 rw [ev_filter hd, h]; show (if isT E j 6 ⟨#[124]⟩ then _ else _) = _
 rw [if_pos (isT_tk.2 hj), hm]; rfl
theorem ev_one {E : Env} {i e : Nat} {x : NJ} (hx : Atom E i x e) (he : EndQ (tk (tokAt E e))) : evP E .filter i = some (.ok x e) :=
 filter_end hx.d (bin_one hx.m (.inr ((str_tk rfl).trans he.1))) he.2
theorem ev_two {E : Env} {i j e : Nat} {x y : NJ} {q : Nat × ByteArray} (hx : Atom E i x j) (hq : tk (tokAt E j) = q) (hs : q = (6, ⟨#[124]⟩) ∨ strK q ≠ 0) (hy : Atom E (j + 1) y e) (he : EndQ (tk (tokAt E e))) : evP E .filter i = some (.ok (joinK q x y) e) := by
 have he0 : strength (tokAt E e) = 0 := (str_tk rfl).trans he.1; by_cases hp : q = (6, ⟨#[124]⟩)
 ·subst hp
  exact filter_pipe hx.d (bin_one hx.m (.inr ((str_tk hq).trans pipe_str))) hq (ev_one hy he)
 have hs : strK q ≠ 0 := hs.resolve_left hp; have h1 := str_tk hq; refine filter_end hx.d ?_ he.2; rw [bin_two hx.m (by omega) (by omega) (bin_one hy.m (.inr he0)), loop_stop (.inr (.inr he0)), join_tk hq hp]
/-! texts -/
def Flt (P : List UInt8) (n : NJ) : Prop := ∃ l, scanF P = (l, 0, 0) ∧ evP (envOf P 0) .filter 0 = some (.ok n l.length)
theorem Flt.uniq {P : List UInt8} {n m : NJ} (h1 : Flt P n) (h2 : Flt P m) : n = m := by
 obtain ⟨_, _, h1⟩ := h1; obtain ⟨_, _, h2⟩ := h2; rw [h1] at h2; injection h2 with h2; injection h2
theorem envOf_l {P : List UInt8} {l : List Tf} {x : Nat × Nat} (h : scanF P = (l, x)) (b : Nat) : (envOf P b).l = l := by unfold envOf; rw [h]
theorem ev_whole (E : Env) : evP E .whole 0 = bindP (evP E .filter 0) fun n j => if j < E.l.length then failP E j 60 else okP n j := by rw [evP_step]; rfl
theorem flt_whole {P : List UInt8} {l : List Tf} {n : NJ} {j : Nat} (h : scanF P = (l, 0, 0)) (hw : evP (envOf P 0) .whole 0 = some (.ok n j)) : Flt P n := by
 refine ⟨l, h, ?_⟩; rw [ev_whole, envOf_l h] at hw; cases hf : evP (envOf P 0) .filter 0 with
 | none => rw [hf] at hw; cases hw
 | some r =>
  rw [hf] at hw; cases r with
  | bad a e => cases hw
  | ok m k =>
   obtain ⟨f, hff⟩ := of_evP hf; have hb := (bd_all f _ _ _ (show JobIn (envOf P 0) 0 .filter from Nat.zero_le _) m k hff).2; rw [envOf_l h] at hb; replace hw : (if k < l.length then failP (envOf P 0) k 60 else okP m k) = some (.ok n j) := hw; split at hw
   ·cases hw
   cases hw; rw [show l.length = j by omega]
theorem whole_flt {P : List UInt8} {n : NJ} (h : Flt P n) : ∃ j, evP (envOf P 0) .whole 0 = some (.ok n j) := by
 obtain ⟨l, h1, h2⟩ := h; refine ⟨l.length, ?_⟩; rw [ev_whole, h2, envOf_l h1]; show (if l.length < l.length then _ else _) = _
 rw [if_neg (Nat.lt_irrefl _)]; rfl
theorem tk_end {E : Env} {A : List (Nat × ByteArray)} {i : Nat} (h : E.l.map tk = A) (hi : i = A.length) : tk (tokAt E i) = (0, ⟨#[]⟩) := by
 rw [tok_end (by rw [hi, ← h, List.length_map]; exact Nat.le_refl _)]; rfl
def par (P : List UInt8) : List UInt8 := 40 :: (P ++ [10, 41])
end Th
