/- Lemmas and contracts for the laws SyntaxPieces, part 19 of 48: AbC, TokE, RefParse, SynTot. Conditions: those that each lemma names. -/
import Derived.Test.YtinknjhclpaieaaGreatDoorPq16
import Derived.Test.YtinknjhclpaieaaGreatDoorPq18
import Derived.Test.YtinknjhclpaieaaGreatDoorPq10
import Derived.Test.YtinknjhclpaieaaGreatDoorPq11
import Derived.Test.YtinknjhclpaieaaGreatDoorPq9
import Derived.Test.YtinknjhclpaieaaGreatDoorPq17
import Derived.Deep.RegionHeld3
import Derived.IntWalk
import Derived.Deep.DrawnRows
set_option maxRecDepth 100000
set_option maxHeartbeats 4000000
namespace Go.Proofs.YtinknjhclpaieaaGreatDoor
open Go Go.RowKit Go.Proofs Th
section
variable {P : Program} {X : Ctx} {E : AEnv} {S : CS} {s : ASt} {a : Act} {W : World} {o : Oper} {K : FV → (Nat → AObj) → Prop} {Q : Exit → Act → World → Prop}
theorem rep_v {x u : Value} (h : Rep W S (.v x) u) : u = x := by cases h; rfl
theorem eval_v (h : RelE X E S s a W) {x : Operand} {u : Value} (hx : valOf s x = .im (.v u)) : a.eval x = u := by
  have := eval_rep h x; rw [hx] at this; exact rep_v this
theorem eval_ptr (h : RelE X E S s a W) {x : Operand} {b off : Nat} (hx : valOf s x = .ptr b off) : a.eval x = .pointer (some ⟨E.box b, off, none⟩) := by
  have := eval_rep h x; rw [hx] at this; exact this.2
theorem RelE.newbox (h : RelE X E S s a W) {d : Nat} (h1000 : d ≠ 1000) (hd : s.st d = .none) (us : List Value) (cs : List FV) (ty : TypeId) (hl : us.length = cs.length) (h1 : ∀ u ∈ us, u.oneCell' = true)
    (hr : ∀ (i : Nat) c u, cs[i]? = some c → us[i]? = some u → RepF W S E s.st c u) : RelE X { E with box := upd E.box d W.heap.size } S ⟨s.fr, upd s.st d (.box cs)⟩ a (W.alloc (.cells us.toArray ty)) := by
  have hb := al1 W (.cells us.toArray ty); have hsz : (W.alloc (.cells us.toArray ty)).heap.size = W.heap.size + 1 := by simp
  have hcell : ∀ g o, S g o → (W.alloc (.cells us.toArray ty)).cell? ⟨g, o, none⟩ = W.cell? ⟨g, o, none⟩ := fun g o ho => hb.cell (p := ⟨g, o, none⟩) (h.Sb g o ho)
  have hF : ∀ c u, RepF W S E s.st c u → RepF (W.alloc (.cells us.toArray ty)) S { E with box := upd E.box d W.heap.size } (upd s.st d (.box cs)) c u := by
    intro c u hc; cases c with
    | junk => trivial
    | im x => exact Rep.keep hc hcell (fun _ _ h => h)
    | own k n =>
      obtain ⟨t, z, es, e1, e2⟩ := hc; exact ⟨t, z, es, by rw [upd_ne _ _ (fun e => by subst e; rw [hd] at e1; cases e1)]; exact e1, e2⟩
    | ptr b off =>
      obtain ⟨⟨cs', e1⟩, e2⟩ := hc; have hne : b ≠ d := fun e => by subst e; rw [hd] at e1; cases e1
      exact ⟨⟨cs', by rw [upd_ne _ _ hne]; exact e1⟩, by rw [e2]; simp only [upd_ne _ _ hne]⟩
    | pin b p =>
      obtain ⟨⟨cs', e1⟩, e2⟩ := hc; have hne : b ≠ d := fun e => by subst e; rw [hd] at e1; cases e1
      exact ⟨⟨cs', by rw [upd_ne _ _ hne]; exact e1⟩, by simp only [upd_ne _ _ hne]; exact e2⟩
  refine h.core (· = d) _ _ S _ (fun j hj => ⟨upd_ne _ _ hj, upd_ne _ _ hj, rfl⟩) (upd_ne _ _ (Ne.symm h1000)) (fun j hj => ?_) rfl rfl rfl (by omega) (fun g hg _ => hb.block g hg) hcell (fun _ _ h => h) (fun g o h => Or.inl h) (fun g o ho => by have := h.Sb g o ho; omega) (fun j hj => ?_) (fun j g hj hg => ?_) (fun i j g hi hj _ _ => hi.trans hj.symm)
  · subst hj; rw [hd]; trivial
  · subst hj
    rw [upd_same]; refine ⟨⟨us, hl, ?_, h1, fun i c u hc hu => hF c u (hr i c u hc hu), fun o ho => ?_⟩, Or.inr ?_⟩
    · simp only [upd_same]; exact Box.new us ty rfl
    · simp only [upd_same] at ho; exact absurd (h.Sb _ _ ho) (by omega)
    simp only [upd_same]; exact h.u.size
  subst hj; rw [upd_same] at hg; simp only [blk, upd_same, Option.some.injEq] at hg; exact Or.inr (by omega)
theorem val_move (h : RelE X E S s a W) {x : Operand} (ho : o.op = .move x) (hop : aval P (.move x) o.dst s K) : Out P X s a W o K Q :=
  out_same h (by simp [execOp, ho]) hop (eval_rep h x)
theorem val_assign (h : RelE X E S s a W) {x : Operand} (ho : o.op = .assign x) (hop : aval P (.assign x) o.dst s K) : Out P X s a W o K Q :=
  out_same h (by simp [execOp, ho]) hop (eval_rep h x)
theorem val_pick (h : RelE X E S s a W) {c x y : Operand} (ho : o.op = .pick c x y) (hop : aval P (.pick c x y) o.dst s K) : Out P X s a W o K Q := by
  simp only [aval] at hop; split at hop
  · rename_i t ht
    have hc := eval_v h ht; refine out_same h (u := if t = true then a.eval x else a.eval y) (by simp [execOp, ho, hc, asBool]) hop ?_; cases t
    · exact eval_rep h y
    exact eval_rep h x
  exact hop.elim
theorem val_nilCheck (h : RelE X E S s a W) {x : Operand} (ho : o.op = .nilCheck x) (hop : aval P (.nilCheck x) o.dst s K) : Out P X s a W o K Q := by
  simp only [aval] at hop; have he := eval_rep h x; split at hop
  · rename_i b off hx
    have hc := eval_ptr h hx; exact out_same h (u := a.eval x) (by simp [execOp, ho, hc]) hop (by rw [hx] at he; exact he)
  · rename_i cs off hx
    rw [hx] at he; have : ∃ ad, a.eval x = .pointer (some ad) := by
      revert he; generalize a.eval x = u; intro he; cases he; exact ⟨_, rfl⟩
    obtain ⟨ad, hc⟩ := this; exact out_same h (u := a.eval x) (by simp [execOp, ho, hc]) hop he
  exact hop.elim
theorem lift_rep_all (zs : List Value) : ∀ (i : Nat) c u, (zs.map fun x => FV.im (lift x))[i]? = some c → zs[i]? = some u → RepF W S E s.st c u := by
  intro i c u hc hu; rw [List.getElem?_map, hu] at hc; simp only [Option.map_some, Option.some.injEq] at hc; subst hc; exact Rep.lift W S u
theorem val_alloc (h : RelE X E S s a W) {t : TypeId} (ho : o.op = .alloc t) (hop : aval P (.alloc t) o.dst s K) : Out P X s a W o K Q := by
  simp only [aval] at hop; split at hop
  · rename_i d hdst
    obtain ⟨hne, hop⟩ := hop; split at hop
    · rename_i ti hd hti
      have key : ∃ zv : Value, (zeroValue t).run P W = .ok zv W ∧ zv.cells.toList.length = (zeroFV ti).length ∧ (∀ u ∈ zv.cells.toList, u.oneCell' = true) ∧ (∀ (i : Nat) c u, (zeroFV ti)[i]? = some c → zv.cells.toList[i]? = some u → RepF W S E s.st c u) := by
        cases ti with
        | flat z =>
          obtain ⟨dd, i, h1, h2, h3, h4, h5, h6⟩ := ti_flat hti; have hz : z.cells = #[z] := by cases z <;> first | rfl | cases h5
          refine ⟨z, by simp [zeroValue, typeInfo, h2, h4], by simp [hz, zeroFV], by simp [hz, h5], ?_⟩; rw [hz]; exact lift_rep_all [z]
        | slice e esz =>
          obtain ⟨i, j, z, h1, h2, h3, h4, _⟩ := ti_slice hti; refine ⟨.slice none 0 0, by simp [zeroValue, typeInfo, h2, h4], rfl, by simp [Value.cells, Value.oneCell'], ?_⟩; exact lift_rep_all [.slice none 0 0]
        | struct fs z =>
          obtain ⟨fields, i, h1, h2, h3, h4, h5, h6⟩ := ti_struct hti; refine ⟨.agg z.toArray, by simp [zeroValue, typeInfo, h2, h3], by simp [Value.cells, zeroFV], fun u hu => by simpa using List.all_eq_true.1 h5 u (by simpa [Value.cells] using hu), ?_⟩; simpa [Value.cells, zeroFV] using lift_rep_all (W := W) (S := S) (E := E) (s := s) z
      obtain ⟨zv, h1, h2, h3, h4⟩ := key; have hN := h.newbox hne hd zv.cells.toList (zeroFV ti) t h2 h3 h4; refine out_run (W' := W.alloc (.cells zv.cells.toList.toArray t)) ?_ hop hN ⟨⟨_, upd_same _ _ _⟩, rfl⟩; simp [execOp, ho, Instr.alloc, h1, newVar, newRow, upd_same]
    exact hop.elim
  exact hop.elim
theorem ok_one (h : RelE X E S s a W) {c : FV} {u : Value} (hc : RepF W S E s.st c u) (h1 : c.ok s.st) : u.oneCell' = true := by
  cases c with
  | junk => exact h1.elim
  | im y => exact Rep.one hc h1
  | ptr b off => rw [hc.2]; rfl
  | pin b p => exact h1.elim
  | own k n =>
    obtain ⟨ty, esz, es, e1, e2, e3⟩ := hc; simp only [FV.ok, e1] at h1; rw [e3 h1]; have ho := h.ob k; rw [e1] at ho; obtain ⟨xs, ⟨_, hv⟩, _⟩ := ho; rcases hv with ⟨hv, _⟩ | ⟨g, cap, cur, hv, _⟩ <;> (rw [hv]; rfl)
theorem val_box (h : RelE X E S s a W) {t : TypeId} {x : Operand} (ho : o.op = .box t x) (hop : aval P (.box t x) o.dst s K) : Out P X s a W o K Q := by
  simp only [aval] at hop; have he := eval_rep h x; split at hop
  · rename_i d hdst
    obtain ⟨hne, hop⟩ := hop; split at hop
    · rename_i cs hd hx
      obtain ⟨h1, hop⟩ := hop; rw [hx] at he; revert he
      generalize hu : a.eval x = u; intro he; cases he with
      | agg hl hR =>
        rename_i us
        have hN := h.newbox hne hd us (cs.map FV.im) t (by simp [hl]) (fun u hu => by
          obtain ⟨i, hi, rfl⟩ := List.mem_iff_getElem.1 hu; exact (hR i (cs[i]'(by omega)) us[i] (List.getElem?_eq_getElem _) (List.getElem?_eq_getElem _)).one (List.all_eq_true.1 h1 _ (List.getElem_mem _))) (fun i c u hc hu => by
          rw [List.getElem?_map] at hc; cases hy : cs[i]? with
          | none => rw [hy] at hc; cases hc
          | some y =>
            rw [hy] at hc; simp only [Option.map_some, Option.some.injEq] at hc; subst hc; exact hR i y u hy hu)
        refine out_run (W' := W.alloc (.cells us.toArray t)) ?_ hop hN ⟨⟨_, upd_same _ _ _⟩, rfl⟩; simp [execOp, ho, Instr.box, hu, newVar, newRow, Value.cells, upd_same]
    · rename_i c hd _
      obtain ⟨h1, hop⟩ := hop; have hone : (a.eval x).oneCell' = true := ok_one h he h1; have hz : (a.eval x).cells = #[a.eval x] := by revert hone; cases a.eval x <;> intro hone <;> first | rfl | cases hone
      have hN := h.newbox hne hd [a.eval x] [valOf s x] t rfl (by simpa using hone) (fun i c u hc hu => by
        cases i with
        | zero => simp only [List.getElem?_cons_zero, Option.some.injEq] at hc hu; subst hc hu; exact he
        | succ i => simp at hc)
      refine out_run (W' := W.alloc (.cells #[a.eval x] t)) ?_ hop hN ⟨⟨_, upd_same _ _ _⟩, rfl⟩; simp [execOp, ho, Instr.box, newVar, newRow, hz, upd_same]
    exact hop.elim
  exact hop.elim
theorem run_load_any (t : TypeId) {ti : TI} (hti : tiOf P t = some ti) (g o : Nat) (us : List Value) (hc : ∀ (j : Nat) u, us[j]? = some u → W.cell? ⟨g, o + j, none⟩ = some u) :
    (∀ fs z, ti = .struct fs z → us.length = z.length → (Instr.loadAt t (.pointer (some ⟨g, o, none⟩))).run P W = .ok (.agg us.toArray) W) ∧
    ((∀ fs z, ti ≠ .struct fs z) → ∀ u, us[0]? = some u → (Instr.loadAt t (.pointer (some ⟨g, o, none⟩))).run P W = .ok u W) := by
  refine ⟨fun fs z e hl => ?_, fun hs u hu => ?_⟩
  · subst e
    obtain ⟨fields, i, h1, h2, h3, h4, _⟩ := ti_struct hti; have hsz : (sizeOf t).run P W = .ok us.length W := by simp [sizeOf, typeInfo, h2, h4, hl]
    have hag : (isAgg t).run P W = .ok true W := by simp [isAgg, run_underlying h1]
    have := run_loadCells_list (P := P) W ⟨g, o, none⟩ us (fun j v hv => by rw [add_at]; exact hc j v hv); simp [Instr.loadAt, Instr.sureAddr, loadVar, hag, hsz, this]
  obtain ⟨d, i, h1, h2, h3, h4⟩ := ti_one hti hs; have hag : (isAgg t).run P W = .ok false W := by
    simp only [isAgg, run_underlying h1, Sem.run_bind, Result.andThen_ok]; cases d <;> first | rfl | cases h4
  have := hc 0 u hu; simp [Instr.loadAt, Instr.sureAddr, loadVar, hag, load, Sem.run, show W.cell? ⟨g, o, none⟩ = some u from this]
theorem getElem?_seg {α : Type} (l : List α) (o n j : Nat) (x : α) (h : ((l.drop o).take n)[j]? = some x) : l[o + j]? = some x ∧ j < n := by
  have hj : j < n := by
    have := (List.getElem?_eq_some_iff.1 h).1; rw [List.length_take] at this; omega
  rw [List.getElem?_take_of_lt hj, List.getElem?_drop] at h; exact ⟨h, hj⟩
theorem aload_rep (h : RelE X E S s a W) {t : TypeId} {cs : List FV} {off : Nat} {K : FV → Prop} (hop : aload s.st (tiOf P t) cs off K) (g o : Nat) (us : List Value) (hl : us.length = cs.length)
    (hc : ∀ (j : Nat) u, us[j]? = some u → W.cell? ⟨g, o + j, none⟩ = some u) (hr : ∀ (i : Nat) c u, cs[i]? = some c → us[i]? = some u → RepF W S E s.st c u) :
    ∃ c u, K c ∧ (Instr.loadAt t (.pointer (some ⟨g, o + off, none⟩))).run P W = .ok u W ∧ RepF W S E s.st c u := by
  unfold aload at hop; split at hop
  · rename_i fs z hti
    split at hop
    · rename_i xs hxs
      obtain ⟨hxl, hop⟩ := hop; have hseg : ((us.drop off).take z.length).length = ((cs.drop off).take z.length).length := by simp [hl]
      have hR := allIV_rep h (us := (us.drop off).take z.length) hseg (fun i c u hc1 hu1 => hr (off + i) c u (getElem?_seg _ _ _ _ _ hc1).1 (getElem?_seg _ _ _ _ _ hu1).1) hxs; refine ⟨_, _, hop, (run_load_any t hti g (o + off) ((us.drop off).take z.length) (fun j u hu => ?_)).1 fs z rfl (by rw [hR.1, hxl]), Rep.agg hR.1 hR.2⟩; have := hc (off + j) u (getElem?_seg _ _ _ _ _ hu).1; rwa [← Nat.add_assoc] at this
    exact hop.elim
  · rename_i ti hns hti
    split at hop
    · rename_i c hcs
      have hlt := (List.getElem?_eq_some_iff.1 hcs).1; have hu : us[off]? = some (us[off]'(by omega)) := List.getElem?_eq_getElem _; refine ⟨c, us[off]'(by omega), hop, (run_load_any t hti g (o + off) [us[off]'(by omega)] (fun j u hj => ?_)).2 (fun fs z e => hns fs z e) _ rfl, hr off c _ hcs hu⟩; cases j with
      | zero =>
        simp only [List.getElem?_cons_zero, Option.some.injEq] at hj; subst hj; exact hc off _ hu
      | succ j => simp at hj
    exact hop.elim
  exact hop.elim
theorem val_load (h : RelE X E S s a W) {t : TypeId} {x : Operand} (ho : o.op = .load t x) (hop : aval P (.load t x) o.dst s K) : Out P X s a W o K Q := by
  simp only [aval] at hop; have he := eval_rep h x; split at hop
  · rename_i b off hx
    have hp := eval_ptr h hx; split at hop
    · rename_i cs hst
      have hob := h.ob b; rw [hst] at hob; obtain ⟨⟨us, hl, hB, h1, hr, hS⟩, _⟩ := hob; obtain ⟨c, u, hK, hrun, hc⟩ := aload_rep h hop (E.box b) 0 us hl (fun j u hu => by rw [Nat.zero_add]; exact hB.cell j u hu) hr; rw [Nat.zero_add] at hrun; exact out_same h (u := u) (by simp [execOp, ho, hp, hrun]) hK hc
    exact hop.elim
  · rename_i cs off hx
    rw [hx] at he; revert he
    generalize hu : a.eval x = w; intro he; cases he with
    | elt g oo f h1 hA hR =>
      obtain ⟨c, u, hK, hrun, hc⟩ := aload_rep h hop g oo ((List.range cs.length).map f) (by simp) (fun j u hj => by
        have hlt := (List.getElem?_eq_some_iff.1 hj).1; simp only [List.length_map, List.length_range] at hlt; rw [List.getElem?_map, List.getElem?_range hlt] at hj; simp only [Option.map_some, Option.some.injEq] at hj; subst hj; exact (hA j hlt).2) (fun i c u hc hu => by
        have hlt := (List.getElem?_eq_some_iff.1 hu).1; simp only [List.length_map, List.length_range] at hlt; rw [List.getElem?_map, List.getElem?_range hlt] at hu; simp only [Option.map_some, Option.some.injEq] at hu; subst hu; rw [List.getElem?_map] at hc; cases hy : cs[i]? with
        | none => rw [hy] at hc; cases hc
        | some y =>
          rw [hy] at hc; simp only [Option.map_some, Option.some.injEq] at hc; subst hc; exact hR i y hy)
      exact out_same h (u := u) (by simp [execOp, ho, hu, hrun]) hK hc
  exact hop.elim
theorem setCells_heap (g : Nat) : ∀ (vs : List Value) (o : Nat) (w : World), (w.setCells g o vs).heap.size = w.heap.size ∧ (∀ k, k ≠ g → (w.setCells g o vs).heap[k]? = w.heap[k]?) ∧ (w.setCells g o vs).os = w.os ∧ (w.setCells g o vs).tape = w.tape ∧ (w.setCells g o vs).output = w.output
  | [], _, w => ⟨rfl, fun _ _ => rfl, rfl, rfl, rfl⟩
  | v :: r, o, w => by
    obtain ⟨h1, h2, h3, h4, h5⟩ := setCells_heap g r (o + 1) (w.setCell ⟨g, o, none⟩ v); rw [World.setCells]; exact ⟨by rw [h1]; simp, fun k hk => (h2 k hk).trans (Below.heap_setCell w ⟨g, o, none⟩ v k hk), h3, h4, h5⟩
theorem seg_get {α : Type} (l : List α) (o : Nat) (xs : List α) (hl : o + xs.length ≤ l.length) (i : Nat) : (setSeg l o xs)[i]? = if i < o then l[i]? else if i < o + xs.length then xs[i - o]? else l[i]? := by
  unfold setSeg; have h1 : (l.take o).length = o := by rw [List.length_take]; omega
  by_cases hi : i < o
  · rw [if_pos hi, List.getElem?_append_left (by omega), List.getElem?_take_of_lt hi]
  rw [if_neg hi, List.getElem?_append_right (by omega), h1]; by_cases h2 : i < o + xs.length
  · rw [if_pos h2, List.getElem?_append_left (by omega)]
  rw [if_neg h2, List.getElem?_append_right (by omega), List.getElem?_drop]; congr 1; omega
theorem seg_len {α : Type} (l : List α) (o : Nat) (xs : List α) (hl : o + xs.length ≤ l.length) : (setSeg l o xs).length = l.length := by
  unfold setSeg; simp; omega
theorem Box.setCells {w : World} {g o : Nat} {us vs : List Value} (h : Box w g us) (ho : o + vs.length ≤ us.length) : Box (w.setCells g o vs) g (setSeg us o vs) := by
  have hs : ∀ j, j < vs.length → (w.cell? ⟨g, o + j, none⟩).isSome = true := fun j hj => by rw [h.cell (o + j) _ (List.getElem?_eq_getElem (by omega))]; rfl
  refine ⟨fun i v hv => ?_, fun i => by rw [World.frozen?_setCells]; exact h.froz i, by rw [(setCells_heap g vs o w).1]; exact h.lt⟩; rw [seg_get us o vs ho] at hv; split at hv
  · rename_i hi
    rw [World.cell?_setCells_out g vs o w ⟨g, i, none⟩ (fun _ _ => Or.inl hi)]; exact h.cell i v hv
  split at hv
  · rename_i h1 h2
    have := World.cell?_setCells_in g vs o w hs (i - o) (by omega); rw [show o + (i - o) = i by omega] at this; rw [this, ← hv, List.getElem?_eq_getElem]
  rw [World.cell?_setCells_out g vs o w ⟨g, i, none⟩ (fun _ _ => Or.inr (by show o + vs.length ≤ i; omega))]; exact h.cell i v hv
theorem RelE.setbox (h : RelE X E S s a W) {b off : Nat} {cs xs : List FV} {vs : List Value} (hst : s.st b = .box cs) (ho : off + xs.length ≤ cs.length) (hl : vs.length = xs.length) (h1 : ∀ u ∈ vs, u.oneCell' = true)
    (hr : ∀ (i : Nat) c u, xs[i]? = some c → vs[i]? = some u → RepF W S E s.st c u) : RelE X E S ⟨s.fr, upd s.st b (.box (setSeg cs off xs))⟩ a (W.setCells (E.box b) off vs) := by
  have hob := h.ob b; rw [hst] at hob; obtain ⟨⟨us, hul, hB, hu1, hur, hS⟩, hloc⟩ := hob; obtain ⟨e1, e2, e3, e4, e5⟩ := setCells_heap (E.box b) vs off W; have hcell : ∀ g o, S g o → (W.setCells (E.box b) off vs).cell? ⟨g, o, none⟩ = W.cell? ⟨g, o, none⟩ := fun g o hg => cell_block (e2 g (fun e => hS o (e ▸ hg)))
  have hF : ∀ c u, RepF W S E s.st c u → RepF (W.setCells (E.box b) off vs) S E (upd s.st b (.box (setSeg cs off xs))) c u := by
    intro c u hc; cases c with
    | junk => trivial
    | im x => exact Rep.keep hc hcell (fun _ _ h => h)
    | own k n =>
      obtain ⟨t, z, es, f1, f2⟩ := hc; exact ⟨t, z, es, by rw [upd_ne _ _ (fun e => by subst e; rw [hst] at f1; cases f1)]; exact f1, f2⟩
    | ptr b' off' =>
      obtain ⟨⟨cs', f1⟩, f2⟩ := hc; refine ⟨?_, f2⟩; by_cases hb : b' = b
      · subst hb; exact ⟨_, upd_same _ _ _⟩
      exact ⟨cs', by rw [upd_ne _ _ hb]; exact f1⟩
    | pin b' p' =>
      obtain ⟨⟨cs', f1⟩, f2⟩ := hc; refine ⟨?_, f2⟩; by_cases hb : b' = b
      · subst hb; exact ⟨_, upd_same _ _ _⟩
      exact ⟨cs', by rw [upd_ne _ _ hb]; exact f1⟩
  refine h.core (· = b) _ E S _ (fun j hj => ⟨upd_ne _ _ hj, rfl, rfl⟩) rfl (fun j hj => ?_) e3 e4 e5 (by omega) (fun g _ hne => e2 g (fun e => hne b rfl (by rw [hst]; exact congrArg some e.symm))) hcell (fun _ _ h => h) (fun g o h => Or.inl h) (fun g o hg => by rw [e1]; exact h.Sb g o hg) (fun j hj => ?_) (fun j g hj hg => ?_) (fun i j g hi hj _ _ => hi.trans hj.symm)
  · subst hj; rw [hst, upd_same]; exact ⟨⟨_, rfl⟩, rfl⟩
  · subst hj
    rw [upd_same]; refine ⟨⟨setSeg us off vs, by rw [seg_len _ _ _ (by omega), seg_len _ _ _ ho, hul], hB.setCells (by omega), fun u hu => ?_, fun i c u hc hu => hF c u ?_, hS⟩, hloc⟩
    · obtain ⟨i, hi⟩ := List.mem_iff_getElem?.1 hu
      rw [seg_get us off vs (by omega)] at hi; repeat' split at hi
      · exact hu1 u (List.mem_of_getElem? hi)
      · exact h1 u (List.mem_of_getElem? hi)
      exact hu1 u (List.mem_of_getElem? hi)
    rw [seg_get us off vs (by omega), hl] at hu; rw [seg_get cs off xs ho] at hc; by_cases g1 : i < off
    · rw [if_pos g1] at hc hu; exact hur i c u hc hu
    rw [if_neg g1] at hc hu; by_cases g2 : i < off + xs.length
    · rw [if_pos g2] at hc hu; exact hr _ c u hc hu
    rw [if_neg g2] at hc hu; exact hur i c u hc hu
  subst hj; rw [upd_same] at hg; rw [hst]; exact Or.inl hg
theorem run_store_any (t : TypeId) {i : TypeInfo} (hi : P.info? t = some i) (b off : Nat) (u : Value) {us : List Value} (hB : Box W b us) (hsz : i.size = u.cells.size) (ho : off + u.cells.size ≤ us.length) (h1 : ∀ v ∈ u.cells.toList, v.oneCell' = true) :
    (Instr.storeAt t (.pointer (some ⟨b, off, none⟩)) u).run P W = .ok () (W.setCells b off u.cells.toList) := by
  have hl : u.cells.toList.length = u.cells.size := by simp
  have hz : (sizeOf t).run P W = .ok u.cells.size W := by simp [sizeOf, typeInfo, hi, hsz]
  have := run_storeCells_cells (P := P) b off u.cells.toList 0 W (fun j hj => by rw [Nat.add_zero, hB.cell (off + j) _ (List.getElem?_eq_getElem (by omega))]; rfl) (fun j _ => hB.froz _) h1; rw [Nat.add_zero] at this; simp [Instr.storeAt, Instr.sureAddr, storeVar, hz, this]
theorem val_store (h : RelE X E S s a W) {t : TypeId} {x y : Operand} (ho : o.op = .store t x y) (hop : aval P (.store t x y) o.dst s K) : Out P X s a W o K Q := by
  simp only [aval] at hop; have he := eval_rep h y; split at hop
  · rename_i b off hx
    have hp := eval_ptr h hx; split at hop
    · rename_i cs hst
      have hob := h.ob b; rw [hst] at hob; obtain ⟨⟨us, hul, hB, hu1, hur, hS⟩, hloc⟩ := hob; split at hop
      · rename_i fs z hti
        split at hop
        · rename_i xs hy
          obtain ⟨⟨g1, g2, g3⟩, hK⟩ := hop; rw [hy] at he; revert he
          generalize hu : a.eval y = w; intro he; cases he with
          | agg hl hR =>
            rename_i vs
            obtain ⟨fields, i, i1, i2, i3, i4, _⟩ := ti_struct hti; have hone : ∀ u ∈ vs, u.oneCell' = true := fun u hu => by
              obtain ⟨k, hk, rfl⟩ := List.mem_iff_getElem.1 hu; exact (hR k (xs[k]'(by omega)) vs[k] (List.getElem?_eq_getElem _) (List.getElem?_eq_getElem _)).one (List.all_eq_true.1 g3 _ (List.getElem_mem _))
            have hrun := run_store_any (P := P) t i2 (E.box b) off (.agg vs.toArray) hB (by simp [Value.cells, i4, hl, g1]) (by simp [Value.cells]; omega) (by simpa [Value.cells] using hone); have hN := h.setbox (off := off) (xs := xs.map FV.im) (vs := vs) hst (by simp; omega) (by simp [hl]) hone (fun k c u hc hu => by
              rw [List.getElem?_map] at hc; cases hq : xs[k]? with
              | none => rw [hq] at hc; cases hc
              | some q =>
                rw [hq] at hc; simp only [Option.map_some, Option.some.injEq] at hc; subst hc; exact hR k q u hq hu)
            refine out_skip (W' := W.setCells (E.box b) off vs) ?_ hK hN trivial; simp only [Value.cells] at hrun; simp [execOp, ho, hp, hu, hrun]
        exact hop.elim
      · rename_i ti hns hti
        obtain ⟨⟨g1, g2⟩, hK⟩ := hop; obtain ⟨d, i, i1, i2, i3, i4⟩ := ti_one hti (fun fs z e => hns fs z e); have hone := ok_one h he g2; have hz : (a.eval y).cells = #[a.eval y] := by revert hone; cases a.eval y <;> intro hone <;> first | rfl | cases hone
        have hrun := run_store_any (P := P) t i2 (E.box b) off (a.eval y) hB (by simp [hz, i3]) (by simp [hz]; omega) (by simpa [hz] using hone); have hN := h.setbox (off := off) (xs := [valOf s y]) (vs := [a.eval y]) hst (by simp; omega) rfl (by simpa using hone) (fun k c u hc hu => by
          cases k with
          | zero => simp only [List.getElem?_cons_zero, Option.some.injEq] at hc hu; subst hc hu; exact he
          | succ k => simp at hc)
        have hset : setSeg cs off [valOf s y] = cs.set off (valOf s y) := by
          apply List.ext_getElem?; intro k; rw [seg_get cs off _ (by simp; omega), List.getElem?_set]; simp only [List.length_singleton]; by_cases k1 : k < off
          · rw [if_pos k1, if_neg (by omega)]
          rw [if_neg k1]; by_cases k2 : k < off + 1
          · obtain rfl : k = off := by omega
            rw [if_pos k2, if_pos rfl, if_pos g1, Nat.sub_self]; rfl
          rw [if_neg k2, if_neg (by omega)]
        rw [hset] at hN; refine out_skip (W' := W.setCells (E.box b) off [a.eval y]) ?_ hK hN trivial; rw [hz] at hrun; simp [execOp, ho, hp, hrun]
      exact hop.elim
    exact hop.elim
  exact hop.elim
end
end Go.Proofs.YtinknjhclpaieaaGreatDoor
namespace Th
open Go Go.Lib
theorem qGo_err (L : List UInt8) (one : Nat → Tf × Nat × Nat) (hone : ∀ a, (one a).2.2 = 0 ∨ (one a).2.2 = 20 ∨ (one a).2.2 = 31 ∨ (one a).2.2 = 60) (f : Nat) : ∀ (n o a : Nat), (qGo L one f n o a).2 = 0 ∨ (qGo L one f n o a).2 = 20 ∨ (qGo L one f n o a).2 = 31 ∨ (qGo L one f n o a).2 = 60 := by
  intro n; induction n with
  | zero => intro o a; exact Or.inr (Or.inl rfl)
  | succ n ih =>
    intro o a; cases o with
    | zero =>
      simp only [qGo]; cases L[a]? with
      | none => exact Or.inr (Or.inl rfl)
      | some c =>
        dsimp only; repeat' split
        all_goals first | exact Or.inl rfl | exact ih _ _
    | succ o =>
      simp only [qGo]; split
      · exact hone a
      split
      · exact Or.inr (Or.inl rfl)
      exact ih _ _
theorem oneG_err (L : List UInt8) (q : Nat → Nat × Nat) (hq : ∀ f, (q f).2 = 0 ∨ (q f).2 = 20 ∨ (q f).2 = 31 ∨ (q f).2 = 60) (a : Nat) : (oneG L q a).2.2 = 0 ∨ (oneG L q a).2.2 = 20 ∨ (oneG L q a).2.2 = 31 ∨ (oneG L q a).2.2 = 60 := by
  unfold oneG; cases L.drop a with
  | nil => exact Or.inl rfl
  | cons c r =>
    dsimp only; split
    · split
      · exact hq a
      exact Or.inl rfl
    split
    · exact Or.inr (Or.inr (Or.inr rfl))
    exact Or.inl rfl
theorem oneF_err (L : List UInt8) : ∀ (d a : Nat), (oneF L d a).2.2 = 0 ∨ (oneF L d a).2.2 = 20 ∨ (oneF L d a).2.2 = 31 ∨ (oneF L d a).2.2 = 60 := by
  intro d; induction d with
  | zero => intro a; exact oneG_err L _ (fun f => Or.inr (Or.inr (Or.inl rfl))) _
  | succ d ih => intro a; exact oneG_err L _ (fun f => qGo_err L _ ih f _ 0 _) _
end Th
namespace Go.Proofs.YtinknjhclpaieaaGreatDoor
open Go Go.RowKit Go.Proofs Th
attribute [local go_sem] Above.cell
def GlobX (w : World) : Prop := ∃ m : Int, w.cell? ⟨0, 0, none⟩ = some (.int .i64 m)
theorem GlobX.upd {w w' : World} {p : Nat} {s : ByteArray} {cs : List Value} (h : GlobX w) (hB : Box w p (.string s :: cs)) (hu : Upd p w w') : GlobX w' := by
  obtain ⟨m, hm⟩ := h; have hp : (0 : Nat) ≠ p := by
    rintro rfl; have h0 := hB.cell 0 _ rfl; rw [hm] at h0; cases h0
  exact ⟨m, (cell_block (hu.block _ (lt_of_cell hm) hp)).trans hm⟩
theorem GlobX.below {w w' : World} (h : GlobX w) (hb : Below w.heap.size w w') : GlobX w' := by
  obtain ⟨m, hm⟩ := h; exact ⟨m, (hb.cell (p := ⟨0, 0, none⟩) (lt_of_cell hm)).trans hm⟩
def tokV (t : Tf) : Value := .agg #[.int .i64 (t.kind : Int), .string t.text, .int .i64 (t.at_ : Int)]
def NextPost (w : World) (p : Nat) (s : ByteArray) (t : Tf × Nat × Nat) (r : Ending) (w' : World) : Prop :=
  r = .returned (.tuple #[tokV t.1, .int .i64 (if t.2.2 = 0 then 0 else (t.2.1 : Int)), .int .i64 (t.2.2 : Int)]) ∧ ∃ j : Nat, ScP w w' p s j ∧ j ≤ s.size ∧ (t.2.2 = 0 → j = t.2.1)
def InnerPost (w : World) (p : Nat) (s : ByteArray) (d f n o a : Nat) (r : Ending) (w' : World) : Prop :=
  ∃ (j : Nat) (x e : Int), r = .returned (.tuple #[.int .i64 x, .int .i64 e]) ∧ ScP w w' p s j ∧ j ≤ s.size ∧
    ((e = 0 ∧ x = 0 ∧ ∃ n', n' ≤ n ∧ s.size + 2 ≤ n' + j ∧ a < j ∧ qGo s.data.toList (oneF s.data.toList d) f n' 0 j = qGo s.data.toList (oneF s.data.toList d) f n (o + 1) a ∧ ∀ m, n ≤ m → closeF (oneF s.data.toList d) m (o + 1) a = j) ∨
     (e = 240 ∧ qGo s.data.toList (oneF s.data.toList d) f n (o + 1) a = (f, 20)) ∨
     (e ≠ 0 ∧ e ≠ 240 ∧ ∃ q : Nat × Nat, qGo s.data.toList (oneF s.data.toList d) f n (o + 1) a = q ∧ x = q.1 ∧ e = q.2))
theorem closeF_zero (one : Nat → Tf × Nat × Nat) (m a : Nat) : closeF one m 0 a = a := by cases m <;> rfl
theorem qGo_step (L : List UInt8) (one : Nat → Tf × Nat × Nat) (f g o a : Nat) : qGo L one f (g + 1) (o + 1) a = if (one a).2.2 ≠ 0 then ((one a).2.1, (one a).2.2) else if (one a).1.kind = 0 then (f, 20)
    else qGo L one f g (if (one a).1.kind = 6 ∧ (one a).1.text = ⟨#[40]⟩ then o + 2 else if (one a).1.kind = 6 ∧ (one a).1.text = ⟨#[41]⟩ then o else o + 1) (one a).2.1 := rfl
theorem closeF_step (one : Nat → Tf × Nat × Nat) (m o a : Nat) : closeF one (m + 1) (o + 1) a = closeF one m (if (one a).1.kind = 6 ∧ (one a).1.text = ⟨#[40]⟩ then o + 2 else if (one a).1.kind = 6 ∧ (one a).1.text = ⟨#[41]⟩ then o else o + 1) (one a).2.1 := rfl
theorem three_below (w : World) (o : Obj) (a b c : Value) : Below w.heap.size w ((((w.alloc o).setCell ⟨w.heap.size, 0, none⟩ a).setCell ⟨w.heap.size, 1, none⟩ b).setCell ⟨w.heap.size, 2, none⟩ c) :=
  st1 (st1 (st1 (al1 _ _) _ _ _ (Nat.le_refl _)) _ _ _ (Nat.le_refl _)) _ _ _ (Nat.le_refl _)
theorem lb_ne {a : ByteArray} {l : List UInt8} (h : ¬ a = ⟨l.toArray⟩) : (a.toList == l) = false := by
  rw [ba_list, beq_eq_false_iff_ne]; intro h2; exact h (ba_inj h2)
structure InnerS (w W : World) (p : Nat) (s : ByteArray) (d f n o a : Nat) (g o1 j : Nat) : Prop where
  sc : ScP w W p s j
  le : j ≤ s.size
  ge : a ≤ j
  gn : g ≤ n
  ob : o1 + g ≤ n + 1 + o
  room : s.size + 2 ≤ g + j
  fwd : a < j ∨ o1 ≠ 0
  q : qGo s.data.toList (oneF s.data.toList d) f g o1 j = qGo s.data.toList (oneF s.data.toList d) f n (o + 1) a
  c : ∀ m, g ≤ m → closeF (oneF s.data.toList d) (m + (n - g)) (o + 1) a = closeF (oneF s.data.toList d) m o1 j
  glob : GlobX W
def nextO (tk : Nat) (tx : ByteArray) (o1 : Nat) : Nat := if tk = 6 ∧ tx = ⟨#[40]⟩ then o1 + 2 else if tk = 6 ∧ tx = ⟨#[41]⟩ then o1 else o1 + 1
theorem InnerS.step {w W W2 : World} {p : Nat} {s : ByteArray} {d f n o a g o1 j : Nat} (h : InnerS w W p s d f n o a (g + 1) (o1 + 1) j) {tk ta te : Nat} {tx : ByteArray} (ht : oneF s.data.toList d j = (⟨tk, tx, ta⟩, te, 0)) (hk : tk ≠ 0) (hsc : ScP w W2 p s te) (hG : GlobX W2) : InnerS w W2 p s d f n o a g (nextO tk tx o1) te := by
  have hok := oneF_ok s.data.toList d j (by rw [size_listU]; exact h.le); have hf := hok.fwd (by rw [ht]) (by rw [ht]; exact hk); have hl := hok.le; rw [ht] at hf hl; rw [size_listU] at hl; dsimp only at hf hl; have hq := h.q; have hg := h.gn; have hge := h.ge; have hroom := h.room; rw [qGo_step, ht] at hq; dsimp only at hq; rw [if_neg (fun h => h rfl), if_neg hk] at hq; have hob := h.ob; refine ⟨hsc, hl, by omega, by omega, by unfold nextO; split <;> (try split) <;> omega, by omega, Or.inl (by omega), hq, fun m hm => ?_, hG⟩; have hc := h.c (m + 1) (by omega); rw [closeF_step, ht, show m + 1 + (n - (g + 1)) = m + (n - g) from by omega] at hc; exact hc
theorem tok_inner (p : Nat) (s : ByteArray) (_hs : s.size ≤ 1000000) (d : Nat) (k : Int) (hk0 : 0 ≤ k) (hk : k ≤ 100)
    (hN : ∀ (W : World) (j : Nat), Box W p [.string s, .int .i64 j] → j ≤ s.size → GlobX W → Calls Tryz.prog 16 #[.pointer (some ⟨p, 0, none⟩), .int .i64 (k + 1)] W fun r w' => NextPost W p s (oneF s.data.toList d j) r w')
    (f n a : Nat) (ha : a ≤ s.size) (hn : s.size + 2 ≤ n + a) (hnn : n ≤ 2000000) (w : World) (hB : Box w p [.string s, .int .i64 a]) (hG : GlobX w) :
    Calls Tryz.prog 44 #[.pointer (some ⟨p, 0, none⟩), .int .i64 k] w fun r w' => InnerPost w p s d f n 0 a r w' := by
  have HL := Keep.mk (size_listU s); have HN := Keep.mk hN; have HS0 := Keep.mk (show InnerS w w p s d f n 0 a n 1 a from ⟨⟨hB, Upd.refl p w⟩, ha, Nat.le_refl _, Nat.le_refl _, by omega, hn, Or.inr (by decide), rfl, fun m _ => by rw [Nat.sub_self]; rfl, hG⟩); clear hN ha hn hB hG; go_enter Tryz.func44, Tryz.ntmps44
  go_wp2_with fail
  go_loopg [6] n (fun gk v6 wr => ∃ (o1 j : Nat), v6 = .int .i64 o1 ∧ Keep (InnerS w wr p s d f n 0 a gk o1 j))
  case atStart => exact ⟨1, a, rfl, HS0⟩
  case round =>
    clear HS0; obtain ⟨o1, j, rfl, HS⟩ := hrel; cases o1 with
    | zero =>
      go_wp2
      refine bodyPost_ret (v := .tuple #[.int .i64 0, .int .i64 0]) ?_ rfl ?_
      · simp [results, Tryz.results44, go_sem]
      have hg := HS.out.gn; refine ⟨j, 0, 0, rfl, HS.out.sc, HS.out.le, Or.inl ⟨rfl, rfl, gk, hg, HS.out.room, by have := HS.out.fwd; omega, HS.out.q, fun m hm => ?_⟩⟩; have := HS.out.c (m - (n - gk)) (by omega); rw [show m - (n - gk) + (n - gk) = m from by omega] at this; rw [this]; exact closeF_zero _ _ _
    | succ o1 =>
      have hroom := HS.out.room; have hle := HS.out.le; obtain ⟨g, rfl⟩ : ∃ g, gk = g + 1 := ⟨gk - 1, by omega⟩
      obtain ⟨t, ht⟩ : ∃ t, oneF s.data.toList d j = t := ⟨_, rfl⟩
      have HC := Keep.mk (HN.out wr j HS.out.sc.b HS.out.le HS.out.glob); have hok := oneF_ok s.data.toList d j (by rw [HL.out]; exact hle); have herr := oneF_err s.data.toList d j; have hq := HS.out.q; have hcl := fun m (hm : g + 1 ≤ m + 1) => HS.out.c (m + 1) hm
      have hgn := HS.out.gn; rw [qGo_step, ht] at hq; simp only [closeF_step, ht] at hcl; rw [ht] at HC hok herr; have HLN := Keep.mk HL.out; obtain ⟨⟨tk, tx, ta⟩, te, er⟩ := t; dsimp only at hq hcl herr; have ho : 0 < ((o1 : Int) + 1) := by omega
      have hoklen := hok.le; rw [HL.out] at hoklen; dsimp only at hoklen; by_cases her : er = 0
      · subst her
        by_cases hk0 : tk = 0
        · subst hk0
          have HQ := Keep.mk hq; clear hq hcl hok herr ht hroom hle hgn hoklen; go_wp2_with fail
          refine HC.out.mono ?_; rintro r w1 ⟨hr, j1, hs1, hl1, _⟩; simp only [tokV, if_true] at hr; subst hr; have HS1 := Keep.mk (show ScP w w1 p s j1 from ⟨hs1.b, HS.out.sc.u.trans hs1.u⟩); have HL1 := Keep.mk hl1; clear hs1 hl1; go_wp2
          refine bodyPost_ret (v := .tuple #[.int .i64 0, .int .i64 240]) ?_ rfl ?_
          · simp [results, Tryz.results44, go_sem]
          exact ⟨j1, _, _, rfl, HS1.out.above (by first | exact al1 _ _ | exact three_below _ _ _ _ _), HL1.out, Or.inr (Or.inl ⟨rfl, HQ.out.symm.trans (by rw [if_neg (fun h => h rfl)]; exact if_pos trivial)⟩)⟩
        have hnk : ¬ (tk : Int) = 0 := by omega
        have hob : o1 ≤ 2000000 := by have := HS.out.ob; omega
        clear hq hcl hok herr hroom hle hgn hoklen; by_cases h6 : tk = 6
        · subst h6
          by_cases h40 : tx = ⟨#[40]⟩
          · subst h40
            have hno : nextO 6 ⟨#[40]⟩ o1 = o1 + 2 := rfl; have HST := Keep.mk (fun W2 (h1 : ScP w W2 p s te) (h2 : GlobX W2) => show InnerS w W2 p s d f n 0 a g (o1 + 2) te by
              have := HS.out.step ht hk0 h1 h2; rwa [hno] at this)
            clear ht hno; go_wp2_with fail
            refine HC.out.mono ?_; rintro r w1 ⟨hr, j1, hs1, hl1, he1⟩; obtain rfl : te = j1 := (he1 rfl).symm; simp only [tokV, if_true] at hr; subst hr; have HS1 := Keep.mk (show ScP w w1 p s te from ⟨hs1.b, HS.out.sc.u.trans hs1.u⟩); have HG1 := Keep.mk (HS.out.glob.upd HS.out.sc.b hs1.u); clear hs1 hl1 he1; go_wp2
            go_roundg g
            case rel => exact ⟨o1 + 2, te, by go_num, ⟨HST.out _ (HS1.out.above (by first | exact al1 _ _ | exact three_below _ _ _ _ _)) (HG1.out.below (by first | exact al1 _ _ | exact three_below _ _ _ _ _))⟩⟩
            case measure => omega
          have b40 := lb_ne h40; by_cases h41 : tx = ⟨#[41]⟩
          · subst h41
            have hno : nextO 6 ⟨#[41]⟩ o1 = o1 := rfl; have HST := Keep.mk (fun W2 (h1 : ScP w W2 p s te) (h2 : GlobX W2) => show InnerS w W2 p s d f n 0 a g (o1) te by
              have := HS.out.step ht hk0 h1 h2; rwa [hno] at this)
            clear ht hno; go_wp2_with fail
            refine HC.out.mono ?_; rintro r w1 ⟨hr, j1, hs1, hl1, he1⟩; obtain rfl : te = j1 := (he1 rfl).symm; simp only [tokV, if_true] at hr; subst hr; have HS1 := Keep.mk (show ScP w w1 p s te from ⟨hs1.b, HS.out.sc.u.trans hs1.u⟩); have HG1 := Keep.mk (HS.out.glob.upd HS.out.sc.b hs1.u); clear hs1 hl1 he1; go_wp2
            go_roundg g
            case rel => exact ⟨o1, te, by go_num, ⟨HST.out _ (HS1.out.above (by first | exact al1 _ _ | exact three_below _ _ _ _ _)) (HG1.out.below (by first | exact al1 _ _ | exact three_below _ _ _ _ _))⟩⟩
            case measure => omega
          have b41 := lb_ne h41; have hno : nextO 6 tx o1 = o1 + 1 := by unfold nextO; rw [if_neg (fun h => h40 h.2), if_neg (fun h => h41 h.2)]
          have HST := Keep.mk (fun W2 (h1 : ScP w W2 p s te) (h2 : GlobX W2) => show InnerS w W2 p s d f n 0 a g (o1 + 1) te by
            have := HS.out.step ht hk0 h1 h2; rwa [hno] at this)
          clear ht hno; go_wp2_with fail
          refine HC.out.mono ?_; rintro r w1 ⟨hr, j1, hs1, hl1, he1⟩; obtain rfl : te = j1 := (he1 rfl).symm; simp only [tokV, if_true] at hr; subst hr; have HS1 := Keep.mk (show ScP w w1 p s te from ⟨hs1.b, HS.out.sc.u.trans hs1.u⟩); have HG1 := Keep.mk (HS.out.glob.upd HS.out.sc.b hs1.u); clear hs1 hl1 he1; go_wp2
          go_roundg g
          case rel => exact ⟨o1 + 1, te, by go_num, ⟨HST.out _ (HS1.out.above (by first | exact al1 _ _ | exact three_below _ _ _ _ _)) (HG1.out.below (by first | exact al1 _ _ | exact three_below _ _ _ _ _))⟩⟩
          case measure => omega
        have h6' : ¬ (tk : Int) = 6 := by omega
        have hno : nextO tk tx o1 = o1 + 1 := by unfold nextO; rw [if_neg (fun h => h6 h.1), if_neg (fun h => h6 h.1)]
        have HST := Keep.mk (fun W2 (h1 : ScP w W2 p s te) (h2 : GlobX W2) => show InnerS w W2 p s d f n 0 a g (o1 + 1) te by
          have := HS.out.step ht hk0 h1 h2; rwa [hno] at this)
        clear ht hno; go_wp2_with fail
        refine HC.out.mono ?_; rintro r w1 ⟨hr, j1, hs1, hl1, he1⟩; obtain rfl : te = j1 := (he1 rfl).symm; simp only [tokV, if_true] at hr; subst hr; have HS1 := Keep.mk (show ScP w w1 p s te from ⟨hs1.b, HS.out.sc.u.trans hs1.u⟩); have HG1 := Keep.mk (HS.out.glob.upd HS.out.sc.b hs1.u); clear hs1 hl1 he1; go_wp2
        go_roundg g
        case rel => exact ⟨o1 + 1, te, by go_num, ⟨HST.out _ (HS1.out.above (by first | exact al1 _ _ | exact three_below _ _ _ _ _)) (HG1.out.below (by first | exact al1 _ _ | exact three_below _ _ _ _ _))⟩⟩
        case measure => omega
      have HQ := Keep.mk (hq.symm.trans (if_pos her)); have hne : ¬ (er : Int) = 0 := by omega
      have hne2 : ¬ (er : Int) = 240 := by omega
      clear hq hcl hok herr ht hroom hle hgn hoklen; go_wp2_with fail
      refine HC.out.mono ?_; rintro r w1 ⟨hr, j1, hs1, hl1, _⟩; simp only [tokV, if_neg her] at hr; subst hr; have HS1 := Keep.mk (show ScP w w1 p s j1 from ⟨hs1.b, HS.out.sc.u.trans hs1.u⟩); have HL1 := Keep.mk hl1; clear hs1 hl1; go_wp2
      refine bodyPost_ret (v := .tuple #[.int .i64 (te : Int), .int .i64 (er : Int)]) ?_ rfl ?_
      · simp [results, Tryz.results44, go_sem]
      exact ⟨j1, _, _, rfl, HS1.out.above (by first | exact al1 _ _ | exact three_below _ _ _ _ _), HL1.out, Or.inr (Or.inr ⟨hne, hne2, _, HQ.out, rfl, rfl⟩)⟩
open Go Go.RowKit Go.Proofs Th
attribute [local go_sem ↓] Go.wp_at_zero Go.wp_at_succ
theorem form_bad (l : List UInt8) (h : ¬ okF l) : ∃ a b : Int, formR l = .tuple #[.int .i64 a, .int .i64 b, .bool false] := by
  unfold formR; by_cases h1 : bad1 l ∨ bad2 l ∨ bad3 l
  · rw [if_pos h1]; exact ⟨_, _, rfl⟩
  rw [if_neg h1, decide_eq_false (fun h2 => h ⟨h1, h2⟩)]; exact ⟨_, _, rfl⟩
theorem form_good (l : List UInt8) (h : okF l) : formR l = .tuple #[.int .i64 (wP l), .int .i64 (fP l), .bool true] := by
  unfold formR; rw [if_neg h.1, decide_eq_true h.2]
theorem DivS.below {W5 wr w' : World} {g : Nat} {neg : Bool} {E : Int} {v : Value} {qs : List Nat} (h : DivS W5 wr g neg E v qs) (hb : Below wr.heap.size wr w') : DivS W5 w' g neg E v qs :=
  ⟨h.box.below hb h.box.lt, h.own.below hb (Nat.le_refl _), h.old.trans (hb.mono (Nat.le_of_lt h.box.lt))⟩
theorem rparse_bad (s : ByteArray) (hs : s.size ≤ 100000) (h : ¬ okF s.data.toList) (w : World) : Calls Tryz.prog 133 #[.string s] w fun r w' => r = .returned (numRes ((0, 0), 10)) ∧ Below w.heap.size w w' := by
  obtain ⟨a, b, hF⟩ := form_bad _ h; have HF := Keep.mk hF; clear hF h; go_enter Tryz.func133, Tryz.ntmps133
  go_wp2_with fail
  refine (ref_Form s (by omega) _).mono ?_; rw [HF.out]; rintro r W1 ⟨rfl, hb⟩; have Hr := Keep.mk ((Box.new (w := w) (n := w.heap.size) [.int .i64 0, .int .i64 0] 24 rfl).below hb (by simp)); have HB := Keep.mk (up (al1 w _) hb); obtain ⟨rc0, rf0, rc1, rf1, rl⟩ := Hr.out.q2l; go_wp2
  refine bodyPost_ret (v := numRes ((0, 0), 10)) ?_ rfl ⟨rfl, st1 (st1 HB.out _ _ _ (by omega)) _ _ _ (by omega)⟩; simp [numRes, results, Tryz.results133, go_sem, rc0, rc1]
theorem rparse_good (s : ByteArray) (hs : s.size ≤ 100000) (h : okF s.data.toList) (neg : Bool) (hneg : decide (s.data.toList.head? = some 45) = neg) (wp fp : Nat) (hw : wP s.data.toList = wp) (hf : fP s.data.toList = fp) (hwf : wp ≤ fp) (hfs : fp ≤ s.size) (hs0 : 0 < s.size)
    (E : Int) (hE : powR (s.data.toList.drop fp) = E) (hE0 : -10000000 ≤ E) (hE1 : E ≤ 10000000) (p q k : Int) (hr : norm neg (val (dgs (digL s.data.toList fp))) (E - cntE s.data.toList wp fp) = ((p, q), k)) (w : World) :
    Calls Tryz.prog 133 #[.string s] w fun r w' => r = .returned (numRes ((p, q), k)) ∧ Below w.heap.size w w' := by
  have HF := Keep.mk (form_good _ h); rw [hw, hf] at HF; have HR := Keep.mk hr; have hsb : ((s[0].toNat : Int) == 45) = neg := by
    rw [← hneg]; have : s.data.toList.head? = some s[0] := head_list s hs0; rw [this]; by_cases h45 : s[0].toNat = 45
    · have h2 : s[0] = 45 := UInt8.toNat.inj h45
      rw [h2]; rfl
    have h2 : s[0] ≠ 45 := fun h => h45 (by rw [h]; rfl)
    simp [h2]; omega
  have HPW := Keep.mk (fun w => show Calls Tryz.prog 139 #[.string (s.extract fp s.size)] w fun r w' => r = .returned (.int .i64 E) ∧ Below w.heap.size w w' from by
    have := ref_power (s.extract fp s.size) (by rw [ByteArray.size_extract]; omega) w; rw [ext_to, hE] at this; exact this)
  clear h hr hneg hw hf hE; go_enter Tryz.func133, Tryz.ntmps133
  go_wp2_with fail
  refine (ref_Form s (by omega) _).mono ?_; rw [HF.out]; rintro r W1 ⟨rfl, hb⟩; have Hr := Keep.mk ((Box.new (w := w) (n := w.heap.size) [.int .i64 0, .int .i64 0] 24 rfl).below hb (by simp)); have HB := Keep.mk (up (al1 w _) hb); clear hb; have rl := Hr.out.lt; go_upto_region 4 with fail
  go_cut [7] (fun s7 wx => ∃ g : Nat, s7 = .pointer (some ⟨g, 0, none⟩) ∧ w.heap.size < g ∧ Keep (Box wx g [.bool neg, .slice none 0 0, .int .i64 E]) ∧ Keep (Below W1.heap.size W1 wx))
  case first =>
    go_region_held3 (fun w' => Below W1.heap.size W1 w')
      (first | assumption | exact HB1.out | exact below_drew _ | exact up (by assumption) (by assumption) | exact up HB1.out (al1 _ _) | exact up (by assumption) (al1 _ _) | exact st1 (st1 (st1 HB1.out _ _ _ (by omega)) _ _ _ (by omega)) _ _ _ (by omega))
      ((go_at_call 139; refine (HPW.out _).mono ?_; rintro r V1 ⟨rfl, hb1⟩; have HB1 : Keep (Below W1.heap.size W1 V1) := Keep.mk (up (by assumption) hb1); have sz1 := HB1.out.size; (try have BZ := Keep.mk (((Box.new (w := W1) (n := W1.heap.size) [.bool false, .slice none 0 0, .int .i64 0] 152 rfl).below (below_drew _) (by simp only [World.size_alloc]; exact Nat.lt_succ_self _)).below hb1 (by show W1.heap.size < (W1.alloc _).heap.size; simp only [World.size_alloc]; exact Nat.lt_succ_self _))); (try (have szB := BZ.out.lt; have z0 := BZ.out.cell 0 _ rfl; have z1 := BZ.out.cell 1 _ rfl; have z2 := BZ.out.cell 2 _ rfl; have zg0 := BZ.out.froz 0; have zg1 := BZ.out.froz 1; have zg2 := BZ.out.froz 2))))
    all_goals
      go_wp2_with fail
      go_meet
      first
        | exact ⟨_, rfl, by omega, ⟨((BZ.out.set (by simp) _).set (by simp) _).set (by simp) _⟩, ⟨by assumption⟩⟩
        | exact ⟨_, rfl, by omega, ⟨Box.new [.bool neg, .slice none 0 0, .int .i64 _] _ rfl⟩, ⟨by assumption⟩⟩
  case rest =>
    obtain ⟨g, rfl, hg, Hx, HB1⟩ := hcut; generalize wc = W2 at *; have HRS := Keep.mk (Hr.out.below HB1.out Hr.out.lt); have HO := Keep.mk (up HB.out HB1.out); have HSS := Keep.mk (show DivS W2 W2 g neg E (.slice none 0 0) [] from ⟨Hx.out, OwnInts.nil _ _, Below.refl _ _⟩); have ql := Hx.out.lt; clear Hr HB HB1 Hx; go_upto_block 0 with fail
    go_cut [8] (fun s8 wx => ∃ (v : Value), Keep (DivS W2 wx g neg (E - cntE s.data.toList wp fp) v (dgs (digL s.data.toList fp))))
    case first =>
      go_wp2_with fail
      go_loopg [8] fp (fun gk i wr => ∃ (v : Value) (k : Nat), k + gk = fp ∧ i = .int .i64 k ∧ Keep (DivS W2 wr g neg (E - cntE s.data.toList wp k) v (dgs (digL s.data.toList k))))
      case atStart => exact ⟨_, 0, by omega, rfl, ⟨by rw [digL_zero, cntE_zero]; have := HSS.out; simpa [dgs] using this⟩⟩
      case round =>
        clear HSS; obtain ⟨v, k, hk, rfl, HS⟩ := hrel; by_cases hlk : k < fp
        · have hks : k < s.size := by omega
          have hgk : gk ≠ 0 := by omega
          have HC := Keep.mk (fun w => ref_digit s[k] w); have HD := Keep.mk (digL_step s.data.toList k s[k] (get_at s k hks)); have HN := Keep.mk (cntE_step s.data.toList wp k s[k] (get_at s k hks)); have hcn := cntE_le s.data.toList wp k; have hdl := digL_le s.data.toList k; cases hd : digB s[k]
          · have hd2 : isDg s[k] = false := hd
            have HE1 := Keep.mk (show digL s.data.toList (k + 1) = digL s.data.toList k by rw [HD.out, hd2]; simp); have HE2 := Keep.mk (show cntE s.data.toList wp (k + 1) = cntE s.data.toList wp k by rw [HN.out, hd2]; simp); clear hd2; go_wp2_with fail
            refine (HC.out _).mono ?_; rw [hd]; rintro r w1 ⟨rfl, hb1⟩; go_wp2
            go_roundg (gk - 1)
            case rel => exact ⟨v, k + 1, by omega, by go_num, ⟨by rw [HE1.out, HE2.out]; exact HS.out.below hb1⟩⟩
            case measure => omega
          have hd2 : isDg s[k] = true := hd; have hdg : 48 ≤ s[k].toNat ∧ s[k].toNat ≤ 57 := by unfold digB at hd; simpa using hd
          obtain ⟨hd48, hd57⟩ := hdg; obtain ⟨qd, hqd⟩ : ∃ q : Nat, (s[k].toNat : Int) - 48 = q := ⟨s[k].toNat - 48, by omega⟩
          have hqe : dg s[k] = qd := by unfold dg; omega
          have HE1 := Keep.mk (show dgs (digL s.data.toList (k + 1)) = dgs (digL s.data.toList k) ++ [qd] by rw [HD.out, if_pos hd2, dgs_append, ← hqe]; rfl); have HE2 := Keep.mk (show cntE s.data.toList wp (k + 1) = cntE s.data.toList wp k + if wp < k then 1 else 0 by rw [HN.out, hd2]; simp); have hqsl : (dgs (digL s.data.toList k)).length ≤ 100000 := by rw [dgs_length]; omega
          generalize hqs : dgs (digL s.data.toList k) = qs at *; generalize hcc : cntE s.data.toList wp k = cc at *; obtain ⟨E2, hE2⟩ : ∃ e : Int, E - cc = e := ⟨_, rfl⟩
          have hE20 : -20000000 ≤ E2 := by omega
          have hE21 : E2 ≤ 20000000 := by omega
          have HEE := Keep.mk hE2; rw [hE2] at HS; clear hd2 hqe hqs hcc hE2 HD HN hcn hdl; go_wp2_with fail
          refine (HC.out _).mono ?_; rw [hd]; rintro r w1 ⟨rfl, hb1⟩; replace HS := Keep.mk (HS.out.below hb1); clear hb1; have q1 := HS.out.box.cell 1 _ rfl; have q2 := HS.out.box.cell 2 _ rfl; have qf1 := HS.out.box.froz 1; have qf2 := HS.out.box.froz 2; have lq := HS.out.box.lt; have hws := HS.out.old.size; have w8 : IntKind.i64.wrap (s[k].toNat : Int) = s[k].toNat := IntWalk.i64_in _ (by omega); have w9 : IntKind.i64.wrap ((s[k].toNat : Int) - 48) = qd := by rw [hqd]; exact IntWalk.i64_in _ (by omega)
          have w10 : IntKind.i64.wrap (qd : Int) = qd := IntWalk.i64_in _ (by omega); go_wp2_with fail
          go_region_law ((refine step_append_ints rfl (.tmp 36) (.tmp 42) rfl W2.heap.size v qs (by simp [Act.eval]) (by first | exact HS.out.own.alloc _ | exact (HS.out.own.below (below_drew _) (Nat.le_refl _)).alloc _ | exact (HS.out.own.alloc _).below (below_drew _) (Nat.le_refl _)) _ _ 1 1 [qd] rfl (by simp [Act.eval]; rfl) (by first | exact IntsAt.one _ qd rfl rfl | exact (IntsAt.one _ qd rfl rfl).below (below_drew _) (by simp)) (by simp; omega) (by simp; omega) ?_; intro v2 w2 hown2 hb2; have HX2 := Keep.mk (arm_box hb2 (by first | exact al1 _ _ | exact up (below_drew _) (al1 _ _) | exact up (al1 _ _) (below_drew _)) HS.out.box ql); have HB2 := Keep.mk (arm_below hb2 (by first | exact al1 _ _ | exact up (below_drew _) (al1 _ _) | exact up (al1 _ _) (below_drew _)) HS.out.old (Nat.le_of_lt ql) (Nat.le_of_lt HS.out.box.lt)); have z1 := HX2.out.cell 1 _ rfl; have z2 := HX2.out.cell 2 _ rfl; have f1 := HX2.out.froz 1; have f2 := HX2.out.froz 2; obtain ⟨A9, c9, rfl, _⟩ := hown2.ints; have HO2 := Keep.mk hown2; clear hown2 hb2))
          all_goals
            by_cases hwk : wp < k
            · go_wp2
              go_roundg (gk - 1)
              case rel => exact ⟨.slice A9 (qs.length + 1) c9, k + 1, by omega, by go_num, ⟨by
                rw [HE1.out, HE2.out, if_pos hwk, show E - ((cc + 1 : Nat) : Int) = E2 - 1 by have := HEE.out; omega]; exact ⟨(HX2.out.set (by simp) _).set (by simp) _, by
                  have h := (HO2.out.set ql (o := 1) (.slice A9 (qs.length + 1) c9)).set ql (o := 2) (.int .i64 (E2 - 1)); rw [show (qs ++ [qd]).length = qs.length + 1 by simp] at h; exact h, (HB2.out.setCell (p := ⟨g, 1, none⟩) (Nat.le_refl _) _).setCell (p := ⟨g, 2, none⟩) (Nat.le_refl _) _⟩⟩⟩
              case measure => omega
            go_wp2
            go_roundg (gk - 1)
            case rel => exact ⟨.slice A9 (qs.length + 1) c9, k + 1, by omega, by go_num, ⟨by
              rw [HE1.out, HE2.out, if_neg hwk, show E - ((cc + 0 : Nat) : Int) = E2 by have := HEE.out; omega]; exact ⟨HX2.out.set (by simp) _, by
                have h := HO2.out.set ql (o := 1) (.slice A9 (qs.length + 1) c9); rw [show (qs ++ [qd]).length = qs.length + 1 by simp] at h; exact h, HB2.out.setCell (p := ⟨g, 1, none⟩) (Nat.le_refl _) _⟩⟩⟩
            case measure => omega
        obtain rfl : k = fp := by omega
        go_wp2_with fail
        go_meet
        exact ⟨v, HS⟩
    case rest =>
      clear HSS; obtain ⟨v, HS⟩ := hcut; have HR0 := Keep.mk (HRS.out.below HS.out.old hg); obtain ⟨r0, rf0, r1, rf1, rl⟩ := HR0.out.q2l; have HBW := Keep.mk (HO.out.trans (HS.out.old.mono (Nat.le_of_lt hg))); obtain ⟨A9, c9, rfl, hI9⟩ := HS.out.own.ints; obtain ⟨q0, q1, q2⟩ := HS.out.box.p3; have HD9 := Keep.mk (dgs_all _ (digL_dig s.data.toList fp)); have hqn : (dgs (digL s.data.toList fp)).length ≤ 100000 := by rw [dgs_length]; have := digL_le s.data.toList fp; omega
      have hcn := cntE_le s.data.toList wp fp; generalize dgs (digL s.data.toList fp) = qs at *; generalize hE2 : E - (cntE s.data.toList wp fp : Int) = E2 at *; have hE20 : -20000000 ≤ E2 := by omega
      have hE21 : E2 ≤ 20000000 := by omega
      clear hE2 hcn; go_wp2_with fail
      refine (short_as neg A9 c9 qs E2 HD9.out (by omega) (by omega) p q k HR.out _ hI9).mono ?_; rintro r V2 ⟨rfl, hb2⟩; have HQ2 := Keep.mk (HR0.out.below hb2 HR0.out.lt); clear r0 r1 rf0 rf1 rl; obtain ⟨r0, rf0, r1, rf1⟩ := HQ2.out.q2; go_wp2
      refine bodyPost_ret (v := numRes ((p, q), k)) ?_ rfl ⟨rfl, st1 (st1 (up HBW.out hb2) _ _ _ (by omega)) _ _ _ (by omega)⟩; simp [numRes, results, Tryz.results133, go_sem, r0, r1]
theorem size_list' (s : ByteArray) : s.data.toList.length = s.size := by simp
theorem powR_le (l : List UInt8) : -10000000 ≤ powR l ∧ powR l ≤ 10000000 := by
  have := powN_le l; unfold powR; split <;> omega
theorem ref_Parse (s : ByteArray) (hs : s.size ≤ 100000) (w : World) : Calls Tryz.prog 133 #[.string s] w fun r w' => r = .returned (numRes (parseN s.data.toList)) ∧ Below w.heap.size w w' := by
  by_cases h : okF s.data.toList
  · obtain ⟨en, x, he, hp⟩ := parse_good _ h
    have hfl := fP_le s.data.toList; rw [size_list'] at hfl; have hs0 : 0 < s.size := by
      rcases Nat.eq_zero_or_pos s.size with h0 | h0
      · exfalso
        refine h.1 (Or.inl (Or.inl ?_)); have h1 := wP_le s.data.toList; rw [size_list'] at h1; omega
      exact h0
    have hv : val (dgs (digL s.data.toList (fP s.data.toList))) < 10 ^ (dgs (digL s.data.toList (fP s.data.toList))).length := val_lt _ (dgs_all _ (digL_dig _ _)); have hal := norm_alike (decide (s.data.toList.head? = some 45)) (val (dgs (digL s.data.toList (fP s.data.toList)))) _ _ _ (cntE s.data.toList (wP s.data.toList) (fP s.data.toList)) hv
      (by rw [dgs_length]; have := digL_le s.data.toList (fP s.data.toList); omega) (by have := cntE_le s.data.toList (wP s.data.toList) (fP s.data.toList); omega) (powR_alike _ _ _ he)
    rw [hp, ← cntE_end]; obtain ⟨⟨⟨p, q⟩, k⟩, hr⟩ : ∃ x, norm (decide (s.data.toList.head? = some 45)) (val (dgs (digL s.data.toList (fP s.data.toList)))) (powR (s.data.toList.drop (fP s.data.toList)) - cntE s.data.toList (wP s.data.toList) (fP s.data.toList)) = x := ⟨_, rfl⟩
    have hpr := powR_le (s.data.toList.drop (fP s.data.toList)); have := rparse_good s hs h _ rfl _ _ rfl rfl hfl.1 hfl.2 hs0 _ rfl hpr.1 hpr.2 p q k hr w; rw [show norm (decide (s.data.toList.head? = some 45)) (val (dgs ((s.data.toList.take (fP s.data.toList)).filter isDg))) (sg en (clampN x) - (cntE s.data.toList (wP s.data.toList) (fP s.data.toList) : Nat)) = ((p, q), k) from hal.symm.trans hr]; exact this
  rw [parse_bad _ h]; exact rparse_bad s hs h w
end Go.Proofs.YtinknjhclpaieaaGreatDoor
namespace Th
open Go Go.Lib
def wtE (E : Env) (i : Nat) : Nat := sumT (E.l.drop i)
def GoodT (E : Env) : Prop := ∀ t ∈ E.l, 1 ≤ t.text.size
theorem wt_step {E : Env} (hE : GoodT E) {i : Nat} (h : (tokAt E i).kind ≠ 0) : wtE E (i + 1) + (tokAt E i).text.size = wtE E i ∧ 1 ≤ (tokAt E i).text.size := by
  have hi : i < E.l.length := by
    rcases Nat.lt_or_ge i E.l.length with h1 | h1
    · exact h1
    exfalso; apply h; unfold tokAt; rw [List.getD_eq_getElem?_getD, List.getElem?_eq_none h1]; rfl
  have ht : tokAt E i = E.l[i] := by unfold tokAt; rw [List.getD_eq_getElem?_getD, List.getElem?_eq_getElem hi]; rfl
  rw [ht]; refine ⟨?_, hE _ (List.getElem_mem hi)⟩; unfold wtE; rw [List.drop_eq_getElem_cons hi]; simp only [sumT, List.map_cons, List.sum_cons]; omega
theorem wt_next (E : Env) (i : Nat) : wtE E (i + 1) ≤ wtE E i := by
  unfold wtE; rcases Nat.lt_or_ge i E.l.length with h | h
  · rw [List.drop_eq_getElem_cons h]; simp only [sumT, List.map_cons, List.sum_cons]; omega
  rw [List.drop_eq_nil_of_le h, List.drop_eq_nil_of_le (by omega)]; exact Nat.le_refl _
theorem wt_end (E : Env) {i : Nat} (h : E.l.length ≤ i) : wtE E i = 0 := by unfold wtE; rw [List.drop_eq_nil_of_le h]; rfl
def EndS (E : Env) (s : St) : Prop := s.err ≠ 0 → wtE E s.i = 0
structure BdR (E : Env) (b : Nat) (s : St) : Prop where
  w : wtE E s.i ≤ b
  e : EndS E s
theorem BdR.next {E : Env} {b : Nat} {s1 : St} (h : BdR E b s1) : BdR E b s1.next := by
  have := wt_next E s1.i; exact ⟨by have := h.w; show wtE E (s1.i + 1) ≤ _; omega, fun he => by have := h.e he; show wtE E (s1.i + 1) = 0; omega⟩
theorem BdR.fail {E : Env} {b : Nat} {s1 : St} (_h : BdR E b s1) (e : Nat) : BdR E b (failR E s1 e) := by
  have hw : wtE E (failR E s1 e).i = 0 := by unfold failR; split <;> exact wt_end E (Nat.le_refl _)
  exact ⟨by rw [hw]; exact Nat.zero_le _, fun _ => hw⟩
theorem BdR.want {E : Env} {b : Nat} {s1 : St} (h : BdR E b s1) (x : ByteArray) : BdR E b (wantR E s1 x) := by
  unfold wantR; split
  · exact h.next
  exact h.fail 60
theorem BdR.named {E : Env} {b : Nat} {s1 : St} (h : BdR E b s1) (k : Nat) : BdR E b (namedR E s1 k).2 := by
  unfold namedR; split
  · exact h.fail 60
  exact h.next
def Tot {α : Type} (E : Env) (b : Nat) (o : Option (α × St)) : Prop := ∃ n s1, o = some (n, s1) ∧ BdR E b s1
theorem BdR.weak {E : Env} {b c : Nat} {s1 : St} (h : BdR E c s1) (hc : c ≤ b) : BdR E b s1 := ⟨Nat.le_trans h.w hc, h.e⟩
theorem Tot.ret {α : Type} {E : Env} {b c : Nat} {s1 : St} {n : α} (h : BdR E c s1) (hc : c ≤ b) : Tot E b (some (n, s1)) := ⟨n, s1, rfl, h.weak hc⟩
theorem Tot.bind {α : Type} {E : Env} {b c : Nat} {a : Option (NJ × St)} {k : NJ → St → Option (α × St)} (h : Tot E c a) (hk : ∀ n s1, BdR E c s1 → Tot E b (k n s1)) : Tot E b (bindR a k) := by
  obtain ⟨n, s1, rfl, h1⟩ := h; exact hk n s1 h1
theorem Tot.bindA {α : Type} {E : Env} {b c : Nat} {a : Option (List ByteArray × St)} {k : List ByteArray → St → Option (α × St)} (h : Tot E c a) (hk : ∀ n s1, BdR E c s1 → Tot E b (k n s1)) : Tot E b (Th.bindA a k) := by
  obtain ⟨n, s1, rfl, h1⟩ := h; exact hk n s1 h1
theorem Tot.ite {α : Type} {E : Env} {b : Nat} {c : Prop} [Decidable c] {x y : Option (α × St)} (h1 : c → Tot E b x) (h2 : ¬ c → Tot E b y) : Tot E b (if c then x else y) := by
  split
  · exact h1 ‹_›
  exact h2 ‹_›
theorem kind_bd {E : Env} (hE : GoodT E) {s : St} {c : Nat} (h : BdR E c s) (hk : (tokAt E s.i).kind ≠ 0) : 1 ≤ c ∧ BdR E (c - 1) s.next := by
  obtain ⟨h1, h2⟩ := wt_step hE hk; have := h.w; refine ⟨by omega, by show wtE E (s.i + 1) ≤ _; omega, fun he => ?_⟩; have := h.e he; show wtE E (s.i + 1) = 0
  omega
theorem Tot.has {α : Type} {E : Env} (hE : GoodT E) {b c : Nat} {s1 : St} {x : ByteArray} {u v : Option (α × St)} (hb : BdR E c s1) (h1 : 1 ≤ c → BdR E (c - 1) s1.next → Tot E b u) (h2 : Tot E b v) : Tot E b (if hasR E s1 x then u else v) :=
  Tot.ite (fun h => (fun ⟨h3, h4⟩ => h1 h3 h4) (kind_bd hE hb (by rcases h.2.1 with h | h <;> omega))) (fun _ => h2)
theorem Tot.any {α : Type} {E : Env} (hE : GoodT E) {b c : Nat} {s1 : St} {x : List ByteArray} {u v : Option (α × St)} (hb : BdR E c s1) (h1 : 1 ≤ c → BdR E (c - 1) s1.next → Tot E b u) (h2 : Tot E b v) : Tot E b (if anyR E s1 x then u else v) :=
  Tot.ite (fun h => (fun ⟨h3, h4⟩ => h1 h3 h4) (kind_bd hE hb (by rcases h.2.1 with h | h <;> omega))) (fun _ => h2)
theorem Tot.kind {α : Type} {E : Env} (hE : GoodT E) {b c k : Nat} {s1 : St} {u v : Option (α × St)} (hb : BdR E c s1) (hk : k ≠ 0) (h1 : (tokAt E s1.i).kind = k → 1 ≤ c → BdR E (c - 1) s1.next → Tot E b u) (h2 : Tot E b v) : Tot E b (if (tokAt E s1.i).kind = k then u else v) :=
  Tot.ite (fun h => (fun ⟨h3, h4⟩ => h1 h h3 h4) (kind_bd hE hb (by omega))) (fun _ => h2)
theorem args_tot {E : Env} (_hE : GoodT E) {b : Nat} : ∀ (n : Nat) (acc : List ByteArray) (s : St), E.l.length - s.i < n → BdR E b s → Tot E b (argsR E n acc s) := by
  intro n; induction n with
  | zero => intro acc s h; omega
  | succ n ih =>
    intro acc s h hb; have key : ∀ k (l : List ByteArray), Tot E b (if hasR E (namedR E s k).2 ⟨#[59]⟩ then argsR E n l (namedR E s k).2.next else some (l, (namedR E s k).2)) := fun k l => by
      have hb2 := hb.named k; refine Tot.ite (fun hh => ih _ _ ?_ hb2.next) (fun _ => Tot.ret hb2 (Nat.le_refl _)); have hi : (namedR E s k).2.i < E.l.length := by
        rcases Nat.lt_or_ge (namedR E s k).2.i E.l.length with h1 | h1
        · exact h1
        exfalso; have : (tokAt E (namedR E s k).2.i).kind = 0 := by unfold tokAt; rw [List.getD_eq_getElem?_getD, List.getElem?_eq_none h1]; rfl
        rcases hh.2.1 with h | h <;> omega
      have hge : s.i ≤ (namedR E s k).2.i := by
        unfold namedR at hi ⊢; split at hi <;> split
        all_goals first | (unfold failR at hi; split at hi <;> exact absurd hi (Nat.lt_irrefl _)) | exact Nat.le_succ _ | contradiction
      show E.l.length - ((namedR E s k).2.i + 1) < n
      omega
    simp only [argsR]; by_cases hk : (tokAt E s.i).kind = 2
    · simp only [if_pos hk]; exact key 2 _
    simp only [if_neg hk]; exact key 1 _
def lvl : RJob → Nat
  | .object => 32
  | .objLoop _ => 31
  | .callLoop _ _ => 31
  | .branch => 31
  | .index _ => 31
  | .whole => 31
  | .filter => 30
  | .list => 29
  | .other => 28
  | .set => 27
  | .either => 26
  | .both => 25
  | .test => 24
  | .sum => 23
  | .product => 22
  | .minus => 21
  | .term => 20
  | .first => 19
  | .word => 18
  | .text => 10
  | _ => 1
def fuelR (E : Env) (job : RJob) (s : St) : Nat := match job with
  | .parts t f _ _ => 40 * sumQ f + 40 + t.length
  | job => 40 * wtE E s.i + lvl job
theorem tok_pos {E : Env} (h : GoodT E) (i : Nat) (hk : (tokAt E i).kind ≠ 0) : (tokAt E i).text.size ≤ wtE E i := by
  obtain ⟨h1, _⟩ := wt_step h hk; omega
theorem envOf_good (g : List UInt8) (b : Nat) : GoodT (envOf g b) ∧ wtE (envOf g b) 0 ≤ g.length := by
  obtain ⟨h1, h2⟩ := scanF_sum g; exact ⟨h2, by unfold wtE; rw [List.drop_zero]; exact h1⟩
theorem totR : ∀ (f : Nat) (E : Env), GoodT E → ∀ (job : RJob) (s : St), EndS E s → (job = .text → (tokAt E s.i).kind = 5) → (job = .word → (tokAt E s.i).kind = 1) → fuelR E job s < f → Tot E (wtE E s.i) (runR f E job s) := by
  intro f; induction f with
  | zero => intro E hE job s _ _ _ h; omega
  | succ f ih =>
    intro E hE job s hs ht hw hf; show Tot E (wtE E s.i) (stepR (runR f) E job s)
    obtain ⟨b, hbb⟩ : ∃ b, wtE E s.i = b := ⟨_, rfl⟩
    rw [hbb]; have hb : BdR E b s := ⟨by omega, hs⟩; have run : ∀ (job : RJob) (s1 : St) (c : Nat), BdR E c s1 → (job = .text → (tokAt E s1.i).kind = 5) → (job = .word → (tokAt E s1.i).kind = 1) → (∀ t fs p k, job ≠ .parts t fs p k) → 40 * c + lvl job < f → c ≤ b → Tot E b (runR f E job s1) := fun job s1 c h1 h2 h3 h4 h5 h6 => by
      have hfu : fuelR E job s1 < f := by
        have := h1.w; cases job with
        | parts t fs p k => exact absurd rfl (h4 t fs p k)
        | _ => simp only [fuelR]; omega
      obtain ⟨n, s2, h7, h8⟩ := ih E hE job s1 h1.e h2 h3 hfu; exact ⟨n, s2, h7, h8.weak (Nat.le_trans h1.w h6)⟩
    have run2 : ∀ (job : RJob) (s1 : St) (c : Nat), BdR E c s1 → (job = .text → (tokAt E s1.i).kind = 5) → (job = .word → (tokAt E s1.i).kind = 1) → (∀ t fs p k, job ≠ .parts t fs p k) → 40 * c + lvl job < f → Tot E c (runR f E job s1) := fun job s1 c h1 h2 h3 h4 h5 => by
      have hfu : fuelR E job s1 < f := by
        have := h1.w; cases job with
        | parts t fs p k => exact absurd rfl (h4 t fs p k)
        | _ => simp only [fuelR]; omega
      obtain ⟨n, s2, h7, h8⟩ := ih E hE job s1 h1.e h2 h3 hfu; exact ⟨n, s2, h7, h8.weak h1.w⟩
    cases job with
    | parts t fs p kids =>
      cases t with
      | nil => exact Tot.ret hb.next (Nat.le_refl _)
      | cons t0 t =>
        simp only [stepR]; refine Tot.ite (fun _ => Tot.ret (hb.fail 20) (Nat.le_refl _)) (fun _ => ?_); cases fs with
        | nil => exact Tot.ret hb.next (Nat.le_refl _)
        | cons g fs =>
          have hf : 40 * sumQ (g :: fs) + 40 + (t0 :: t).length < f + 1 := hf; have e1 : sumQ (g :: fs) = g.length + sumQ fs := by simp [sumQ]
          rw [e1, List.length_cons] at hf; obtain ⟨h1, h2⟩ := envOf_good g (E.base + (tokAt E s.i).at_ + p.headD 0); obtain ⟨n, own, h3, _⟩ := ih _ h1 .whole ⟨0, 0, 0⟩ (fun h => absurd rfl h) (fun h => by cases h) (fun h => by cases h) (by show 40 * wtE _ 0 + 31 < f; omega); dsimp only; rw [h3]; show Tot E b (if own.err ≠ 0 then _ else _)
          refine Tot.ite (fun _ => Tot.ret (c := b) ⟨?_, fun _ => ?_⟩ (Nat.le_refl _)) (fun _ => ?_)
          · show wtE E E.l.length ≤ _; rw [wt_end E (Nat.le_refl _)]; exact Nat.zero_le _
          · exact wt_end E (Nat.le_refl _)
          have := ih E hE (.parts t fs p.tail (kids ++ [strJ ⟨(readQ (textQ t0)).1.toArray⟩, n])) s hs (fun h => by cases h) (fun h => by cases h) (by show 40 * sumQ fs + 40 + t.length < f; omega); rw [hbb] at this; exact this
    | text =>
      simp only [stepR]; have h5 := ht rfl; have hz := tok_pos hE s.i (by omega); obtain ⟨hz1, hz2⟩ := wt_step hE (i := s.i) (by omega); have hq := partsF_sum (tokAt E s.i).text.data.toList; have hpl : (partsF (tokAt E s.i).text.data.toList).1.texts.length = 0 → sumQ (partsF (tokAt E s.i).text.data.toList).1.filters = 0 := fun h0 => by
        rcases parts_len (tokAt E s.i).text.data.toList with ⟨_, h⟩ | h
        · rw [h]; rfl
        omega
      have hsz : (tokAt E s.i).text.data.toList.length = (tokAt E s.i).text.size := Array.length_toList; have hf : 40 * wtE E s.i + 10 < f + 1 := hf; have := ih E hE (.parts (partsF (tokAt E s.i).text.data.toList).1.texts (partsF (tokAt E s.i).text.data.toList).1.filters (partsF (tokAt E s.i).text.data.toList).1.places []) s hs (fun h => by cases h) (fun h => by cases h) (by show 40 * sumQ _ + 40 + List.length _ < f; omega); rw [hbb] at this; exact this
    | word =>
      obtain ⟨hb1, hb2⟩ := kind_bd hE hb (by have := hw rfl; omega); simp only [fuelR, lvl] at hf; rw [hbb] at hf; simp only [stepR]; repeat' (first
        | assumption | apply BdR.next | apply BdR.want | apply BdR.fail | apply BdR.named
        | refine Tot.ret (by repeat' (first | assumption | apply BdR.next | apply BdR.want | apply BdR.fail | apply BdR.named)) ?_
        | refine Tot.bindA (args_tot hE _ _ _ (by omega) (by repeat' (first | assumption | apply BdR.next | apply BdR.want | apply BdR.fail | apply BdR.named))) (fun _ _ _ => ?_)
        | refine Tot.bind (run2 _ _ _ (by repeat' (first | assumption | apply BdR.next | apply BdR.want | apply BdR.fail | apply BdR.named)) (fun h => by first | (cases h; done) | assumption) (fun h => by first | (cases h; done) | assumption) (fun _ _ _ _ h => by cases h) ?_) (fun _ _ _ => ?_)
        | refine run _ _ _ (by repeat' (first | assumption | apply BdR.next | apply BdR.want | apply BdR.fail | apply BdR.named)) (fun h => by first | (cases h; done) | assumption) (fun h => by first | (cases h; done) | assumption) (fun _ _ _ _ h => by cases h) ?_ ?_
        | refine Tot.has hE (by repeat' (first | assumption | apply BdR.next | apply BdR.want | apply BdR.fail | apply BdR.named)) (fun _ _ => ?_) ?_ | refine Tot.any hE (by repeat' (first | assumption | apply BdR.next | apply BdR.want | apply BdR.fail | apply BdR.named)) (fun _ _ => ?_) ?_ | refine Tot.kind hE (by repeat' (first | assumption | apply BdR.next | apply BdR.want | apply BdR.fail | apply BdR.named)) (by decide) (fun _ _ _ => ?_) ?_ | refine Tot.ite (fun _ => ?_) (fun _ => ?_)
        | (simp only [lvl]; omega) | omega)
    | _ =>
      simp only [fuelR, lvl] at hf; rw [hbb] at hf; simp only [stepR]; repeat' (first
        | assumption | apply BdR.next | apply BdR.want | apply BdR.fail | apply BdR.named
        | refine Tot.ret (by repeat' (first | assumption | apply BdR.next | apply BdR.want | apply BdR.fail | apply BdR.named)) ?_
        | refine Tot.bindA (args_tot hE _ _ _ (by omega) (by repeat' (first | assumption | apply BdR.next | apply BdR.want | apply BdR.fail | apply BdR.named))) (fun _ _ _ => ?_)
        | refine Tot.bind (run2 _ _ _ (by repeat' (first | assumption | apply BdR.next | apply BdR.want | apply BdR.fail | apply BdR.named)) (fun h => by first | (cases h; done) | assumption) (fun h => by first | (cases h; done) | assumption) (fun _ _ _ _ h => by cases h) ?_) (fun _ _ _ => ?_)
        | refine run _ _ _ (by repeat' (first | assumption | apply BdR.next | apply BdR.want | apply BdR.fail | apply BdR.named)) (fun h => by first | (cases h; done) | assumption) (fun h => by first | (cases h; done) | assumption) (fun _ _ _ _ h => by cases h) ?_ ?_
        | refine Tot.has hE (by repeat' (first | assumption | apply BdR.next | apply BdR.want | apply BdR.fail | apply BdR.named)) (fun _ _ => ?_) ?_ | refine Tot.any hE (by repeat' (first | assumption | apply BdR.next | apply BdR.want | apply BdR.fail | apply BdR.named)) (fun _ _ => ?_) ?_ | refine Tot.kind hE (by repeat' (first | assumption | apply BdR.next | apply BdR.want | apply BdR.fail | apply BdR.named)) (by decide) (fun _ _ _ => ?_) ?_ | refine Tot.ite (fun _ => ?_) (fun _ => ?_)
        | (simp only [lvl]; omega) | omega)
end Th
