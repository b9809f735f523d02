/- Lemmas and contracts for the laws SyntaxBrackets, SyntaxJoins, SyntaxSides, part 14 of 44: AbC, TokD. Conditions: those that each lemma names. -/
import Derived.Test.YtnhnpahoppbniaaDoorPb12
import Derived.Test.YtnhnpahoppbniaaDoorPb11
namespace Go.Proofs.YtnhnpahoppbniaaDoor
open Go Go.RowKit Go.Proofs Th
section
variable {P : Program} {X : Ctx} {E : AEnv} {S : CS} {s : ASt} {a : Act} {W : World} {o : Oper} {K : FV → (Nat → AObj) → Prop} {Q : Exit → Act → World → Prop}
theorem rep_v {x u : Value} (h : Rep W S (.v x) u) : u = x := by cases h; rfl
theorem eval_v (h : RelE X E S s a W) {x : Operand} {u : Value} (hx : valOf s x = .im (.v u)) : a.eval x = u := by
  have := eval_rep h x
  rw [hx] at this
  exact rep_v this
theorem eval_ptr (h : RelE X E S s a W) {x : Operand} {b off : Nat} (hx : valOf s x = .ptr b off) : a.eval x = .pointer (some ⟨E.box b, off, none⟩) := by
  have := eval_rep h x
  rw [hx] at this
  exact this.2
theorem RelE.newbox (h : RelE X E S s a W) {d : Nat} (h1000 : d ≠ 1000) (hd : s.st d = .none) (us : List Value) (cs : List FV) (ty : TypeId) (hl : us.length = cs.length) (h1 : ∀ u ∈ us, u.oneCell' = true)
    (hr : ∀ (i : Nat) c u, cs[i]? = some c → us[i]? = some u → RepF W S E s.st c u) : RelE X { E with box := upd E.box d W.heap.size } S ⟨s.fr, upd s.st d (.box cs)⟩ a (W.alloc (.cells us.toArray ty)) := by
  have hb := al1 W (.cells us.toArray ty)
  have hsz : (W.alloc (.cells us.toArray ty)).heap.size = W.heap.size + 1 := by simp
  have hcell : ∀ g o, S g o → (W.alloc (.cells us.toArray ty)).cell? ⟨g, o, none⟩ = W.cell? ⟨g, o, none⟩ := fun g o ho => hb.cell (p := ⟨g, o, none⟩) (h.Sb g o ho)
  have hF : ∀ c u, RepF W S E s.st c u → RepF (W.alloc (.cells us.toArray ty)) S { E with box := upd E.box d W.heap.size } (upd s.st d (.box cs)) c u := by
    intro c u hc
    cases c with
    | junk => trivial
    | im x => exact Rep.keep hc hcell (fun _ _ h => h)
    | own k n =>
      obtain ⟨t, z, es, e1, e2⟩ := hc
      exact ⟨t, z, es, by rw [upd_ne _ _ (fun e => by subst e; rw [hd] at e1; cases e1)]; exact e1, e2⟩
    | ptr b off =>
      obtain ⟨⟨cs', e1⟩, e2⟩ := hc
      have hne : b ≠ d := fun e => by subst e; rw [hd] at e1; cases e1
      exact ⟨⟨cs', by rw [upd_ne _ _ hne]; exact e1⟩, by rw [e2]; simp only [upd_ne _ _ hne]⟩
    | pin b p =>
      obtain ⟨⟨cs', e1⟩, e2⟩ := hc
      have hne : b ≠ d := fun e => by subst e; rw [hd] at e1; cases e1
      exact ⟨⟨cs', by rw [upd_ne _ _ hne]; exact e1⟩, by simp only [upd_ne _ _ hne]; exact e2⟩
  refine h.core (· = d) _ _ S _ (fun j hj => ⟨upd_ne _ _ hj, upd_ne _ _ hj, rfl⟩) (upd_ne _ _ (Ne.symm h1000)) (fun j hj => ?_) rfl rfl rfl (by omega) (fun g hg _ => hb.block g hg) hcell (fun _ _ h => h) (fun g o h => Or.inl h) (fun g o ho => by have := h.Sb g o ho; omega) (fun j hj => ?_) (fun j g hj hg => ?_) (fun i j g hi hj _ _ => hi.trans hj.symm)
  · subst hj; rw [hd]; trivial
  · subst hj
    rw [upd_same]
    refine ⟨⟨us, hl, ?_, h1, fun i c u hc hu => hF c u (hr i c u hc hu), fun o ho => ?_⟩, Or.inr ?_⟩
    · simp only [upd_same]; exact Box.new us ty rfl
    · simp only [upd_same] at ho; exact absurd (h.Sb _ _ ho) (by omega)
    · simp only [upd_same]; exact h.u.size
  · subst hj
    rw [upd_same] at hg
    simp only [blk, upd_same, Option.some.injEq] at hg
    exact Or.inr (by omega)
theorem val_move (h : RelE X E S s a W) {x : Operand} (ho : o.op = .move x) (hop : aval P (.move x) o.dst s K) : Out P X s a W o K Q :=
  out_same h (by simp [execOp, ho]) hop (eval_rep h x)
theorem val_assign (h : RelE X E S s a W) {x : Operand} (ho : o.op = .assign x) (hop : aval P (.assign x) o.dst s K) : Out P X s a W o K Q :=
  out_same h (by simp [execOp, ho]) hop (eval_rep h x)
theorem val_pick (h : RelE X E S s a W) {c x y : Operand} (ho : o.op = .pick c x y) (hop : aval P (.pick c x y) o.dst s K) : Out P X s a W o K Q := by
  simp only [aval] at hop
  split at hop
  · rename_i t ht
    have hc := eval_v h ht
    refine out_same h (u := if t = true then a.eval x else a.eval y) (by simp [execOp, ho, hc, asBool]) hop ?_
    cases t
    · exact eval_rep h y
    · exact eval_rep h x
  · exact hop.elim
theorem val_nilCheck (h : RelE X E S s a W) {x : Operand} (ho : o.op = .nilCheck x) (hop : aval P (.nilCheck x) o.dst s K) : Out P X s a W o K Q := by
  simp only [aval] at hop
  have he := eval_rep h x
  split at hop
  · rename_i b off hx
    have hc := eval_ptr h hx
    exact out_same h (u := a.eval x) (by simp [execOp, ho, hc]) hop (by rw [hx] at he; exact he)
  · rename_i cs off hx
    rw [hx] at he
    have : ∃ ad, a.eval x = .pointer (some ad) := by
      revert he; generalize a.eval x = u; intro he; cases he; exact ⟨_, rfl⟩
    obtain ⟨ad, hc⟩ := this
    exact out_same h (u := a.eval x) (by simp [execOp, ho, hc]) hop he
  · exact hop.elim
theorem lift_rep_all (zs : List Value) : ∀ (i : Nat) c u, (zs.map fun x => FV.im (lift x))[i]? = some c → zs[i]? = some u → RepF W S E s.st c u := by
  intro i c u hc hu
  rw [List.getElem?_map, hu] at hc
  simp only [Option.map_some, Option.some.injEq] at hc
  subst hc
  exact Rep.lift W S u
theorem val_alloc (h : RelE X E S s a W) {t : TypeId} (ho : o.op = .alloc t) (hop : aval P (.alloc t) o.dst s K) : Out P X s a W o K Q := by
  simp only [aval] at hop
  split at hop
  · rename_i d hdst
    obtain ⟨hne, hop⟩ := hop
    split at hop
    · rename_i ti hd hti
      have key : ∃ zv : Value, (zeroValue t).run P W = .ok zv W ∧ zv.cells.toList.length = (zeroFV ti).length ∧ (∀ u ∈ zv.cells.toList, u.oneCell' = true) ∧ (∀ (i : Nat) c u, (zeroFV ti)[i]? = some c → zv.cells.toList[i]? = some u → RepF W S E s.st c u) := by
        cases ti with
        | flat z =>
          obtain ⟨dd, i, h1, h2, h3, h4, h5, h6⟩ := ti_flat hti
          have hz : z.cells = #[z] := by cases z <;> first | rfl | cases h5
          refine ⟨z, by simp [zeroValue, typeInfo, h2, h4], by simp [hz, zeroFV], by simp [hz, h5], ?_⟩
          rw [hz]; exact lift_rep_all [z]
        | slice e esz =>
          obtain ⟨i, j, z, h1, h2, h3, h4, _⟩ := ti_slice hti
          refine ⟨.slice none 0 0, by simp [zeroValue, typeInfo, h2, h4], rfl, by simp [Value.cells, Value.oneCell'], ?_⟩
          exact lift_rep_all [.slice none 0 0]
        | struct fs z =>
          obtain ⟨fields, i, h1, h2, h3, h4, h5, h6⟩ := ti_struct hti
          refine ⟨.agg z.toArray, by simp [zeroValue, typeInfo, h2, h3], by simp [Value.cells, zeroFV], fun u hu => by simpa using List.all_eq_true.1 h5 u (by simpa [Value.cells] using hu), ?_⟩
          simpa [Value.cells, zeroFV] using lift_rep_all (W := W) (S := S) (E := E) (s := s) z
      obtain ⟨zv, h1, h2, h3, h4⟩ := key
      have hN := h.newbox hne hd zv.cells.toList (zeroFV ti) t h2 h3 h4
      refine out_run (W' := W.alloc (.cells zv.cells.toList.toArray t)) ?_ hop hN ⟨⟨_, upd_same _ _ _⟩, rfl⟩
      simp [execOp, ho, Instr.alloc, h1, newVar, newRow, upd_same]
    · rename_i hd hti
      split at hop
      · rename_i ar har
        obtain ⟨n, esz, z⟩ := ar
        obtain ⟨e, i, j, h1, h2, h3, h4, h5, _⟩ := arr_of har
        have hN := h.newbox hne hd z (z.map fun x => .im (lift x)) t (by simp) (fun u hu => List.all_eq_true.1 h5 u hu) (lift_rep_all z)
        refine out_run (W' := W.alloc (.cells z.toArray t)) ?_ hop hN ⟨⟨_, upd_same _ _ _⟩, rfl⟩
        simp [execOp, ho, Instr.alloc, zeroValue, typeInfo, h2, h3, newVar, newRow, upd_same, Value.cells]
      · exact hop.elim
    · exact hop.elim
  · exact hop.elim
theorem ok_one (h : RelE X E S s a W) {c : FV} {u : Value} (hc : RepF W S E s.st c u) (h1 : c.ok s.st) : u.oneCell' = true := by
  cases c with
  | junk => exact h1.elim
  | im y => exact Rep.one hc h1
  | ptr b off => rw [hc.2]; rfl
  | pin b p => exact h1.elim
  | own k n =>
    obtain ⟨ty, esz, es, e1, e2, e3⟩ := hc
    simp only [FV.ok, e1] at h1
    rw [e3 h1]
    have ho := h.ob k
    rw [e1] at ho
    obtain ⟨xs, ⟨_, hv⟩, _⟩ := ho
    rcases hv with ⟨hv, _⟩ | ⟨g, cap, cur, hv, _⟩ <;> (rw [hv]; rfl)
theorem val_box (h : RelE X E S s a W) {t : TypeId} {x : Operand} (ho : o.op = .box t x) (hop : aval P (.box t x) o.dst s K) : Out P X s a W o K Q := by
  simp only [aval] at hop
  have he := eval_rep h x
  split at hop
  · rename_i d hdst
    obtain ⟨hne, hop⟩ := hop
    split at hop
    · rename_i cs hd hx
      obtain ⟨h1, hop⟩ := hop
      rw [hx] at he
      revert he
      generalize hu : a.eval x = u
      intro he
      cases he with
      | agg hl hR =>
        rename_i us
        have hN := h.newbox hne hd us (cs.map FV.im) t (by simp [hl]) (fun u hu => by
          obtain ⟨i, hi, rfl⟩ := List.mem_iff_getElem.1 hu
          exact (hR i (cs[i]'(by omega)) us[i] (List.getElem?_eq_getElem _) (List.getElem?_eq_getElem _)).one (List.all_eq_true.1 h1 _ (List.getElem_mem _))) (fun i c u hc hu => by
          rw [List.getElem?_map] at hc
          cases hy : cs[i]? with
          | none => rw [hy] at hc; cases hc
          | some y =>
            rw [hy] at hc
            simp only [Option.map_some, Option.some.injEq] at hc
            subst hc
            exact hR i y u hy hu)
        refine out_run (W' := W.alloc (.cells us.toArray t)) ?_ hop hN ⟨⟨_, upd_same _ _ _⟩, rfl⟩
        simp [execOp, ho, Instr.box, hu, newVar, newRow, Value.cells, upd_same]
    · rename_i c hd _
      obtain ⟨h1, hop⟩ := hop
      have hone : (a.eval x).oneCell' = true := ok_one h he h1
      have hz : (a.eval x).cells = #[a.eval x] := by revert hone; cases a.eval x <;> intro hone <;> first | rfl | cases hone
      have hN := h.newbox hne hd [a.eval x] [valOf s x] t rfl (by simpa using hone) (fun i c u hc hu => by
        cases i with
        | zero => simp only [List.getElem?_cons_zero, Option.some.injEq] at hc hu; subst hc hu; exact he
        | succ i => simp at hc)
      refine out_run (W' := W.alloc (.cells #[a.eval x] t)) ?_ hop hN ⟨⟨_, upd_same _ _ _⟩, rfl⟩
      simp [execOp, ho, Instr.box, newVar, newRow, hz, upd_same]
    · exact hop.elim
  · exact hop.elim
theorem run_load_any (t : TypeId) {ti : TI} (hti : tiOf P t = some ti) (g o : Nat) (us : List Value) (hc : ∀ (j : Nat) u, us[j]? = some u → W.cell? ⟨g, o + j, none⟩ = some u) :
    (∀ fs z, ti = .struct fs z → us.length = z.length → (Instr.loadAt t (.pointer (some ⟨g, o, none⟩))).run P W = .ok (.agg us.toArray) W) ∧
    ((∀ fs z, ti ≠ .struct fs z) → ∀ u, us[0]? = some u → (Instr.loadAt t (.pointer (some ⟨g, o, none⟩))).run P W = .ok u W) := by
  refine ⟨fun fs z e hl => ?_, fun hs u hu => ?_⟩
  · subst e
    obtain ⟨fields, i, h1, h2, h3, h4, _⟩ := ti_struct hti
    have hsz : (sizeOf t).run P W = .ok us.length W := by simp [sizeOf, typeInfo, h2, h4, hl]
    have hag : (isAgg t).run P W = .ok true W := by simp [isAgg, run_underlying h1]
    have := run_loadCells_list (P := P) W ⟨g, o, none⟩ us (fun j v hv => by rw [add_at]; exact hc j v hv)
    simp [Instr.loadAt, Instr.sureAddr, loadVar, hag, hsz, this]
  · obtain ⟨d, i, h1, h2, h3, h4⟩ := ti_one hti hs
    have hag : (isAgg t).run P W = .ok false W := by
      simp only [isAgg, run_underlying h1, Sem.run_bind, Result.andThen_ok]
      cases d <;> first | rfl | cases h4
    have := hc 0 u hu
    simp [Instr.loadAt, Instr.sureAddr, loadVar, hag, load, Sem.run, show W.cell? ⟨g, o, none⟩ = some u from this]
theorem getElem?_seg {α : Type} (l : List α) (o n j : Nat) (x : α) (h : ((l.drop o).take n)[j]? = some x) : l[o + j]? = some x ∧ j < n := by
  have hj : j < n := by
    have := (List.getElem?_eq_some_iff.1 h).1
    rw [List.length_take] at this; omega
  rw [List.getElem?_take_of_lt hj, List.getElem?_drop] at h
  exact ⟨h, hj⟩
theorem aload_rep (h : RelE X E S s a W) {t : TypeId} {cs : List FV} {off : Nat} {K : FV → Prop} (hop : aload s.st (tiOf P t) cs off K) (g o : Nat) (us : List Value) (hl : us.length = cs.length)
    (hc : ∀ (j : Nat) u, us[j]? = some u → W.cell? ⟨g, o + j, none⟩ = some u) (hr : ∀ (i : Nat) c u, cs[i]? = some c → us[i]? = some u → RepF W S E s.st c u) :
    ∃ c u, K c ∧ (Instr.loadAt t (.pointer (some ⟨g, o + off, none⟩))).run P W = .ok u W ∧ RepF W S E s.st c u := by
  unfold aload at hop
  split at hop
  · rename_i fs z hti
    split at hop
    · rename_i xs hxs
      obtain ⟨hxl, hop⟩ := hop
      have hseg : ((us.drop off).take z.length).length = ((cs.drop off).take z.length).length := by simp [hl]
      have hR := allIV_rep h (us := (us.drop off).take z.length) hseg (fun i c u hc1 hu1 => hr (off + i) c u (getElem?_seg _ _ _ _ _ hc1).1 (getElem?_seg _ _ _ _ _ hu1).1) hxs
      refine ⟨_, _, hop, (run_load_any t hti g (o + off) ((us.drop off).take z.length) (fun j u hu => ?_)).1 fs z rfl (by rw [hR.1, hxl]), Rep.agg hR.1 hR.2⟩
      have := hc (off + j) u (getElem?_seg _ _ _ _ _ hu).1
      rwa [← Nat.add_assoc] at this
    · exact hop.elim
  · rename_i ti hns hti
    split at hop
    · rename_i c hcs
      have hlt := (List.getElem?_eq_some_iff.1 hcs).1
      have hu : us[off]? = some (us[off]'(by omega)) := List.getElem?_eq_getElem _
      refine ⟨c, us[off]'(by omega), hop, (run_load_any t hti g (o + off) [us[off]'(by omega)] (fun j u hj => ?_)).2 (fun fs z e => hns fs z e) _ rfl, hr off c _ hcs hu⟩
      cases j with
      | zero =>
        simp only [List.getElem?_cons_zero, Option.some.injEq] at hj
        subst hj
        exact hc off _ hu
      | succ j => simp at hj
    · exact hop.elim
  · exact hop.elim
theorem val_load (h : RelE X E S s a W) {t : TypeId} {x : Operand} (ho : o.op = .load t x) (hop : aval P (.load t x) o.dst s K) : Out P X s a W o K Q := by
  simp only [aval] at hop
  have he := eval_rep h x
  split at hop
  · rename_i b off hx
    have hp := eval_ptr h hx
    split at hop
    · rename_i cs hst
      have hob := h.ob b
      rw [hst] at hob
      obtain ⟨⟨us, hl, hB, h1, hr, hS⟩, _⟩ := hob
      obtain ⟨c, u, hK, hrun, hc⟩ := aload_rep h hop (E.box b) 0 us hl (fun j u hu => by rw [Nat.zero_add]; exact hB.cell j u hu) hr
      rw [Nat.zero_add] at hrun
      exact out_same h (u := u) (by simp [execOp, ho, hp, hrun]) hK hc
    · exact hop.elim
  · rename_i cs off hx
    rw [hx] at he
    revert he
    generalize hu : a.eval x = w
    intro he
    cases he with
    | elt g oo f h1 hA hR =>
      obtain ⟨c, u, hK, hrun, hc⟩ := aload_rep h hop g oo ((List.range cs.length).map f) (by simp) (fun j u hj => by
        have hlt := (List.getElem?_eq_some_iff.1 hj).1
        simp only [List.length_map, List.length_range] at hlt
        rw [List.getElem?_map, List.getElem?_range hlt] at hj
        simp only [Option.map_some, Option.some.injEq] at hj
        subst hj
        exact (hA j hlt).2) (fun i c u hc hu => by
        have hlt := (List.getElem?_eq_some_iff.1 hu).1
        simp only [List.length_map, List.length_range] at hlt
        rw [List.getElem?_map, List.getElem?_range hlt] at hu
        simp only [Option.map_some, Option.some.injEq] at hu
        subst hu
        rw [List.getElem?_map] at hc
        cases hy : cs[i]? with
        | none => rw [hy] at hc; cases hc
        | some y =>
          rw [hy] at hc
          simp only [Option.map_some, Option.some.injEq] at hc
          subst hc
          exact hR i y hy)
      exact out_same h (u := u) (by simp [execOp, ho, hu, hrun]) hK hc
  · exact hop.elim
theorem setCells_heap (g : Nat) : ∀ (vs : List Value) (o : Nat) (w : World), (w.setCells g o vs).heap.size = w.heap.size ∧ (∀ k, k ≠ g → (w.setCells g o vs).heap[k]? = w.heap[k]?) ∧ (w.setCells g o vs).os = w.os ∧ (w.setCells g o vs).tape = w.tape ∧ (w.setCells g o vs).output = w.output
  | [], _, w => ⟨rfl, fun _ _ => rfl, rfl, rfl, rfl⟩
  | v :: r, o, w => by
    obtain ⟨h1, h2, h3, h4, h5⟩ := setCells_heap g r (o + 1) (w.setCell ⟨g, o, none⟩ v)
    rw [World.setCells]
    exact ⟨by rw [h1]; simp, fun k hk => (h2 k hk).trans (Below.heap_setCell w ⟨g, o, none⟩ v k hk), h3, h4, h5⟩
theorem seg_get {α : Type} (l : List α) (o : Nat) (xs : List α) (hl : o + xs.length ≤ l.length) (i : Nat) : (setSeg l o xs)[i]? = if i < o then l[i]? else if i < o + xs.length then xs[i - o]? else l[i]? := by
  unfold setSeg
  have h1 : (l.take o).length = o := by rw [List.length_take]; omega
  by_cases hi : i < o
  · rw [if_pos hi, List.getElem?_append_left (by omega), List.getElem?_take_of_lt hi]
  · rw [if_neg hi, List.getElem?_append_right (by omega), h1]
    by_cases h2 : i < o + xs.length
    · rw [if_pos h2, List.getElem?_append_left (by omega)]
    · rw [if_neg h2, List.getElem?_append_right (by omega), List.getElem?_drop]; congr 1; omega
theorem seg_len {α : Type} (l : List α) (o : Nat) (xs : List α) (hl : o + xs.length ≤ l.length) : (setSeg l o xs).length = l.length := by
  unfold setSeg; simp; omega
theorem Box.setCells {w : World} {g o : Nat} {us vs : List Value} (h : Box w g us) (ho : o + vs.length ≤ us.length) : Box (w.setCells g o vs) g (setSeg us o vs) := by
  have hs : ∀ j, j < vs.length → (w.cell? ⟨g, o + j, none⟩).isSome = true := fun j hj => by rw [h.cell (o + j) _ (List.getElem?_eq_getElem (by omega))]; rfl
  refine ⟨fun i v hv => ?_, fun i => by rw [World.frozen?_setCells]; exact h.froz i, by rw [(setCells_heap g vs o w).1]; exact h.lt⟩
  rw [seg_get us o vs ho] at hv
  split at hv
  · rename_i hi
    rw [World.cell?_setCells_out g vs o w ⟨g, i, none⟩ (fun _ _ => Or.inl hi)]; exact h.cell i v hv
  · split at hv
    · rename_i h1 h2
      have := World.cell?_setCells_in g vs o w hs (i - o) (by omega)
      rw [show o + (i - o) = i by omega] at this
      rw [this, ← hv, List.getElem?_eq_getElem]
    · rw [World.cell?_setCells_out g vs o w ⟨g, i, none⟩ (fun _ _ => Or.inr (by show o + vs.length ≤ i; omega))]; exact h.cell i v hv
theorem RelE.setbox (h : RelE X E S s a W) {b off : Nat} {cs xs : List FV} {vs : List Value} (hst : s.st b = .box cs) (ho : off + xs.length ≤ cs.length) (hl : vs.length = xs.length) (h1 : ∀ u ∈ vs, u.oneCell' = true)
    (hr : ∀ (i : Nat) c u, xs[i]? = some c → vs[i]? = some u → RepF W S E s.st c u) : RelE X E S ⟨s.fr, upd s.st b (.box (setSeg cs off xs))⟩ a (W.setCells (E.box b) off vs) := by
  have hob := h.ob b
  rw [hst] at hob
  obtain ⟨⟨us, hul, hB, hu1, hur, hS⟩, hloc⟩ := hob
  obtain ⟨e1, e2, e3, e4, e5⟩ := setCells_heap (E.box b) vs off W
  have hcell : ∀ g o, S g o → (W.setCells (E.box b) off vs).cell? ⟨g, o, none⟩ = W.cell? ⟨g, o, none⟩ := fun g o hg => cell_block (e2 g (fun e => hS o (e ▸ hg)))
  have hF : ∀ c u, RepF W S E s.st c u → RepF (W.setCells (E.box b) off vs) S E (upd s.st b (.box (setSeg cs off xs))) c u := by
    intro c u hc
    cases c with
    | junk => trivial
    | im x => exact Rep.keep hc hcell (fun _ _ h => h)
    | own k n =>
      obtain ⟨t, z, es, f1, f2⟩ := hc
      exact ⟨t, z, es, by rw [upd_ne _ _ (fun e => by subst e; rw [hst] at f1; cases f1)]; exact f1, f2⟩
    | ptr b' off' =>
      obtain ⟨⟨cs', f1⟩, f2⟩ := hc
      refine ⟨?_, f2⟩
      by_cases hb : b' = b
      · subst hb; exact ⟨_, upd_same _ _ _⟩
      · exact ⟨cs', by rw [upd_ne _ _ hb]; exact f1⟩
    | pin b' p' =>
      obtain ⟨⟨cs', f1⟩, f2⟩ := hc
      refine ⟨?_, f2⟩
      by_cases hb : b' = b
      · subst hb; exact ⟨_, upd_same _ _ _⟩
      · exact ⟨cs', by rw [upd_ne _ _ hb]; exact f1⟩
  refine h.core (· = b) _ E S _ (fun j hj => ⟨upd_ne _ _ hj, rfl, rfl⟩) rfl (fun j hj => ?_) e3 e4 e5 (by omega) (fun g _ hne => e2 g (fun e => hne b rfl (by rw [hst]; exact congrArg some e.symm))) hcell (fun _ _ h => h) (fun g o h => Or.inl h) (fun g o hg => by rw [e1]; exact h.Sb g o hg) (fun j hj => ?_) (fun j g hj hg => ?_) (fun i j g hi hj _ _ => hi.trans hj.symm)
  · subst hj; rw [hst, upd_same]; exact ⟨⟨_, rfl⟩, rfl⟩
  · subst hj
    rw [upd_same]
    refine ⟨⟨setSeg us off vs, by rw [seg_len _ _ _ (by omega), seg_len _ _ _ ho, hul], hB.setCells (by omega), fun u hu => ?_, fun i c u hc hu => hF c u ?_, hS⟩, hloc⟩
    · obtain ⟨i, hi⟩ := List.mem_iff_getElem?.1 hu
      rw [seg_get us off vs (by omega)] at hi
      repeat' split at hi
      · exact hu1 u (List.mem_of_getElem? hi)
      · exact h1 u (List.mem_of_getElem? hi)
      · exact hu1 u (List.mem_of_getElem? hi)
    · rw [seg_get us off vs (by omega), hl] at hu
      rw [seg_get cs off xs ho] at hc
      by_cases g1 : i < off
      · rw [if_pos g1] at hc hu; exact hur i c u hc hu
      · rw [if_neg g1] at hc hu
        by_cases g2 : i < off + xs.length
        · rw [if_pos g2] at hc hu; exact hr _ c u hc hu
        · rw [if_neg g2] at hc hu; exact hur i c u hc hu
  · subst hj
    rw [upd_same] at hg
    rw [hst]
    exact Or.inl hg
theorem run_store_any (t : TypeId) {i : TypeInfo} (hi : P.info? t = some i) (b off : Nat) (u : Value) {us : List Value} (hB : Box W b us) (hsz : i.size = u.cells.size) (ho : off + u.cells.size ≤ us.length) (h1 : ∀ v ∈ u.cells.toList, v.oneCell' = true) :
    (Instr.storeAt t (.pointer (some ⟨b, off, none⟩)) u).run P W = .ok () (W.setCells b off u.cells.toList) := by
  have hl : u.cells.toList.length = u.cells.size := by simp
  have hz : (sizeOf t).run P W = .ok u.cells.size W := by simp [sizeOf, typeInfo, hi, hsz]
  have := run_storeCells_cells (P := P) b off u.cells.toList 0 W (fun j hj => by rw [Nat.add_zero, hB.cell (off + j) _ (List.getElem?_eq_getElem (by omega))]; rfl) (fun j _ => hB.froz _) h1
  rw [Nat.add_zero] at this
  simp [Instr.storeAt, Instr.sureAddr, storeVar, hz, this]
theorem store_agg (h : RelE X E S s a W) {t : TypeId} {x y : Operand} (ho : o.op = .store t x y) {b off : Nat} {cs : List FV} {xs : List IV} {i : TypeInfo} (hx : valOf s x = .ptr b off) (hst : s.st b = .box cs) (hy : valOf s y = .im (.agg xs)) (i2 : P.info? t = some i) (i4 : i.size = xs.length)
    (g2 : off + xs.length ≤ cs.length) (g3 : xs.all IV.one = true) (hK : K .junk (upd s.st b (.box (setSeg cs off (xs.map FV.im))))) : Out P X s a W o K Q := by
  have he := eval_rep h y
  have hp := eval_ptr h hx
  have hob := h.ob b
  rw [hst] at hob
  obtain ⟨⟨us, hul, hB, hu1, hur, hS⟩, hloc⟩ := hob
  rw [hy] at he
  revert he
  generalize hu : a.eval y = w
  intro he
  cases he with
  | agg hl hR =>
    rename_i vs
    have hone : ∀ u ∈ vs, u.oneCell' = true := fun u hu => by
      obtain ⟨k, hk, rfl⟩ := List.mem_iff_getElem.1 hu
      exact (hR k (xs[k]'(by omega)) vs[k] (List.getElem?_eq_getElem _) (List.getElem?_eq_getElem _)).one (List.all_eq_true.1 g3 _ (List.getElem_mem _))
    have hrun := run_store_any (P := P) t i2 (E.box b) off (.agg vs.toArray) hB (by simp [Value.cells, i4, hl]) (by simp [Value.cells]; omega) (by simpa [Value.cells] using hone)
    have hN := h.setbox (off := off) (xs := xs.map FV.im) (vs := vs) hst (by simp; omega) (by simp [hl]) hone (fun k c u hc hu => by
      rw [List.getElem?_map] at hc
      cases hq : xs[k]? with
      | none => rw [hq] at hc; cases hc
      | some q =>
        rw [hq] at hc
        simp only [Option.map_some, Option.some.injEq] at hc
        subst hc
        exact hR k q u hq hu)
    refine out_skip (W' := W.setCells (E.box b) off vs) ?_ hK hN trivial
    simp only [Value.cells] at hrun
    simp [execOp, ho, hp, hu, hrun]
theorem val_store (h : RelE X E S s a W) {t : TypeId} {x y : Operand} (ho : o.op = .store t x y) (hop : aval P (.store t x y) o.dst s K) : Out P X s a W o K Q := by
  simp only [aval] at hop
  have he := eval_rep h y
  split at hop
  · rename_i b off hx
    have hp := eval_ptr h hx
    split at hop
    · rename_i cs hst
      have hob := h.ob b
      rw [hst] at hob
      obtain ⟨⟨us, hul, hB, hu1, hur, hS⟩, hloc⟩ := hob
      split at hop
      · rename_i fs z hti
        split at hop
        · rename_i xs hy
          obtain ⟨⟨g1, g2, g3⟩, hK⟩ := hop
          obtain ⟨fields, i, i1, i2, i3, i4, _⟩ := ti_struct hti
          exact store_agg h ho hx hst hy i2 (by omega) (by omega) g3 hK
        · exact hop.elim
      · rename_i ti hns hti
        obtain ⟨⟨g1, g2⟩, hK⟩ := hop
        obtain ⟨d, i, i1, i2, i3, i4⟩ := ti_one hti (fun fs z e => hns fs z e)
        have hone := ok_one h he g2
        have hz : (a.eval y).cells = #[a.eval y] := by revert hone; cases a.eval y <;> intro hone <;> first | rfl | cases hone
        have hrun := run_store_any (P := P) t i2 (E.box b) off (a.eval y) hB (by simp [hz, i3]) (by simp [hz]; omega) (by simpa [hz] using hone)
        have hN := h.setbox (off := off) (xs := [valOf s y]) (vs := [a.eval y]) hst (by simp; omega) rfl (by simpa using hone) (fun k c u hc hu => by
          cases k with
          | zero => simp only [List.getElem?_cons_zero, Option.some.injEq] at hc hu; subst hc hu; exact he
          | succ k => simp at hc)
        have hset : setSeg cs off [valOf s y] = cs.set off (valOf s y) := by
          apply List.ext_getElem?
          intro k
          rw [seg_get cs off _ (by simp; omega), List.getElem?_set]
          simp only [List.length_singleton]
          by_cases k1 : k < off
          · rw [if_pos k1, if_neg (by omega)]
          · rw [if_neg k1]
            by_cases k2 : k < off + 1
            · obtain rfl : k = off := by omega
              rw [if_pos k2, if_pos rfl, if_pos g1, Nat.sub_self]; rfl
            · rw [if_neg k2, if_neg (by omega)]
        rw [hset] at hN
        refine out_skip (W' := W.setCells (E.box b) off [a.eval y]) ?_ hK hN trivial
        rw [hz] at hrun
        simp [execOp, ho, hp, hrun]
      · split at hop
        · rename_i ar xs har hy
          obtain ⟨n, esz, z⟩ := ar
          obtain ⟨⟨g1, g2, g3⟩, hK⟩ := hop
          obtain ⟨e, i, j, h1, h2, h3, h4, _⟩ := arr_of har
          dsimp only at g1 g2
          exact store_agg h ho hx hst hy h2 (by omega) (by omega) g3 hK
        · exact hop.elim
    · exact hop.elim
  · exact hop.elim
end
end Go.Proofs.YtnhnpahoppbniaaDoor
namespace Th
open Go Go.Lib
theorem skip_cons (L : List UInt8) (j : Nat) (c : UInt8) (h : L[j]? = some c) : skipA L j = j + (if blankC c = true ∨ c = 35 then 1 + skipN (decide (c = 35)) (L.drop (j + 1)) else 0) := by
  obtain ⟨hl, he⟩ := List.getElem?_eq_some_iff.1 h
  unfold skipA
  rw [List.drop_eq_getElem_cons hl, he]
  simp only [skipN]
  congr 1
  by_cases h2 : blankC c = true ∨ c = 35
  · rw [if_pos (by rcases h2 with h2 | h2 <;> simp [h2]), if_pos h2]
    congr 2
    by_cases h3 : c = 35
    · subst h3; rfl
    · simp [h3]
  · rw [if_neg (fun h => h2 (by rcases h with h | h; cases h; exact h)), if_neg h2]
theorem skip_blank {L : List UInt8} {j : Nat} {c : UInt8} (h : L[j]? = some c) (hb : blankC c = true) : skipA L j = skipA L (j + 1) := by
  have h35 : ¬ c = 35 := by rintro rfl; cases hb
  rw [skip_cons L j c h, if_pos (Or.inl hb), decide_eq_false h35]
  unfold skipA
  omega
theorem skip_stop {L : List UInt8} {j : Nat} {c : UInt8} (h : L[j]? = some c) (hb : blankC c = false) (h35 : c ≠ 35) : skipA L j = j := by
  rw [skip_cons L j c h, if_neg (by rw [hb]; exact fun h => h.elim (fun h => by cases h) h35)]; omega
theorem skip_end {L : List UInt8} {j : Nat} (h : j = L.length) : skipA L j = j := by
  unfold skipA; rw [h, List.drop_length]; rfl
theorem note_none : ∀ l : List UInt8, indexByte l 10 < 0 → skipN true l = l.length
  | [], _ => rfl
  | c :: r, h => by
    by_cases hc : c = 10
    · subst hc; simp [indexByte] at h
    · have h2 : indexByte r 10 < 0 := by
        simp only [indexByte] at h
        rw [if_neg (by simpa using hc)] at h
        split at h
        · rename_i hh; rw [beq_iff_eq] at hh; omega
        · omega
      simp only [skipN, true_or, if_true, List.length_cons]
      rw [decide_eq_true ⟨trivial, hc⟩, note_none r h2]; omega
theorem note_some : ∀ (l : List UInt8) (n : Nat), indexByte l 10 = n → skipN true l = n + skipN false (l.drop n) ∧ n < l.length
  | [], n, h => by simp [indexByte] at h
  | c :: r, n, h => by
    by_cases hc : c = 10
    · subst hc
      have hn : n = 0 := by simp [indexByte] at h; omega
      subst hn
      simp [skipN, blankC]
    · simp only [indexByte] at h
      rw [if_neg (by simpa using hc)] at h
      split at h
      · omega
      · rename_i hh
        rw [beq_iff_eq] at hh
        have hge := indexByte_ge r 10
        obtain ⟨m, rfl⟩ : ∃ m, n = m + 1 := ⟨n - 1, by omega⟩
        obtain ⟨h1, h2⟩ := note_some r m (by omega)
        simp only [skipN, true_or, if_true, List.length_cons, List.drop_succ_cons]
        rw [decide_eq_true ⟨trivial, hc⟩, h1]
        omega
end Th
namespace Go.Proofs.YtnhnpahoppbniaaDoor
open Go Go.RowKit Go.Proofs Th
attribute [local go_sem] Above.cell
theorem newl_byte (s : ByteArray) (j : Nat) (_hj : j ≤ s.size) (w : World) : Calls Tryd.prog 28 #[.string (s.extract j s.size), .int .u8 10] w fun r w' => r = .returned (.int .i64 (Lib.indexByte (s.data.toList.drop j) 10)) ∧ w' = w := by
  have h := Tryd.strings_IndexByte (s.extract j s.size) 10 w
  rw [bx_to] at h
  exact h
theorem blank_cases {c : UInt8} (h : blankC c = true) : (c.toNat : Int) = 32 ∨ (c.toNat : Int) = 9 ∨ (c.toNat : Int) = 10 ∨ (c.toNat : Int) = 13 := by
  unfold blankC at h
  simp only [Bool.or_eq_true, decide_eq_true_eq] at h
  omega
theorem blank_not {c : UInt8} (h : blankC c = false) : ¬ (c.toNat : Int) = 32 ∧ ¬ (c.toNat : Int) = 9 ∧ ¬ (c.toNat : Int) = 10 ∧ ¬ (c.toNat : Int) = 13 := by
  unfold blankC at h
  simp only [Bool.or_eq_false_iff, decide_eq_false_iff_not] at h
  omega
structure ScP (W0 W : World) (p : Nat) (s : ByteArray) (j : Nat) : Prop where
  b : Box W p [.string s, .int .i64 j]
  u : Upd p W0 W
theorem ScP.above {W0 W W2 : World} {p : Nat} {s : ByteArray} {j : Nat} (h : ScP W0 W p s j) (hb : Below W.heap.size W W2) : ScP W0 W2 p s j := ⟨h.b.below hb h.b.lt, h.u.trans (Upd.of hb)⟩
theorem ScP.set {W0 W : World} {p : Nat} {s : ByteArray} {j : Nat} (h : ScP W0 W p s j) (k : Nat) (z : Int) (hz : z = k) : ScP W0 (W.setCell ⟨p, 1, none⟩ (.int .i64 z)) p s k := by
  subst hz
  exact ⟨h.b.set (i := 1) (by simp) (.int .i64 k), h.u.trans (Upd.set p 1 W _)⟩
set_option maxRecDepth 100000 in
set_option maxHeartbeats 4000000 in
theorem tok_skip (p : Nat) (s : ByteArray) (a : Nat) (hs : s.size ≤ 1000000) (ha : a ≤ s.size) (w : World) (hB : Box w p [.string s, .int .i64 a]) :
    Calls Tryd.prog 18 #[.pointer (some ⟨p, 0, none⟩)] w fun r w' => r = .returned (.tuple #[]) ∧ ScP w w' p s (skipA s.data.toList a) := by
  have HL := Keep.mk (size_listU s)
  have HA := Keep.mk (fun j h => at_some s j h)
  go_enter Tryd.func18, Tryd.ntmps18
  go_wp2_with fail
  go_loopg [] (s.size - a) (fun gk wr => ∃ j : Nat, j + gk = s.size ∧ Keep (ScP w wr p s j) ∧ Keep (skipA s.data.toList j = skipA s.data.toList a))
  case atStart => exact ⟨a, by omega, ⟨⟨hB, Upd.refl p w⟩⟩, ⟨rfl⟩⟩
  case round =>
    clear hB ha
    obtain ⟨j, hj, HS, HK⟩ := hrel
    have p0 := HS.out.b.cell 0 _ rfl
    have p1 := HS.out.b.cell 1 _ rfl
    have pf := HS.out.b.froz 1
    have pl := HS.out.b.lt
    by_cases hlt : j < s.size
    · have hgk : gk ≠ 0 := by omega
      have hat := HA.out j hlt
      go_wp2_with fail
      refine wp_region_above (by kernel_rfl) (by kernel_rfl) ?_
      repeat (go_big_quiet_step (fail))
      refine wpQuiet_nil ?_
      rintro W2 ⟨z, hz⟩
      replace HS := Keep.mk (hz ▸ HS.out.above z.property)
      clear p0 p1 pf pl
      clear hz z
      have p0 := HS.out.b.cell 0 _ rfl
      have p1 := HS.out.b.cell 1 _ rfl
      have pf := HS.out.b.froz 1
      have pl := HS.out.b.lt
      go_wp2_with fail
      refine wp_region_above (by kernel_rfl) (by kernel_rfl) ?_
      repeat (go_big_quiet_step (fail))
      refine wpQuiet_nil ?_
      rintro W2 ⟨z, hz⟩
      replace HS := Keep.mk (hz ▸ HS.out.above z.property)
      clear p0 p1 pf pl
      clear hz z
      have p0 := HS.out.b.cell 0 _ rfl
      have p1 := HS.out.b.cell 1 _ rfl
      have pf := HS.out.b.froz 1
      have pl := HS.out.b.lt
      cases hb : blankC s[j]
      · obtain ⟨f1, f2, f3, f4⟩ := blank_not hb
        by_cases h35 : s[j] = 35
        · have f5 : (s[j].toNat : Int) = 35 := by rw [h35]; rfl
          have hidx : ∃ zi : Int, Lib.indexByte (s.data.toList.drop j) 10 = zi := ⟨_, rfl⟩
          obtain ⟨zi, hzi⟩ := hidx
          have HC := Keep.mk (fun (z : Above W2) => calls_same (newl_byte s j (by omega) z.val))
          rw [hzi] at HC
          have hge := Lib.indexByte_ge (s.data.toList.drop j) 10
          rw [hzi] at hge
          have hsk := skip_cons s.data.toList j s[j] hat
          rw [h35, if_pos (Or.inr rfl), decide_eq_true rfl] at hsk
          have hdr : s.data.toList.drop j = s[j] :: s.data.toList.drop (j + 1) := by
            obtain ⟨hl, he⟩ := List.getElem?_eq_some_iff.1 hat
            rw [List.drop_eq_getElem_cons hl, he]
          have hix : Lib.indexByte (s.data.toList.drop j) 10 = if Lib.indexByte (s.data.toList.drop (j + 1)) 10 == -1 then -1 else Lib.indexByte (s.data.toList.drop (j + 1)) 10 + 1 := by
            rw [hdr, h35]; rfl
          have hge1 := Lib.indexByte_ge (s.data.toList.drop (j + 1)) 10
          go_wp2_with fail
          refine wp_region_above (by kernel_rfl) (by kernel_rfl) ?_
          repeat (go_big_quiet_step ((go_at_call 28; exact calls_above (HC.out _))))
          refine wpQuiet_nil ?_
          rintro W2 ⟨z, hz⟩
          replace HS := Keep.mk (hz ▸ HS.out.above z.property)
          clear p0 p1 pf pl
          clear hz z
          have p0 := HS.out.b.cell 0 _ rfl
          have p1 := HS.out.b.cell 1 _ rfl
          have pf := HS.out.b.froz 1
          have pl := HS.out.b.lt
          by_cases hz0 : zi < 0
          · have HE := Keep.mk (show skipA s.data.toList s.size = skipA s.data.toList a by
              have h1 : Lib.indexByte (s.data.toList.drop (j + 1)) 10 < 0 := by
                rw [hzi] at hix
                split at hix
                · rename_i h; rw [beq_iff_eq] at h; omega
                · omega
              have h2 := note_none _ h1
              rw [h2, List.length_drop, HL.out] at hsk
              rw [skip_end HL.out.symm, ← HK.out, hsk]
              omega)
            clear hzi hge hsk hdr hix hge1 hat hb h35 HC
            go_wp2_with fail
            refine wp_region_above (by kernel_rfl) (by kernel_rfl) ?_
            repeat (go_big_quiet_step (fail))
            refine wpQuiet_nil ?_
            rintro W2 ⟨z, hz⟩
            replace HS := Keep.mk (hz ▸ HS.out.above z.property)
            clear p0 p1 pf pl
            clear hz z
            have p0 := HS.out.b.cell 0 _ rfl
            have p1 := HS.out.b.cell 1 _ rfl
            have pf := HS.out.b.froz 1
            have pl := HS.out.b.lt
            go_wp2
            go_roundg 0
            case rel => exact ⟨s.size, by omega, ⟨HS.out.set s.size _ (by omega)⟩, HE⟩
            case measure => omega
          · obtain ⟨n, rfl⟩ : ∃ n : Nat, zi = n := ⟨zi.toNat, by omega⟩
            have h1 : Lib.indexByte (s.data.toList.drop (j + 1)) 10 = ((n - 1 : Nat) : Int) ∧ 1 ≤ n := by
              rw [hzi] at hix
              split at hix
              · omega
              · rename_i h; rw [beq_iff_eq] at h; omega
            obtain ⟨h2, h3⟩ := note_some _ _ h1.1
            rw [List.length_drop, HL.out] at h3
            have h4 := h1.2
            have HE := Keep.mk (show skipA s.data.toList (j + n) = skipA s.data.toList a by
              rw [← HK.out, hsk, h2, List.drop_drop]
              unfold skipA
              rw [show j + 1 + (n - 1) = j + n from by omega]
              omega)
            clear hzi hge hsk hdr hix hge1 hat hb h35 HC h1 h2
            go_wp2
            go_roundg (gk - n)
            case rel => exact ⟨j + n, by omega, ⟨HS.out.set (j + n) _ (by omega)⟩, HE⟩
            case measure => omega
        · have f5 : ¬ (s[j].toNat : Int) = 35 := fun h => h35 (UInt8.toNat_inj.1 (by show s[j].toNat = 35; omega))
          have HE := Keep.mk (HK.out.symm.trans (skip_stop hat hb h35))
          clear hb hat h35
          go_wp2
          refine bodyPost_ret (results_none rfl _ _ _) rfl ⟨rfl, ?_⟩
          rw [HE.out]; exact HS.out
      · have HE := Keep.mk ((skip_blank hat hb).symm.trans HK.out)
        clear hat
        rcases blank_cases hb with f1 | f1 | f1 | f1
        all_goals (
          clear hb
          go_wp2
          go_roundg (gk - 1)
          case rel => exact ⟨j + 1, by omega, ⟨HS.out.set (j + 1) _ (by omega)⟩, HE⟩
          case measure => omega)
    · have HE := Keep.mk (HK.out.symm.trans (skip_end (by rw [HL.out]; omega)))
      go_wp2_with fail
      refine wp_region_above (by kernel_rfl) (by kernel_rfl) ?_
      repeat (go_big_quiet_step (fail))
      refine wpQuiet_nil ?_
      rintro W2 ⟨z, hz⟩
      replace HS := Keep.mk (hz ▸ HS.out.above z.property)
      clear p0 p1 pf pl
      clear hz z
      have p0 := HS.out.b.cell 0 _ rfl
      have p1 := HS.out.b.cell 1 _ rfl
      have pf := HS.out.b.froz 1
      have pl := HS.out.b.lt
      go_wp2
      go_end0
      exact ⟨rfl, by rw [HE.out]; exact HS.out⟩
end Go.Proofs.YtnhnpahoppbniaaDoor
