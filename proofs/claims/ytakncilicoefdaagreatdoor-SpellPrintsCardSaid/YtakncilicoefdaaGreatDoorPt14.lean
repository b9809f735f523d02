/- Lemmas and contracts. Conditions: those that each lemma names. -/
import Derived.Test.YtakncilicoefdaaGreatDoorPt13
set_option maxRecDepth 100000
set_option maxHeartbeats 4000000
namespace Go.Proofs.YtakncilicoefdaaGreatDoor
open Go Go.RowKit Go.Proofs Th
section
variable {P : Program} {X : Ctx} {E : AEnv} {S : CS} {s : ASt} {a : Act} {W : World} {o : Oper} {K : FV → (Nat → AObj) → Prop} {Q : Exit → Act → World → Prop}
theorem Cz {x u : Value} (h : Rep W S (.v x) u) : u = x := by cases h; rfl
theorem BJ (h : RelE X E S s a W) {x : Operand} {u : Value} (hx : Aw s x = .im (.v u)) : a.eval x = u := by
 have := A5 h x; rw [hx] at this; exact Cz this
theorem Cl (h : RelE X E S s a W) {x : Operand} {b off : Nat} (hx : Aw s x = .ptr b off) : a.eval x = .pointer (some ⟨E.box b, off, none⟩) := by
 have := A5 h x; rw [hx] at this; exact this.2
theorem RelE.newbox (h : RelE X E S s a W) {d : Nat} (h1000 : d ≠ 1000) (hd : s.st d = .none) (us : List Value) (cs : List FV) (ty : TypeId) (hl : us.length = cs.length) (h1 : ∀ u ∈ us, u.oneCell' = true)
  (hr : ∀ (i : Nat) c u, cs[i]? = some c → us[i]? = some u → Bv W S E s.st c u) : RelE X { E with box := upd E.box d W.heap.size } S ⟨s.fr, upd s.st d (.box cs)⟩ a (W.alloc (.cells us.toArray ty)) := by
 have hb := al1 W (.cells us.toArray ty); have hsz : (W.alloc (.cells us.toArray ty)).heap.size = W.heap.size + 1 := by simp
 have hcell : ∀ g o, S g o → (W.alloc (.cells us.toArray ty)).cell? ⟨g, o, none⟩ = W.cell? ⟨g, o, none⟩ := fun g o ho => hb.cell (p := ⟨g, o, none⟩) (h.Sb g o ho)
 have hF : ∀ c u, Bv W S E s.st c u → Bv (W.alloc (.cells us.toArray ty)) S { E with box := upd E.box d W.heap.size } (upd s.st d (.box cs)) c u := by
  intro c u hc; cases c with
  | junk => trivial
  | im x => exact Rep.keep hc hcell (fun _ _ h => h)
  | own k n =>
   obtain ⟨t, z, es, e1, e2⟩ := hc; exact ⟨t, z, es, by rw [BD _ _ (fun e => by subst e; rw [hd] at e1; cases e1)]; exact e1, e2⟩
  | ptr b off =>
   obtain ⟨⟨cs', e1⟩, e2⟩ := hc; have hne : b ≠ d := fun e => by subst e; rw [hd] at e1; cases e1
   exact ⟨⟨cs', by rw [BD _ _ hne]; exact e1⟩, by rw [e2]; simp only [BD _ _ hne]⟩
  | pin b p =>
   obtain ⟨⟨cs', e1⟩, e2⟩ := hc; have hne : b ≠ d := fun e => by subst e; rw [hd] at e1; cases e1
   exact ⟨⟨cs', by rw [BD _ _ hne]; exact e1⟩, by simp only [BD _ _ hne]; exact e2⟩
 refine h.core (· = d) _ _ S _ (fun j hj => ⟨BD _ _ hj, BD _ _ hj, rfl⟩) (BD _ _ (Ne.symm h1000)) (fun j hj => ?_) rfl rfl rfl (by omega) (fun g hg _ => hb.block g hg) hcell (fun _ _ h => h) (fun g o h => Or.inl h) (fun g o ho => by have := h.Sb g o ho; omega) (fun j hj => ?_) (fun j g hj hg => ?_) (fun i j g hi hj _ _ => hi.trans hj.symm)
 ·subst hj; rw [hd]; trivial
 ·subst hj
  rw [AK]; refine ⟨⟨us, hl, ?_, h1, fun i c u hc hu => hF c u (hr i c u hc hu), fun o ho => ?_⟩, Or.inr ?_⟩
  ·simp only [AK]; exact Box.new us ty rfl
  ·simp only [AK] at ho; exact absurd (h.Sb _ _ ho) (by omega)
  simp only [AK]; exact h.u.size
 subst hj; rw [AK] at hg; simp only [blk, AK, Option.some.injEq] at hg; exact Or.inr (by omega)
theorem SN (h : RelE X E S s a W) {x : Operand} (ho : o.op = .move x) (hop : Az P (.move x) o.dst s K) : Out P X s a W o K Q :=
 AZ h (by simp [execOp, ho]) hop (A5 h x)
theorem Qg (h : RelE X E S s a W) {x : Operand} (ho : o.op = .assign x) (hop : Az P (.assign x) o.dst s K) : Out P X s a W o K Q :=
 AZ h (by simp [execOp, ho]) hop (A5 h x)
theorem Tz (h : RelE X E S s a W) {c x y : Operand} (ho : o.op = .pick c x y) (hop : Az P (.pick c x y) o.dst s K) : Out P X s a W o K Q := by
 simp only [Az] at hop; split at hop
 ·rename_i t ht
  have hc := BJ h ht; refine AZ h (u := if t = true then a.eval x else a.eval y) (by simp [execOp, ho, hc, asBool]) hop ?_; cases t
  ·exact A5 h y
  exact A5 h x
 exact hop.elim
theorem MU (h : RelE X E S s a W) {x : Operand} (ho : o.op = .nilCheck x) (hop : Az P (.nilCheck x) o.dst s K) : Out P X s a W o K Q := by
 simp only [Az] at hop; have he := A5 h x; split at hop
 ·rename_i b off hx
  have hc := Cl h hx; exact AZ h (u := a.eval x) (by simp [execOp, ho, hc]) hop (by rw [hx] at he; exact he)
 ·rename_i cs off hx
  rw [hx] at he; have : ∃ ad, a.eval x = .pointer (some ad) := by
   revert he; generalize a.eval x = u; intro he; cases he; exact ⟨_, rfl⟩
  obtain ⟨ad, hc⟩ := this; exact AZ h (u := a.eval x) (by simp [execOp, ho, hc]) hop he
 exact hop.elim
theorem Er (zs : List Value) : ∀ (i : Nat) c u, (zs.map fun x => FV.im (lift x))[i]? = some c → zs[i]? = some u → Bv W S E s.st c u := by
 intro i c u hc hu; rw [List.getElem?_map, hu] at hc; simp only [Option.map_some, Option.some.injEq] at hc; subst hc; exact FB W S u
theorem Rg (h : RelE X E S s a W) {t : TypeId} (ho : o.op = .alloc t) (hop : Az P (.alloc t) o.dst s K) : Out P X s a W o K Q := by
 simp only [Az] at hop; split at hop
 ·rename_i d hdst
  obtain ⟨hne, hop⟩ := hop; split at hop
  ·rename_i ti hd hti
   have key : ∃ zv : Value, (zeroValue t).run P W = .ok zv W ∧ zv.cells.toList.length = (En ti).length ∧ (∀ u ∈ zv.cells.toList, u.oneCell' = true) ∧ (∀ (i : Nat) c u, (En ti)[i]? = some c → zv.cells.toList[i]? = some u → Bv W S E s.st c u) := by
    cases ti with
    | flat z =>
     obtain ⟨dd, i, h1, h2, h3, h4, h5, h6⟩ := OX hti; have hz : z.cells = #[z] := by cases z <;> first | rfl | cases h5
     refine ⟨z, by simp [zeroValue, typeInfo, h2, h4], by simp [hz, En], by simp [hz, h5], ?_⟩; rw [hz]; exact Er [z]
    | slice e esz =>
     obtain ⟨i, j, z, h1, h2, h3, h4, _⟩ := Ex hti; refine ⟨.slice none 0 0, by simp [zeroValue, typeInfo, h2, h4], rfl, by simp [Value.cells, Value.oneCell'], ?_⟩; exact Er [.slice none 0 0]
    | struct fs z =>
     obtain ⟨fields, i, h1, h2, h3, h4, h5, h6⟩ := Dy hti; refine ⟨.agg z.toArray, by simp [zeroValue, typeInfo, h2, h3], by simp [Value.cells, En], fun u hu => by simpa using List.all_eq_true.1 h5 u (by simpa [Value.cells] using hu), ?_⟩; simpa [Value.cells, En] using Er (W := W) (S := S) (E := E) (s := s) z
   obtain ⟨zv, h1, h2, h3, h4⟩ := key; have hN := h.newbox hne hd zv.cells.toList (En ti) t h2 h3 h4; refine Ef (W' := W.alloc (.cells zv.cells.toList.toArray t)) ?_ hop hN ⟨⟨_, AK _ _ _⟩, rfl⟩; simp [execOp, ho, Instr.alloc, h1, newVar, newRow, AK]
  ·rename_i hd hti
   split at hop
   ·rename_i ar har
    obtain ⟨n, esz, z⟩ := ar; obtain ⟨e, i, j, h1, h2, h3, h4, h5, _⟩ := JF har; have hN := h.newbox hne hd z (z.map fun x => .im (lift x)) t (by simp) (fun u hu => List.all_eq_true.1 h5 u hu) (Er z); refine Ef (W' := W.alloc (.cells z.toArray t)) ?_ hop hN ⟨⟨_, AK _ _ _⟩, rfl⟩; simp [execOp, ho, Instr.alloc, zeroValue, typeInfo, h2, h3, newVar, newRow, AK, Value.cells]
   exact hop.elim
  exact hop.elim
 exact hop.elim
theorem ok_one (h : RelE X E S s a W) {c : FV} {u : Value} (hc : Bv W S E s.st c u) (h1 : c.ok s.st) : u.oneCell' = true := by
 cases c with
 | junk => exact h1.elim
 | im y => exact Rep.one hc h1
 | ptr b off => rw [hc.2]; rfl
 | pin b p => exact h1.elim
 | own k n =>
  obtain ⟨ty, esz, es, e1, e2, e3⟩ := hc; simp only [FV.ok, e1] at h1; rw [e3 h1]; have ho := h.ob k; rw [e1] at ho; obtain ⟨xs, ⟨_, hv⟩, _⟩ := ho; rcases hv with ⟨hv, _⟩ | ⟨g, cap, cur, hv, _⟩ <;> (rw [hv]; rfl)
theorem UU (h : RelE X E S s a W) {t : TypeId} {x : Operand} (ho : o.op = .box t x) (hop : Az P (.box t x) o.dst s K) : Out P X s a W o K Q := by
 simp only [Az] at hop; have he := A5 h x; split at hop
 ·rename_i d hdst
  obtain ⟨hne, hop⟩ := hop; split at hop
  ·rename_i cs hd hx
   obtain ⟨h1, hop⟩ := hop; rw [hx] at he; revert he
   generalize hu : a.eval x = u; intro he; cases he with
   | agg hl hR =>
    rename_i us
    have hN := h.newbox hne hd us (cs.map FV.im) t (by simp [hl]) (fun u hu => by
     obtain ⟨i, hi, rfl⟩ := List.mem_iff_getElem.1 hu; exact (hR i (cs[i]'(by omega)) us[i] (List.getElem?_eq_getElem _) (List.getElem?_eq_getElem _)).one (List.all_eq_true.1 h1 _ (List.getElem_mem _))) (fun i c u hc hu => by
     rw [List.getElem?_map] at hc; cases hy : cs[i]? with
     | none => rw [hy] at hc; cases hc
     | some y =>
      rw [hy] at hc; simp only [Option.map_some, Option.some.injEq] at hc; subst hc; exact hR i y u hy hu)
    refine Ef (W' := W.alloc (.cells us.toArray t)) ?_ hop hN ⟨⟨_, AK _ _ _⟩, rfl⟩; simp [execOp, ho, Instr.box, hu, newVar, newRow, Value.cells, AK]
  ·rename_i c hd _
   obtain ⟨h1, hop⟩ := hop; have hone : (a.eval x).oneCell' = true := ok_one h he h1; have hz : (a.eval x).cells = #[a.eval x] := by revert hone; cases a.eval x <;> intro hone <;> first | rfl | cases hone
   have hN := h.newbox hne hd [a.eval x] [Aw s x] t rfl (by simpa using hone) (fun i c u hc hu => by
    cases i with
    | zero => simp only [List.getElem?_cons_zero, Option.some.injEq] at hc hu; subst hc hu; exact he
    | succ i => simp at hc)
   refine Ef (W' := W.alloc (.cells #[a.eval x] t)) ?_ hop hN ⟨⟨_, AK _ _ _⟩, rfl⟩; simp [execOp, ho, Instr.box, newVar, newRow, hz, AK]
  exact hop.elim
 exact hop.elim
theorem Hb (t : TypeId) {ti : TI} (hti : Bx P t = some ti) (g o : Nat) (us : List Value) (hc : ∀ (j : Nat) u, us[j]? = some u → W.cell? ⟨g, o + j, none⟩ = some u) :
  (∀ fs z, ti = .struct fs z → us.length = z.length → (Instr.loadAt t (.pointer (some ⟨g, o, none⟩))).run P W = .ok (.agg us.toArray) W) ∧
  ((∀ fs z, ti ≠ .struct fs z) → ∀ u, us[0]? = some u → (Instr.loadAt t (.pointer (some ⟨g, o, none⟩))).run P W = .ok u W) := by
 refine ⟨fun fs z e hl => ?_, fun hs u hu => ?_⟩
 ·subst e
  obtain ⟨fields, i, h1, h2, h3, h4, _⟩ := Dy hti; have hsz : (sizeOf t).run P W = .ok us.length W := by simp [sizeOf, typeInfo, h2, h4, hl]
  have hag : (isAgg t).run P W = .ok true W := by simp [isAgg, run_underlying h1]
  have := run_loadCells_list (P := P) W ⟨g, o, none⟩ us (fun j v hv => by rw [Dj]; exact hc j v hv); simp [Instr.loadAt, Instr.sureAddr, loadVar, hag, hsz, this]
 obtain ⟨d, i, h1, h2, h3, h4⟩ := Q0 hti hs; have hag : (isAgg t).run P W = .ok false W := by
  simp only [isAgg, run_underlying h1, Sem.run_bind, Result.andThen_ok]; cases d <;> first | rfl | cases h4
 have := hc 0 u hu; simp [Instr.loadAt, Instr.sureAddr, loadVar, hag, load, Sem.run, show W.cell? ⟨g, o, none⟩ = some u from this]
theorem Fp {α : Type} (l : List α) (o n j : Nat) (x : α) (h : ((l.drop o).take n)[j]? = some x) : l[o + j]? = some x ∧ j < n := by
 have hj : j < n := by
  have := (List.getElem?_eq_some_iff.1 h).1; rw [List.length_take] at this; omega
 rw [List.getElem?_take_of_lt hj, List.getElem?_drop] at h; exact ⟨h, hj⟩
theorem Hc (h : RelE X E S s a W) {t : TypeId} {cs : List FV} {off : Nat} {K : FV → Prop} (hop : Dr s.st (Bx P t) cs off K) (g o : Nat) (us : List Value) (hl : us.length = cs.length)
  (hc : ∀ (j : Nat) u, us[j]? = some u → W.cell? ⟨g, o + j, none⟩ = some u) (hr : ∀ (i : Nat) c u, cs[i]? = some c → us[i]? = some u → Bv W S E s.st c u) :
  ∃ c u, K c ∧ (Instr.loadAt t (.pointer (some ⟨g, o + off, none⟩))).run P W = .ok u W ∧ Bv W S E s.st c u := by
 unfold Dr at hop; split at hop
 ·rename_i fs z hti
  split at hop
  ·rename_i xs hxs
   obtain ⟨hxl, hop⟩ := hop; have hseg : ((us.drop off).take z.length).length = ((cs.drop off).take z.length).length := by simp [hl]
   have hR := Hu h (us := (us.drop off).take z.length) hseg (fun i c u hc1 hu1 => hr (off + i) c u (Fp _ _ _ _ _ hc1).1 (Fp _ _ _ _ _ hu1).1) hxs; refine ⟨_, _, hop, (Hb t hti g (o + off) ((us.drop off).take z.length) (fun j u hu => ?_)).1 fs z rfl (by rw [hR.1, hxl]), Rep.agg hR.1 hR.2⟩; have := hc (off + j) u (Fp _ _ _ _ _ hu).1; rwa [← Nat.add_assoc] at this
  exact hop.elim
 ·rename_i ti hns hti
  split at hop
  ·rename_i c hcs
   have hlt := (List.getElem?_eq_some_iff.1 hcs).1; have hu : us[off]? = some (us[off]'(by omega)) := List.getElem?_eq_getElem _; refine ⟨c, us[off]'(by omega), hop, (Hb t hti g (o + off) [us[off]'(by omega)] (fun j u hj => ?_)).2 (fun fs z e => hns fs z e) _ rfl, hr off c _ hcs hu⟩; cases j with
   | zero =>
    simp only [List.getElem?_cons_zero, Option.some.injEq] at hj; subst hj; exact hc off _ hu
   | succ j => simp at hj
  exact hop.elim
 exact hop.elim
theorem TE (h : RelE X E S s a W) {t : TypeId} {x : Operand} (ho : o.op = .load t x) (hop : Az P (.load t x) o.dst s K) : Out P X s a W o K Q := by
 simp only [Az] at hop; have he := A5 h x; split at hop
 ·rename_i b off hx
  have hp := Cl h hx; split at hop
  ·rename_i cs hst
   have hob := h.ob b; rw [hst] at hob; obtain ⟨⟨us, hl, hB, h1, hr, hS⟩, _⟩ := hob; obtain ⟨c, u, hK, hrun, hc⟩ := Hc h hop (E.box b) 0 us hl (fun j u hu => by rw [Nat.zero_add]; exact hB.cell j u hu) hr; rw [Nat.zero_add] at hrun; exact AZ h (u := u) (by simp [execOp, ho, hp, hrun]) hK hc
  exact hop.elim
 ·rename_i cs off hx
  rw [hx] at he; revert he
  generalize hu : a.eval x = w; intro he; cases he with
  | elt g oo f h1 hA hR =>
   obtain ⟨c, u, hK, hrun, hc⟩ := Hc h hop g oo ((List.range cs.length).map f) (by simp) (fun j u hj => by
    have hlt := (List.getElem?_eq_some_iff.1 hj).1; simp only [List.length_map, List.length_range] at hlt; rw [List.getElem?_map, List.getElem?_range hlt] at hj; simp only [Option.map_some, Option.some.injEq] at hj; subst hj; exact (hA j hlt).2) (fun i c u hc hu => by
    have hlt := (List.getElem?_eq_some_iff.1 hu).1; simp only [List.length_map, List.length_range] at hlt; rw [List.getElem?_map, List.getElem?_range hlt] at hu; simp only [Option.map_some, Option.some.injEq] at hu; subst hu; rw [List.getElem?_map] at hc; cases hy : cs[i]? with
    | none => rw [hy] at hc; cases hc
    | some y =>
     rw [hy] at hc; simp only [Option.map_some, Option.some.injEq] at hc; subst hc; exact hR i y hy)
   exact AZ h (u := u) (by simp [execOp, ho, hu, hrun]) hK hc
 exact hop.elim
theorem EW (g : Nat) : ∀ (vs : List Value) (o : Nat) (w : World), (w.setCells g o vs).heap.size = w.heap.size ∧ (∀ k, k ≠ g → (w.setCells g o vs).heap[k]? = w.heap[k]?) ∧ (w.setCells g o vs).os = w.os ∧ (w.setCells g o vs).tape = w.tape ∧ (w.setCells g o vs).output = w.output
 | [], _, w => ⟨rfl, fun _ _ => rfl, rfl, rfl, rfl⟩
 | v :: r, o, w => by
  obtain ⟨h1, h2, h3, h4, h5⟩ := EW g r (o + 1) (w.setCell ⟨g, o, none⟩ v); rw [World.setCells]; exact ⟨by rw [h1]; simp, fun k hk => (h2 k hk).trans (Below.heap_setCell w ⟨g, o, none⟩ v k hk), h3, h4, h5⟩
theorem DI {α : Type} (l : List α) (o : Nat) (xs : List α) (hl : o + xs.length ≤ l.length) (i : Nat) : (BT l o xs)[i]? = if i < o then l[i]? else if i < o + xs.length then xs[i - o]? else l[i]? := by
 unfold BT; have h1 : (l.take o).length = o := by rw [List.length_take]; omega
 by_cases hi : i < o
 ·rw [if_pos hi, List.getElem?_append_left (by omega), List.getElem?_take_of_lt hi]
 rw [if_neg hi, List.getElem?_append_right (by omega), h1]; by_cases h2 : i < o + xs.length
 ·rw [if_pos h2, List.getElem?_append_left (by omega)]
 rw [if_neg h2, List.getElem?_append_right (by omega), List.getElem?_drop]; congr 1; omega
theorem Ii {α : Type} (l : List α) (o : Nat) (xs : List α) (hl : o + xs.length ≤ l.length) : (BT l o xs).length = l.length := by
 unfold BT; simp; omega
theorem Box.setCells {w : World} {g o : Nat} {us vs : List Value} (h : Box w g us) (ho : o + vs.length ≤ us.length) : Box (w.setCells g o vs) g (BT us o vs) := by
 have hs : ∀ j, j < vs.length → (w.cell? ⟨g, o + j, none⟩).isSome = true := fun j hj => by rw [h.cell (o + j) _ (List.getElem?_eq_getElem (by omega))]; rfl
 refine ⟨fun i v hv => ?_, fun i => by rw [World.frozen?_setCells]; exact h.froz i, by rw [(EW g vs o w).1]; exact h.lt⟩; rw [DI us o vs ho] at hv; split at hv
 ·rename_i hi
  rw [World.cell?_setCells_out g vs o w ⟨g, i, none⟩ (fun _ _ => Or.inl hi)]; exact h.cell i v hv
 split at hv
 ·rename_i h1 h2
  have := World.cell?_setCells_in g vs o w hs (i - o) (by omega); rw [show o + (i - o) = i by omega] at this; rw [this, ← hv, List.getElem?_eq_getElem]
 rw [World.cell?_setCells_out g vs o w ⟨g, i, none⟩ (fun _ _ => Or.inr (by show o + vs.length ≤ i; omega))]; exact h.cell i v hv
theorem RelE.setbox (h : RelE X E S s a W) {b off : Nat} {cs xs : List FV} {vs : List Value} (hst : s.st b = .box cs) (ho : off + xs.length ≤ cs.length) (hl : vs.length = xs.length) (h1 : ∀ u ∈ vs, u.oneCell' = true)
  (hr : ∀ (i : Nat) c u, xs[i]? = some c → vs[i]? = some u → Bv W S E s.st c u) : RelE X E S ⟨s.fr, upd s.st b (.box (BT cs off xs))⟩ a (W.setCells (E.box b) off vs) := by
 have hob := h.ob b; rw [hst] at hob; obtain ⟨⟨us, hul, hB, hu1, hur, hS⟩, hloc⟩ := hob; obtain ⟨e1, e2, e3, e4, e5⟩ := EW (E.box b) vs off W; have hcell : ∀ g o, S g o → (W.setCells (E.box b) off vs).cell? ⟨g, o, none⟩ = W.cell? ⟨g, o, none⟩ := fun g o hg => Bw (e2 g (fun e => hS o (e ▸ hg)))
 have hF : ∀ c u, Bv W S E s.st c u → Bv (W.setCells (E.box b) off vs) S E (upd s.st b (.box (BT cs off xs))) c u := by
  intro c u hc; cases c with
  | junk => trivial
  | im x => exact Rep.keep hc hcell (fun _ _ h => h)
  | own k n =>
   obtain ⟨t, z, es, f1, f2⟩ := hc; exact ⟨t, z, es, by rw [BD _ _ (fun e => by subst e; rw [hst] at f1; cases f1)]; exact f1, f2⟩
  | ptr b' off' =>
   obtain ⟨⟨cs', f1⟩, f2⟩ := hc; refine ⟨?_, f2⟩; by_cases hb : b' = b
   ·subst hb; exact ⟨_, AK _ _ _⟩
   exact ⟨cs', by rw [BD _ _ hb]; exact f1⟩
  | pin b' p' =>
   obtain ⟨⟨cs', f1⟩, f2⟩ := hc; refine ⟨?_, f2⟩; by_cases hb : b' = b
   ·subst hb; exact ⟨_, AK _ _ _⟩
   exact ⟨cs', by rw [BD _ _ hb]; exact f1⟩
 refine h.core (· = b) _ E S _ (fun j hj => ⟨BD _ _ hj, rfl, rfl⟩) rfl (fun j hj => ?_) e3 e4 e5 (by omega) (fun g _ hne => e2 g (fun e => hne b rfl (by rw [hst]; exact congrArg some e.symm))) hcell (fun _ _ h => h) (fun g o h => Or.inl h) (fun g o hg => by rw [e1]; exact h.Sb g o hg) (fun j hj => ?_) (fun j g hj hg => ?_) (fun i j g hi hj _ _ => hi.trans hj.symm)
 ·subst hj; rw [hst, AK]; exact ⟨⟨_, rfl⟩, rfl⟩
 ·subst hj
  rw [AK]; refine ⟨⟨BT us off vs, by rw [Ii _ _ _ (by omega), Ii _ _ _ ho, hul], hB.setCells (by omega), fun u hu => ?_, fun i c u hc hu => hF c u ?_, hS⟩, hloc⟩
  ·obtain ⟨i, hi⟩ := List.mem_iff_getElem?.1 hu
   rw [DI us off vs (by omega)] at hi; repeat' split at hi
   ·exact hu1 u (List.mem_of_getElem? hi)
   ·exact h1 u (List.mem_of_getElem? hi)
   exact hu1 u (List.mem_of_getElem? hi)
  rw [DI us off vs (by omega), hl] at hu; rw [DI cs off xs ho] at hc; by_cases g1 : i < off
  ·rw [if_pos g1] at hc hu; exact hur i c u hc hu
  rw [if_neg g1] at hc hu; by_cases g2 : i < off + xs.length
  ·rw [if_pos g2] at hc hu; exact hr _ c u hc hu
  rw [if_neg g2] at hc hu; exact hur i c u hc hu
 subst hj; rw [AK] at hg; rw [hst]; exact Or.inl hg
theorem G7 (t : TypeId) {i : TypeInfo} (hi : P.info? t = some i) (b off : Nat) (u : Value) {us : List Value} (hB : Box W b us) (hsz : i.size = u.cells.size) (ho : off + u.cells.size ≤ us.length) (h1 : ∀ v ∈ u.cells.toList, v.oneCell' = true) :
  (Instr.storeAt t (.pointer (some ⟨b, off, none⟩)) u).run P W = .ok () (W.setCells b off u.cells.toList) := by
 have hl : u.cells.toList.length = u.cells.size := by simp
 have hz : (sizeOf t).run P W = .ok u.cells.size W := by simp [sizeOf, typeInfo, hi, hsz]
 have := run_storeCells_cells (P := P) b off u.cells.toList 0 W (fun j hj => by rw [Nat.add_zero, hB.cell (off + j) _ (List.getElem?_eq_getElem (by omega))]; rfl) (fun j _ => hB.froz _) h1; rw [Nat.add_zero] at this; simp [Instr.storeAt, Instr.sureAddr, storeVar, hz, this]
theorem Lt (h : RelE X E S s a W) {t : TypeId} {x y : Operand} (ho : o.op = .store t x y) {b off : Nat} {cs : List FV} {xs : List IV} {i : TypeInfo} (hx : Aw s x = .ptr b off) (hst : s.st b = .box cs) (hy : Aw s y = .im (.agg xs)) (i2 : P.info? t = some i) (i4 : i.size = xs.length)
  (g2 : off + xs.length ≤ cs.length) (g3 : xs.all IV.one = true) (hK : K .junk (upd s.st b (.box (BT cs off (xs.map FV.im))))) : Out P X s a W o K Q := by
 have he := A5 h y; have hp := Cl h hx; have hob := h.ob b; rw [hst] at hob; obtain ⟨⟨us, hul, hB, hu1, hur, hS⟩, hloc⟩ := hob; rw [hy] at he; revert he
 generalize hu : a.eval y = w; intro he; cases he with
 | agg hl hR =>
  rename_i vs
  have hone : ∀ u ∈ vs, u.oneCell' = true := fun u hu => by
   obtain ⟨k, hk, rfl⟩ := List.mem_iff_getElem.1 hu; exact (hR k (xs[k]'(by omega)) vs[k] (List.getElem?_eq_getElem _) (List.getElem?_eq_getElem _)).one (List.all_eq_true.1 g3 _ (List.getElem_mem _))
  have hrun := G7 (P := P) t i2 (E.box b) off (.agg vs.toArray) hB (by simp [Value.cells, i4, hl]) (by simp [Value.cells]; omega) (by simpa [Value.cells] using hone); have hN := h.setbox (off := off) (xs := xs.map FV.im) (vs := vs) hst (by simp; omega) (by simp [hl]) hone (fun k c u hc hu => by
   rw [List.getElem?_map] at hc; cases hq : xs[k]? with
   | none => rw [hq] at hc; cases hc
   | some q =>
    rw [hq] at hc; simp only [Option.map_some, Option.some.injEq] at hc; subst hc; exact hR k q u hq hu)
  refine MC (W' := W.setCells (E.box b) off vs) ?_ hK hN trivial; simp only [Value.cells] at hrun; simp [execOp, ho, hp, hu, hrun]
theorem R0 (h : RelE X E S s a W) {t : TypeId} {x y : Operand} (ho : o.op = .store t x y) (hop : Az P (.store t x y) o.dst s K) : Out P X s a W o K Q := by
 simp only [Az] at hop; have he := A5 h y; split at hop
 ·rename_i b off hx
  have hp := Cl h hx; split at hop
  ·rename_i cs hst
   have hob := h.ob b; rw [hst] at hob; obtain ⟨⟨us, hul, hB, hu1, hur, hS⟩, hloc⟩ := hob; split at hop
   ·rename_i fs z hti
    split at hop
    ·rename_i xs hy
     obtain ⟨⟨g1, g2, g3⟩, hK⟩ := hop; obtain ⟨fields, i, i1, i2, i3, i4, _⟩ := Dy hti; exact Lt h ho hx hst hy i2 (by omega) (by omega) g3 hK
    exact hop.elim
   ·rename_i ti hns hti
    obtain ⟨⟨g1, g2⟩, hK⟩ := hop; obtain ⟨d, i, i1, i2, i3, i4⟩ := Q0 hti (fun fs z e => hns fs z e); have hone := ok_one h he g2; have hz : (a.eval y).cells = #[a.eval y] := by revert hone; cases a.eval y <;> intro hone <;> first | rfl | cases hone
    have hrun := G7 (P := P) t i2 (E.box b) off (a.eval y) hB (by simp [hz, i3]) (by simp [hz]; omega) (by simpa [hz] using hone); have hN := h.setbox (off := off) (xs := [Aw s y]) (vs := [a.eval y]) hst (by simp; omega) rfl (by simpa using hone) (fun k c u hc hu => by
     cases k with
     | zero => simp only [List.getElem?_cons_zero, Option.some.injEq] at hc hu; subst hc hu; exact he
     | succ k => simp at hc)
    have hset : BT cs off [Aw s y] = cs.set off (Aw s y) := by
     apply List.ext_getElem?; intro k; rw [DI cs off _ (by simp; omega), List.getElem?_set]; simp only [List.length_singleton]; by_cases k1 : k < off
     ·rw [if_pos k1, if_neg (by omega)]
     rw [if_neg k1]; by_cases k2 : k < off + 1
     ·obtain rfl : k = off := by omega
      rw [if_pos k2, if_pos rfl, if_pos g1, Nat.sub_self]; rfl
     rw [if_neg k2, if_neg (by omega)]
    rw [hset] at hN; refine MC (W' := W.setCells (E.box b) off [a.eval y]) ?_ hK hN trivial; rw [hz] at hrun; simp [execOp, ho, hp, hrun]
   split at hop
   ·rename_i ar xs har hy
    obtain ⟨n, esz, z⟩ := ar; obtain ⟨⟨g1, g2, g3⟩, hK⟩ := hop; obtain ⟨e, i, j, h1, h2, h3, h4, _⟩ := JF har; dsimp only at g1 g2; exact Lt h ho hx hst hy h2 (by omega) (by omega) g3 hK
   exact hop.elim
  exact hop.elim
 exact hop.elim
end
end Go.Proofs.YtakncilicoefdaaGreatDoor
namespace Th
open Go Go.Lib
theorem Hm (L : List UInt8) (j : Nat) (c : UInt8) (h : L[j]? = some c) : Bf L j = j + (if CQ c = true ∨ c = 35 then 1 + Ds (decide (c = 35)) (L.drop (j + 1)) else 0) := by
 obtain ⟨hl, he⟩ := List.getElem?_eq_some_iff.1 h; unfold Bf; rw [List.drop_eq_getElem_cons hl, he]; simp only [Ds]; congr 1
 by_cases h2 : CQ c = true ∨ c = 35
 ·rw [if_pos (by rcases h2 with h2 | h2 <;> simp [h2]), if_pos h2]
  congr 2
  by_cases h3 : c = 35
  ·subst h3; rfl
  simp [h3]
 rw [if_neg (fun h => h2 (by rcases h with h | h; cases h; exact h)), if_neg h2]
theorem PF {L : List UInt8} {j : Nat} {c : UInt8} (h : L[j]? = some c) (hb : CQ c = true) : Bf L j = Bf L (j + 1) := by
 have h35 : ¬ c = 35 := by rintro rfl; cases hb
 rw [Hm L j c h, if_pos (Or.inl hb), decide_eq_false h35]; unfold Bf; omega
theorem Qw {L : List UInt8} {j : Nat} {c : UInt8} (h : L[j]? = some c) (hb : CQ c = false) (h35 : c ≠ 35) : Bf L j = j := by
 rw [Hm L j c h, if_neg (by rw [hb]; exact fun h => h.elim (fun h => by cases h) h35)]; omega
theorem Nl {L : List UInt8} {j : Nat} (h : j = L.length) : Bf L j = j := by
 unfold Bf; rw [h, List.drop_length]; rfl
theorem Ls : ∀ l : List UInt8, indexByte l 10 < 0 → Ds true l = l.length
 | [], _ => rfl
 | c :: r, h => by
  by_cases hc : c = 10
  ·subst hc; simp [indexByte] at h
  have h2 : indexByte r 10 < 0 := by
   simp only [indexByte] at h; rw [if_neg (by simpa using hc)] at h; split at h
   ·rename_i hh; rw [beq_iff_eq] at hh; omega
   omega
  simp only [Ds, true_or, if_true, List.length_cons]; rw [decide_eq_true ⟨trivial, hc⟩, Ls r h2]; omega
theorem Lu : ∀ (l : List UInt8) (n : Nat), indexByte l 10 = n → Ds true l = n + Ds false (l.drop n) ∧ n < l.length
 | [], n, h => by simp [indexByte] at h
 | c :: r, n, h => by
  by_cases hc : c = 10
  ·subst hc
   have hn : n = 0 := by simp [indexByte] at h; omega
   subst hn; simp [Ds, CQ]
  simp only [indexByte] at h; rw [if_neg (by simpa using hc)] at h; split at h
  ·omega
  rename_i hh
  rw [beq_iff_eq] at hh; have hge := indexByte_ge r 10; obtain ⟨m, rfl⟩ : ∃ m, n = m + 1 := ⟨n - 1, by omega⟩
  obtain ⟨h1, h2⟩ := Lu r m (by omega); simp only [Ds, true_or, if_true, List.length_cons, List.drop_succ_cons]; rw [decide_eq_true ⟨trivial, hc⟩, h1]; omega
end Th
namespace Go.Proofs.YtakncilicoefdaaGreatDoor
open Go Go.RowKit Go.Proofs Th
attribute [local go_sem] Above.cell Above.frozen
theorem RS (s : ByteArray) (j : Nat) (_hj : j ≤ s.size) (w : World) : Calls Tryz.prog 102 #[.string (s.extract j s.size), .int .u8 10] w fun r w' => r = .returned (.int .i64 (Lib.indexByte (s.data.toList.drop j) 10)) ∧ w' = w := by
 have h := Tryz.strings_IndexByte (s.extract j s.size) 10 w; rw [EK] at h; exact h
theorem OJ {c : UInt8} (h : CQ c = true) : (c.toNat : Int) = 32 ∨ (c.toNat : Int) = 9 ∨ (c.toNat : Int) = 10 ∨ (c.toNat : Int) = 13 := by
 unfold CQ at h; simp only [Bool.or_eq_true, decide_eq_true_eq] at h; omega
theorem QS {c : UInt8} (h : CQ c = false) : ¬ (c.toNat : Int) = 32 ∧ ¬ (c.toNat : Int) = 9 ∧ ¬ (c.toNat : Int) = 10 ∧ ¬ (c.toNat : Int) = 13 := by
 unfold CQ at h; simp only [Bool.or_eq_false_iff, decide_eq_false_iff_not] at h; omega
structure ScP (W0 W : World) (p : Nat) (s : ByteArray) (j : Nat) : Prop where
 b : Box W p [.string s, .int .i64 j]
 u : Upd p W0 W
theorem ScP.above {W0 W W2 : World} {p : Nat} {s : ByteArray} {j : Nat} (h : ScP W0 W p s j) (hb : Below W.heap.size W W2) : ScP W0 W2 p s j := ⟨h.b.below hb h.b.lt, h.u.trans (Upd.of hb)⟩
theorem ScP.set {W0 W : World} {p : Nat} {s : ByteArray} {j : Nat} (h : ScP W0 W p s j) (k : Nat) (z : Int) (hz : z = k) : ScP W0 (W.setCell ⟨p, 1, none⟩ (.int .i64 z)) p s k := by
 subst hz; exact ⟨h.b.set (i := 1) (by simp) (.int .i64 k), h.u.trans (Upd.set p 1 W _)⟩
theorem GG (p : Nat) (s : ByteArray) (a : Nat) (hs : s.size ≤ 1000000) (ha : a ≤ s.size) (w : World) (hB : Box w p [.string s, .int .i64 a]) :
  Calls Tryz.prog 71 #[.pointer (some ⟨p, 0, none⟩)] w fun r w' => r = .returned (.tuple #[]) ∧ ScP w w' p s (Bf s.data.toList a) := by
 have HL := Keep.mk (Al s); have HA := Keep.mk (fun j h => Io s j h); go_enter Tryz.func71, Tryz.ntmps71
 go_wp2_with fail
 go_loopg [] (s.size - a) (fun gk wr => ∃ j : Nat, j + gk = s.size ∧ Keep (ScP w wr p s j) ∧ Keep (Bf s.data.toList j = Bf s.data.toList a))
 case atStart => exact ⟨a, by omega, ⟨⟨hB, Upd.refl p w⟩⟩, ⟨rfl⟩⟩
 case round =>
  clear hB ha; obtain ⟨j, hj, HS, HK⟩ := hrel; obtain ⟨p0, p1⟩ := HS.out.b.p2; have pf := HS.out.b.froz 1; have pl := HS.out.b.lt; by_cases hlt : j < s.size
  ·have hgk : gk ≠ 0 := by omega
   have hat := HA.out j hlt; go_wp2_with fail
   refine Ay (by kernel_rfl) (by kernel_rfl) ?_; repeat (go_big_quiet_step (fail))
   refine wpQuiet_nil ?_; rintro W2 ⟨z, hz⟩; replace HS := Keep.mk (hz ▸ HS.out.above z.property); clear p0 p1 pf pl; clear hz z; obtain ⟨p0, p1⟩ := HS.out.b.p2; have pf := HS.out.b.froz 1; have pl := HS.out.b.lt; go_wp2_with fail
   refine Ay (by kernel_rfl) (by kernel_rfl) ?_; repeat (go_big_quiet_step (fail))
   refine wpQuiet_nil ?_; rintro W2 ⟨z, hz⟩; replace HS := Keep.mk (hz ▸ HS.out.above z.property); clear p0 p1 pf pl; clear hz z; obtain ⟨p0, p1⟩ := HS.out.b.p2; have pf := HS.out.b.froz 1; have pl := HS.out.b.lt; cases hb : CQ s[j]
   ·obtain ⟨f1, f2, f3, f4⟩ := QS hb
    by_cases h35 : s[j] = 35
    ·have f5 : (s[j].toNat : Int) = 35 := by rw [h35]; rfl
     have hidx : ∃ zi : Int, Lib.indexByte (s.data.toList.drop j) 10 = zi := ⟨_, rfl⟩
     obtain ⟨zi, hzi⟩ := hidx; have HC := Keep.mk (fun (z : Above W2) => Ep (RS s j (by omega) z.val)); rw [hzi] at HC; have hge := Lib.indexByte_ge (s.data.toList.drop j) 10; rw [hzi] at hge; have hsk := Hm s.data.toList j s[j] hat; rw [h35, if_pos (Or.inr rfl), decide_eq_true rfl] at hsk; have hdr : s.data.toList.drop j = s[j] :: s.data.toList.drop (j + 1) := by
      obtain ⟨hl, he⟩ := List.getElem?_eq_some_iff.1 hat; rw [List.drop_eq_getElem_cons hl, he]
     have hix : Lib.indexByte (s.data.toList.drop j) 10 = if Lib.indexByte (s.data.toList.drop (j + 1)) 10 == -1 then -1 else Lib.indexByte (s.data.toList.drop (j + 1)) 10 + 1 := by
      rw [hdr, h35]; rfl
     have hge1 := Lib.indexByte_ge (s.data.toList.drop (j + 1)) 10; go_wp2_with fail
     refine Ay (by kernel_rfl) (by kernel_rfl) ?_; repeat (go_big_quiet_step ((go_at_call 102; exact Be (HC.out _))))
     refine wpQuiet_nil ?_; rintro W2 ⟨z, hz⟩; replace HS := Keep.mk (hz ▸ HS.out.above z.property); clear p0 p1 pf pl; clear hz z; obtain ⟨p0, p1⟩ := HS.out.b.p2; have pf := HS.out.b.froz 1; have pl := HS.out.b.lt; by_cases hz0 : zi < 0
     ·have HE := Keep.mk (show Bf s.data.toList s.size = Bf s.data.toList a by
       have h1 : Lib.indexByte (s.data.toList.drop (j + 1)) 10 < 0 := by
        rw [hzi] at hix; split at hix
        ·rename_i h; rw [beq_iff_eq] at h; omega
        omega
       have h2 := Ls _ h1; rw [h2, List.length_drop, HL.out] at hsk; rw [Nl HL.out.symm, ← HK.out, hsk]; omega)
      clear hzi hge hsk hdr hix hge1 hat hb h35 HC; go_wp2_with fail
      refine Ay (by kernel_rfl) (by kernel_rfl) ?_; repeat (go_big_quiet_step (fail))
      refine wpQuiet_nil ?_; rintro W2 ⟨z, hz⟩; replace HS := Keep.mk (hz ▸ HS.out.above z.property); clear p0 p1 pf pl; clear hz z; obtain ⟨p0, p1⟩ := HS.out.b.p2; have pf := HS.out.b.froz 1; have pl := HS.out.b.lt; go_wp2
      go_roundg 0
      case rel => exact ⟨s.size, by omega, ⟨HS.out.set s.size _ (by omega)⟩, HE⟩
      case measure => omega
     obtain ⟨n, rfl⟩ : ∃ n : Nat, zi = n := ⟨zi.toNat, by omega⟩
     have h1 : Lib.indexByte (s.data.toList.drop (j + 1)) 10 = ((n - 1 : Nat) : Int) ∧ 1 ≤ n := by
      rw [hzi] at hix; split at hix
      ·omega
      rename_i h; rw [beq_iff_eq] at h; omega
     obtain ⟨h2, h3⟩ := Lu _ _ h1.1; rw [List.length_drop, HL.out] at h3; have h4 := h1.2; have HE := Keep.mk (show Bf s.data.toList (j + n) = Bf s.data.toList a by
      rw [← HK.out, hsk, h2, List.drop_drop]; unfold Bf; rw [show j + 1 + (n - 1) = j + n from by omega]; omega)
     clear hzi hge hsk hdr hix hge1 hat hb h35 HC h1 h2; go_wp2
     go_roundg (gk - n)
     case rel => exact ⟨j + n, by omega, ⟨HS.out.set (j + n) _ (by omega)⟩, HE⟩
     case measure => omega
    have f5 : ¬ (s[j].toNat : Int) = 35 := fun h => h35 (UInt8.toNat_inj.1 (by show s[j].toNat = 35; omega))
    have HE := Keep.mk (HK.out.symm.trans (Qw hat hb h35)); clear hb hat h35; go_wp2
    refine bodyPost_ret (results_none rfl _ _ _) rfl ⟨rfl, ?_⟩; rw [HE.out]; exact HS.out
   have HE := Keep.mk ((PF hat hb).symm.trans HK.out); clear hat; rcases OJ hb with f1 | f1 | f1 | f1
   all_goals (
    clear hb; go_wp2
    go_roundg (gk - 1)
    case rel => exact ⟨j + 1, by omega, ⟨HS.out.set (j + 1) _ (by omega)⟩, HE⟩
    case measure => omega)
  have HE := Keep.mk (HK.out.symm.trans (Nl (by rw [HL.out]; omega))); go_wp2_with fail
  refine Ay (by kernel_rfl) (by kernel_rfl) ?_; repeat (go_big_quiet_step (fail))
  refine wpQuiet_nil ?_; rintro W2 ⟨z, hz⟩; replace HS := Keep.mk (hz ▸ HS.out.above z.property); clear p0 p1 pf pl; clear hz z; obtain ⟨p0, p1⟩ := HS.out.b.p2; have pf := HS.out.b.froz 1; have pl := HS.out.b.lt; go_wp2
  go_end0
  exact ⟨rfl, by rw [HE.out]; exact HS.out⟩
end Go.Proofs.YtakncilicoefdaaGreatDoor
