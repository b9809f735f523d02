/- Lemmas and contracts. Conditions: those that each lemma names. -/
import Derived.Test.YtakncilicoefdaaGreatDoorPz15
import Derived.Test.YtakncilicoefdaaGreatDoorPz14
import Derived.StillTailTactics
set_option maxRecDepth 100000
set_option maxHeartbeats 4000000
namespace Go.Proofs.YtakncilicoefdaaGreatDoor
open Go Go.RowKit Go.Proofs Th
section
variable {P : Program} {X : Ctx} {E : AEnv} {S : CS} {s : ASt} {a : Act} {W : World} {o : Oper} {K : FV → (Nat → AObj) → Prop} {Q : Exit → Act → World → Prop}
theorem Mv {new : List (List IV)} {full : Bool} {u : Value} (hrep : Rep W S (.sl new full) u) (h0 : 0 < new.length) {esz : Nat} (he : 0 < esz) (hez : ∀ e ∈ new, e.length = esz) :
  ∃ g oo c, u = .slice (some ⟨g, oo, none⟩) new.length c ∧ ∃ news : List Value, news.length = new.length * esz ∧ (∀ (j : Nat) v, news[j]? = some v → W.cell? ((⟨g, oo, none⟩ : Addr).add j) = some v) ∧ (∀ v ∈ news, v.oneCell' = true) ∧
   ∀ (j i : Nat) e x v, new[j]? = some e → e[i]? = some x → news[j * esz + i]? = some v → Rep W S x v := by
 cases hrep with
 | sl ez f g1 g2 g3 g4 g5 hA hR =>
  rename_i c
  obtain ⟨g, oo, rfl, hc⟩ := hA h0; have hd : ∀ q, q < new.length * esz → ∃ hj : q / esz < new.length, q % esz < esz := fun q hq => ⟨(Nat.div_lt_iff_lt_mul he).2 hq, Nat.mod_lt _ he⟩
  have hzz : ∀ j (hj : j < new.length), ez = esz := fun j hj => (g5 _ (List.getElem_mem hj)).1.symm.trans (hez _ (List.getElem_mem hj))
  obtain rfl : ez = esz := hzz 0 h0; have hget : ∀ (q : Nat) v, ((List.range (new.length * ez)).map fun q => f (q / ez) (q % ez))[q]? = some v → q < new.length * ez ∧ v = f (q / ez) (q % ez) := fun q v hq => by
   have hlt := (List.getElem?_eq_some_iff.1 hq).1; simp only [List.length_map, List.length_range] at hlt; rw [List.getElem?_map, List.getElem?_range hlt] at hq; simp only [Option.map_some, Option.some.injEq] at hq; exact ⟨hlt, hq.symm⟩
  refine ⟨g, oo, c, rfl, (List.range (new.length * ez)).map fun q => f (q / ez) (q % ez), by simp, fun q v hq => ?_, fun v hv => ?_, fun j i e x v hj hi hv => ?_⟩
  ·obtain ⟨hlt, rfl⟩ := hget q v hq
   obtain ⟨h1, h2⟩ := hd q hlt; have := (hc (q / ez) (q % ez) h1 h2).2; rw [EF, ← this]; congr 2
   have := Nat.div_add_mod q ez; rw [Nat.mul_comm] at this; omega
  ·obtain ⟨q, hq⟩ := List.mem_iff_getElem?.1 hv
   obtain ⟨hlt, rfl⟩ := hget q v hq; obtain ⟨h1, h2⟩ := hd q hlt; have hel := (g5 _ (List.getElem_mem h1)); exact (hR (q / ez) (q % ez) _ _ (List.getElem?_eq_getElem h1) (List.getElem?_eq_getElem (by omega))).one (hel.2 _ (List.getElem_mem _))
  obtain ⟨_, rfl⟩ := hget _ v hv; have hi2 := (List.getElem?_eq_some_iff.1 hi).1; have hel := (g5 _ (List.mem_of_getElem? hj)).1; rw [show j * ez + i = i + ez * j by rw [Nat.mul_comm]; omega, Nat.add_mul_div_left _ _ he, Nat.div_eq_of_lt (by omega), Nat.zero_add, Nat.add_mul_mod_self_left, Nat.mod_eq_of_lt (by omega)]; exact hR j i e x hj hi
theorem RelE.grow (h : RelE X E S s a W) {k : Nat} {ty esz : Nat} {es new : List (List IV)} {xs news : List Value} {v' : Value} {W' : World}
  (hk : (s.st k = .none) ∨ (s.st k = .row ty esz es)) (hnew : 0 < new.length) (he : 0 < esz)
  (hown : W'.ownsRow X.W0.heap.size ty esz v' (es.length + new.length) (xs ++ news)) (hxl : xs.length = es.length * esz) (_hnl : news.length = new.length * esz)
  (hos : W'.os = W.os) (htp : W'.tape = W.tape) (hou : W'.output = W.output) (hsz : W.heap.size ≤ W'.heap.size)
  (hW : ∀ g, g < W.heap.size → v'.ownBlock ≠ some g → W'.heap[g]? = W.heap[g]?)
  (hbk : ∀ g, v'.ownBlock = some g → (s.st k = .row ty esz es ∧ (E.row k).ownBlock = some g ∧ ∃ v, W.ownsRow X.W0.heap.size ty esz v es.length xs ∧ v.ownBlock = some g) ∨ W.heap.size ≤ g)
  (hlen : es.length + new.length ≤ 1000000000) (hez : ∀ e ∈ es ++ new, e.length = esz ∧ ∀ x ∈ e, x.one = true)
  (hr1 : ∀ (j i : Nat) e x u, es[j]? = some e → e[i]? = some x → xs[j * esz + i]? = some u → Rep W S x u) (hr2 : ∀ (j i : Nat) e x u, new[j]? = some e → e[i]? = some x → news[j * esz + i]? = some u → Rep W S x u) :
  RelE X { E with row := upd E.row k v' } (fun g o => S g o ∨ (v'.ownBlock = some g ∧ o < (es ++ new).length * esz)) ⟨s.fr, upd s.st k (.row ty esz (es ++ new))⟩ a W' := by
 have hcell : ∀ g o, S g o → W'.cell? ⟨g, o, none⟩ = W.cell? ⟨g, o, none⟩ := by
  intro g o hS; by_cases hg : v'.ownBlock = some g
  ·rcases hbk g hg with ⟨h1, h2, v, h3, h4⟩ | h1
   ·have hob := h.ob k
    rw [h1] at hob; obtain ⟨xs', _, _, _, _, _, h9⟩ := hob; have ho := (h9 g h2 o).1 hS; have hx : xs[o]? = some (xs[o]'(by omega)) := List.getElem?_eq_getElem _; have c1 := World.ownsRow.cells h3 (g := g) h4 o _ hx; have c2 := World.ownsRow.cells hown (g := g) hg o (xs[o]'(by omega)) (by rw [List.getElem?_append_left (by omega)]; exact hx); rw [EF, Nat.zero_add] at c1 c2; rw [c1, c2]
   exact absurd (h.Sb g o hS) (by omega)
  exact DZ (hW g (h.Sb g o hS) hg)
 have hSb : ∀ g o, (S g o ∨ (v'.ownBlock = some g ∧ o < (es ++ new).length * esz)) → g < W'.heap.size := by
  intro g o ho; rcases ho with ho | ⟨ho, _⟩
  ·exact Nat.lt_of_lt_of_le (h.Sb g o ho) hsz
  exact (Du hown g ho).2
 refine h.core (· = k) _ _ _ _ (fun j hj => ⟨Ce _ _ hj, rfl, Ce _ _ hj⟩) rfl (fun j hj => ?_) hos htp hou hsz (fun g hg hne => ?_) hcell (fun _ _ h => Or.inl h) (fun g o ho => ?_) hSb (fun j hj => ?_) (fun j g hj hg => ?_) (fun i j g hi hj _ _ => hi.trans hj.symm)
 ·subst hj
  rw [AX]; rcases hk with hk | hk
  ·rw [hk]; trivial
  rw [hk]; exact ⟨ty, esz, es ++ new, rfl, by simp; omega⟩
 ·refine hW g hg (fun hb => ?_)
  rcases hbk g hb with ⟨h1, h2, _⟩ | h1
  ·exact hne k rfl (by rw [h1]; exact h2)
  omega
 ·rcases ho with ho | ⟨ho, _⟩
  ·exact Or.inl ho
  rcases hbk g ho with ⟨h1, h2, _⟩ | h1
  ·exact Or.inr (Or.inr ⟨k, rfl, by rw [h1]; exact h2⟩)
  exact Or.inr (Or.inl h1)
 ·subst hj
  rw [AX]; simp only [JW, AX]; refine ⟨xs ++ news, by rw [List.length_append]; exact hown, he, by simpa using hlen, hez, fun j i e x u hj hi hu => ?_, fun g hg o => ⟨fun ho => ?_, fun ho => Or.inr ⟨hg, ho⟩⟩⟩
  ·have hel : e.length = esz := (hez e (List.mem_of_getElem? hj)).1
   have hi2 := (List.getElem?_eq_some_iff.1 hi).1; by_cases hlt : j < es.length
   ·rw [List.getElem?_append_left hlt] at hj
    have : j * esz + i < es.length * esz := by
     have := Nat.mul_le_mul_right esz (show j + 1 ≤ es.length from hlt); rw [Nat.add_mul] at this; omega
    rw [List.getElem?_append_left (by omega)] at hu; exact (hr1 j i e x u hj hi hu).keep hcell (fun _ _ h => Or.inl h)
   rw [List.getElem?_append_right (by omega)] at hj; have hge : es.length * esz ≤ j * esz := Nat.mul_le_mul_right _ (by omega); rw [List.getElem?_append_right (by omega), hxl, show j * esz + i - es.length * esz = (j - es.length) * esz + i by rw [Nat.sub_mul]; omega] at hu; exact (hr2 _ i e x u hj hi hu).keep hcell (fun _ _ h => Or.inl h)
  rcases ho with ho | ⟨_, ho⟩
  ·rcases hbk g hg with ⟨h1, h2, _⟩ | h1
   ·have hob := h.ob j
    rw [h1] at hob; obtain ⟨xs', _, _, _, _, _, h9⟩ := hob; have := (h9 g h2 o).1 ho; have := Nat.mul_le_mul_right esz (show es.length ≤ (es ++ new).length by simp); omega
   exact absurd (h.Sb g o ho) (by omega)
  exact ho
 subst hj; rw [AX] at hg; simp only [blk, AX] at hg; rcases hbk g hg with ⟨h1, h2, _⟩ | h1
 ·exact Or.inl (by rw [h1]; exact h2)
 exact Or.inr h1
theorem Pu {w : World} {B B' : Nat} {e : TypeId} {size n : Nat} {v : Value} {xs : List Value} (h : w.ownsRow B e size v n xs) (hB : B' ≤ B) : w.ownsRow B' e size v n xs := by
 obtain ⟨h1, h2 | ⟨g, cap, cur, h3, h4, h5⟩⟩ := h
 ·exact ⟨h1, Or.inl h2⟩
 exact ⟨h1, Or.inr ⟨g, cap, cur, h3, Nat.le_trans hB h4, h5⟩⟩
theorem Mz {w : World} (base : Nat) (t ty e : TypeId) (i : TypeInfo) (z : Value) (size bytes : Nat) (ht : P.underlying t = some (.slice e)) (hi : P.info? e = some i) (hz : i.zero = some z) (hsize : i.size = size) (hby : i.bytes = bytes) (hzs : z.cells.size = size) (hsz : 0 < size)
  (v : Value) (n : Nat) (xs : List Value) (hown : w.ownsRow base e size v n xs) (ad : Addr) (m c : Nat) (news : List Value) (hl : news.length = m * size) (hnews : ∀ (j : Nat) u, news[j]? = some u → w.cell? (ad.add j) = some u) (h1 : ∀ u ∈ news, u.oneCell' = true) (_hm : 0 < m)
  (h63 : n + m ≤ maxLen) (hbytes : (n + m) * bytes ≤ 140737488355328) (hbase : base ≤ w.heap.size) :
  ∃ v' w', (Builtin.append_ #[t, t] ty #[v, .slice (some ad) m c]).run P w = .ok v' w' ∧ w'.ownsRow base e size v' (n + m) (xs ++ news) ∧ w'.os = w.os ∧ w'.tape = w.tape ∧ w'.output = w.output ∧ w.heap.size ≤ w'.heap.size ∧
   (∀ g, g < w.heap.size → v'.ownBlock ≠ some g → w'.heap[g]? = w.heap[g]?) ∧ (v'.ownBlock = v.ownBlock ∨ ∀ g, v'.ownBlock = some g → w.heap.size ≤ g) := by
 rcases hown.2 with ⟨hv, hn⟩ | ⟨g, cap, cur, hv, hbg, hg, hnc, hcm, hcs, htake⟩
 ·subst hv hn
  obtain ⟨v', w', hr, ho, hgr, _, hb⟩ := run_append_own_at (P := P) w base t ty e i z size bytes ht hi hz hsize hby hzs hsz _ 0 xs hown ad m c news hl hnews h1 h63 hbytes hbase; refine ⟨v', w', hr, ho, hgr.os, hgr.tape, hgr.output, hgr.size, fun g hg _ => hgr.block g hg (fun h => by cases h), ?_⟩; rcases hb with hb | hb
  ·exact Or.inl hb
  exact Or.inr (fun g h => by rw [hb] at h; injection h with h; omega)
 subst hv; by_cases hroom : n + m ≤ cap
 ·obtain ⟨w', hr, ho, hgr⟩ := run_append_fits (P := P) w base t ty e i size ht hi hsize g n cap xs hown ad m c news hl hnews h1 hroom
  exact ⟨_, w', hr, ho, hgr.os, hgr.tape, hgr.output, hgr.size, fun k hk hne => hgr.block k hk (fun h => hne h.symm), Or.inl rfl⟩
 obtain ⟨v', w', hr, ho, hgr⟩ := run_append_arg_grows (P := P) w t ty e i z size bytes ht hi hz hsize hby hzs hsz ⟨g, 0, none⟩ n cap xs hown.1 (fun j u hu => World.ownsRow.cells hown (g := g) rfl j u hu) ad m c news hl hnews (by omega) h63 hbytes; exact ⟨v', w', hr, Pu ho hbase, hgr.os, hgr.tape, hgr.output, hgr.size, fun k hk _ => hgr.block k hk (fun h => by cases h), Or.inr (fun g h => (Du ho g h).1)⟩
theorem L9 {w : World} (t ty e : TypeId) (i : TypeInfo) (z : Value) (size bytes : Nat) (ht : P.underlying t = some (.slice e)) (hi : P.info? e = some i) (hz : i.zero = some z) (hsize : i.size = size) (hby : i.bytes = bytes) (hzs : z.cells.size = size) (hsz : 0 < size)
  (A : Option Addr) (n : Nat) (xs : List Value) (hxl : xs.length = n * size) (hA : A = none → n = 0) (hxs : ∀ b, A = some b → ∀ (j : Nat) u, xs[j]? = some u → w.cell? (b.add j) = some u) (ad : Addr) (m c : Nat) (news : List Value) (hl : news.length = m * size) (hnews : ∀ (j : Nat) u, news[j]? = some u → w.cell? (ad.add j) = some u) (h1 : ∀ u ∈ news, u.oneCell' = true) (hm : 0 < m)
  (h63 : n + m ≤ maxLen) (hbytes : (n + m) * bytes ≤ 140737488355328) :
  ∃ v' w', (Builtin.append_ #[t, t] ty #[.slice A n n, .slice (some ad) m c]).run P w = .ok v' w' ∧ w'.ownsRow w.heap.size e size v' (n + m) (xs ++ news) ∧ w.grownBy w' none := by
 cases A with
 | none =>
  obtain rfl := hA rfl; obtain rfl : xs = [] := List.eq_nil_of_length_eq_zero (by simpa using hxl); obtain ⟨v', w', hr, ho, hgr, _⟩ := run_append_own_at (P := P) w w.heap.size t ty e i z size bytes ht hi hz hsize hby hzs hsz (.slice none 0 0) 0 [] (World.ownsRow_nil w _ e size) ad m c news hl hnews h1 h63 hbytes (Nat.le_refl _); exact ⟨v', w', hr, ho, hgr⟩
 | some b =>
  exact run_append_arg_grows (P := P) w t ty e i z size bytes ht hi hz hsize hby hzs hsz b n n xs hxl (hxs b rfl) ad m c news hl hnews (by omega) h63 hbytes
theorem Gi (h : RelE X E S s a W) {t t' : TypeId} {x y : Operand} (ho : o.op = .call { callee := .builtin .append, args := #[x, y], argTypes := #[t, t'] }) (hop : Dm P .append [x, y] [t, t'] o.dst s K) : Out P X s a W o K Q := by
 simp only [Dm] at hop; obtain ⟨rfl, hop⟩ := hop; split at hop
 ·rename_i e esz new d hti hy hd
  obtain ⟨i, j, z, i1, i2, i3, i4, i5, i6, i7, i8, i9, i10⟩ := FF hti; obtain ⟨full, hrep⟩ := KT h (Br h y) hy; have hez : ∀ (es : List (List IV)) full u, Rep W S (.sl es full) u → (∀ e ∈ es, ∀ x ∈ e, x.one = true) := fun es full u hu => by
   cases hu with
   | sl ez f g1 g2 g3 g4 g5 hA hR => exact fun e he => (g5 e he).2
  split at hop
  ·rename_i k n hx
   have hex := Br h x; rw [hx] at hex; split at hop
   ·rename_i ty' z' es hst
    obtain ⟨⟨rfl, rfl, rfl, h0, hle, hnz⟩, hK⟩ := hop; obtain ⟨_, _, _, e1, _, e3⟩ := hex; rw [hst] at e1; injection e1 with _ _ e1; subst e1; have hax := e3 rfl; have hob := h.ob k; rw [hst] at hob; obtain ⟨xs, r1, r2, r3, r4, r5, r6⟩ := hob; obtain ⟨g, oo, c, hay, news, n1, n2, n3, n4⟩ := Mv hrep h0 r2 hnz; have hb1 : (es.length + new.length) * j.bytes ≤ 140737488355328 := Nat.le_trans (Nat.mul_le_mul hle i10) (by decide); obtain ⟨v', W', hrun, o1, o2, o3, o4, o5, o6, o7⟩ := Mz (P := P) (w := W) X.W0.heap.size t' o.type ty' j z z' j.bytes i1 i5 i6 i8 rfl i7 r2 (E.row k) es.length xs r1 ⟨g, oo, none⟩ new.length c news n1 n2 n3 h0 (by unfold maxLen; omega) hb1 h.u.size; have hN := h.grow (k := k) (Or.inr hst) h0 r2 o1 r1.1 n1 o2 o3 o4 o5 o6 (fun g hg => by
     rcases o7 with o7 | o7
     ·exact Or.inl ⟨hst, by rw [← o7]; exact hg, E.row k, r1, by rw [← o7]; exact hg⟩
     ·exact Or.inr (o7 g hg)) hle (fun e he => by
     rcases List.mem_append.1 he with he | he
     ·exact r4 e he
     exact ⟨hnz e he, hez _ _ _ hrep e he⟩) r5 n4
    refine EV (W' := W') (u := v') ?_ hK hN ⟨_, _, _, AX _ _ _, Nat.le_refl _, fun _ => (AX _ _ _).symm⟩; simp only [execOp, ho, resolve, invoke, builtin, Sem.run_bind, Sem.run_pure, Result.andThen_ok, List.map_toArray, List.map_cons, List.map_nil, hax, hay, hrun]
   exact hop.elim
  ·rename_i es hx
   have hex := Br h x; rw [hx] at hex; split at hop
   ·rename_i hst
    obtain ⟨⟨h0, hle, hnz, hnx⟩, hK⟩ := hop; obtain ⟨g, oo, c, hay, news, n1, n2, n3, n4⟩ := Mv hrep h0 i9 hnz; have hb1 : (es.length + new.length) * j.bytes ≤ 140737488355328 := Nat.le_trans (Nat.mul_le_mul hle i10) (by decide); have hesx := hez _ _ _ hex; have hold : ∃ (A : Option Addr) (xs : List Value), a.eval x = .slice A es.length es.length ∧ (A = none → es.length = 0) ∧ xs.length = es.length * esz ∧ (∀ b, A = some b → ∀ (j : Nat) u, xs[j]? = some u → W.cell? (b.add j) = some u) ∧ ∀ (j i : Nat) e x u, es[j]? = some e → e[i]? = some x → xs[j * esz + i]? = some u → Rep W S x u := by
     by_cases hes : 0 < es.length
     ·obtain ⟨g', oo', c', hax, xs, m1, m2, m3, m4⟩ := Mv hex hes i9 hnx
      have hcc : c' = es.length := by
       rw [hax] at hex; cases hex with
       | sl ez f g1 g2 g3 g4 g5 hA hR => exact g4 rfl
      subst hcc; exact ⟨_, xs, hax, fun h => (by cases h), m1, fun b hb => (by injection hb with hb; subst hb; exact m2), m4⟩
     obtain rfl : es = [] := List.eq_nil_of_length_eq_zero (by omega); revert hex
     generalize hu : a.eval x = w; intro hex; cases hex with
     | sl ez f g1 g2 g3 g4 g5 hA hR =>
      rename_i A c'
      have : c' = 0 := g4 rfl; subst this; exact ⟨A, [], rfl, fun _ => rfl, by simp, fun b _ j u h => (by simp at h), fun j i e x u h => (by simp at h)⟩
    obtain ⟨A, xs, hax, hA, hxl, hxs, hxr⟩ := hold; obtain ⟨v', W', hrun, o1, o2⟩ := L9 (P := P) (w := W) t' o.type e j z esz j.bytes i1 i5 i6 i8 rfl i7 i9 A es.length xs hxl hA hxs ⟨g, oo, none⟩ new.length c news n1 n2 n3 h0 (by unfold maxLen; omega) hb1; have hN := h.grow (k := d) (ty := e) (esz := esz) (es := es) (Or.inl hst) h0 i9 (Pu o1 h.u.size) hxl n1 o2.os o2.tape o2.output o2.size (fun g hg _ => o2.block g hg (fun h => by cases h)) (fun g hg => Or.inr (Du o1 g hg).1) hle (fun e he => by
     rcases List.mem_append.1 he with he | he
     ·exact ⟨hnx e he, hesx e he⟩
     exact ⟨hnz e he, hez _ _ _ hrep e he⟩) hxr n4
    refine EV (W' := W') (u := v') ?_ hK hN ⟨_, _, _, AX _ _ _, Nat.le_refl _, fun _ => (AX _ _ _).symm⟩; simp only [execOp, ho, resolve, invoke, builtin, Sem.run_bind, Sem.run_pure, Result.andThen_ok, List.map_toArray, List.map_cons, List.map_nil, hax, hay, hrun]
   exact hop.elim
  exact hop.elim
 exact hop.elim
theorem X2 (h : RelE X E S s a W) {t : TypeId} {x : Operand} (ho : o.op = .call { callee := .builtin .len, args := #[x], argTypes := #[t] }) (hop : Dm P .len [x] [t] o.dst s K) : Out P X s a W o K Q := by
 simp only [Dm] at hop; split at hop
 ·rename_i b ht hx
  have hx' := Cn h hx; have hrun : (Builtin.len_ #[t] o.type #[.string b]).run P W = .ok (.int .i64 b.size) W := by simp [Builtin.len_, run_underlying ht, goInt]
  exact Bm h (u := .int .i64 b.size) (by simp only [execOp, ho, resolve, invoke, builtin, Sem.run_bind, Sem.run_pure, Result.andThen_ok, List.map_toArray, List.map_cons, List.map_nil, hx', hrun]) hop (.v _)
 ·rename_i el ht
  split at hop
  ·rename_i es hes
   obtain ⟨full, hrep⟩ := KT h (Br h x) hes; revert hrep
   generalize hu : a.eval x = w; intro hrep; cases hrep with
   | sl ez f g1 g2 g3 g4 g5 hA hR =>
    rename_i A c
    have hrun : (Builtin.len_ #[t] o.type #[.slice A es.length c]).run P W = .ok (.int .i64 es.length) W := by simp [Builtin.len_, run_underlying ht, goInt]
    exact Bm h (u := .int .i64 es.length) (by simp only [execOp, ho, resolve, invoke, builtin, Sem.run_bind, Sem.run_pure, Result.andThen_ok, List.map_toArray, List.map_cons, List.map_nil, hu, hrun]) hop (.v _)
  exact hop.elim
 exact hop.elim
theorem Ym (h : RelE X E S s a W) {ts : Array TypeId} {x y : Operand} (ho : o.op = .call { callee := .builtin .min, args := #[x, y], argTypes := ts }) (hop : Dm P .min [x, y] ts.toList o.dst s K) : Out P X s a W o K Q := by
 simp only [Dm] at hop; split at hop
 ·rename_i k n k' m hx hy
  have hx' := Cn h hx; have hy' := Cn h hy; have hrun : (Builtin.min_ ts o.type #[.int k n, .int k' m]).run P W = .ok (.int k (if m < n then m else n)) W := by simp [Builtin.min_, Builtin.min2]
  exact Bm h (u := .int k (if m < n then m else n)) (by simp only [execOp, ho, resolve, invoke, builtin, Sem.run_bind, Sem.run_pure, Result.andThen_ok, List.map_toArray, List.map_cons, List.map_nil, hx', hy', hrun]) hop (.v _)
 exact hop.elim
end
open Go Go.RowKit Go.Proofs Th
attribute [local go_sem] Above.cell
theorem Wi (s : ByteArray) (a : Nat) (b : Bool) (hb : decide (s.data.toList[a]? = some 40) = b) (w : World) : Calls Tryz.prog 84 #[.string (s.extract a s.size), .string ⟨#[40]⟩] w fun e w' => e = .returned (.bool b) ∧ w' = w := by
 have h := Tryz.strings_HasPrefix (s.extract a s.size) ⟨#[40]⟩ w; rw [EK, show (⟨#[40]⟩ : ByteArray).data.toList = [40] from rfl, Rl, hb] at h; exact h
def E4 (w : World) (p : Nat) (s : ByteArray) (q : Nat × Nat) (r : Ending) (w' : World) : Prop :=
 r = .returned (.tuple #[.int .i64 (if q.2 = 0 then 0 else (q.1 : Int)), .int .i64 (q.2 : Int)]) ∧ ∃ j : Nat, ScP w w' p s j ∧ j ≤ s.size ∧ (q.2 = 0 → j = q.1)
structure QuoteS (w W : World) (p : Nat) (s : ByteArray) (d f : Nat) (q : Nat × Nat) (g a : Nat) : Prop where
 sc : ScP w W p s (min a s.size)
 room : s.size + 2 ≤ g + a
 gn : g ≤ s.size + 2
 q : qGo s.data.toList (AF s.data.toList d) f g 0 a = q
 glob : GlobX W
theorem VJ (L : List UInt8) (one : Nat → Tf × Nat × Nat) (f g a : Nat) (c : UInt8) (h : L[a]? = some c) : qGo L one f (g + 1) 0 a = if c = 34 then (a + 1, 0) else if c ≠ 92 then qGo L one f g 0 (a + 1) else if L[a + 1]? = some 40 then qGo L one f g 1 (a + 2) else qGo L one f g 0 (a + 2) := by
 simp only [qGo]; rw [h]
theorem Wd (L : List UInt8) (one : Nat → Tf × Nat × Nat) (f g a : Nat) (h : L[a]? = none) : qGo L one f (g + 1) 0 a = (f, 20) := by
 simp only [qGo]; rw [h]
theorem Up (p : Nat) (s : ByteArray) (hs : s.size ≤ 1000000) (d : Nat) (k : Int) (hk0 : 0 ≤ k) (hk : k < 48)
  (hN : ∀ (W : World) (j : Nat), Box W p [.string s, .int .i64 j] → j ≤ s.size → GlobX W → Calls Tryz.prog 47 #[.pointer (some ⟨p, 0, none⟩), .int .i64 (k + 1)] W fun r w' => DM W p s (AF s.data.toList d j) r w')
  (f : Nat) (hf : f < s.size) (w : World) (hB : Box w p [.string s, .int .i64 f]) (hG : GlobX w) :
  Calls Tryz.prog 72 #[.pointer (some ⟨p, 0, none⟩), .int .i64 k] w fun r w' => E4 w p s (BK s.data.toList (d + 1) f) r w' := by
 have HL := Keep.mk (Ai s); have HA := Keep.mk (fun j h => JS s j h); have HAN := Keep.mk (fun j h => MH s j h); have HI := Keep.mk (fun n a (ha : a ≤ s.size) hn hnn W hB hG => Nl p s hs d k hk0 (by omega) hN f n a ha hn hnn W hB hG); obtain ⟨q, hq⟩ : ∃ q, BK s.data.toList (d + 1) f = q := ⟨_, rfl⟩
 rw [hq]; have hq0 : qGo s.data.toList (AF s.data.toList d) f (s.size + 2) 0 (f + 1) = q := by rw [← hq, ← HL.out]; rfl
 clear hN hq; have HQ0 := Keep.mk hq0; clear hq0; have HS := Keep.mk (show ScP w w p s f from ⟨hB, Upd.refl p w⟩); have HG := Keep.mk hG; have bk : (k == 48) = false := by rw [beq_eq_false_iff_ne]; omega
 clear hB hG; obtain ⟨p0, p1⟩ := HS.out.b.p2; have pf := HS.out.b.froz 1; have pl := HS.out.b.lt; go_enter Tryz.func72, Tryz.ntmps72
 go_wp2_with fail
 go_loopg [] (s.size + 2) (fun gk wr => ∃ a : Nat, f < a ∧ a ≤ s.size + 1 ∧ Keep (QuoteS w wr p s d f q gk a))
 case atStart =>
  have hm : min (f + 1) s.size = f + 1 := by omega
  exact ⟨f + 1, by omega, by omega, ⟨⟨by rw [hm]; exact HS.out.set (f + 1) _ (by omega), by omega, Nat.le_refl _, HQ0.out, HG.out.upd HS.out.b (Upd.set p 1 w _)⟩⟩⟩
 case round =>
  clear HS HG HQ0; clear p0 p1 pf pl; obtain ⟨a, hfa, ham, HQ⟩ := hrel; have hroom := HQ.out.room; have hgn := HQ.out.gn; have hqq := HQ.out.q; have HG := Keep.mk HQ.out.glob; by_cases hlt : a < s.size
  ·have hmin : min a s.size = a := by omega
   have HS := Keep.mk (show ScP w wr p s a by have := HQ.out.sc; rwa [hmin] at this); obtain ⟨g, rfl⟩ : ∃ g, gk = g + 1 := ⟨gk - 1, by omega⟩
   rw [VJ _ _ _ _ _ _ (HA.out a hlt)] at hqq; clear HQ hmin; obtain ⟨p0, p1⟩ := HS.out.b.p2; have pf := HS.out.b.froz 1; have pl := HS.out.b.lt; go_wp2_with fail
   refine A9 (by kernel_rfl) (by kernel_rfl) ?_; repeat (go_big_quiet_step (fail))
   refine wpQuiet_nil ?_; rintro W2 ⟨z, hz⟩; replace HS := Keep.mk (hz ▸ HS.out.above z.property); replace HG := Keep.mk (hz ▸ HG.out.below z.property); clear p0 p1 pf pl; clear hz z; obtain ⟨p0, p1⟩ := HS.out.b.p2; have pf := HS.out.b.froz 1; have pl := HS.out.b.lt; go_wp2_with fail
   refine A9 (by kernel_rfl) (by kernel_rfl) ?_; repeat (go_big_quiet_step (fail))
   refine wpQuiet_nil ?_; rintro W2 ⟨z, hz⟩; replace HS := Keep.mk (hz ▸ HS.out.above z.property); replace HG := Keep.mk (hz ▸ HG.out.below z.property); clear p0 p1 pf pl; clear hz z; obtain ⟨p0, p1⟩ := HS.out.b.p2; have pf := HS.out.b.froz 1; have pl := HS.out.b.lt; by_cases h34 : s[a] = 34
   ·rw [if_pos h34] at hqq
    have HE := Keep.mk hqq.symm; have f34 : (s[a].toNat : Int) = 34 := by rw [h34]; rfl
    clear hqq h34 HI; go_wp2
    refine bodyPost_ret (v := .tuple #[.int .i64 0, .int .i64 0]) ?_ rfl ?_
    ·simp [results, Tryz.results72, go_sem]
    rw [HE.out]; exact ⟨rfl, a + 1, HS.out.set (a + 1) _ (by omega), by omega, fun _ => rfl⟩
   rw [if_neg h34] at hqq; have f34 : ¬ (s[a].toNat : Int) = 34 := fun h => h34 (UInt8.toNat_inj.1 (by show s[a].toNat = 34; omega))
   by_cases h92 : s[a] = 92
   ·rw [if_neg (fun h => h h92)] at hqq
    have f92 : (s[a].toNat : Int) = 92 := by rw [h92]; rfl
    obtain ⟨b, hb⟩ : ∃ b, decide (s.data.toList[a + 1]? = some 40) = b := ⟨_, rfl⟩
    have HC := Keep.mk (fun (z : Above W2) => Fk (Wi s (a + 1) b hb z.val)); clear h34 h92; go_wp2_with fail
    refine A9 (by kernel_rfl) (by kernel_rfl) ?_; repeat (go_big_quiet_step ((go_at_call 84; exact FM (HC.out _))))
    refine wpQuiet_nil ?_; rintro W2 ⟨z, hz⟩; replace HS := Keep.mk (hz ▸ HS.out.above z.property); replace HG := Keep.mk (hz ▸ HG.out.below z.property); clear p0 p1 pf pl; clear hz z; obtain ⟨p0, p1⟩ := HS.out.b.p2; have pf := HS.out.b.froz 1; have pl := HS.out.b.lt; clear HC; cases b
    ·have h40 := of_decide_eq_false hb
     rw [if_neg h40] at hqq; have HQ2 := Keep.mk hqq; clear hb h40 hqq; go_upto_region 19 with fail
     go_still_tail 14, (by kernel_rfl)
     change wpList _ _ _ _ _ W2.drew; have hS3 := HS.out.above (Ed W2); have hG3 := HG.out.below (Ed W2); clear HS HG; clear p0 p1 pf pl; have HS := Keep.mk hS3; have HG := Keep.mk hG3; clear hS3 hG3; change Keep (ScP w W2.drew p s a) at HS; change Keep (GlobX W2.drew) at HG; generalize W2.drew = W3 at HS HG ⊢; obtain ⟨p0, p1⟩ := HS.out.b.p2; have pf := HS.out.b.froz 1; have pl := HS.out.b.lt; go_wp2
     go_roundg g
     case rel => exact ⟨a + 2, by omega, by omega, ⟨⟨HS.out.set (min (a + 2) s.size) _ (by omega), by omega, by omega, HQ2.out, HG.out.upd HS.out.b (Upd.set p 1 _ _)⟩⟩⟩
     case measure => omega
    have h40 := of_decide_eq_true hb; rw [if_pos h40] at hqq; have ha2 : a + 2 ≤ s.size := by
     have := (List.getElem?_eq_some_iff.1 h40).1; rw [HL.out] at this; omega
    have HQ2 := Keep.mk hqq; have HS3 := Keep.mk (fun z hz => HS.out.set (a + 2) z hz); have HG3 := Keep.mk (fun v => HG.out.upd HS.out.b (Upd.set p 1 _ v)); clear hb h40 hqq; go_wp2_with fail
    refine (HI.out g (a + 2) ha2 (by omega) (by omega) _ (HS3.out _ (by omega)).b (HG3.out _)).mono ?_; rintro r w3 ⟨j, x, e, rfl, hsc, hj, hcase⟩; have HS4 := Keep.mk (show ScP w w3 p s j from ⟨hsc.b, (HS3.out _ (by omega)).u.trans hsc.u⟩); have HG4 := Keep.mk ((HG3.out _).upd (HS3.out _ (by omega)).b hsc.u); clear hsc HS3 HG3; rcases hcase with ⟨rfl, _, n', hn1, hn2, hn3, hn4, _⟩ | ⟨rfl, hq2⟩ | ⟨he0, he240, q2, hq2, rfl, rfl⟩
    ·have HQ3 := Keep.mk (hn4.trans HQ2.out)
     clear hn4; go_wp2
     go_roundg n'
     case rel => exact ⟨j, by omega, by omega, ⟨⟨by rw [show min j s.size = j from by omega]; exact HS4.out, by omega, by omega, HQ3.out, HG4.out⟩⟩⟩
     case measure => omega
    ·have HQ3 := Keep.mk (HQ2.out.symm.trans hq2)
     clear hq2; go_wp2
     refine bodyPost_ret (v := .tuple #[.int .i64 (f : Int), .int .i64 20]) ?_ rfl ?_
     ·simp [results, Tryz.results72, go_sem]
     rw [HQ3.out]; exact ⟨rfl, j, HS4.out, hj, fun h => by cases h⟩
    have HQ3 := Keep.mk (HQ2.out.symm.trans hq2); have hne : ¬ q2.2 = 0 := fun h => he0 (by rw [h]; rfl)
    clear hq2; go_wp2
    refine bodyPost_ret (v := .tuple #[.int .i64 (q2.1 : Int), .int .i64 (q2.2 : Int)]) ?_ rfl ?_
    ·simp [results, Tryz.results72, go_sem]
    rw [HQ3.out]; exact ⟨by rw [if_neg hne], j, HS4.out, hj, fun h => absurd h hne⟩
   rw [if_pos h92] at hqq; have f92 : ¬ (s[a].toNat : Int) = 92 := fun h => h92 (UInt8.toNat_inj.1 (by show s[a].toNat = 92; omega))
   have g92 : ((s[a].toNat : Int) == 92) = false := by rw [beq_eq_false_iff_ne]; exact f92
   have HQ2 := Keep.mk hqq; clear h34 h92 hqq; go_wp2_with fail
   refine A9 (by kernel_rfl) (by kernel_rfl) ?_; repeat (go_big_quiet_step (fail))
   refine wpQuiet_nil ?_; rintro W2 ⟨z, hz⟩; replace HS := Keep.mk (hz ▸ HS.out.above z.property); replace HG := Keep.mk (hz ▸ HG.out.below z.property); clear p0 p1 pf pl; clear hz z; obtain ⟨p0, p1⟩ := HS.out.b.p2; have pf := HS.out.b.froz 1; have pl := HS.out.b.lt; go_wp2
   go_roundg g
   case rel => exact ⟨a + 1, by omega, by omega, ⟨⟨by rw [show min (a + 1) s.size = a + 1 from by omega]; exact HS.out.set (a + 1) _ (by omega), by omega, by omega, HQ2.out, HG.out.upd HS.out.b (Upd.set p 1 _ _)⟩⟩⟩
   case measure => omega
  have hmin : min a s.size = s.size := by omega
  have HS := Keep.mk (show ScP w wr p s s.size by have := HQ.out.sc; rwa [hmin] at this); have HE : Keep (q = (f, 20)) := by
   obtain ⟨g, rfl⟩ : ∃ g, gk = g + 1 := ⟨gk - 1, by omega⟩
   rw [Wd _ _ _ _ _ (HAN.out a hlt)] at hqq; exact ⟨hqq.symm⟩
  clear HQ hmin hqq HI; obtain ⟨p0, p1⟩ := HS.out.b.p2; have pf := HS.out.b.froz 1; have pl := HS.out.b.lt; go_wp2_with fail
  refine A9 (by kernel_rfl) (by kernel_rfl) ?_; repeat (go_big_quiet_step (fail))
  refine wpQuiet_nil ?_; rintro W2 ⟨z, hz⟩; replace HS := Keep.mk (hz ▸ HS.out.above z.property); replace HG := Keep.mk (hz ▸ HG.out.below z.property); clear p0 p1 pf pl; clear hz z; obtain ⟨p0, p1⟩ := HS.out.b.p2; have pf := HS.out.b.froz 1; have pl := HS.out.b.lt; go_wp2
  refine bodyPost_ret (v := .tuple #[.int .i64 (f : Int), .int .i64 20]) ?_ rfl ?_
  ·simp [results, Tryz.results72, go_sem]
  rw [HE.out]; exact ⟨rfl, s.size, HS.out, Nat.le_refl _, fun h => by cases h⟩
open Go Go.RowKit Go.Proofs Th
def DS (t : Tf) : List Value := [.int .i64 (t.kind : Int), .string t.text, .int .i64 (t.at_ : Int)]
structure OwnT (w : World) (base : Nat) (v : Value) (l : List Tf) : Prop where
 row : w.ownsRow base 66 3 v l.length (l.flatMap DS)
theorem OwnT.nil (w : World) (base : Nat) : OwnT w base (.slice none 0 0) [] := ⟨World.ownsRow_nil w base _ 3⟩
theorem OwnT.keep {w w' : World} {base : Nat} {v : Value} {l : List Tf} (h : OwnT w base v l) (hb : ∀ k, v.ownBlock = some k → w'.heap[k]? = w.heap[k]?) : OwnT w' base v l := ⟨Oo h.row hb⟩
theorem OwnT.lt {w : World} {base : Nat} {v : Value} {l : List Tf} (h : OwnT w base v l) : ∀ k, v.ownBlock = some k → base ≤ k ∧ k < w.heap.size := Du h.row
theorem OwnT.form {w : World} {base : Nat} {v : Value} {l : List Tf} (h : OwnT w base v l) : ∃ A c, v = .slice A l.length c ∧ l.length ≤ c ∧ c ≤ 9223372036854775807 := by
 obtain ⟨_, ⟨rfl, h0⟩ | ⟨g, cap, cur, rfl, _, _, h3, h4, _⟩⟩ := h.row
 ·exact ⟨none, 0, by rw [h0], by omega, by decide⟩
 exact ⟨_, _, rfl, h3, by unfold maxLen at h4; omega⟩
theorem Q6 : ∀ (l : List Tf) (j : Nat) (h : j < l.length) (i : Nat), i < 3 → (l.flatMap DS)[j * 3 + i]? = (DS l[j])[i]?
 | t :: l, 0, _, i, hi => by
  rw [List.flatMap_cons, List.getElem?_append_left (by show _ < 3; omega), Nat.zero_mul, Nat.zero_add]; rfl
 | t :: l, j + 1, h, i, hi => by
  rw [List.flatMap_cons, List.getElem?_append_right (by show 3 ≤ _; omega), show (j + 1) * 3 + i - (DS t).length = j * 3 + i from by show _ - 3 = _; omega]; exact Q6 l j (by simpa using h) i hi
theorem OwnT.toks {w : World} {base : Nat} {A : Option Addr} {n c : Nat} {l : List Tf} {S : Nat → Prop} (h : OwnT w base (.slice A n c) l) (hl : l.length ≤ 100000) (hsm : ∀ t ∈ l, t.text.size ≤ 100000 ∧ t.at_ ≤ 100000) (hS : ∀ k, (Value.slice A n c).ownBlock = some k → S k) : n = l.length ∧ ToksIn w S A c l := by
 obtain ⟨A', c', e, h1, h2⟩ := h.form; injection e with e1 e2 e3; subst e1 e2 e3; refine ⟨rfl, h1, hl, h2, hsm, fun hn => ?_⟩; have h3' := h.row; obtain ⟨hx, ⟨_, h0⟩ | ⟨g, cap, cur, e, _, _, _⟩⟩ := h.row
 ·omega
 injection e with e1 _ e3; subst e1; refine ⟨g, 0, rfl, hS g rfl, fun j hj => ?_⟩; have key : ∀ i, i < 3 → ∀ u, (DS l[j])[i]? = some u → w.cell? ⟨g, 0 + j * 3 + i, none⟩ = some u := fun i hi u hu => by
  have hc := World.ownsRow.cells h3' (g := g) rfl (j * 3 + i) u (by rw [Q6 l j hj i hi]; exact hu); rw [EF] at hc; rw [← hc]; congr 2; omega
 exact ⟨key 0 (by omega) _ rfl, key 1 (by omega) _ rfl, key 2 (by omega) _ rfl⟩
theorem Tv : (Tryz.prog.info? 66).map (fun i => (i.zero, i.size, i.bytes)) = some (some (.agg #[.int .i64 0, .string ⟨#[]⟩, .int .i64 0]), 3, 32) := by kernel_rfl
/-- append of one token -/
theorem M2 {w : World} (ty : TypeId) (base : Nat) (v : Value) (l : List Tf) (hown : OwnT w base v l) (p : Nat) (t : Tf) (hcell : ∀ i u, (DS t)[i]? = some u → w.cell? ⟨p, i, none⟩ = some u)
  (hl : l.length + 1 ≤ 1000000000) (hbase : base ≤ w.heap.size) :
  ∃ v' w', (Builtin.append_ #[45, 45] ty #[v, .slice (some ⟨p, 0, none⟩) 1 1]).run Tryz.prog w = .ok v' w' ∧ OwnT w' base v' (l ++ [t]) ∧ w.grownBy w' v.ownBlock ∧ (v'.ownBlock = v.ownBlock ∨ v'.ownBlock = some w.heap.size) := by
 obtain ⟨i, hi, hz, hsize, hby⟩ := info_parts Tv; have hone : ∀ u ∈ DS t, u.oneCell' = true := by
  intro u hu; simp only [DS, List.mem_cons, List.not_mem_nil, or_false] at hu; rcases hu with rfl | rfl | rfl <;> rfl
 obtain ⟨v', w', hrun, h3, h4, _, h5⟩ := run_append_own_at (P := Tryz.prog) w base 45 ty 66 i _ 3 32 Tryz.underlying45 hi hz hsize hby rfl (by omega) v l.length (l.flatMap DS) hown.row ⟨p, 0, none⟩ 1 1 (DS t) (by show 3 = 1 * 3; omega) (fun j u hu => by rw [EF, Nat.zero_add]; exact hcell j u hu) hone (by simp [maxLen]; omega) (by omega) hbase; refine ⟨v', w', hrun, ⟨by rw [List.length_append, List.length_singleton, List.flatMap_append, List.flatMap_singleton]; exact h3⟩, h4, h5⟩
theorem M0 {w : World} {ops : Array Oper} {rest : List Oper} {o : Oper} {a : Act} {Q : Exit → Act → World → Prop} (hgd : o.guard = none) (s x : Operand)
  (ho : o.op = .call { callee := .builtin .append, args := #[s, x], argTypes := #[45, 45] })
  (base : Nat) (v : Value) (l : List Tf) (hs : a.eval s = v) (hown : OwnT w base v l) (p : Nat) (t : Tf) (hx : a.eval x = .slice (some ⟨p, 0, none⟩) 1 1) (hcell : ∀ i u, (DS t)[i]? = some u → w.cell? ⟨p, i, none⟩ = some u)
  (hl : l.length + 1 ≤ 1000000000) (hbase : base ≤ w.heap.size)
  (h : ∀ v' w', OwnT w' base v' (l ++ [t]) → w.grownBy w' v.ownBlock → (v'.ownBlock = v.ownBlock ∨ v'.ownBlock = some w.heap.size) → wpList Tryz.prog ops Q rest (a.put o.dst v') w') : wpList Tryz.prog ops Q (o :: rest) a w := by
 refine wpList_plain hgd fun K hK => ?_
 obtain ⟨v', w', hrun, h2, h3, h4⟩ := M2 (w := w) o.type base v l hown p t hcell hl hbase; unfold Oper.wp execOp; simp only [ho, resolve, invoke, builtin, Sem.run_bind, Sem.run_pure, Result.andThen_ok, List.map_toArray, List.map_cons, List.map_nil, hs, hx, hrun]; exact hK _ _ (h v' w' h2 h3 h4)
end Go.Proofs.YtakncilicoefdaaGreatDoor
namespace Th
open Go Go.Lib
inductive PS (L : List UInt8) : NJ → Nat → Nat → Prop
 | ok {n : NJ} (h : Flt L n) (hd : AB n ≤ 48) : PS L n 0 0
 | deep {n : NJ} (h : Flt L n) (hd : 48 < AB n) : PS L EA 0 31
 | bad {a e : Nat} (he : e ≠ 0) (ha : a ≤ L.length) (hn : ∀ n, ¬ Flt L n) (hf : ∀ l a' e', Bp L = (l, 0, 0) → evP (B5 L 0) .whole 0 = some (.bad a' e') → e = e') : PS L EA a e
theorem PS.cases {L : List UInt8} {n : NJ} {a e : Nat} (h : PS L n a e) : (e ≠ 0 ∧ n = EA ∧ a ≤ L.length) ∨ (Flt L n ∧ AB n ≤ 48 ∧ a = 0 ∧ e = 0) := by
 cases h with
 | ok h hd => exact .inr ⟨h, hd, rfl, rfl⟩
 | deep h hd => exact .inl ⟨by decide, rfl, Nat.zero_le _⟩
 | bad he ha _ _ => exact .inl ⟨he, rfl, ha⟩
theorem XP (L : List UInt8) : (Bp L).2.1 ≤ L.length := by
 have key : ∀ (n a : Nat) (acc : List Tf), a ≤ L.length → (BJ L n a acc).2.1 ≤ L.length := by
  intro n; induction n with
  | zero => intro a acc _; exact Nat.zero_le _
  | succ n ih =>
   intro a acc ha; have hok := CR L 48 a ha; simp only [BJ]; split
   ·exact hok.le
   split
   ·exact Nat.zero_le _
   exact ih _ _ hok.le
 unfold Bp; split
 ·exact Nat.zero_le _
 exact key _ _ _ (Nat.zero_le _)
end Th
namespace Go.Proofs.YtakncilicoefdaaGreatDoor
open Go Go.RowKit Go.Proofs Th
def tl (b : ByteArray) : List UInt8 := b.data.toList
theorem Bw (a b : ByteArray) : tl (a ++ b) = tl a ++ tl b := by
 unfold tl; rw [ByteArray.data_append, Array.toList_append]
theorem C8 (l : List UInt8) : tl ⟨l.toArray⟩ = l := rfl
theorem GF (b : ByteArray) : (tl b).length = b.size := rfl
theorem Cm (s : ByteArray) : tl (DG s) = 40 :: (tl s ++ [41]) := by unfold DG; rw [Bw, Bw]; rfl
def AtK (E : Env) (i : Nat) (T : List TK) : Prop := ∃ C, (E.l.map tk).drop i = T ++ C
theorem AtK.app {E : Env} {i : Nat} {a b : List TK} (h : AtK E i (a ++ b)) : AtK E i a ∧ AtK E (i + a.length) b := by
 obtain ⟨C, h⟩ := h; rw [List.append_assoc] at h; exact ⟨⟨_, h⟩, C, by rw [← List.drop_drop, h, List.drop_left]⟩
theorem AtK.cons {E : Env} {i : Nat} {q : TK} {b : List TK} (h : AtK E i (q :: b)) : tk (Aa E i) = q ∧ AtK E (i + 1) b := by
 obtain ⟨C, h⟩ := h; refine ⟨?_, C, by rw [← List.drop_drop, h]; rfl⟩; have h2 := congrArg List.head? h; rw [List.head?_drop, List.getElem?_map] at h2; unfold Aa; rw [List.getD_eq_getElem?_getD]; cases he : E.l[i]? with
 | none => rw [he] at h2; cases h2
 | some t => rw [he] at h2; injection h2
theorem AtK.len {E : Env} {i : Nat} {T : List TK} (h : AtK E i T) : T.length ≤ E.l.length := by
 obtain ⟨C, h⟩ := h; have := congrArg List.length h; simp only [List.length_drop, List.length_map, List.length_append] at this; omega
def Gq (q : TK) : Prop := q.1 ≠ 5 ∧ q ≠ (6, ⟨#[40]⟩)
instance (q : TK) : Decidable (Gq q) := by unfold Gq; exact inferInstance
def IK (q : TK) : Prop := Gq q ∧ q.1 ≠ 3 ∧ q ≠ (6, ⟨#[63]⟩) ∧ q ≠ (6, ⟨#[91]⟩) ∧ q ≠ (6, ⟨#[46]⟩)
instance (q : TK) : Decidable (IK q) := by unfold IK; exact inferInstance
def Cl (q : TK) : Prop := IK q ∧ q ≠ (1, ⟨#[97, 115]⟩) ∧ Ok q
instance (q : TK) : Decidable (Cl q) := by unfold Cl; exact inferInstance
def HdK (q : TK) : Prop := q ≠ (6, ⟨#[45]⟩) ∧ q ≠ (1, ⟨#[100, 101, 102]⟩)
instance (q : TK) : Decidable (HdK q) := by unfold HdK; exact inferInstance
structure Gc (g : NJ → NJ) (c : TK → TK) : Prop where
 t : ∀ q : TK, q.1 ≠ 5 → c q = q
 h : ∀ x, HdK (c (5, x))
 m : ∀ (k : Int) (s : ByteArray) (m e : Int) (l : List NJ) (a : List ByteArray), k ≠ 3 → k ≠ 4 → g (.mk k s m e l a) = .mk k s m e (l.map g) a
theorem Gc.t1 {g : NJ → NJ} {c : TK → TK} (h : Gc g c) (x : ByteArray) : c (1, x) = (1, x) := h.t _ (show (1 : Nat) ≠ 5 by decide)
theorem Gc.t2 {g : NJ → NJ} {c : TK → TK} (h : Gc g c) (x : ByteArray) : c (2, x) = (2, x) := h.t _ (show (2 : Nat) ≠ 5 by decide)
theorem Gc.t4 {g : NJ → NJ} {c : TK → TK} (h : Gc g c) (x : ByteArray) : c (4, x) = (4, x) := h.t _ (show (4 : Nat) ≠ 5 by decide)
theorem Gc.t6 {g : NJ → NJ} {c : TK → TK} (h : Gc g c) (x : ByteArray) : c (6, x) = (6, x) := h.t _ (show (6 : Nat) ≠ 5 by decide)
theorem AtK.appM {E : Env} {i : Nat} {c : TK → TK} {a b : List TK} (h : AtK E i (a.map c ++ b)) : AtK E i (a.map c) ∧ AtK E (i + a.length) b := by
 have := h.app; rwa [List.length_map] at this
structure RdP (g : NJ → NJ) (c : TK → TK) (P : List UInt8) (dp : Nat) (n : NJ) (T : List TK) : Prop where
 sc : ∀ d, dp ≤ d → ∀ R, El R = true → RD d P T R
 bal : Bal T
 hd : ∃ q r, T = q :: r ∧ HdK q
 c61 : ∃ c r, P = c :: r ∧ c ≠ 61
 ev : ∀ E i j, AtK E i (T.map c) → j = i + T.length → Gq (tk (Aa E j)) → evP E .term i = evP E (.termLoop (g n)) j
abbrev Rd (g : NJ → NJ) (c : TK → TK) (n : NJ) (T : List TK) : Prop := RdP g c (tl (spJ n)) (AB n) n T
theorem WO {E : Env} {j : Nat} {n : NJ} (h : IK (tk (Aa E j))) : evP E (.termLoop n) j = some (.ok n j) := by
 obtain ⟨_, n1, n2, n3, n4⟩ := h; rw [AD]; simp only [Ak]; rw [if_neg (show ¬ (Aa E j).kind = 3 from n1), if_neg (fun h => n2 (AV.1 h)), if_neg (fun h => n3 (AV.1 h)), if_neg (fun h => n4 (AV.1 h))]; rfl
theorem Bx {E : Env} {i j : Nat} {n : NJ} (h : evP E .first i = some (.ok n j)) : evP E .term i = evP E (.termLoop n) j := by
 rw [AD]; simp only [Ak]; rw [h]; rfl
theorem Es {E : Env} {i j : Nat} {n : NJ} (h0 : tk (Aa E i) = (6, ⟨#[40]⟩)) (hf : evP E .filter (i + 1) = some (.ok n j)) (h1 : tk (Aa E j) = (6, ⟨#[41]⟩)) : evP E .first i = some (.ok n (j + 1)) := by
 rw [Gt h0, AD]; simp only [Ak]; rw [if_neg (by decide), if_neg (by decide), if_pos trivial, hf]; show A8 E j 6 ⟨#[41]⟩ _ = _
 unfold A8; rw [if_pos (AV.2 h1)]; rfl
section
variable {g : NJ → NJ} {c : TK → TK} (hG : Gc g c) {P : List UInt8} {dp : Nat} {n : NJ} {T : List TK} {E : Env} {i : Nat}
theorem RdP.term (h : RdP g c P dp n T) (hat : AtK E i (T.map c)) (hq : IK (tk (Aa E (i + T.length)))) : evP E .term i = some (.ok (g n) (i + T.length)) := by
 rw [h.ev E i _ hat rfl hq.1, WO hq]
include hG
theorem RdP.hdc (h : RdP g c P dp n T) : ∃ q r, T.map c = q :: r ∧ HdK q := by
 obtain ⟨q, r, e, hh⟩ := h.hd; refine ⟨c q, r.map c, by rw [e]; rfl, ?_⟩; by_cases h5 : q.1 = 5
 ·have : q = (5, q.2) := Prod.ext h5 rfl
  rw [this]; exact hG.h _
 rw [hG.t q h5]; exact hh
theorem RdP.atom (h : RdP g c P dp n T) (hat : AtK E i (T.map c)) (hq : IK (tk (Aa E (i + T.length)))) (ha : tk (Aa E (i + T.length)) ≠ (1, ⟨#[97, 115]⟩)) : Atom E i (g n) (i + T.length) := by
 obtain ⟨q, r, e, h1, h2⟩ := h.hdc hG; have h5 := h.term hat hq; rw [e] at hat; have h0 := hat.cons.1; refine ⟨?_, fun hh => h2 (by rw [← h0]; exact AV.1 hh)⟩; rw [AD]; simp only [Ak]; rw [if_neg (fun hh => h1 (by rw [← h0]; exact AV.1 hh)), h5]; show (if isT E _ 1 ⟨#[97, 115]⟩ then _ else _) = _
 rw [if_neg (fun hh => ha (AV.1 hh))]; rfl
theorem RdP.flt (h : RdP g c P dp n T) (hat : AtK E i (T.map c)) (hq : Cl (tk (Aa E (i + T.length)))) : evP E .filter i = some (.ok (g n) (i + T.length)) := Ia (h.atom hG hat hq.1 hq.2.1) hq.2.2
end
theorem AZ {a r : List TK} (h : Bal a) (s : Nat) : Cx (s + 1) (a ++ r) = Cx (s + 1) r := Lm a r _ _ (h s)
theorem Jm {a : List TK} (h : Bal a) (s : Nat) : Cx (s + 1) a = some (s + 1) := h s
theorem DR (r : List TK) (s : Nat) : Cx (s + 1) ((6, ⟨#[40]⟩) :: r) = Cx (s + 1 + 1) r := rfl
theorem DT (r : List TK) (s : Nat) : Cx (s + 1 + 1) ((6, ⟨#[41]⟩) :: r) = Cx (s + 1) r := rfl
theorem Ec {k : Nat} (hk : k ≠ 6) (x : ByteArray) (r : List TK) (s : Nat) : Cx (s + 1) ((k, x) :: r) = Cx (s + 1) r := by
 show Cx (brk (s + 1) (k, x)) r = _
 unfold brk; rw [if_neg (fun h => hk h.1), if_neg (fun h => hk h.1)]
theorem BL {x : ByteArray} (h1 : x ≠ ⟨#[40]⟩) (h2 : x ≠ ⟨#[41]⟩) (r : List TK) (s : Nat) : Cx (s + 1) ((6, x) :: r) = Cx (s + 1) r := by
 show Cx (brk (s + 1) (6, x)) r = _
 unfold brk; rw [if_neg (fun h => h1 h.2), if_neg (fun h => h2 h.2)]
theorem Cc (s : Nat) : Cx s [] = some s := by cases s <;> rfl
open Classical in
/-- the tokens of a filter's text -/
noncomputable def CH (g : NJ → NJ) (c : TK → TK) (n : NJ) : List TK := if h : ∃ T, Rd g c n T then h.choose else []
theorem RA {g : NJ → NJ} {c : TK → TK} {n : NJ} (h : ∃ T, Rd g c n T) : Rd g c n (CH g c n) := by
 unfold CH; rw [dif_pos h]; exact h.choose_spec
variable {g : NJ → NJ} {c : TK → TK}
theorem RdP.par (hG : Gc g c) {P : List UInt8} {dp : Nat} {n : NJ} {T : List TK} (h : RdP g c P dp n T) : RdP g c (40 :: (P ++ [41])) dp n ((6, ⟨#[40]⟩) :: (T ++ [(6, ⟨#[41]⟩)])) where
 sc d hd R hR := by
  have := (A1 (c := 40) rfl d ((P ++ [41]) ++ R)).app ((h.sc d hd ([41] ++ R) rfl).app (A1 (c := 41) rfl d R)); exact this
 bal := h.bal.par
 hd := ⟨_, _, rfl, by decide⟩
 c61 := ⟨_, _, rfl, by decide⟩
 ev E i j hat hj hq := by
  simp only [List.map_cons, List.map_append, List.map_nil, hG.t6] at hat; obtain ⟨t0, hat⟩ := hat.cons; obtain ⟨h1, hat⟩ := hat.appM; obtain ⟨t2, _⟩ := hat.cons; obtain rfl : j = i + 1 + T.length + 1 := by rw [hj]; simp; omega
  exact Bx (Es t0 (h.flt hG h1 (by rw [t2]; decide)) t2)
def tgX (x : NJ) : List UInt8 := if LF (Av x) = true then tl (spJ x) else 40 :: (tl (spJ x) ++ [41])
theorem Fb (hG : Gc g c) {x : NJ} {T : List TK} (h : Rd g c x T) : ∃ G, RdP g c (tgX x) (AB x) x G := by
 unfold tgX; split
 ·exact ⟨_, h⟩
 exact ⟨_, h.par hG⟩
theorem Xz (ks : List Int) (ts : List ByteArray) (i : Nat) (x : NJ) (h1 : ks.getD i 0 = Av x) (h2 : ts.getD i ⟨#[]⟩ = spJ x) : tl (tgJ ks ts i) = tgX x := by
 unfold tgJ tgX; rw [h1, h2]; split
 ·rfl
 exact Cm _
/-! kinds without kids -/
theorem rd1 (hG : Gc g c) : ∃ T, Rd g c BR T := by
 refine ⟨[(6, ⟨#[46]⟩)], fun d _ R hR => Zq hR, FH (by decide) (by decide), ⟨_, _, rfl, by decide⟩, ⟨46, [], rfl, by decide⟩, fun E i j hat hj hq => ?_⟩; obtain ⟨t0, _⟩ := (show AtK E i _ from (by simpa only [List.map_cons, List.map_nil, hG.t6] using hat)).cons; obtain rfl : j = i + 1 := hj; rw [show g BR = BR from hG.m _ _ _ _ _ _ (by decide) (by decide)]; refine Bx ?_; rw [Gt t0, AD]; simp only [Ak]; rw [if_pos trivial, if_neg (show ¬ (Aa E (i + 1)).kind = 5 from hq.1)]; rfl
theorem aI (hG : Gc g c) : ∃ T, Rd g c (Ag 26 []) T := by
 refine ⟨[(6, ⟨#[46, 46]⟩)], fun d _ R hR => YH d R, FH (by decide) (by decide), ⟨_, _, rfl, by decide⟩, ⟨46, [46], rfl, by decide⟩, fun E i j hat hj hq => ?_⟩; obtain ⟨t0, _⟩ := (show AtK E i _ from (by simpa only [List.map_cons, List.map_nil, hG.t6] using hat)).cons; obtain rfl : j = i + 1 := hj; rw [show g (Ag 26 []) = (Ag 26 []) from hG.m _ _ _ _ _ _ (by decide) (by decide)]; refine Bx ?_; rw [Gt t0, AD]; simp only [Ak]; rw [if_neg (by decide), if_pos trivial]; rfl
theorem Xl {l : List UInt8} (h : BP l) : l.all Bs = true := by
 rw [List.all_eq_true]; intro c hc; have := h c hc; simpa [Bs] using this
theorem Gv {l : List UInt8} (h : BP l) (h0 : l ≠ []) : B3 l = true := by
 rw [Cd]; exact ⟨List.length_pos_iff.2 h0, Xl h⟩
theorem VH {m e : Int} (h0 : 0 ≤ m) : Cw (BF m e) = true := by
 have hs : sgn m = [] := by unfold sgn; rw [if_neg (by omega)]
 have hd := (E3 m.natAbs).1; have hn := E0 m.natAbs; unfold BF; rw [hs, List.nil_append, List.nil_append]; split
 ·exact I2 (D := Lib.decDigits m.natAbs ++ List.replicate e.toNat 48) (F := []) (E := []) ⟨by simp, Gv (Ea hd (Hj _)) (by simp [hn]), .inl rfl, .inl rfl⟩
 split
 ·rename_i h
  have hpd : BP (pad m e) ∧ (1 - e) ≤ ((pad m e).length : Int) := by
   have hn := GT m; unfold pad nd at *; split
   ·exact ⟨Ea (Hj _) hd, by rw [List.length_append, List.length_replicate, Lib.decDigits_length]; omega⟩
   exact ⟨hd, by rw [Lib.decDigits_length]; omega⟩
  obtain ⟨p1, p3⟩ := hpd; generalize pad m e = Q at *; refine I2 (D := Q.take ((Q.length : Int) + e).toNat) (F := 46 :: Q.drop ((Q.length : Int) + e).toNat) (E := []) ⟨by simp, Gv (fun x hx => p1 x (List.mem_of_mem_take hx)) ?_, .inr ⟨_, rfl, Gv (fun x hx => p1 x (List.mem_of_mem_drop hx)) ?_⟩, .inl rfl⟩
  ·intro hh
   have := congrArg List.length hh; rw [List.length_take, List.length_nil] at this; omega
  intro hh; have := congrArg List.length hh; rw [List.length_drop, List.length_nil] at this; omega
 refine I2 (D := Lib.decDigits m.natAbs) (F := []) (E := 101 :: Lib.itoa e) ⟨by simp, Gv hd hn, .inl rfl, .inr ⟨101, _, rfl, .inl rfl, ?_⟩⟩; unfold Lib.itoa; split
 ·show B3 (En (45 :: Lib.decDigits e.natAbs)) = true
  exact Gv (E3 _).1 (E0 _)
 have h1 := (E3 e.toNat).1; have h2 := E0 e.toNat; cases hq : Lib.decDigits e.toNat with
 | nil => exact absurd hq h2
 | cons c x =>
  rw [hq] at h1; have hc := h1 c List.mem_cons_self; show B3 (if c = 43 ∨ c = 45 then x else c :: x) = true
  rw [if_neg (by rintro (rfl | rfl) <;> simp at hc)]; exact Gv h1 (by simp)
theorem rd2 (hG : Gc g c) {m e : Int} (h0 : 0 ≤ m) (hr : right m e = true) : ∃ T, Rd g c (.mk 2 ⟨#[]⟩ m e [] []) T := by
 have ht : tl (spJ (.mk 2 ⟨#[]⟩ m e [] [])) = BF m e := by rw [spJ, if_neg (by decide), if_neg (by decide), if_pos rfl]; rfl
 have hn := VH (e := e) h0; have hp := RY m e hr; refine ⟨[(4, ⟨(BF m e).toArray⟩)], ?_⟩; unfold Rd; rw [ht]; refine ⟨fun d _ R hR => ZB hn hR, FH (by simp) (by simp), ⟨_, _, rfl, by simp [HdK]⟩, ?_, fun E i j hat hj hq => ?_⟩
 ·cases hl : BF m e with
  | nil => rw [hl] at hn; simp [Cw, Cj, B3] at hn
  | cons c x =>
   rw [hl] at hn; exact ⟨c, x, rfl, by have := D2 c x hn; rintro rfl; cases this⟩
 obtain ⟨t0, _⟩ := (show AtK E i _ from (by simpa only [List.map_cons, List.map_nil, hG.t4] using hat)).cons; obtain rfl : j = i + 1 := hj; rw [show g (.mk 2 ⟨#[]⟩ m e [] []) = (.mk 2 ⟨#[]⟩ m e [] []) from hG.m _ _ _ _ _ _ (by decide) (by decide)]; have hk : (Aa E i).kind = 4 := congrArg Prod.fst t0; have hx : (Aa E i).text = ⟨(BF m e).toArray⟩ := congrArg Prod.snd t0; refine Bx ?_; rw [AD]; simp only [Ak]; rw [if_neg (by omega), if_neg (by omega), if_neg (by omega), if_pos hk, hx]; dsimp only; rw [hp]; rfl
theorem bi (hG : Gc g c) {s : ByteArray} (hs : Bf s = true) : ∃ T, Rd g c (Cy s) T := by
 have ht : tl (spJ (Cy s)) = 36 :: tl s := by
  unfold Cy; rw [spJ]; simp only [Int.reduceEq, if_true, if_false, or_false]; rw [Bw]; rfl
 refine ⟨[(2, s)], ?_⟩; unfold Rd; rw [ht]; refine ⟨fun d _ R hR => GW hs (G0 hR), FH (by simp) (by simp), ⟨_, _, rfl, by simp [HdK]⟩, ⟨36, _, rfl, by decide⟩, fun E i j hat hj hq => ?_⟩; obtain ⟨t0, _⟩ := (show AtK E i _ from (by simpa only [List.map_cons, List.map_nil, hG.t2] using hat)).cons; obtain rfl : j = i + 1 := hj; rw [show g (Cy s) = (Cy s) from hG.m _ _ _ _ _ _ (by decide) (by decide)]; have hk : (Aa E i).kind = 2 := congrArg Prod.fst t0; have hx : (Aa E i).text = s := congrArg Prod.snd t0; refine Bx ?_; rw [AD]; simp only [Ak]; rw [if_neg (by omega), if_pos hk, hx]; rfl
/-! texts in quotes -/
def B6 : List (NJ × ByteArray) → List NJ
 | [] => []
 | (x, s) :: r => x :: Bg s :: B6 r
noncomputable def fps (g : NJ → NJ) (c : TK → TK) (r : List (NJ × ByteArray)) : List Fp := r.map fun x => ⟨tl (spJ x.1), CH g c x.1, Bk (tl x.2)⟩
theorem Uh {n : NJ} {r : List (NJ × ByteArray)} (hr : ∀ x ∈ r, Rd g c x.1 (CH g c x.1) ∧ AB x.1 + 1 ≤ AB n) : ∀ d, AB n ≤ d + 1 → ∀ x ∈ fps g c r, FpOk d x := by
 intro d hd x hx; obtain ⟨y, hy, rfl⟩ := List.mem_map.1 hx; obtain ⟨h2, h3⟩ := hr y hy; exact ⟨Kd _ _ (Nat.le_refl _), fun R => h2.sc d (by omega) _ rfl, h2.bal⟩
theorem Tq {n : NJ} {s : ByteArray} {r : List (NJ × ByteArray)} (ht : tl (spJ n) = 34 :: (jn (Bk (tl s)) (fps g c r) ++ [34])) (h1 : 1 ≤ AB n) (hr : ∀ x ∈ r, Rd g c x.1 (CH g c x.1) ∧ AB x.1 + 1 ≤ AB n)
  (hev : ∀ E i, tk (Aa E i) = c (5, spJ n) → evP E .first i = some (.ok (g n) (i + 1))) : ∃ T, Rd g c n T := by
 have hf := Uh hr; have hb := Kd _ (tl s) (Nat.le_refl _); refine ⟨[(5, spJ n)], ?_⟩; refine ⟨fun d hd R _ => ?_, FH (by simp) (by simp), ⟨_, _, rfl, by simp [HdK]⟩, ?_, fun E i j hat hj hq => ?_⟩
 ·obtain ⟨k, rfl⟩ : ∃ k, d = k + 1 := ⟨d - 1, by omega⟩
  have := Vr hb (hf k hd) R; rw [← ht] at this; exact this
 ·rw [ht]; exact ⟨34, _, rfl, by decide⟩
 obtain rfl : j = i + 1 := hj; exact Bx (hev E i hat.cons.1)
end Go.Proofs.YtakncilicoefdaaGreatDoor
