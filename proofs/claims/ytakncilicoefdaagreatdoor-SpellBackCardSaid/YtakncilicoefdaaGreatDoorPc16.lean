/- Lemmas and contracts. Conditions: those that each lemma names. -/
import Derived.Test.YtakncilicoefdaaGreatDoorPc15
import Derived.Laws.OwnMore
import Derived.ArgAppend
import Derived.WalkMore
set_option maxRecDepth 100000
set_option maxHeartbeats 4000000
namespace Go.Proofs.YtakncilicoefdaaGreatDoor
open Go Go.RowKit Go.Proofs Th
section
variable {P : Program} {X : Ctx} {E : AEnv} {S : CS} {s : ASt} {a : Act} {W : World} {o : Oper} {K : FV → (Nat → AObj) → Prop} {Q : Exit → Act → World → Prop}
theorem news_of {new : List (List IV)} {full : Bool} {u : Value} (hrep : Rep W S (.sl new full) u) (h0 : 0 < new.length) {esz : Nat} (he : 0 < esz) (hez : ∀ e ∈ new, e.length = esz) :
  ∃ g oo c, u = .slice (some ⟨g, oo, none⟩) new.length c ∧ ∃ news : List Value, news.length = new.length * esz ∧ (∀ (j : Nat) v, news[j]? = some v → W.cell? ((⟨g, oo, none⟩ : Addr).add j) = some v) ∧ (∀ v ∈ news, v.oneCell' = true) ∧
   ∀ (j i : Nat) e x v, new[j]? = some e → e[i]? = some x → news[j * esz + i]? = some v → Rep W S x v := by
 cases hrep with
 | sl ez f g1 g2 g3 g4 g5 hA hR =>
  rename_i c
  obtain ⟨g, oo, rfl, hc⟩ := hA h0; have hd : ∀ q, q < new.length * esz → ∃ hj : q / esz < new.length, q % esz < esz := fun q hq => ⟨(Nat.div_lt_iff_lt_mul he).2 hq, Nat.mod_lt _ he⟩
  have hzz : ∀ j (hj : j < new.length), ez = esz := fun j hj => (g5 _ (List.getElem_mem hj)).1.symm.trans (hez _ (List.getElem_mem hj))
  obtain rfl : ez = esz := hzz 0 h0; have hget : ∀ (q : Nat) v, ((List.range (new.length * ez)).map fun q => f (q / ez) (q % ez))[q]? = some v → q < new.length * ez ∧ v = f (q / ez) (q % ez) := fun q v hq => by
   have hlt := (List.getElem?_eq_some_iff.1 hq).1; simp only [List.length_map, List.length_range] at hlt; rw [List.getElem?_map, List.getElem?_range hlt] at hq; simp only [Option.map_some, Option.some.injEq] at hq; exact ⟨hlt, hq.symm⟩
  refine ⟨g, oo, c, rfl, (List.range (new.length * ez)).map fun q => f (q / ez) (q % ez), by simp, fun q v hq => ?_, fun v hv => ?_, fun j i e x v hj hi hv => ?_⟩
  ·obtain ⟨hlt, rfl⟩ := hget q v hq
   obtain ⟨h1, h2⟩ := hd q hlt; have := (hc (q / ez) (q % ez) h1 h2).2; rw [add_at, ← this]; congr 2
   have := Nat.div_add_mod q ez; rw [Nat.mul_comm] at this; omega
  ·obtain ⟨q, hq⟩ := List.mem_iff_getElem?.1 hv
   obtain ⟨hlt, rfl⟩ := hget q v hq; obtain ⟨h1, h2⟩ := hd q hlt; have hel := (g5 _ (List.getElem_mem h1)); exact (hR (q / ez) (q % ez) _ _ (List.getElem?_eq_getElem h1) (List.getElem?_eq_getElem (by omega))).one (hel.2 _ (List.getElem_mem _))
  obtain ⟨_, rfl⟩ := hget _ v hv; have hi2 := (List.getElem?_eq_some_iff.1 hi).1; have hel := (g5 _ (List.mem_of_getElem? hj)).1; rw [show j * ez + i = i + ez * j by rw [Nat.mul_comm]; omega, Nat.add_mul_div_left _ _ he, Nat.div_eq_of_lt (by omega), Nat.zero_add, Nat.add_mul_mod_self_left, Nat.mod_eq_of_lt (by omega)]; exact hR j i e x hj hi
theorem RelE.grow (h : RelE X E S s a W) {k : Nat} {ty esz : Nat} {es new : List (List IV)} {xs news : List Value} {v' : Value} {W' : World}
  (hk : (s.st k = .none) ∨ (s.st k = .row ty esz es)) (hnew : 0 < new.length) (he : 0 < esz)
  (hown : W'.ownsRow X.W0.heap.size ty esz v' (es.length + new.length) (xs ++ news)) (hxl : xs.length = es.length * esz) (_hnl : news.length = new.length * esz)
  (hos : W'.os = W.os) (htp : W'.tape = W.tape) (hou : W'.output = W.output) (hsz : W.heap.size ≤ W'.heap.size)
  (hW : ∀ g, g < W.heap.size → v'.ownBlock ≠ some g → W'.heap[g]? = W.heap[g]?)
  (hbk : ∀ g, v'.ownBlock = some g → (s.st k = .row ty esz es ∧ (E.row k).ownBlock = some g ∧ ∃ v, W.ownsRow X.W0.heap.size ty esz v es.length xs ∧ v.ownBlock = some g) ∨ W.heap.size ≤ g)
  (hlen : es.length + new.length ≤ 1000000000) (hez : ∀ e ∈ es ++ new, e.length = esz ∧ ∀ x ∈ e, x.one = true)
  (hr1 : ∀ (j i : Nat) e x u, es[j]? = some e → e[i]? = some x → xs[j * esz + i]? = some u → Rep W S x u) (hr2 : ∀ (j i : Nat) e x u, new[j]? = some e → e[i]? = some x → news[j * esz + i]? = some u → Rep W S x u) :
  RelE X { E with row := upd E.row k v' } (fun g o => S g o ∨ (v'.ownBlock = some g ∧ o < (es ++ new).length * esz)) ⟨s.fr, upd s.st k (.row ty esz (es ++ new))⟩ a W' := by
 have hcell : ∀ g o, S g o → W'.cell? ⟨g, o, none⟩ = W.cell? ⟨g, o, none⟩ := by
  intro g o hS; by_cases hg : v'.ownBlock = some g
  ·rcases hbk g hg with ⟨h1, h2, v, h3, h4⟩ | h1
   ·have hob := h.ob k
    rw [h1] at hob; obtain ⟨xs', _, _, _, _, _, h9⟩ := hob; have ho := (h9 g h2 o).1 hS; have hx : xs[o]? = some (xs[o]'(by omega)) := List.getElem?_eq_getElem _; have c1 := World.ownsRow.cells h3 (g := g) h4 o _ hx; have c2 := World.ownsRow.cells hown (g := g) hg o (xs[o]'(by omega)) (by rw [List.getElem?_append_left (by omega)]; exact hx); rw [add_at, Nat.zero_add] at c1 c2; rw [c1, c2]
   exact absurd (h.Sb g o hS) (by omega)
  exact cell_block (hW g (h.Sb g o hS) hg)
 have hSb : ∀ g o, (S g o ∨ (v'.ownBlock = some g ∧ o < (es ++ new).length * esz)) → g < W'.heap.size := by
  intro g o ho; rcases ho with ho | ⟨ho, _⟩
  ·exact Nat.lt_of_lt_of_le (h.Sb g o ho) hsz
  exact (own_block_lt hown g ho).2
 refine h.core (· = k) _ _ _ _ (fun j hj => ⟨upd_ne _ _ hj, rfl, upd_ne _ _ hj⟩) rfl (fun j hj => ?_) hos htp hou hsz (fun g hg hne => ?_) hcell (fun _ _ h => Or.inl h) (fun g o ho => ?_) hSb (fun j hj => ?_) (fun j g hj hg => ?_) (fun i j g hi hj _ _ => hi.trans hj.symm)
 ·subst hj
  rw [upd_same]; rcases hk with hk | hk
  ·rw [hk]; trivial
  rw [hk]; exact ⟨ty, esz, es ++ new, rfl, by simp; omega⟩
 ·refine hW g hg (fun hb => ?_)
  rcases hbk g hb with ⟨h1, h2, _⟩ | h1
  ·exact hne k rfl (by rw [h1]; exact h2)
  omega
 ·rcases ho with ho | ⟨ho, _⟩
  ·exact Or.inl ho
  rcases hbk g ho with ⟨h1, h2, _⟩ | h1
  ·exact Or.inr (Or.inr ⟨k, rfl, by rw [h1]; exact h2⟩)
  exact Or.inr (Or.inl h1)
 ·subst hj
  rw [upd_same]; simp only [ObjOK, upd_same]; refine ⟨xs ++ news, by rw [List.length_append]; exact hown, he, by simpa using hlen, hez, fun j i e x u hj hi hu => ?_, fun g hg o => ⟨fun ho => ?_, fun ho => Or.inr ⟨hg, ho⟩⟩⟩
  ·have hel : e.length = esz := (hez e (List.mem_of_getElem? hj)).1
   have hi2 := (List.getElem?_eq_some_iff.1 hi).1; by_cases hlt : j < es.length
   ·rw [List.getElem?_append_left hlt] at hj
    have : j * esz + i < es.length * esz := by
     have := Nat.mul_le_mul_right esz (show j + 1 ≤ es.length from hlt); rw [Nat.add_mul] at this; omega
    rw [List.getElem?_append_left (by omega)] at hu; exact (hr1 j i e x u hj hi hu).keep hcell (fun _ _ h => Or.inl h)
   rw [List.getElem?_append_right (by omega)] at hj; have hge : es.length * esz ≤ j * esz := Nat.mul_le_mul_right _ (by omega); rw [List.getElem?_append_right (by omega), hxl, show j * esz + i - es.length * esz = (j - es.length) * esz + i by rw [Nat.sub_mul]; omega] at hu; exact (hr2 _ i e x u hj hi hu).keep hcell (fun _ _ h => Or.inl h)
  rcases ho with ho | ⟨_, ho⟩
  ·rcases hbk g hg with ⟨h1, h2, _⟩ | h1
   ·have hob := h.ob j
    rw [h1] at hob; obtain ⟨xs', _, _, _, _, _, h9⟩ := hob; have := (h9 g h2 o).1 ho; have := Nat.mul_le_mul_right esz (show es.length ≤ (es ++ new).length by simp); omega
   exact absurd (h.Sb g o ho) (by omega)
  exact ho
 subst hj; rw [upd_same] at hg; simp only [blk, upd_same] at hg; rcases hbk g hg with ⟨h1, h2, _⟩ | h1
 ·exact Or.inl (by rw [h1]; exact h2)
 exact Or.inr h1
theorem own_base {w : World} {B B' : Nat} {e : TypeId} {size n : Nat} {v : Value} {xs : List Value} (h : w.ownsRow B e size v n xs) (hB : B' ≤ B) : w.ownsRow B' e size v n xs := by
 obtain ⟨h1, h2 | ⟨g, cap, cur, h3, h4, h5⟩⟩ := h
 ·exact ⟨h1, Or.inl h2⟩
 exact ⟨h1, Or.inr ⟨g, cap, cur, h3, Nat.le_trans hB h4, h5⟩⟩
theorem append_own_run {w : World} (base : Nat) (t ty e : TypeId) (i : TypeInfo) (z : Value) (size bytes : Nat) (ht : P.underlying t = some (.slice e)) (hi : P.info? e = some i) (hz : i.zero = some z) (hsize : i.size = size) (hby : i.bytes = bytes) (hzs : z.cells.size = size) (hsz : 0 < size)
  (v : Value) (n : Nat) (xs : List Value) (hown : w.ownsRow base e size v n xs) (ad : Addr) (m c : Nat) (news : List Value) (hl : news.length = m * size) (hnews : ∀ (j : Nat) u, news[j]? = some u → w.cell? (ad.add j) = some u) (h1 : ∀ u ∈ news, u.oneCell' = true) (_hm : 0 < m)
  (h63 : n + m ≤ maxLen) (hbytes : (n + m) * bytes ≤ 140737488355328) (hbase : base ≤ w.heap.size) :
  ∃ v' w', (Builtin.append_ #[t, t] ty #[v, .slice (some ad) m c]).run P w = .ok v' w' ∧ w'.ownsRow base e size v' (n + m) (xs ++ news) ∧ w'.os = w.os ∧ w'.tape = w.tape ∧ w'.output = w.output ∧ w.heap.size ≤ w'.heap.size ∧
   (∀ g, g < w.heap.size → v'.ownBlock ≠ some g → w'.heap[g]? = w.heap[g]?) ∧ (v'.ownBlock = v.ownBlock ∨ ∀ g, v'.ownBlock = some g → w.heap.size ≤ g) := by
 rcases hown.2 with ⟨hv, hn⟩ | ⟨g, cap, cur, hv, hbg, hg, hnc, hcm, hcs, htake⟩
 ·subst hv hn
  obtain ⟨v', w', hr, ho, hgr, _, hb⟩ := run_append_own_at (P := P) w base t ty e i z size bytes ht hi hz hsize hby hzs hsz _ 0 xs hown ad m c news hl hnews h1 h63 hbytes hbase; refine ⟨v', w', hr, ho, hgr.os, hgr.tape, hgr.output, hgr.size, fun g hg _ => hgr.block g hg (fun h => by cases h), ?_⟩; rcases hb with hb | hb
  ·exact Or.inl hb
  exact Or.inr (fun g h => by rw [hb] at h; injection h with h; omega)
 subst hv; by_cases hroom : n + m ≤ cap
 ·obtain ⟨w', hr, ho, hgr⟩ := run_append_fits (P := P) w base t ty e i size ht hi hsize g n cap xs hown ad m c news hl hnews h1 hroom
  exact ⟨_, w', hr, ho, hgr.os, hgr.tape, hgr.output, hgr.size, fun k hk hne => hgr.block k hk (fun h => hne h.symm), Or.inl rfl⟩
 obtain ⟨v', w', hr, ho, hgr⟩ := run_append_arg_grows (P := P) w t ty e i z size bytes ht hi hz hsize hby hzs hsz ⟨g, 0, none⟩ n cap xs hown.1 (fun j u hu => World.ownsRow.cells hown (g := g) rfl j u hu) ad m c news hl hnews (by omega) h63 hbytes; exact ⟨v', w', hr, own_base ho hbase, hgr.os, hgr.tape, hgr.output, hgr.size, fun k hk _ => hgr.block k hk (fun h => by cases h), Or.inr (fun g h => (own_block_lt ho g h).1)⟩
theorem append_full_run {w : World} (t ty e : TypeId) (i : TypeInfo) (z : Value) (size bytes : Nat) (ht : P.underlying t = some (.slice e)) (hi : P.info? e = some i) (hz : i.zero = some z) (hsize : i.size = size) (hby : i.bytes = bytes) (hzs : z.cells.size = size) (hsz : 0 < size)
  (A : Option Addr) (n : Nat) (xs : List Value) (hxl : xs.length = n * size) (hA : A = none → n = 0) (hxs : ∀ b, A = some b → ∀ (j : Nat) u, xs[j]? = some u → w.cell? (b.add j) = some u) (ad : Addr) (m c : Nat) (news : List Value) (hl : news.length = m * size) (hnews : ∀ (j : Nat) u, news[j]? = some u → w.cell? (ad.add j) = some u) (h1 : ∀ u ∈ news, u.oneCell' = true) (hm : 0 < m)
  (h63 : n + m ≤ maxLen) (hbytes : (n + m) * bytes ≤ 140737488355328) :
  ∃ v' w', (Builtin.append_ #[t, t] ty #[.slice A n n, .slice (some ad) m c]).run P w = .ok v' w' ∧ w'.ownsRow w.heap.size e size v' (n + m) (xs ++ news) ∧ w.grownBy w' none := by
 cases A with
 | none =>
  obtain rfl := hA rfl; obtain rfl : xs = [] := List.eq_nil_of_length_eq_zero (by simpa using hxl); obtain ⟨v', w', hr, ho, hgr, _⟩ := run_append_own_at (P := P) w w.heap.size t ty e i z size bytes ht hi hz hsize hby hzs hsz (.slice none 0 0) 0 [] (World.ownsRow_nil w _ e size) ad m c news hl hnews h1 h63 hbytes (Nat.le_refl _); exact ⟨v', w', hr, ho, hgr⟩
 | some b =>
  exact run_append_arg_grows (P := P) w t ty e i z size bytes ht hi hz hsize hby hzs hsz b n n xs hxl (hxs b rfl) ad m c news hl hnews (by omega) h63 hbytes
theorem val_append (h : RelE X E S s a W) {t t' : TypeId} {x y : Operand} (ho : o.op = .call { callee := .builtin .append, args := #[x, y], argTypes := #[t, t'] }) (hop : abuil P .append [x, y] [t, t'] o.dst s K) : Out P X s a W o K Q := by
 simp only [abuil] at hop; obtain ⟨rfl, hop⟩ := hop; split at hop
 ·rename_i e esz new d hti hy hd
  obtain ⟨i, j, z, i1, i2, i3, i4, i5, i6, i7, i8, i9, i10⟩ := ti_slice hti; obtain ⟨full, hrep⟩ := toSl_rep h (eval_rep h y) hy; have hez : ∀ (es : List (List IV)) full u, Rep W S (.sl es full) u → (∀ e ∈ es, ∀ x ∈ e, x.one = true) := fun es full u hu => by
   cases hu with
   | sl ez f g1 g2 g3 g4 g5 hA hR => exact fun e he => (g5 e he).2
  split at hop
  ·rename_i k n hx
   have hex := eval_rep h x; rw [hx] at hex; split at hop
   ·rename_i ty' z' es hst
    obtain ⟨⟨rfl, rfl, rfl, h0, hle, hnz⟩, hK⟩ := hop; obtain ⟨_, _, _, e1, _, e3⟩ := hex; rw [hst] at e1; injection e1 with _ _ e1; subst e1; have hax := e3 rfl; have hob := h.ob k; rw [hst] at hob; obtain ⟨xs, r1, r2, r3, r4, r5, r6⟩ := hob; obtain ⟨g, oo, c, hay, news, n1, n2, n3, n4⟩ := news_of hrep h0 r2 hnz; have hb1 : (es.length + new.length) * j.bytes ≤ 140737488355328 := Nat.le_trans (Nat.mul_le_mul hle i10) (by decide); obtain ⟨v', W', hrun, o1, o2, o3, o4, o5, o6, o7⟩ := append_own_run (P := P) (w := W) X.W0.heap.size t' o.type ty' j z z' j.bytes i1 i5 i6 i8 rfl i7 r2 (E.row k) es.length xs r1 ⟨g, oo, none⟩ new.length c news n1 n2 n3 h0 (by unfold maxLen; omega) hb1 h.u.size; have hN := h.grow (k := k) (Or.inr hst) h0 r2 o1 r1.1 n1 o2 o3 o4 o5 o6 (fun g hg => by
     rcases o7 with o7 | o7
     ·exact Or.inl ⟨hst, by rw [← o7]; exact hg, E.row k, r1, by rw [← o7]; exact hg⟩
     ·exact Or.inr (o7 g hg)) hle (fun e he => by
     rcases List.mem_append.1 he with he | he
     ·exact r4 e he
     exact ⟨hnz e he, hez _ _ _ hrep e he⟩) r5 n4
    refine out_run (W' := W') (u := v') ?_ hK hN ⟨_, _, _, upd_same _ _ _, Nat.le_refl _, fun _ => (upd_same _ _ _).symm⟩; simp only [execOp, ho, resolve, invoke, builtin, Sem.run_bind, Sem.run_pure, Result.andThen_ok, List.map_toArray, List.map_cons, List.map_nil, hax, hay, hrun]
   exact hop.elim
  ·rename_i es hx
   have hex := eval_rep h x; rw [hx] at hex; split at hop
   ·rename_i hst
    obtain ⟨⟨h0, hle, hnz, hnx⟩, hK⟩ := hop; obtain ⟨g, oo, c, hay, news, n1, n2, n3, n4⟩ := news_of hrep h0 i9 hnz; have hb1 : (es.length + new.length) * j.bytes ≤ 140737488355328 := Nat.le_trans (Nat.mul_le_mul hle i10) (by decide); have hesx := hez _ _ _ hex; have hold : ∃ (A : Option Addr) (xs : List Value), a.eval x = .slice A es.length es.length ∧ (A = none → es.length = 0) ∧ xs.length = es.length * esz ∧ (∀ b, A = some b → ∀ (j : Nat) u, xs[j]? = some u → W.cell? (b.add j) = some u) ∧ ∀ (j i : Nat) e x u, es[j]? = some e → e[i]? = some x → xs[j * esz + i]? = some u → Rep W S x u := by
     by_cases hes : 0 < es.length
     ·obtain ⟨g', oo', c', hax, xs, m1, m2, m3, m4⟩ := news_of hex hes i9 hnx
      have hcc : c' = es.length := by
       rw [hax] at hex; cases hex with
       | sl ez f g1 g2 g3 g4 g5 hA hR => exact g4 rfl
      subst hcc; exact ⟨_, xs, hax, fun h => (by cases h), m1, fun b hb => (by injection hb with hb; subst hb; exact m2), m4⟩
     obtain rfl : es = [] := List.eq_nil_of_length_eq_zero (by omega); revert hex
     generalize hu : a.eval x = w; intro hex; cases hex with
     | sl ez f g1 g2 g3 g4 g5 hA hR =>
      rename_i A c'
      have : c' = 0 := g4 rfl; subst this; exact ⟨A, [], rfl, fun _ => rfl, by simp, fun b _ j u h => (by simp at h), fun j i e x u h => (by simp at h)⟩
    obtain ⟨A, xs, hax, hA, hxl, hxs, hxr⟩ := hold; obtain ⟨v', W', hrun, o1, o2⟩ := append_full_run (P := P) (w := W) t' o.type e j z esz j.bytes i1 i5 i6 i8 rfl i7 i9 A es.length xs hxl hA hxs ⟨g, oo, none⟩ new.length c news n1 n2 n3 h0 (by unfold maxLen; omega) hb1; have hN := h.grow (k := d) (ty := e) (esz := esz) (es := es) (Or.inl hst) h0 i9 (own_base o1 h.u.size) hxl n1 o2.os o2.tape o2.output o2.size (fun g hg _ => o2.block g hg (fun h => by cases h)) (fun g hg => Or.inr (own_block_lt o1 g hg).1) hle (fun e he => by
     rcases List.mem_append.1 he with he | he
     ·exact ⟨hnx e he, hesx e he⟩
     exact ⟨hnz e he, hez _ _ _ hrep e he⟩) hxr n4
    refine out_run (W' := W') (u := v') ?_ hK hN ⟨_, _, _, upd_same _ _ _, Nat.le_refl _, fun _ => (upd_same _ _ _).symm⟩; simp only [execOp, ho, resolve, invoke, builtin, Sem.run_bind, Sem.run_pure, Result.andThen_ok, List.map_toArray, List.map_cons, List.map_nil, hax, hay, hrun]
   exact hop.elim
  exact hop.elim
 exact hop.elim
theorem val_len (h : RelE X E S s a W) {t : TypeId} {x : Operand} (ho : o.op = .call { callee := .builtin .len, args := #[x], argTypes := #[t] }) (hop : abuil P .len [x] [t] o.dst s K) : Out P X s a W o K Q := by
 simp only [abuil] at hop; split at hop
 ·rename_i b ht hx
  have hx' := eval_v h hx; have hrun : (Builtin.len_ #[t] o.type #[.string b]).run P W = .ok (.int .i64 b.size) W := by simp [Builtin.len_, run_underlying ht, goInt]
  exact out_same h (u := .int .i64 b.size) (by simp only [execOp, ho, resolve, invoke, builtin, Sem.run_bind, Sem.run_pure, Result.andThen_ok, List.map_toArray, List.map_cons, List.map_nil, hx', hrun]) hop (.v _)
 ·rename_i el ht
  split at hop
  ·rename_i es hes
   obtain ⟨full, hrep⟩ := toSl_rep h (eval_rep h x) hes; revert hrep
   generalize hu : a.eval x = w; intro hrep; cases hrep with
   | sl ez f g1 g2 g3 g4 g5 hA hR =>
    rename_i A c
    have hrun : (Builtin.len_ #[t] o.type #[.slice A es.length c]).run P W = .ok (.int .i64 es.length) W := by simp [Builtin.len_, run_underlying ht, goInt]
    exact out_same h (u := .int .i64 es.length) (by simp only [execOp, ho, resolve, invoke, builtin, Sem.run_bind, Sem.run_pure, Result.andThen_ok, List.map_toArray, List.map_cons, List.map_nil, hu, hrun]) hop (.v _)
  exact hop.elim
 exact hop.elim
theorem val_min (h : RelE X E S s a W) {ts : Array TypeId} {x y : Operand} (ho : o.op = .call { callee := .builtin .min, args := #[x, y], argTypes := ts }) (hop : abuil P .min [x, y] ts.toList o.dst s K) : Out P X s a W o K Q := by
 simp only [abuil] at hop; split at hop
 ·rename_i k n k' m hx hy
  have hx' := eval_v h hx; have hy' := eval_v h hy; have hrun : (Builtin.min_ ts o.type #[.int k n, .int k' m]).run P W = .ok (.int k (if m < n then m else n)) W := by simp [Builtin.min_, Builtin.min2]
  exact out_same h (u := .int k (if m < n then m else n)) (by simp only [execOp, ho, resolve, invoke, builtin, Sem.run_bind, Sem.run_pure, Result.andThen_ok, List.map_toArray, List.map_cons, List.map_nil, hx', hy', hrun]) hop (.v _)
 exact hop.elim
end
end Go.Proofs.YtakncilicoefdaaGreatDoor
namespace Th
open Go Go.Lib
theorem skipN_at : ∀ (b : Bool) (l : List UInt8) (c : UInt8), l[skipN b l]? = some c → blankC c = false ∧ c ≠ 35
 | _, [], _, h => by simp at h
 | b, d :: r, c, h => by
  simp only [skipN] at h; split at h
  ·rw [Nat.add_comm, List.getElem?_cons_succ] at h
   exact skipN_at _ r c h
  rename_i hn
  simp only [List.getElem?_cons_zero, Option.some.injEq] at h; subst h; refine ⟨?_, fun h => hn (Or.inr (Or.inr h))⟩; cases hb : blankC d with
  | false => rfl
  | true => exact absurd (Or.inr (Or.inl hb)) hn
theorem skip_at {L : List UInt8} {a b : Nat} (hb : skipA L a = b) {c : UInt8} (h : L[b]? = some c) : blankC c = false ∧ c ≠ 35 := by
 unfold skipA at hb; rw [← hb, ← List.getElem?_drop] at h; exact skipN_at _ _ _ h
end Th
namespace Go.Proofs.YtakncilicoefdaaGreatDoor
open Go Go.RowKit Go.Proofs Th
attribute [local go_sem] Above.cell
theorem Upd.later {p : Nat} {w W W2 : World} (h : Upd p w W) (hb : Below w.heap.size W W2) : Upd p w W2 :=
 ⟨hb.os.trans h.os, hb.tape.trans h.tape, hb.output.trans h.output, Nat.le_trans h.size hb.size, fun k hk hp => (hb.block k hk).trans (h.block k hk hp)⟩
structure NextA (w W : World) (p : Nat) (s : ByteArray) (b t4 : Nat) : Prop where
 sc : ScP w W p s b
 b4 : Box W t4 [.int .i64 0, .string ⟨#[]⟩, .int .i64 0]
 n4 : t4 ≠ p
 z4 : w.heap.size ≤ t4
 glob : GlobX W
 g0 : 4 < w.heap.size
theorem NextA.below {w W W2 : World} {p b t4 : Nat} {s : ByteArray} (h : NextA w W p s b t4) (hb : Below W.heap.size W W2) : NextA w W2 p s b t4 :=
 ⟨h.sc.above hb, h.b4.below hb h.b4.lt, h.n4, h.z4, h.glob.below hb, h.g0⟩
structure NextB (w W : World) (p : Nat) (s : ByteArray) (b t4 t8 : Nat) (k : Int) (x : ByteArray) (at_ : Int) : Prop where
 sc : ScP w W p s b
 b4 : Box W t4 [.int .i64 0, .string ⟨#[]⟩, .int .i64 0]
 b8 : Box W t8 [.int .i64 k, .string x, .int .i64 at_]
 n4 : t4 ≠ p
 n8 : t8 ≠ p
 n48 : t4 ≠ t8
 z4 : w.heap.size ≤ t4
 z8 : w.heap.size ≤ t8
 glob : GlobX W
 g0 : 4 < w.heap.size
theorem NextB.scan {w W W2 : World} {p b t4 t8 : Nat} {s : ByteArray} {k : Int} {x : ByteArray} {at_ : Int} (h : NextB w W p s b t4 t8 k x at_) {j : Nat} (hs : ScP W W2 p s j) : NextB w W2 p s j t4 t8 k x at_ :=
 ⟨⟨hs.b, h.sc.u.trans hs.u⟩, h.b4.upd hs.u h.n4, h.b8.upd hs.u h.n8, h.n4, h.n8, h.n48, h.z4, h.z8, h.glob.upd h.sc.b hs.u, h.g0⟩
theorem NextB.make {w W W2 : World} {p b t4 : Nat} {s : ByteArray} (h : NextA w W p s b t4) (hp : p < w.heap.size) {k : Int} {x : ByteArray} {at_ : Int} (hb : Below W.heap.size W W2) (hB : Box W2 W.heap.size [.int .i64 k, .string x, .int .i64 at_]) : NextB w W2 p s b t4 W.heap.size k x at_ := by
 have h1 := h.sc.u.size; have h2 := h.b4.lt; exact ⟨h.sc.above hb, h.b4.below hb h.b4.lt, hB, h.n4, by omega, by omega, h.z4, h1, h.glob.below hb, h.g0⟩
theorem NextB.two {w W : World} {p b t4 t8 : Nat} {s : ByteArray} {k : Int} {x : ByteArray} {at_ : Int} (h : NextB w W p s b t4 t8 k x at_) (k2 : Int) (x2 : ByteArray) :
  NextB w ((W.setCell ⟨t8, 0, none⟩ (.int .i64 k2)).setCell ⟨t8, 1, none⟩ (.string x2)).drew p s b t4 t8 k2 x2 at_ := by
 have hb : Below w.heap.size W (((W.setCell ⟨t8, 0, none⟩ (.int .i64 k2)).setCell ⟨t8, 1, none⟩ (.string x2)).drew) := (((Below.refl _ _).setCell (p := ⟨t8, 0, none⟩) h.z8 _).setCell (p := ⟨t8, 1, none⟩) h.z8 _).trans ((below_drawn _).mono (by have := h.sc.u.size; simpa using this)); have hd : ∀ V : World, Below V.heap.size V V.drew := fun V => below_drawn V
 have h1 := ((h.b8.set (i := 0) (by simp) (.int .i64 k2)).set (i := 1) (by simp) (.string x2)); have h4 := (h.b4.other (Ne.symm h.n48) (m := t8) (o := 0) (.int .i64 k2)).other (Ne.symm h.n48) (m := t8) (o := 1) (.string x2); have hs := (h.sc.b.other h.n8 (o := 0) (.int .i64 k2)).other h.n8 (o := 1) (.string x2); refine ⟨⟨hs.below (hd _) hs.lt, h.sc.u.later hb⟩, h4.below (hd _) h4.lt, h1.below (hd _) h1.lt, h.n4, h.n8, h.n48, h.z4, h.z8, ?_, h.g0⟩; obtain ⟨m, hm⟩ := h.glob; exact ⟨m, (hb.cell (p := ⟨4, 0, none⟩) h.g0).trans hm⟩
theorem ext_midT (s : ByteArray) (a c : Nat) : s.extract a c = ⟨((s.data.toList.drop a).take (c - a)).toArray⟩ := by
 apply ba_inj; rw [ba_mk]; simp
theorem ScP.cell {w W : World} {p : Nat} {s : ByteArray} {j g : Nat} (h : ScP w W p s j) (hg : g ≠ p) (hz : w.heap.size ≤ g) (i : Nat) (v : Value) : ScP w (W.setCell ⟨g, i, none⟩ v) p s j :=
 ⟨h.b.other hg v, h.u.later ((Below.refl _ _).setCell (p := ⟨g, i, none⟩) hz v)⟩
def wayC (c : UInt8) (r : List UInt8) : Nat := if c = 34 then 1 else if letF c = true then 2 else if c = 36 ∧ 0 < nameN r then 3 else if c = 46 ∧ 0 < nameN r then 4 else if isDg c = true then 5 else if signN (c :: r) = 0 then 6 else 7
def way (L : List UInt8) (b : Nat) : Nat := match L.drop b with | [] => 0 | c :: r => wayC c r
theorem wayC_pos (c : UInt8) (r : List UInt8) : 1 ≤ wayC c r ∧ wayC c r ≤ 7 := by
 unfold wayC; repeat' split
 all_goals omega
theorem way_end {L : List UInt8} {b : Nat} (h : L.length ≤ b) : way L b = 0 := by unfold way; rw [List.drop_eq_nil_of_le h]
theorem way_cons {L : List UInt8} {b : Nat} {c : UInt8} {r : List UInt8} (h : L.drop b = c :: r) : way L b = wayC c r := by unfold way; rw [h]
open Go Go.RowKit Go.Proofs Th
/-- as deep as texts in quotes may be: none more -/
theorem tok_quote0 (p : Nat) (s : ByteArray) (_hs : s.size ≤ 1000000) (f : Nat) (hf : f < s.size) (w : World) (hB : Box w p [.string s, .int .i64 f]) :
  Calls Tryz.prog 72 #[.pointer (some ⟨p, 0, none⟩), .int .i64 48] w fun r w' => QuotePost w p s (f, 31) r w' := by
 obtain ⟨p0, p1⟩ := hB.p2; have pf := hB.froz 1; have pl := hB.lt; have HB := Keep.mk hB; clear hB; go_enter Tryz.func72, Tryz.ntmps72
 go_wp2
 refine bodyPost_ret (v := .tuple #[.int .i64 (f : Int), .int .i64 31]) ?_ rfl ?_
 ·simp [results, Tryz.results72, go_sem]
 exact ⟨rfl, f, ⟨HB.out, Upd.refl p w⟩, by omega, fun h => by cases h⟩
structure ScanS (w W : World) (p : Nat) (s : ByteArray) (v : Value) (R : List Tf × Nat × Nat) (n j : Nat) (acc : List Tf) : Prop where
 b : Box W p [.string s, .int .i64 j]
 u : Below w.heap.size w W
 zp : w.heap.size ≤ p
 le : j ≤ s.size
 room : s.size + 1 ≤ n + j
 row : OwnT W w.heap.size v acc
 np : v.ownBlock ≠ some p
 q : scanGo s.data.toList n j acc = R
 len : acc.length ≤ j
 sm : ∀ t ∈ acc, t.text.size ≤ 100000 ∧ t.at_ ≤ 100000
 glob : GlobX W
 g0 : 4 < w.heap.size
def ScanPost (w : World) (R : List Tf × Nat × Nat) (r : Ending) (w' : World) : Prop :=
 ∃ A c, r = .returned (.tuple #[.slice A R.1.length c, .int .i64 (R.2.1 : Int), .int .i64 (R.2.2 : Int)]) ∧ ToksIn w' (newIn w w') A c R.1 ∧ Below w.heap.size w w'
theorem grown_lo {B : Nat} {w w' : World} {v : Value} (hg : w.grownBy w' v.ownBlock) (hB : B ≤ w.heap.size) (hv : ∀ b, v.ownBlock = some b → B ≤ b) : Below B w w' := (Below.refl _ _).grown hg hB hv
theorem ScanS.finish {w W W2 : World} {p : Nat} {s : ByteArray} {A : Option Addr} {m c : Nat} {R : List Tf × Nat × Nat} {n j : Nat} {acc : List Tf} (h : ScanS w W p s (.slice A m c) R n j acc) (hs : s.size ≤ 50000) (hu : Upd p W W2) : ToksIn W2 (newIn w W2) A c acc ∧ Below w.heap.size w W2 := by
 have hr : OwnT W2 w.heap.size (.slice A m c) acc := h.row.keep (fun k hk => hu.block k (h.row.lt k hk).2 (fun e => h.np (by rw [hk, e]))); have hle := h.le; have hll := h.len; exact ⟨(hr.toks (by omega) h.sm (fun k hk => hr.lt k hk)).2, h.u.trans (hu.below h.u.size h.zp)⟩
theorem ScanS.step {w W W3 w7 : World} {p : Nat} {s : ByteArray} {A : Option Addr} {m c : Nat} {R : List Tf × Nat × Nat} {g j te : Nat} {acc : List Tf} {t : Tf} {v7 : Value} (h : ScanS w W p s (.slice A m c) R (g + 1) j acc) (hu : Upd p W W3) (hb : Box W3 p [.string s, .int .i64 te])
  (hO : OwnT w7 w.heap.size v7 (acc ++ [t])) (hg : W3.grownBy w7 (Value.slice A m c).ownBlock) (hv : v7.ownBlock = (Value.slice A m c).ownBlock ∨ v7.ownBlock = some W3.heap.size) (h1 : j < te) (h2 : te ≤ s.size) (ht : t.text.size ≤ 100000 ∧ t.at_ ≤ 100000)
  (hq : scanGo s.data.toList g te (acc ++ [t]) = R) : ScanS w w7 p s v7 R g te (acc ++ [t]) := by
 have hpl := hb.lt; have hsz : W3.heap.size ≤ w7.heap.size := hg.size; have hpb : w7.heap[p]? = W3.heap[p]? := hg.block p hpl (fun e => h.np e.symm); have hroom := h.room; have hlen := h.len; have hb3 : Below w.heap.size W3 w7 := grown_lo hg (Nat.le_trans h.u.size hu.size) (fun k hk => (h.row.lt k hk).1); refine ⟨⟨fun i v hv => (cell_block hpb).trans (hb.cell i v hv), fun i => ?_, Nat.lt_of_lt_of_le hpl hsz⟩, (h.u.trans (hu.below h.u.size h.zp)).trans hb3, h.zp, h2, by omega, hO, ?_, hq, by rw [List.length_append, List.length_singleton]; omega, fun x hx => ?_, ?_, h.g0⟩
 ·have := hb.froz i
  unfold World.frozen? at this ⊢; rw [hpb]; exact this
 ·rcases hv with hv | hv
  ·rw [hv]; exact h.np
  rw [hv]; intro e; injection e with e; omega
 ·rcases List.mem_append.1 hx with hx | hx
  ·exact h.sm x hx
  rw [List.mem_singleton.1 hx]; exact ht
 obtain ⟨m, hm⟩ := h.glob.upd h.b hu; have hgg : (4 : Nat) < w.heap.size := by
  exact h.g0
 exact ⟨m, (hb3.cell (p := ⟨4, 0, none⟩) hgg).trans hm⟩
theorem scanGo_step (L : List UInt8) (n a : Nat) (acc : List Tf) : scanGo L (n + 1) a acc = if (oneF L 48 a).2.2 ≠ 0 then ([], (oneF L 48 a).2.1, (oneF L 48 a).2.2) else if (oneF L 48 a).1.kind = 0 then (acc, 0, 0) else scanGo L n (oneF L 48 a).2.1 (acc ++ [(oneF L 48 a).1]) := rfl
theorem toks_none (W : World) (S : Nat → Prop) : ToksIn W S none 0 [] := ⟨Nat.le_refl _, by decide, by decide, fun _ h => absurd h List.not_mem_nil, fun h => absurd h (by decide)⟩
theorem tok_scan (s : ByteArray) (hs : s.size ≤ 50000)
  (hN : ∀ (p : Nat) (W : World) (j : Nat), Box W p [.string s, .int .i64 j] → j ≤ s.size → GlobX W → Calls Tryz.prog 47 #[.pointer (some ⟨p, 0, none⟩), .int .i64 0] W fun r w' => NextPost W p s (oneF s.data.toList 48 j) r w')
  (w : World) (hG : GlobX w) : Calls Tryz.prog 23 #[.string s] w fun r w' => ScanPost w (scanF s.data.toList) r w' := by
 have HL := Keep.mk (size_listU s); by_cases hbig : 16384 < s.size
 ·have HE := Keep.mk (show scanF s.data.toList = ([], 0, 3) by unfold scanF; rw [if_pos (by rw [HL.out]; exact hbig)])
  clear hN hG; go_enter Tryz.func23, Tryz.ntmps23
  go_wp2_with fail
  go_step3
  go_wp2_with fail
  rw [Exit.noGoto_ret]; refine bodyPost_ret (v := .tuple #[.slice none 0 0, .int .i64 0, .int .i64 3]) ?_ rfl ?_
  ·simp [results, Tryz.results23, go_sem]
  rw [HE.out]; exact ⟨none, 0, rfl, toks_none _ _, Below.refl _ _⟩
 have hq : scanF s.data.toList = scanGo s.data.toList (s.size + 1) 0 [] := by unfold scanF; rw [if_neg (by rw [HL.out]; exact hbig), HL.out]
 rw [hq]; obtain ⟨R, hR⟩ : ∃ R, scanGo s.data.toList (s.size + 1) 0 [] = R := ⟨_, rfl⟩
 rw [hR]; have HN := Keep.mk hN; have HR := Keep.mk hR; have HG := Keep.mk hG; clear hN hq hR hG; go_enter Tryz.func23, Tryz.ntmps23
 go_wp2_with fail
 go_step3
 go_wp2_with fail
 go_step3
 simp only [Exit.then]; go_wp2_with fail
 go_loopg [2] (s.size + 1) (fun gk v2 wr => ∃ (j : Nat) (acc : List Tf), Keep (ScanS w wr w.heap.size s v2 R gk j acc))
 case atStart => exact ⟨0, [], ⟨⟨Box.new [.string s, .int .i64 0] _ rfl, al1 _ _, Nat.le_refl _, Nat.zero_le _, by omega, OwnT.nil _ _, fun h => (by cases h), HR.out, Nat.le_refl _, fun _ h => absurd h List.not_mem_nil, HG.out.below (al1 _ _), (by obtain ⟨m, hm⟩ := HG.out; exact lt_of_cell hm)⟩⟩⟩
 case round =>
  rename_i v2
  obtain ⟨j, acc, HS⟩ := hrel; obtain ⟨A, c, hv2, hc1, hc2⟩ := HS.out.row.form; subst hv2; have hroom := HS.out.room; have hle := HS.out.le; obtain ⟨g, rfl⟩ : ∃ g, gk = g + 1 := ⟨gk - 1, by omega⟩
  obtain ⟨t, ht⟩ : ∃ t, oneF s.data.toList 48 j = t := ⟨_, rfl⟩
  have HC := Keep.mk (HN.out w.heap.size wr j HS.out.b HS.out.le HS.out.glob); have hok := oneF_ok s.data.toList 48 j (by rw [HL.out]; exact hle); have hlen := oneF_len s.data.toList 48 j (by rw [HL.out]; exact hle); have hq := HS.out.q; rw [scanGo_step, ht] at hq; rw [ht] at HC hok hlen; obtain ⟨⟨tk, tx, ta⟩, te, er⟩ := t; dsimp only at hq hlen; by_cases her : er = 0
  ·subst her
   rw [if_neg (fun h => h rfl)] at hq; by_cases hk0 : tk = 0
   ·subst hk0
    have HE := Keep.mk (hq.symm.trans (if_pos rfl)); clear hq hok hlen ht hroom hle; go_wp2_with fail
    refine HC.out.mono ?_; rintro r w1 ⟨hr, j1, hs1, hl1, _⟩; simp only [tokV, if_true] at hr; subst hr; have HU := Keep.mk hs1.u; clear hs1 hl1; go_wp2_with fail
    rw [Exit.noGoto_ret]; refine bodyPost_ret (v := .tuple #[.slice A acc.length c, .int .i64 0, .int .i64 0]) ?_ rfl ?_
    ·simp [results, Tryz.results23, go_sem]
    rw [HE.out]; refine ⟨A, c, rfl, ?_⟩; exact HS.out.finish hs (HU.out.trans (Upd.of (by first | exact al1 _ _ | exact three_below _ _ _ _ _)))
   have HE := Keep.mk (hq.symm.trans (if_neg hk0)).symm; have hnk : ¬ (tk : Int) = 0 := by omega
   have hfw := hok.fwd rfl hk0; have htl := hok.le; have hsz := hok.sz; have hpl := hok.pl; have hle1 := hlen rfl hk0; rw [HL.out] at htl hsz hpl; dsimp only at hfw htl hsz hpl; have HT := Keep.mk (show tx.size ≤ 100000 ∧ ta ≤ 100000 from ⟨by omega, by omega⟩); have HLN := Keep.mk (show j < te ∧ te ≤ s.size from ⟨hfw, htl⟩); clear hq hok hlen ht hroom hle hfw htl hsz hpl hle1; go_wp2_with fail
   refine HC.out.mono ?_; rintro r w1 ⟨hr, j1, hs1, hl1, he1⟩; obtain rfl : te = j1 := (he1 rfl).symm; simp only [tokV, if_true] at hr; subst hr; have HB1 := Keep.mk hs1.b; have HU := Keep.mk hs1.u; clear hs1 hl1 he1; go_upto_region 8 with fail
   refine wp_world (fun W => Box W w1.heap.size (cells3 ⟨tk, tx, ta⟩) ∧ Box W w.heap.size [.string s, .int .i64 te] ∧ Upd w.heap.size wr W) ⟨Box.new _ _ rfl, HB1.out.alloc _, HU.out.trans (Upd.of (al1 _ _))⟩ ?_; clear HB1 HU; rintro W2 ⟨h6, hB2, hU2⟩; obtain ⟨q0, q1, q2, ql⟩ := h6.p3l; have HB2 := Keep.mk (hB2.alloc (.cells #[.int .i64 (tk : Int), .string tx, .int .i64 (ta : Int)] 66)); have HU2 := Keep.mk (hU2.trans (Upd.of (al1 W2 (.cells #[.int .i64 (tk : Int), .string tx, .int .i64 (ta : Int)] 66)))); have HX2 := Keep.mk (show Box (W2.alloc (.cells #[.int .i64 (tk : Int), .string tx, .int .i64 (ta : Int)] 66)) W2.heap.size (cells3 ⟨tk, tx, ta⟩) from Box.new _ _ rfl); clear h6 hB2 hU2; have HO2 := Keep.mk (HS.out.row.keep (w' := W2.alloc (.cells #[.int .i64 (tk : Int), .string tx, .int .i64 (ta : Int)] 66)) (fun k hk => HU2.out.block k (HS.out.row.lt k hk).2 (fun e => HS.out.np (by rw [hk, e])))); go_wp2_with (at_builtin; refine wpList_app_tok rfl (.tmp 30) (.tmp 32) rfl w.heap.size _ _ rfl HO2.out W2.heap.size ⟨tk, tx, ta⟩ rfl HX2.out.cell ?_ ?_ ?_)
   ·have := HS.out.len; have := HS.out.le; omega
   ·exact Nat.le_trans HS.out.u.size (by have := HU2.out.size; simpa using this)
   intro v7 w7 hO7 hg7 hv7; have HS7 := Keep.mk (HS.out.step HU2.out HB2.out hO7 hg7 (by simpa using hv7) HLN.out.1 HLN.out.2 HT.out HE.out); clear hO7 hg7 hv7 HS HO2 HX2 HU2 HB2 q0 q1 q2 ql HC HN HR HG; go_wp2
   go_roundg g
   case rel => exact ⟨te, _, HS7⟩
   case measure => omega
  have HE := Keep.mk (hq.symm.trans (if_pos her)); have hne : ¬ (er : Int) = 0 := by omega
  clear hq hok hlen ht hroom hle; go_wp2_with fail
  refine HC.out.mono ?_; rintro r w1 ⟨hr, j1, hs1, hl1, _⟩; simp only [tokV, if_neg her] at hr; subst hr; have HU := Keep.mk hs1.u; clear hs1 hl1; go_wp2_with fail
  rw [Exit.noGoto_ret]; refine bodyPost_ret (v := .tuple #[.slice none 0 0, .int .i64 (te : Int), .int .i64 (er : Int)]) ?_ rfl ?_
  ·simp [results, Tryz.results23, go_sem]
  rw [HE.out]; refine ⟨none, 0, rfl, toks_none _ _, ?_⟩; exact (HS.out.finish hs (HU.out.trans (Upd.of (by first | exact al1 _ _ | exact three_below _ _ _ _ _)))).2
open Go Go.RowKit Go.Proofs Th
theorem idx_loop {E : Env} {j k : Nat} {n m : NJ} (h : tk (tokAt E j) = (6, ⟨#[91]⟩)) (hi : evP E (.index n) j = some (.ok m k)) : evP E (.termLoop n) j = evP E (.termLoop m) k := by
 have hk : (tokAt E j).kind = 6 := congrArg Prod.fst h; have hx : (tokAt E j).text = ⟨#[91]⟩ := congrArg Prod.snd h; rw [evP_step]; simp only [stepP]; rw [if_neg (by omega), if_neg (fun h2 => by rw [h2.2] at hx; revert hx; decide), if_pos ⟨hk, hx⟩, hi]; rfl
theorem not_bar {E : Env} {i j : Nat} {n : NJ} {s : ByteArray} (h : evP E .filter i = some (.ok n j)) (hb : Bar (6, s)) : ¬ isT E i 6 s := fun hh => by
 rw [bar_dead (by rw [isT_tk.1 hh]; exact hb)] at h; cases h
instance (q : TK) : Decidable (Bar q) := by unfold Bar; exact inferInstance
section
variable {E : Env} {i j : Nat} {x m : NJ}
theorem idx_all (h0 : tk (tokAt E i) = (6, ⟨#[91]⟩)) (h1 : tk (tokAt E (i + 1)) = (6, ⟨#[93]⟩)) : evP E (.index x) i = some (.ok (kidsJ 7 [x]) (i + 2)) := by
 rw [evP_step]; simp only [stepP, wantP]; rw [if_pos (isT_tk.2 h0), if_pos (isT_tk.2 h1)]; rfl
theorem idx_one (h0 : tk (tokAt E i) = (6, ⟨#[91]⟩)) (hf : evP E .filter (i + 1) = some (.ok m j)) (h1 : tk (tokAt E j) = (6, ⟨#[93]⟩)) : evP E (.index x) i = some (.ok (nodeJ 5 ⟨#[]⟩ x m) (j + 1)) := by
 rw [evP_step]; simp only [stepP, wantP]; rw [if_pos (isT_tk.2 h0), if_neg (not_bar hf (by decide)), if_neg (not_bar hf (by decide)), hf]; show (if isT E j 6 ⟨#[93]⟩ then _ else _) = _
 rw [if_pos (isT_tk.2 h1)]; rfl
theorem idx_from (h0 : tk (tokAt E i) = (6, ⟨#[91]⟩)) (hf : evP E .filter (i + 1) = some (.ok m j)) (h1 : tk (tokAt E j) = (6, ⟨#[58]⟩)) (h2 : tk (tokAt E (j + 1)) = (6, ⟨#[93]⟩)) : evP E (.index x) i = some (.ok (.mk 6 ⟨#[]⟩ 0 0 [x, m] [fromB]) (j + 2)) := by
 rw [evP_step]; simp only [stepP, wantP]; rw [if_pos (isT_tk.2 h0), if_neg (not_bar hf (by decide)), if_neg (not_bar hf (by decide)), hf]; show (if isT E j 6 ⟨#[93]⟩ then _ else _) = _
 rw [if_neg (fun h => by rw [isT_tk.1 h] at h1; revert h1; decide), if_pos (isT_tk.2 h1), if_pos (isT_tk.2 h2)]; rfl
theorem idx_to (h0 : tk (tokAt E i) = (6, ⟨#[91]⟩)) (h1 : tk (tokAt E (i + 1)) = (6, ⟨#[58]⟩)) (hf : evP E .filter (i + 2) = some (.ok m j)) (h2 : tk (tokAt E j) = (6, ⟨#[93]⟩)) : evP E (.index x) i = some (.ok (.mk 6 ⟨#[]⟩ 0 0 [x, m] [toB]) (j + 1)) := by
 rw [evP_step]; simp only [stepP, wantP]; rw [if_pos (isT_tk.2 h0), if_neg (fun h => by rw [isT_tk.1 h] at h1; revert h1; decide), if_pos (isT_tk.2 h1), hf]; show (if isT E j 6 ⟨#[93]⟩ then _ else _) = _
 rw [if_pos (isT_tk.2 h2)]; rfl
theorem idx_both {k : Nat} {u : NJ} (h0 : tk (tokAt E i) = (6, ⟨#[91]⟩)) (hf : evP E .filter (i + 1) = some (.ok m j)) (h1 : tk (tokAt E j) = (6, ⟨#[58]⟩)) (hg : evP E .filter (j + 1) = some (.ok u k)) (h2 : tk (tokAt E k) = (6, ⟨#[93]⟩)) : evP E (.index x) i = some (.ok (.mk 6 ⟨#[]⟩ 0 0 [x, m, u] [fromB, toB]) (k + 1)) := by
 rw [evP_step]; simp only [stepP, wantP]; rw [if_pos (isT_tk.2 h0), if_neg (not_bar hf (by decide)), if_neg (not_bar hf (by decide)), hf]; show (if isT E j 6 ⟨#[93]⟩ then _ else _) = _
 rw [if_neg (fun h => by rw [isT_tk.1 h] at h1; revert h1; decide), if_pos (isT_tk.2 h1), if_neg (not_bar hg (by decide)), hg]; show (if isT E k 6 ⟨#[93]⟩ then _ else _) = _
 rw [if_pos (isT_tk.2 h2)]; rfl
end
-- KINDS
theorem tg0 (x : NJ) (l : List NJ) (ts : List ByteArray) : tl (tgJ (List.map kindJ (x :: l)) (spJ x :: ts) 0) = tgX x := tl_tg _ _ 0 x rfl rfl
theorem tg1 (z x : NJ) (l : List NJ) (t : ByteArray) (ts : List ByteArray) : tl (tgJ (List.map kindJ (z :: x :: l)) (t :: spJ x :: ts) 1) = tgX x := tl_tg _ _ 1 x rfl rfl
theorem bindP_ok {α β : Type} (a : α) (j : Nat) (f : α → Nat → Option (PR β)) : bindP (some (.ok a j)) f = f a j := rfl
theorem want_ok {β : Type} {E : Env} {i k : Nat} {s : ByteArray} (h : tk (tokAt E i) = (k, s)) (f : Nat → Option (PR β)) : wantP E i k s f = f (i + 1) := by unfold wantP; rw [if_pos (isT_tk.2 h)]
theorem kind_ok {β : Type} {E : Env} {i k : Nat} {s : ByteArray} (h : tk (tokAt E i) = (k, s)) (hk : k ≠ 1) (f : ByteArray → Nat → Option (PR β)) : kindP E i k f = f s (i + 1) := by
 unfold kindP; rw [if_neg (by rw [kind_tk, h]; exact fun h => h.elim (fun h => h rfl) (fun h => hk h.1)), text_tk, h]
theorem name_ok {β : Type} {E : Env} {i : Nat} {s : ByteArray} (h : tk (tokAt E i) = (1, s)) (hs : inB words13 s = false) (f : ByteArray → Nat → Option (PR β)) : kindP E i 1 f = f s (i + 1) := by
 unfold kindP; rw [if_neg (by rw [kind_tk, h, text_tk, h]; exact fun h => h.elim (fun h => h rfl) (fun h => by rw [hs] at h; cases h.2)), text_tk, h]
theorem not_tk {E : Env} {i k : Nat} {s : ByteArray} {q : TK} (h : tk (tokAt E i) = q) (hq : q ≠ (k, s)) : ¬ isT E i k s := fun hh => hq (by rw [← h]; exact isT_tk.1 hh)
theorem rd_mk {n : NJ} (ps : List Pc) (ht : tl (spJ n) = catP ps) (sc : ∀ d, depJ n ≤ d → ∀ R, sepC R = true → AllRD d ps R) (bal : Bal (catK ps)) (hd : ∃ q r, catK ps = q :: r ∧ HdK q) (c61 : ∃ c r, catP ps = c :: r ∧ c ≠ 61)
  (ev : ∀ E i j, AtK E i (catK ps) → j = i + (catK ps).length → Gq (tk (tokAt E j)) → evP E .term i = evP E (.termLoop n) j) : ∃ T, Rd n T :=
 ⟨catK ps, fun d hd R hR => ht ▸ all_rd (sc d hd R hR), bal, hd, ht ▸ c61, ev⟩
structure OpOk (k : Int) (p s : ByteArray) (q : TK) : Prop where
 t : ∀ x y, spJ (nodeJ k p x y) = ⟨#[40]⟩ ++ spJ x ++ ⟨#[32]⟩ ++ s ++ ⟨#[32]⟩ ++ spJ y ++ ⟨#[41]⟩
 r : ∀ d R, RD d (tl s) [q] (32 :: R)
 w : ∀ r s, walkB (s + 1) (q :: r) = walkB (s + 1) r
 e : EndT q
 a : q ≠ (1, ⟨#[97, 115]⟩)
 s : q = (6, ⟨#[124]⟩) ∨ strK q ≠ 0
 j : ∀ x y, joinK q x y = nodeJ k p x y
theorem rd5 {x y : NJ} {Tx Ty : List TK} (rx : RdP (tgX x) (depJ x) x Tx) (ry : Rd y Ty) : ∃ T, Rd (nodeJ 5 ⟨#[]⟩ x y) T := by
 obtain ⟨q, w, e, hh⟩ := rx.hd; obtain ⟨c, v, e2, hc⟩ := rx.c61; refine rd_mk [⟨tgX x, Tx⟩, ⟨[91], [(6, ⟨#[91]⟩)]⟩, ⟨tl (spJ y), Ty⟩, ⟨[93], [(6, ⟨#[93]⟩)]⟩] ?_ (fun d hd R hR => ?_) (fun s => ?_) ⟨q, w ++ _, by rw [catK, e]; rfl, hh⟩ ⟨c, v ++ _, by rw [catP, e2]; rfl, hc⟩ fun E i j hat hj hq => ?_
 ·unfold nodeJ
  rw [spJ]; simp only [Int.reduceEq, if_true, if_false, or_false, spL, catP, tl_app, tl_mk, tg0, List.append_assoc, List.cons_append, List.nil_append, List.append_nil]; try rfl
 ·simp only [nodeJ, depJ, depsJ] at hd
  exact ⟨rx.sc d (by omega) _ rfl, rd_one rfl d _, ry.sc d (by omega) _ rfl, rd_one rfl d _, trivial⟩
 ·simp only [catK, List.cons_append, List.nil_append, walk_bal rx.bal, walk_6 (x := ⟨#[91]⟩) (by decide) (by decide), walk_bal ry.bal, walk_6 (x := ⟨#[93]⟩) (by decide) (by decide), walk_nil]
 simp only [catK, List.cons_append, List.nil_append] at hat hj; obtain ⟨h0, hat⟩ := hat.app; obtain ⟨t1, hat⟩ := hat.cons; obtain ⟨h2, hat⟩ := hat.app; obtain ⟨t3, _⟩ := hat.cons; obtain rfl : j = i + Tx.length + 1 + Ty.length + 1 := by rw [hj]; simp; try omega
 rw [rx.ev E i _ h0 rfl (by rw [t1]; decide)]; exact idx_loop t1 (idx_one t1 (ry.flt h2 (by rw [t3]; decide)) t3)
theorem rd7 {x : NJ} {Tx : List TK} (rx : RdP (tgX x) (depJ x) x Tx) : ∃ T, Rd (kidsJ 7 [x]) T := by
 obtain ⟨q, w, e, hh⟩ := rx.hd; obtain ⟨c, v, e2, hc⟩ := rx.c61; refine rd_mk [⟨tgX x, Tx⟩, ⟨[91], [(6, ⟨#[91]⟩)]⟩, ⟨[93], [(6, ⟨#[93]⟩)]⟩] ?_ (fun d hd R hR => ?_) (fun s => ?_) ⟨q, w ++ _, by rw [catK, e]; rfl, hh⟩ ⟨c, v ++ _, by rw [catP, e2]; rfl, hc⟩ fun E i j hat hj hq => ?_
 ·unfold kidsJ
  rw [spJ]; simp only [Int.reduceEq, if_true, if_false, or_false, spL, catP, tl_app, tl_mk, tg0, List.cons_append, List.nil_append, List.append_nil]; try rfl
 ·simp only [kidsJ, depJ, depsJ] at hd
  exact ⟨rx.sc d (by omega) _ rfl, rd_one rfl d _, rd_one rfl d _, trivial⟩
 ·simp only [catK, List.cons_append, List.nil_append, walk_bal rx.bal, walk_6 (x := ⟨#[91]⟩) (by decide) (by decide), walk_6 (x := ⟨#[93]⟩) (by decide) (by decide), walk_nil]
 simp only [catK, List.cons_append, List.nil_append] at hat hj; obtain ⟨h0, hat⟩ := hat.app; obtain ⟨t1, hat⟩ := hat.cons; obtain ⟨t2, _⟩ := hat.cons; obtain rfl : j = i + Tx.length + 1 + 1 := by rw [hj]; simp; try omega
 rw [rx.ev E i _ h0 rfl (by rw [t1]; decide)]; exact idx_loop t1 (idx_all t1 t2)
theorem rd6a {x y : NJ} {Tx Ty : List TK} (rx : RdP (tgX x) (depJ x) x Tx) (ry : Rd y Ty) : ∃ T, Rd (.mk 6 ⟨#[]⟩ 0 0 [x, y] [fromB]) T := by
 obtain ⟨q, w, e, hh⟩ := rx.hd; obtain ⟨c, v, e2, hc⟩ := rx.c61; refine rd_mk [⟨tgX x, Tx⟩, ⟨[91], [(6, ⟨#[91]⟩)]⟩, ⟨tl (spJ y), Ty⟩, ⟨[58], [(6, ⟨#[58]⟩)]⟩, ⟨[93], [(6, ⟨#[93]⟩)]⟩] ?_ (fun d hd R hR => ?_) (fun s => ?_) ⟨q, w ++ _, by rw [catK, e]; rfl, hh⟩ ⟨c, v ++ _, by rw [catP, e2]; rfl, hc⟩ fun E i j hat hj hq => ?_
 ·rw [spJ]
  simp only [Int.reduceEq, if_true, if_false, or_false, spL, catP, tl_app, tl_mk, tg0, List.append_assoc, List.cons_append, List.nil_append, List.append_nil, show [fromB].head? = some fromB from rfl, show ¬ [fromB].getLast? = some toB by decide, List.length_cons, List.length_nil, List.getD_cons_succ, List.getD_cons_zero, Nat.add_sub_cancel]; try rfl
 ·simp only [depJ, depsJ] at hd
  exact ⟨rx.sc d (by omega) _ rfl, rd_one rfl d _, ry.sc d (by omega) _ rfl, rd_one rfl d _, rd_one rfl d _, trivial⟩
 ·simp only [catK, List.cons_append, List.nil_append, walk_bal rx.bal, walk_6 (x := ⟨#[91]⟩) (by decide) (by decide), walk_bal ry.bal, walk_6 (x := ⟨#[58]⟩) (by decide) (by decide), walk_6 (x := ⟨#[93]⟩) (by decide) (by decide), walk_nil]
 simp only [catK, List.cons_append, List.nil_append] at hat hj; obtain ⟨h0, hat⟩ := hat.app; obtain ⟨t1, hat⟩ := hat.cons; obtain ⟨h2, hat⟩ := hat.app; obtain ⟨t3, hat⟩ := hat.cons; obtain ⟨t4, _⟩ := hat.cons; obtain rfl : j = i + Tx.length + 1 + Ty.length + 1 + 1 := by rw [hj]; simp; try omega
 rw [rx.ev E i _ h0 rfl (by rw [t1]; decide)]; exact idx_loop t1 (idx_from t1 (ry.flt h2 (by rw [t3]; decide)) t3 t4)
theorem rd6b {x y : NJ} {Tx Ty : List TK} (rx : RdP (tgX x) (depJ x) x Tx) (ry : Rd y Ty) : ∃ T, Rd (.mk 6 ⟨#[]⟩ 0 0 [x, y] [toB]) T := by
 obtain ⟨q, w, e, hh⟩ := rx.hd; obtain ⟨c, v, e2, hc⟩ := rx.c61; refine rd_mk [⟨tgX x, Tx⟩, ⟨[91], [(6, ⟨#[91]⟩)]⟩, ⟨[58], [(6, ⟨#[58]⟩)]⟩, ⟨tl (spJ y), Ty⟩, ⟨[93], [(6, ⟨#[93]⟩)]⟩] ?_ (fun d hd R hR => ?_) (fun s => ?_) ⟨q, w ++ _, by rw [catK, e]; rfl, hh⟩ ⟨c, v ++ _, by rw [catP, e2]; rfl, hc⟩ fun E i j hat hj hq => ?_
 ·rw [spJ]
  simp only [Int.reduceEq, if_true, if_false, or_false, spL, catP, tl_app, tl_mk, tg0, List.append_assoc, List.cons_append, List.nil_append, List.append_nil, show ¬ [toB].head? = some fromB by decide, show [toB].getLast? = some toB from rfl, List.length_cons, List.length_nil, List.getD_cons_succ, List.getD_cons_zero, Nat.add_sub_cancel]; try rfl
 ·simp only [depJ, depsJ] at hd
  exact ⟨rx.sc d (by omega) _ rfl, rd_one rfl d _, rd_one rfl d _, ry.sc d (by omega) _ rfl, rd_one rfl d _, trivial⟩
 ·simp only [catK, List.cons_append, List.nil_append, walk_bal rx.bal, walk_6 (x := ⟨#[91]⟩) (by decide) (by decide), walk_6 (x := ⟨#[58]⟩) (by decide) (by decide), walk_bal ry.bal, walk_6 (x := ⟨#[93]⟩) (by decide) (by decide), walk_nil]
 simp only [catK, List.cons_append, List.nil_append] at hat hj; obtain ⟨h0, hat⟩ := hat.app; obtain ⟨t1, hat⟩ := hat.cons; obtain ⟨t2, hat⟩ := hat.cons; obtain ⟨h3, hat⟩ := hat.app; obtain ⟨t4, _⟩ := hat.cons; obtain rfl : j = i + Tx.length + 1 + 1 + Ty.length + 1 := by rw [hj]; simp; try omega
 rw [rx.ev E i _ h0 rfl (by rw [t1]; decide)]; exact idx_loop t1 (idx_to t1 t2 (ry.flt h3 (by rw [t4]; decide)) t4)
theorem rd6c {x y z : NJ} {Tx Ty Tz : List TK} (rx : RdP (tgX x) (depJ x) x Tx) (ry : Rd y Ty) (rz : Rd z Tz) : ∃ T, Rd (.mk 6 ⟨#[]⟩ 0 0 [x, y, z] [fromB, toB]) T := by
 obtain ⟨q, w, e, hh⟩ := rx.hd; obtain ⟨c, v, e2, hc⟩ := rx.c61; refine rd_mk [⟨tgX x, Tx⟩, ⟨[91], [(6, ⟨#[91]⟩)]⟩, ⟨tl (spJ y), Ty⟩, ⟨[58], [(6, ⟨#[58]⟩)]⟩, ⟨tl (spJ z), Tz⟩, ⟨[93], [(6, ⟨#[93]⟩)]⟩] ?_ (fun d hd R hR => ?_) (fun s => ?_) ⟨q, w ++ _, by rw [catK, e]; rfl, hh⟩ ⟨c, v ++ _, by rw [catP, e2]; rfl, hc⟩ fun E i j hat hj hq => ?_
 ·rw [spJ]
  simp only [Int.reduceEq, if_true, if_false, or_false, spL, catP, tl_app, tl_mk, tg0, List.append_assoc, List.cons_append, List.nil_append, List.append_nil, show [fromB, toB].head? = some fromB from rfl, show [fromB, toB].getLast? = some toB from rfl, List.length_cons, List.length_nil, List.getD_cons_succ, List.getD_cons_zero, Nat.add_sub_cancel]; try rfl
 ·simp only [depJ, depsJ] at hd
  exact ⟨rx.sc d (by omega) _ rfl, rd_one rfl d _, ry.sc d (by omega) _ rfl, rd_one rfl d _, rz.sc d (by omega) _ rfl, rd_one rfl d _, trivial⟩
 ·simp only [catK, List.cons_append, List.nil_append, walk_bal rx.bal, walk_6 (x := ⟨#[91]⟩) (by decide) (by decide), walk_bal ry.bal, walk_6 (x := ⟨#[58]⟩) (by decide) (by decide), walk_bal rz.bal, walk_6 (x := ⟨#[93]⟩) (by decide) (by decide), walk_nil]
 simp only [catK, List.cons_append, List.nil_append] at hat hj; obtain ⟨h0, hat⟩ := hat.app; obtain ⟨t1, hat⟩ := hat.cons; obtain ⟨h2, hat⟩ := hat.app; obtain ⟨t3, hat⟩ := hat.cons; obtain ⟨h4, hat⟩ := hat.app; obtain ⟨t5, _⟩ := hat.cons; obtain rfl : j = i + Tx.length + 1 + Ty.length + 1 + Tz.length + 1 := by rw [hj]; simp; try omega
 rw [rx.ev E i _ h0 rfl (by rw [t1]; decide)]; exact idx_loop t1 (idx_both t1 (ry.flt h2 (by rw [t3]; decide)) t3 (rz.flt h4 (by rw [t5]; decide)) t5)
theorem rd14 {x : NJ} {Tx : List TK} (rx : Rd x Tx) : ∃ T, Rd (kidsJ 14 [x]) T := by
 obtain ⟨c0, v0, e0, hc0⟩ := rx.c61; refine rd_mk [⟨[40], [(6, ⟨#[40]⟩)]⟩, ⟨[45], [(6, ⟨#[45]⟩)]⟩, ⟨tl (spJ x), Tx⟩, ⟨[41], [(6, ⟨#[41]⟩)]⟩] ?_ (fun d hd R hR => ?_) (fun s => ?_) ⟨_, _, rfl, by decide⟩ ⟨_, _, rfl, by decide⟩ fun E i j hat hj hq => ?_
 ·unfold kidsJ
  rw [spJ]; simp only [Int.reduceEq, if_true, if_false, or_false, spL, catP, tl_app, tl_mk, List.cons_append, List.nil_append, List.append_nil, List.getD_cons_zero]; try rfl
 ·simp only [kidsJ, depJ, depsJ] at hd
  exact ⟨rd_one rfl d _, rd_minus (by simp only [catP, e0]; intro h; injection h with h; exact hc0 h), rx.sc d (by omega) _ rfl, rd_one rfl d _, trivial⟩
 ·simp only [catK, List.cons_append, List.nil_append, walk_op, walk_6 (x := ⟨#[45]⟩) (by decide) (by decide), walk_bal rx.bal, walk_cl, walk_nil]
 simp only [catK, List.cons_append, List.nil_append] at hat hj; obtain ⟨t0, hat⟩ := hat.cons; obtain ⟨t1, hat⟩ := hat.cons; obtain ⟨h2, hat⟩ := hat.app; obtain ⟨t3, _⟩ := hat.cons; obtain rfl : j = i + 1 + 1 + Tx.length + 1 := by rw [hj]; simp; try omega
 have hx := rx.atom h2 (by rw [t3]; decide) (by rw [t3]; decide); have hm : Atom E (i + 1) (kidsJ 14 [x]) (i + 1 + 1 + Tx.length) := by
  refine ⟨?_, fun h => by rw [isT_tk.1 h] at t1; revert t1; decide⟩; rw [evP_step]; simp only [stepP]; rw [if_pos (isT_tk.2 t1), hx.m]; rfl
 exact term_first (par_first t0 (ev_one hm (by rw [t3]; decide)) t3)
theorem rd15a  : ∃ T, Rd (kidsJ 15 []) T := by
 refine rd_mk [⟨[91], [(6, ⟨#[91]⟩)]⟩, ⟨[93], [(6, ⟨#[93]⟩)]⟩] ?_ (fun d hd R hR => ?_) (fun s => ?_) ⟨_, _, rfl, by decide⟩ ⟨_, _, rfl, by decide⟩ fun E i j hat hj hq => ?_
 ·unfold kidsJ
  rw [spJ]; simp only [Int.reduceEq, if_true, if_false, or_false, spL, catP, tl_app, tl_mk, List.cons_append, List.nil_append, List.append_nil, List.getD_nil]; try rfl
 ·simp only [kidsJ, depJ, depsJ] at hd
  exact ⟨rd_one rfl d _, rd_one rfl d _, trivial⟩
 ·simp only [catK, List.cons_append, List.nil_append, walk_6 (x := ⟨#[91]⟩) (by decide) (by decide), walk_6 (x := ⟨#[93]⟩) (by decide) (by decide), walk_nil]
 simp only [catK, List.cons_append, List.nil_append] at hat hj; obtain ⟨t0, hat⟩ := hat.cons; obtain ⟨t1, _⟩ := hat.cons; obtain rfl : j = i + 1 + 1 := by rw [hj]; simp; try omega
 refine term_first ?_; rw [ev_sign t0, evP_step]; simp only [stepP]; rw [if_neg (by decide), if_neg (by decide), if_neg (by decide), if_pos trivial, if_pos (isT_tk.2 t1)]; rfl
theorem rd15b {x : NJ} {Tx : List TK} (rx : Rd x Tx) : ∃ T, Rd (kidsJ 15 [x]) T := by
 refine rd_mk [⟨[91], [(6, ⟨#[91]⟩)]⟩, ⟨tl (spJ x), Tx⟩, ⟨[93], [(6, ⟨#[93]⟩)]⟩] ?_ (fun d hd R hR => ?_) (fun s => ?_) ⟨_, _, rfl, by decide⟩ ⟨_, _, rfl, by decide⟩ fun E i j hat hj hq => ?_
 ·unfold kidsJ
  rw [spJ]; simp only [Int.reduceEq, if_true, if_false, or_false, spL, catP, tl_app, tl_mk, List.cons_append, List.nil_append, List.append_nil, List.getD_cons_zero]; try rfl
 ·simp only [kidsJ, depJ, depsJ] at hd
  exact ⟨rd_one rfl d _, rx.sc d (by omega) _ rfl, rd_one rfl d _, trivial⟩
 ·simp only [catK, List.cons_append, List.nil_append, walk_6 (x := ⟨#[91]⟩) (by decide) (by decide), walk_bal rx.bal, walk_6 (x := ⟨#[93]⟩) (by decide) (by decide), walk_nil]
 simp only [catK, List.cons_append, List.nil_append] at hat hj; obtain ⟨t0, hat⟩ := hat.cons; obtain ⟨h1, hat⟩ := hat.app; obtain ⟨t2, _⟩ := hat.cons; obtain rfl : j = i + 1 + Tx.length + 1 := by rw [hj]; simp; try omega
 have hf := rx.flt h1 (by rw [t2]; decide); refine term_first ?_; rw [ev_sign t0, evP_step]; simp only [stepP]; rw [if_neg (by decide), if_neg (by decide), if_neg (by decide), if_pos trivial, if_neg (not_bar hf (by decide)), hf]; show wantP E _ 6 ⟨#[93]⟩ _ = _
 unfold wantP; rw [if_pos (isT_tk.2 t2)]; rfl
theorem rd17 {x y z : NJ} {Tx Ty Tz : List TK} (rx : Rd x Tx) (ry : Rd y Ty) (rz : Rd z Tz) : ∃ T, Rd (kidsJ 17 [x, y, z]) T := by
 refine rd_mk [⟨[105, 102], [(1, ⟨#[105, 102]⟩)]⟩, ⟨[32], []⟩, ⟨tl (spJ x), Tx⟩, ⟨[32], []⟩, ⟨[116, 104, 101, 110], [(1, ⟨#[116, 104, 101, 110]⟩)]⟩, ⟨[32], []⟩, ⟨tl (spJ y), Ty⟩, ⟨[32], []⟩, ⟨[101, 108, 115, 101], [(1, ⟨#[101, 108, 115, 101]⟩)]⟩, ⟨[32], []⟩, ⟨tl (spJ z), Tz⟩, ⟨[32], []⟩, ⟨[101, 110, 100], [(1, ⟨#[101, 110, 100]⟩)]⟩] ?_ (fun d hd R hR => ?_) (fun s => ?_) ⟨_, _, rfl, by decide⟩ ⟨_, _, rfl, by decide⟩ fun E i j hat hj hq => ?_
 ·unfold kidsJ
  rw [spJ]; simp only [Int.reduceEq, if_true, if_false, or_false, spL, catP, tl_app, tl_mk, List.append_assoc, List.cons_append, List.nil_append, List.append_nil, List.getD_cons_zero, List.getD_cons_succ]; try rfl
 ·simp only [kidsJ, depJ, depsJ] at hd
  exact ⟨rd_name rfl rfl, rd_blank d _, rx.sc d (by omega) _ rfl, rd_blank d _, rd_name rfl rfl, rd_blank d _, ry.sc d (by omega) _ rfl, rd_blank d _, rd_name rfl rfl, rd_blank d _, rz.sc d (by omega) _ rfl, rd_blank d _, rd_name rfl (sep_name hR), trivial⟩
 ·simp only [catK, List.cons_append, List.nil_append, walk_k (k := 1) (by decide), walk_bal rx.bal, walk_bal ry.bal, walk_bal rz.bal, walk_nil]
 simp only [catK, List.cons_append, List.nil_append] at hat hj; obtain ⟨t0, hat⟩ := hat.cons; obtain ⟨h1, hat⟩ := hat.app; obtain ⟨t2, hat⟩ := hat.cons; obtain ⟨h3, hat⟩ := hat.app; obtain ⟨t4, hat⟩ := hat.cons; obtain ⟨h5, hat⟩ := hat.app; obtain ⟨t6, _⟩ := hat.cons; obtain rfl : j = i + 1 + Tx.length + 1 + Ty.length + 1 + Tz.length + 1 := by rw [hj]; simp; try omega
 refine term_first ?_; have hk : (tokAt E i).kind = 1 := congrArg Prod.fst t0; have hx : (tokAt E i).text = _ := congrArg Prod.snd t0; rw [evP_step]; simp only [stepP]; rw [if_neg (by omega), if_neg (by omega), if_neg (by omega), if_neg (by omega), if_pos hk, hx, evP_step]; simp only [stepP]; rw [if_pos trivial, evP_step]; simp only [stepP]; rw [rx.flt h1 (by rw [t2]; decide), bindP_ok, want_ok t2, ry.flt h3 (by rw [t4]; decide), bindP_ok, if_neg (not_tk t4 (by decide)), if_pos (isT_tk.2 t4), rz.flt h5 (by rw [t6]; decide), bindP_ok, want_ok t6]; rfl
theorem rd18a {x : NJ} {Tx : List TK} (rx : RdP (tgX x) (depJ x) x Tx) : ∃ T, Rd (kidsJ 18 [x]) T := by
 refine rd_mk [⟨[40], [(6, ⟨#[40]⟩)]⟩, ⟨[116, 114, 121], [(1, ⟨#[116, 114, 121]⟩)]⟩, ⟨[32], []⟩, ⟨tgX x, Tx⟩, ⟨[41], [(6, ⟨#[41]⟩)]⟩] ?_ (fun d hd R hR => ?_) (fun s => ?_) ⟨_, _, rfl, by decide⟩ ⟨_, _, rfl, by decide⟩ fun E i j hat hj hq => ?_
 ·unfold kidsJ
  rw [spJ]; simp only [Int.reduceEq, if_true, if_false, or_false, spL, catP, tl_app, tl_mk, tg0, List.cons_append, List.nil_append, List.append_nil, List.length_cons, List.length_nil, show ¬ 0 + 1 = 2 by decide]; try rfl
 ·simp only [kidsJ, depJ, depsJ] at hd
  exact ⟨rd_one rfl d _, rd_name rfl rfl, rd_blank d _, rx.sc d (by omega) _ rfl, rd_one rfl d _, trivial⟩
 ·simp only [catK, List.cons_append, List.nil_append, walk_op, walk_k (k := 1) (by decide), walk_bal rx.bal, walk_cl, walk_nil]
 simp only [catK, List.cons_append, List.nil_append] at hat hj; obtain ⟨t0, hat⟩ := hat.cons; obtain ⟨t1, hat⟩ := hat.cons; obtain ⟨h2, hat⟩ := hat.app; obtain ⟨t3, _⟩ := hat.cons; obtain rfl : j = i + 1 + 1 + Tx.length + 1 := by rw [hj]; simp; try omega
 refine term_first (par_first t0 ?_ t3); have h18 : evP E .first (i + 1) = some (.ok (kidsJ 18 [x]) (i + 1 + 1 + Tx.length)) := by
  have hk : (tokAt E (i + 1)).kind = 1 := congrArg Prod.fst t1; have hx : (tokAt E (i + 1)).text = _ := congrArg Prod.snd t1; rw [evP_step]; simp only [stepP]; rw [if_neg (by omega), if_neg (by omega), if_neg (by omega), if_neg (by omega), if_pos hk, hx, evP_step]; simp only [stepP]; rw [if_neg (by decide), if_pos trivial, rx.term h2 (by rw [t3]; decide), bindP_ok]; rw [if_neg (not_tk t3 (by decide))]; rfl
 exact ev_one (ev_term t1 (by decide) h18 (by rw [t3]; decide)) (by rw [t3]; decide)
theorem rd18b {x y : NJ} {Tx Ty : List TK} (rx : RdP (tgX x) (depJ x) x Tx) (ry : RdP (tgX y) (depJ y) y Ty) : ∃ T, Rd (kidsJ 18 [x, y]) T := by
 refine rd_mk [⟨[40], [(6, ⟨#[40]⟩)]⟩, ⟨[116, 114, 121], [(1, ⟨#[116, 114, 121]⟩)]⟩, ⟨[32], []⟩, ⟨tgX x, Tx⟩, ⟨[32], []⟩, ⟨[99, 97, 116, 99, 104], [(1, ⟨#[99, 97, 116, 99, 104]⟩)]⟩, ⟨[32], []⟩, ⟨tgX y, Ty⟩, ⟨[41], [(6, ⟨#[41]⟩)]⟩] ?_ (fun d hd R hR => ?_) (fun s => ?_) ⟨_, _, rfl, by decide⟩ ⟨_, _, rfl, by decide⟩ fun E i j hat hj hq => ?_
 ·unfold kidsJ
  rw [spJ]; simp only [Int.reduceEq, if_true, if_false, or_false, spL, catP, tl_app, tl_mk, tg0, tg1, List.append_assoc, List.cons_append, List.nil_append, List.append_nil, List.length_cons, List.length_nil, show 0 + 1 + 1 = 2 from rfl]; try rfl
 ·simp only [kidsJ, depJ, depsJ] at hd
  exact ⟨rd_one rfl d _, rd_name rfl rfl, rd_blank d _, rx.sc d (by omega) _ rfl, rd_blank d _, rd_name rfl rfl, rd_blank d _, ry.sc d (by omega) _ rfl, rd_one rfl d _, trivial⟩
 ·simp only [catK, List.cons_append, List.nil_append, walk_op, walk_k (k := 1) (by decide), walk_bal rx.bal, walk_bal ry.bal, walk_cl, walk_nil]
 simp only [catK, List.cons_append, List.nil_append] at hat hj; obtain ⟨t0, hat⟩ := hat.cons; obtain ⟨t1, hat⟩ := hat.cons; obtain ⟨h2, hat⟩ := hat.app; obtain ⟨t3, hat⟩ := hat.cons; obtain ⟨h4, hat⟩ := hat.app; obtain ⟨t5, _⟩ := hat.cons; obtain rfl : j = i + 1 + 1 + Tx.length + 1 + Ty.length + 1 := by rw [hj]; simp; try omega
 refine term_first (par_first t0 ?_ t5); have h18 : evP E .first (i + 1) = some (.ok (kidsJ 18 [x, y]) (i + 1 + 1 + Tx.length + 1 + Ty.length)) := by
  have hk : (tokAt E (i + 1)).kind = 1 := congrArg Prod.fst t1; have hx : (tokAt E (i + 1)).text = _ := congrArg Prod.snd t1; rw [evP_step]; simp only [stepP]; rw [if_neg (by omega), if_neg (by omega), if_neg (by omega), if_neg (by omega), if_pos hk, hx, evP_step]; simp only [stepP]; rw [if_neg (by decide), if_pos trivial, rx.term h2 (by rw [t3]; decide), bindP_ok]; rw [if_pos (isT_tk.2 t3), ry.term h4 (by rw [t5]; decide)]; rfl
 exact ev_one (ev_term t1 (by decide) h18 (by rw [t5]; decide)) (by rw [t5]; decide)
theorem rd19 {x y z : NJ} {s : ByteArray} {Tx Ty Tz : List TK} (rx : RdP (tgX x) (depJ x) x Tx) (ry : Rd y Ty) (rz : Rd z Tz) (hs : nameB s = true) : ∃ T, Rd (.mk 19 s 0 0 [x, y, z] []) T := by
 refine rd_mk [⟨[114, 101, 100, 117, 99, 101], [(1, ⟨#[114, 101, 100, 117, 99, 101]⟩)]⟩, ⟨[32], []⟩, ⟨tgX x, Tx⟩, ⟨[32], []⟩, ⟨[97, 115], [(1, ⟨#[97, 115]⟩)]⟩, ⟨[32], []⟩, ⟨36 :: tl s, [(2, s)]⟩, ⟨[32], []⟩, ⟨[40], [(6, ⟨#[40]⟩)]⟩, ⟨tl (spJ y), Ty⟩, ⟨[59], [(6, ⟨#[59]⟩)]⟩, ⟨[32], []⟩, ⟨tl (spJ z), Tz⟩, ⟨[41], [(6, ⟨#[41]⟩)]⟩] ?_ (fun d hd R hR => ?_) (fun s => ?_) ⟨_, _, rfl, by decide⟩ ⟨_, _, rfl, by decide⟩ fun E i j hat hj hq => ?_
 ·rw [spJ]
  simp only [Int.reduceEq, if_true, if_false, or_false, spL, catP, tl_app, tl_mk, tg0, List.append_assoc, List.cons_append, List.nil_append, List.append_nil, List.tail_cons, sepB]; try rfl
 ·simp only [depJ, depsJ] at hd
  exact ⟨rd_name rfl rfl, rd_blank d _, rx.sc d (by omega) _ rfl, rd_blank d _, rd_name rfl rfl, rd_blank d _, rd_known hs rfl, rd_blank d _, rd_one rfl d _, ry.sc d (by omega) _ rfl, rd_one rfl d _, rd_blank d _, rz.sc d (by omega) _ rfl, rd_one rfl d _, trivial⟩
 ·simp only [catK, List.cons_append, List.nil_append, walk_k (k := 1) (by decide), walk_bal rx.bal, walk_k (k := 2) (by decide), walk_op, walk_bal ry.bal, walk_6 (x := ⟨#[59]⟩) (by decide) (by decide), walk_bal rz.bal, walk_cl, walk_nil]
 simp only [catK, List.cons_append, List.nil_append] at hat hj; obtain ⟨t0, hat⟩ := hat.cons; obtain ⟨h1, hat⟩ := hat.app; obtain ⟨t2, hat⟩ := hat.cons; obtain ⟨t3, hat⟩ := hat.cons; obtain ⟨t4, hat⟩ := hat.cons; obtain ⟨h5, hat⟩ := hat.app; obtain ⟨t6, hat⟩ := hat.cons; obtain ⟨h7, hat⟩ := hat.app; obtain ⟨t8, _⟩ := hat.cons; obtain rfl : j = i + 1 + Tx.length + 1 + 1 + 1 + Ty.length + 1 + Tz.length + 1 := by rw [hj]; simp; try omega
 refine term_first ?_; have hk : (tokAt E i).kind = 1 := congrArg Prod.fst t0; have hx : (tokAt E i).text = _ := congrArg Prod.snd t0; rw [evP_step]; simp only [stepP]; rw [if_neg (by omega), if_neg (by omega), if_neg (by omega), if_neg (by omega), if_pos hk, hx, evP_step]; simp only [stepP]; rw [if_neg (by decide), if_neg (by decide), if_pos trivial, evP_step]; simp only [stepP]; rw [rx.term h1 (by rw [t2]; decide), bindP_ok, want_ok t2, kind_ok t3 (by decide), want_ok t4, ry.flt h5 (by rw [t6]; decide), bindP_ok, want_ok t6, rz.flt h7 (by rw [t8]; decide), bindP_ok]; rw [if_neg (by decide), want_ok t8]; rfl
theorem rd20 {x y z u : NJ} {s : ByteArray} {Tx Ty Tz Tu : List TK} (rx : RdP (tgX x) (depJ x) x Tx) (ry : Rd y Ty) (rz : Rd z Tz) (ru : Rd u Tu) (hs : nameB s = true) : ∃ T, Rd (.mk 20 s 0 0 [x, y, z, u] []) T := by
 refine rd_mk [⟨[102, 111, 114, 101, 97, 99, 104], [(1, ⟨#[102, 111, 114, 101, 97, 99, 104]⟩)]⟩, ⟨[32], []⟩, ⟨tgX x, Tx⟩, ⟨[32], []⟩, ⟨[97, 115], [(1, ⟨#[97, 115]⟩)]⟩, ⟨[32], []⟩, ⟨36 :: tl s, [(2, s)]⟩, ⟨[32], []⟩, ⟨[40], [(6, ⟨#[40]⟩)]⟩, ⟨tl (spJ y), Ty⟩, ⟨[59], [(6, ⟨#[59]⟩)]⟩, ⟨[32], []⟩, ⟨tl (spJ z), Tz⟩, ⟨[59], [(6, ⟨#[59]⟩)]⟩, ⟨[32], []⟩, ⟨tl (spJ u), Tu⟩, ⟨[41], [(6, ⟨#[41]⟩)]⟩] ?_ (fun d hd R hR => ?_) (fun s => ?_) ⟨_, _, rfl, by decide⟩ ⟨_, _, rfl, by decide⟩ fun E i j hat hj hq => ?_
 ·rw [spJ]
  simp only [Int.reduceEq, if_true, if_false, or_true, spL, catP, tl_app, tl_mk, tg0, List.append_assoc, List.cons_append, List.nil_append, List.append_nil, or_true, show ¬ (20 : Int) = 19 by decide, List.tail_cons, sepB]; try rfl
 ·simp only [depJ, depsJ] at hd
  exact ⟨rd_name rfl rfl, rd_blank d _, rx.sc d (by omega) _ rfl, rd_blank d _, rd_name rfl rfl, rd_blank d _, rd_known hs rfl, rd_blank d _, rd_one rfl d _, ry.sc d (by omega) _ rfl, rd_one rfl d _, rd_blank d _, rz.sc d (by omega) _ rfl, rd_one rfl d _, rd_blank d _, ru.sc d (by omega) _ rfl, rd_one rfl d _, trivial⟩
 ·simp only [catK, List.cons_append, List.nil_append, walk_k (k := 1) (by decide), walk_bal rx.bal, walk_k (k := 2) (by decide), walk_op, walk_bal ry.bal, walk_6 (x := ⟨#[59]⟩) (by decide) (by decide), walk_bal rz.bal, walk_bal ru.bal, walk_cl, walk_nil]
 simp only [catK, List.cons_append, List.nil_append] at hat hj; obtain ⟨t0, hat⟩ := hat.cons; obtain ⟨h1, hat⟩ := hat.app; obtain ⟨t2, hat⟩ := hat.cons; obtain ⟨t3, hat⟩ := hat.cons; obtain ⟨t4, hat⟩ := hat.cons; obtain ⟨h5, hat⟩ := hat.app; obtain ⟨t6, hat⟩ := hat.cons; obtain ⟨h7, hat⟩ := hat.app; obtain ⟨t8, hat⟩ := hat.cons; obtain ⟨h9, hat⟩ := hat.app; obtain ⟨t10, _⟩ := hat.cons; obtain rfl : j = i + 1 + Tx.length + 1 + 1 + 1 + Ty.length + 1 + Tz.length + 1 + Tu.length + 1 := by rw [hj]; simp; try omega
 refine term_first ?_; have hk : (tokAt E i).kind = 1 := congrArg Prod.fst t0; have hx : (tokAt E i).text = _ := congrArg Prod.snd t0; rw [evP_step]; simp only [stepP]; rw [if_neg (by omega), if_neg (by omega), if_neg (by omega), if_neg (by omega), if_pos hk, hx, evP_step]; simp only [stepP]; rw [if_neg (by decide), if_neg (by decide), if_neg (by decide), if_pos trivial, evP_step]; simp only [stepP]; rw [rx.term h1 (by rw [t2]; decide), bindP_ok, want_ok t2, kind_ok t3 (by decide), want_ok t4, ry.flt h5 (by rw [t6]; decide), bindP_ok, want_ok t6, rz.flt h7 (by rw [t8]; decide), bindP_ok]; rw [if_pos trivial, if_pos (isT_tk.2 t8), ru.flt h9 (by rw [t10]; decide), bindP_ok, want_ok t10]; rfl
theorem rd21 {x y : NJ} {s : ByteArray} {Tx Ty : List TK} (rx : RdP (tgX x) (depJ x) x Tx) (ry : Rd y Ty) (hs : nameB s = true) : ∃ T, Rd (nodeJ 21 s x y) T := by
 refine rd_mk [⟨[40], [(6, ⟨#[40]⟩)]⟩, ⟨tgX x, Tx⟩, ⟨[32], []⟩, ⟨[97, 115], [(1, ⟨#[97, 115]⟩)]⟩, ⟨[32], []⟩, ⟨36 :: tl s, [(2, s)]⟩, ⟨[32], []⟩, ⟨[124], [(6, ⟨#[124]⟩)]⟩, ⟨[32], []⟩, ⟨tl (spJ y), Ty⟩, ⟨[41], [(6, ⟨#[41]⟩)]⟩] ?_ (fun d hd R hR => ?_) (fun s => ?_) ⟨_, _, rfl, by decide⟩ ⟨_, _, rfl, by decide⟩ fun E i j hat hj hq => ?_
 ·unfold nodeJ
  rw [spJ]; simp only [Int.reduceEq, if_true, if_false, or_false, spL, catP, tl_app, tl_mk, tg0, List.append_assoc, List.cons_append, List.nil_append, List.append_nil, List.getD_cons_zero, List.getD_cons_succ]; try rfl
 ·simp only [nodeJ, depJ, depsJ] at hd
  exact ⟨rd_one rfl d _, rx.sc d (by omega) _ rfl, rd_blank d _, rd_name rfl rfl, rd_blank d _, rd_known hs rfl, rd_blank d _, rd_sg rfl d _, rd_blank d _, ry.sc d (by omega) _ rfl, rd_one rfl d _, trivial⟩
 ·simp only [catK, List.cons_append, List.nil_append, walk_op, walk_bal rx.bal, walk_k (k := 1) (by decide), walk_k (k := 2) (by decide), walk_6 (x := ⟨#[124]⟩) (by decide) (by decide), walk_bal ry.bal, walk_cl, walk_nil]
 simp only [catK, List.cons_append, List.nil_append] at hat hj; obtain ⟨t0, hat⟩ := hat.cons; obtain ⟨h1, hat⟩ := hat.app; obtain ⟨t2, hat⟩ := hat.cons; obtain ⟨t3, hat⟩ := hat.cons; obtain ⟨t4, hat⟩ := hat.cons; obtain ⟨h5, hat⟩ := hat.app; obtain ⟨t6, _⟩ := hat.cons; obtain rfl : j = i + 1 + Tx.length + 1 + 1 + 1 + Ty.length + 1 := by rw [hj]; simp; try omega
 obtain ⟨q, r, e, n1, n2⟩ := rx.hd; have h00 := h1; rw [e] at h00; have tq := h00.cons.1; have hm : Atom E (i + 1) (nodeJ 21 s x y) (i + 1 + Tx.length + 1 + 1 + 1 + Ty.length) := by
  refine ⟨?_, fun h => n2 (by rw [← tq]; exact isT_tk.1 h)⟩; rw [evP_step]; simp only [stepP]; rw [if_neg (fun h => n1 (by rw [← tq]; exact isT_tk.1 h)), rx.term h1 (by rw [t2]; decide)]; rw [bindP_ok, if_pos (isT_tk.2 t2), kind_ok t3 (by decide), want_ok t4, ry.flt h5 (by rw [t6]; decide)]; rfl
 exact term_first (par_first t0 (ev_one hm (by rw [t6]; decide)) t6)
theorem rd8 {x y : NJ} {s : ByteArray} {q : TK} {k : Int} {p : ByteArray} {Tx Ty : List TK} (rx : Rd x Tx) (ry : Rd y Ty) (ho : OpOk k p s q) : ∃ T, Rd (nodeJ k p x y) T := by
 refine rd_mk [⟨[40], [(6, ⟨#[40]⟩)]⟩, ⟨tl (spJ x), Tx⟩, ⟨[32], []⟩, ⟨tl s, [q]⟩, ⟨[32], []⟩, ⟨tl (spJ y), Ty⟩, ⟨[41], [(6, ⟨#[41]⟩)]⟩] ?_ (fun d hd R hR => ?_) (fun s => ?_) ⟨_, _, rfl, by decide⟩ ⟨_, _, rfl, by decide⟩ fun E i j hat hj hq => ?_
 ·rw [ho.t]
  simp only [tl_app, tl_mk, catP, List.append_assoc, List.cons_append, List.nil_append]; try rfl
 ·simp only [nodeJ, depJ, depsJ] at hd
  exact ⟨rd_one rfl d _, rx.sc d (by omega) _ rfl, rd_blank d _, ho.r d _, rd_blank d _, ry.sc d (by omega) _ rfl, rd_one rfl d _, trivial⟩
 ·simp only [catK, List.cons_append, List.nil_append, walk_op, walk_bal rx.bal, ho.w, walk_bal ry.bal, walk_cl, walk_nil]
 simp only [catK, List.cons_append, List.nil_append] at hat hj; obtain ⟨t0, hat⟩ := hat.cons; obtain ⟨h1, hat⟩ := hat.app; obtain ⟨t2, hat⟩ := hat.cons; obtain ⟨h3, hat⟩ := hat.app; obtain ⟨t4, _⟩ := hat.cons; obtain rfl : j = i + 1 + Tx.length + 1 + Ty.length + 1 := by rw [hj]; simp; try omega
 have hx := rx.atom h1 (by rw [t2]; exact ho.e) (by rw [t2]; exact ho.a); have hy := ry.atom h3 (by rw [t4]; decide) (by rw [t4]; decide); have := ev_two hx t2 ho.s hy (by rw [t4]; decide); rw [ho.j] at this; exact term_first (par_first t0 this t4)
end Go.Proofs.YtakncilicoefdaaGreatDoor
