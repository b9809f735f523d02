/- Lemmas and contracts. Conditions: those that each lemma names. -/
import Derived.Test.YtakncilicoefdaaGreatDoorPt31
set_option maxRecDepth 100000
set_option maxHeartbeats 4000000
namespace Go.Proofs.YtakncilicoefdaaGreatDoor
open Go Go.Deep Go.WideElems Go.ChangeShapes Go.WideShapes Go.ChangeAt Go.RowKit Go.Proofs Th
theorem cNd : Tryz.prog.cellsOf 27 = 6 := by kernel_rfl
theorem bNd : Tryz.prog.bytesOf 27 = 88 := by kernel_rfl
mutual
/-- numbers and texts as a memory can hold them -/
def Cy : NJ → Prop
 | .mk k s m e l a => I64 k ∧ I64 m ∧ I64 e ∧ s.size ≤ 140737488351232 ∧ (∀ x ∈ a, x.size ≤ 140737488351232) ∧ FW l
def FW : List NJ → Prop
 | [] => True
 | n :: r => Cy n ∧ FW r
end
theorem CY : ∀ l : List NJ, FW l ↔ ∀ n ∈ l, Cy n
 | [] => by simp [FW]
 | n :: r => by rw [FW, CY r]; simp
def FC (W : World) : CS := fun g _ => g < W.heap.size
theorem Kl : ∀ t : NJ, (Ag t).length = 6
 | .mk _ _ _ _ _ _ => rfl
theorem N9 : ∀ t : NJ, ∀ x ∈ Ag t, x.one = true
 | .mk k s m e l a, x, hx => by
  simp only [Ag, List.mem_cons, List.not_mem_nil, or_false] at hx; rcases hx with rfl | rfl | rfl | rfl | rfl | rfl <;> rfl
theorem Sz {W : World} {A : Option Addr} {c : Nat} {ks : List ByteArray} (h : StrsAt W W.heap.size A c ks) : Rep W (FC W) (.sl (ks.map fun x => [sI x]) false) (.slice A ks.length c) := by
 have hll : (ks.map fun x => [sI x]).length = ks.length := List.length_map _; have hg : ∀ (j : Nat) e, (ks.map fun x => [sI x])[j]? = some e → ∃ hj : j < ks.length, e = [sI ks[j]] := fun j e he => by
  rw [List.getElem?_map] at he; cases hq : ks[j]? with
  | none => rw [hq] at he; cases he
  | some q =>
   rw [hq] at he; obtain ⟨hj, hq2⟩ := List.getElem?_eq_some_iff.1 hq; injection he with he; exact ⟨hj, by rw [hq2]; exact he.symm⟩
 rw [← hll]; refine .sl 1 (fun j _ => .string (ks.getD j ⟨#[]⟩)) (by rw [hll]; exact h.le) h.top (by rw [hll]; exact h.cap) (fun h => by cases h) (fun e he => ?_) (fun hn => ?_) (fun j i e x he hx => ?_)
 ·obtain ⟨t, _, rfl⟩ := List.mem_map.1 he
  exact ⟨rfl, fun x hx => by simp only [List.mem_cons, List.not_mem_nil, or_false] at hx; subst hx; rfl⟩
 ·obtain ⟨g, o, e, h1, h2⟩ := h.at_ (by omega)
  refine ⟨g, o, e, fun j i hj hi => ⟨h1, ?_⟩⟩; obtain rfl : i = 0 := by omega
  have hj2 : j < ks.length := by omega
  rw [Nat.mul_one, Nat.add_zero, h2 j hj2, List.getD_eq_getElem?_getD, List.getElem?_eq_getElem hj2]; rfl
 obtain ⟨hj, rfl⟩ := hg j e he; match i, hx with
 | 0, hx => injection hx with hx; rw [← hx, List.getD_eq_getElem?_getD, List.getElem?_eq_getElem hj]; exact .v _
 | i + 1, hx => exact absurd hx (by simp)
section
variable {H : Type} {enc : TypeId × Value → H} {W W' : World}
/-- a slice of nodes that comes in -/
theorem Ta {n : Nat} {cs : List Value} {x : DataW H × List MemPlace} (h : DataW.trod enc Tryz.prog W 0 (fun _ => true) true (n + 1) 24 cs = some x) (hw : ∀ k ∈ x.1.weights Tryz.prog 24, k ≤ reachBytes)
  (ih : ∀ (cs : List Value) (x : DataW H × List MemPlace), DataW.trod enc Tryz.prog W 0 (fun _ => true) true n 27 cs = some x → (∀ k ∈ x.1.weights Tryz.prog 27, k ≤ reachBytes) → ∃ t, RepL W (FC W) (Ag t) cs ∧ Cy t) :
  ∃ A l c, cs = [.slice A (List.length l) c] ∧ Rep W (FC W) (.sl (AJ l) false) (.slice A (List.length l) c) ∧ FW l := by
 rcases DataW.trod_slice Tryz.underlying24 h with ⟨rfl, rfl⟩ | ⟨a, len, cap, elems, rest, n', hn, rfl, rfl, h0, hl, hm, hlen, hel, hsp, _⟩
 ·exact ⟨none, [], 0, rfl, .sl (es := []) 0 (fun _ _ => undef) (Nat.le_refl _) (by decide) (by decide) (fun h => by cases h) (fun _ h => absurd h List.not_mem_nil) (fun h => absurd h (Nat.lt_irrefl _)) (fun j i e x h => by simp at h), trivial⟩
 obtain rfl : n = n' := by omega
 have hR : reachBytes = 140737488351232 := rfl; have hr := (hsp rfl).1; have hwl : (len + rest.length) * 88 ≤ reachBytes := by
  refine hw _ ?_; simp only [DataW.weights, Tryz.underlying24, bNd, List.length_map, hlen]; exact List.mem_cons_self
 haveI : Inhabited NJ := ⟨Lg⟩
 have hp : 0 < len → ∃ g o, a = ⟨g, o, none⟩ := fun h0 => by
  have h1 := hel 0 h0; rw [List.getElem?_eq_getElem (by omega), cNd] at h1; obtain ⟨cs, h2, _⟩ := Option.bind_eq_some_iff.1 h1; obtain ⟨_, hlc, hcl⟩ := World.cells?_some h2; have hc0 := hcl 0 (by omega); rw [List.getElem?_eq_getElem (by omega), show a.add (0 * 6) = a.add 0 from rfl, show (a.add 0).add 0 = a.add 0 by simp [Addr.add]] at hc0; exact ME hc0
 obtain ⟨S, hS⟩ := choose_lt (α := NJ × List Value) (n := len) (p := fun i t => ∃ g o, a = ⟨g, o, none⟩ ∧ g < W.heap.size ∧ (∀ k v, t.2[k]? = some v → W.cell? ⟨g, o + i * 6 + k, none⟩ = some v) ∧ RepL W (FC W) (Ag t.1) t.2 ∧ Cy t.1) (fun i hi => by
  have h1 := hel i hi; rw [List.getElem?_eq_getElem (by omega), cNd] at h1; obtain ⟨cs, h2, h3⟩ := Option.bind_eq_some_iff.1 h1; obtain ⟨_, hlc, hcl⟩ := World.cells?_some h2; obtain ⟨t, ht, hk⟩ := ih cs _ h3 (fun k hk => hw k (by
   simp only [DataW.weights, Tryz.underlying24]; exact List.mem_cons_of_mem _ (List.mem_append_left _ (Jq (List.mem_map.2 ⟨_, List.getElem_mem _, rfl⟩) _ hk))))
  have hc0 := hcl 0 (by omega); rw [List.getElem?_eq_getElem (by omega)] at hc0; obtain ⟨g, o, rfl⟩ := hp (by omega); refine ⟨(t, cs), g, o, rfl, ?_, fun k v hv => ?_, ht, hk⟩
  ·rw [add_plain, add_plain] at hc0; exact Bm hc0
  have hk : k < 6 := by rw [← hlc]; exact (List.getElem?_eq_some_iff.1 hv).1
  have := hcl k hk; rw [add_plain, add_plain, hv] at this; exact this)
 have hgl : ∀ j, j < len → ((List.range len).map fun i => (S i).1)[j]? = some (S j).1 := fun j hj => by
  rw [List.getElem?_map, List.getElem?_range hj]; rfl
 have hget : ∀ (j : Nat) e, (AJ ((List.range len).map fun i => (S i).1))[j]? = some e → j < len ∧ e = Ag (S j).1 := fun j e he => by
  rw [F0] at he; by_cases hj : j < len
  ·rw [hgl j hj] at he; injection he with he; exact ⟨hj, he.symm⟩
  rw [List.getElem?_eq_none (by simp; omega)] at he; cases he
 have hlen2 : ((List.range len).map fun i => (S i).1).length = len := by simp
 have hll : (AJ ((List.range len).map fun i => (S i).1)).length = ((List.range len).map fun i => (S i).1).length := AF _; refine ⟨some a, (List.range len).map fun i => (S i).1, cap, by rw [hlen2], ?_, (CY _).2 fun t ht => ?_⟩
 ·rw [← hll]
  refine .sl 6 (fun j i => (S j).2.getD i undef) (by rw [hll, hlen2]; exact hl) (by unfold maxLen at hm; omega) (by rw [hll, hlen2]; omega) (fun h => by cases h) (fun e he => ?_) (fun hn => ?_) (fun j i e x he hx => ?_)
  ·obtain ⟨j, hj, rfl⟩ := List.mem_iff_getElem.1 he
   obtain ⟨_, h2⟩ := hget j _ (List.getElem?_eq_getElem hj); rw [h2]; exact ⟨Kl _, N9 _⟩
  ·rw [hll, hlen2] at hn
   obtain ⟨g, o, rfl, _⟩ := hS 0 hn; refine ⟨g, o, rfl, fun j i hj hi => ?_⟩; rw [hll, hlen2] at hj; obtain ⟨g', o', e, h1, h2, h3, _⟩ := hS j hj; injection e with e1 e2; subst e1 e2; have hlt : i < (S j).2.length := by rw [h3.1, Kl]; exact hi
   refine ⟨h1, h2 i _ ?_⟩; rw [List.getD_eq_getElem?_getD, List.getElem?_eq_getElem hlt]; rfl
  obtain ⟨hj, rfl⟩ := hget j e he; obtain ⟨_, _, _, _, _, h3, _⟩ := hS j hj; have hlt : i < (S j).2.length := by rw [h3.1]; exact (List.getElem?_eq_some_iff.1 hx).1
  rw [List.getD_eq_getElem?_getD, List.getElem?_eq_getElem hlt]; exact h3.2 i x _ hx (List.getElem?_eq_getElem hlt)
 obtain ⟨i, hi, rfl⟩ := List.mem_map.1 ht; obtain ⟨_, _, _, _, _, _, h4⟩ := hS i (by simpa using hi); exact h4
/-- a node that comes in -/
theorem U3 : ∀ (N n : Nat), n ≤ N → ∀ (cs : List Value) (x : DataW H × List MemPlace), DataW.trod enc Tryz.prog W 0 (fun _ => true) true n 27 cs = some x → (∀ k ∈ x.1.weights Tryz.prog 27, k ≤ reachBytes) → ∃ t, RepL W (FC W) (Ag t) cs ∧ Cy t := by
 intro N; induction N with
 | zero => intro n hn cs x h; obtain rfl : n = 0 := (by omega); simp [DataW.trod] at h
 | succ N ih =>
  intro n hn cs x h hw; obtain ⟨xs, m, hm, rfl, hl, hlen, hf⟩ := DataW.trod_struct Tryz.underlying27 h; rw [cNd] at hl; match cs, hl with
  | [a0, a1, a2, a3, a4, a5], _ =>
  match xs, hlen with
  | [y0, y1, y2, y3, y4], _ =>
   have h0 := hf 0 _ rfl; have h1 := hf 1 _ rfl; have h2 := hf 2 _ rfl; have h3 := hf 3 _ rfl; have h4 := hf 4 _ rfl; simp only [List.getElem?_cons_zero, List.getElem?_cons_succ] at h0 h1 h2 h3 h4; obtain ⟨k, e0, rfl, w0⟩ := DataW.trod_int Tryz.underlying3 h0; obtain ⟨s, e3, rfl, w3⟩ := DataW.trod_string Tryz.underlying9 h1; obtain ⟨z0, z1, m', rfl, _, g0, g1⟩ := trod_struct2 Tryz.underlying23 h2; simp only [cI, Xl, List.drop_zero] at g0 g1; obtain ⟨mm, e1, rfl, w1⟩ := DataW.trod_int Tryz.underlying2 g0; obtain ⟨ee, e2, rfl, w2⟩ := DataW.trod_int Tryz.underlying3 g1; have hw2 : ∀ k, k ∈ (DataW.lit (H := H) (.string s.data.toList)).weights Tryz.prog 9 ++ (y3.1.weights Tryz.prog 24 ++ y4.1.weights Tryz.prog 25) → k ≤ reachBytes := fun k hk => hw k (by
    simp only [DataW.weights, Tryz.underlying27, List.map_cons, List.map_nil, DataW.weightsEach, List.append_nil, List.nil_append, List.mem_append]; simp only [DataW.weights, List.mem_append] at hk; simp only [Tryz.underlying23, List.map_cons, List.map_nil, DataW.weightsEach, DataW.weights, List.append_nil]; rcases hk with hk | hk | hk
    ·exact Or.inl hk
    ·exact Or.inr (Or.inr (Or.inl hk))
    exact Or.inr (Or.inr (Or.inr hk)))
   have hw3 : ∀ k, k ∈ y3.1.weights Tryz.prog 24 → k ≤ reachBytes := fun k hk => hw2 k (List.mem_append_right _ (List.mem_append_left _ hk))
   have hw4 : ∀ k, k ∈ y4.1.weights Tryz.prog 25 → k ≤ reachBytes := fun k hk => hw2 k (List.mem_append_right _ (List.mem_append_right _ hk))
   have hws : s.size ≤ reachBytes := by
    have := hw2 s.data.toList.length (List.mem_append_left _ (by simp [DataW.weights])); rwa [Al] at this
   obtain ⟨A', ks, c', e5, hK⟩ := Ur h4 hw4; obtain ⟨A, l, c, e4, hV, hN⟩ : ∃ A l c, [a4] = [.slice A (List.length l) c] ∧ Rep W (FC W) (.sl (AJ l) false) (.slice A (List.length l) c) ∧ FW l := by
    cases m with
    | zero => simp [DataW.trod] at h3
    | succ m => exact Ta h3 hw3 (fun cs x h hw => ih m (by omega) cs x h hw)
   injection e0 with e0 _; injection e1 with e1 _; injection e2 with e2 _; injection e3 with e3 _; injection e4 with e4 _; injection e5 with e5 _; subst e0 e1 e2 e3 e4 e5; exact ⟨.mk k s mm ee l ks, RepL.cons (.v _) (RepL.cons (.v _) (RepL.cons (.v _) (RepL.cons (.v _) (RepL.cons hV (RepL.cons (Sz hK) (RepL.nil _ _)))))), ⟨(bounds_i64 w0).1, (bounds_i64 w0).2⟩, ⟨(bounds_i64 w1).1, (bounds_i64 w1).2⟩, ⟨(bounds_i64 w2).1, (bounds_i64 w2).2⟩, hws, hK.small, hN⟩
/-- a node that comes in as an argument -/
theorem RC {b0 : Nat} {v : Value} {d : DataW H} {p : List MemPlace}
  (hv : Value.okWide Tryz.prog W .any b0 27 v) (h : DataW.Trod enc Tryz.prog W 0 (fun _ => true) true 27 v d p) (hw : ∀ k ∈ d.weights Tryz.prog 27, k ≤ reachBytes) :
  ∃ (t : NJ) (cs : List Value), v = .agg cs.toArray ∧ RepL W (FC W) (Ag t) cs ∧ Cy t := by
 obtain ⟨cs, rfl, _⟩ := okWide_struct Tryz.underlying27 hv; obtain ⟨n, h⟩ := h; obtain ⟨t, ht, hk⟩ := U3 n n (Nat.le_refl _) _ _ h hw; exact ⟨t, cs.toList, by simp, ht, hk⟩
end
open Go Go.RowKit Go.Proofs Th
def GX (W : World) (S : CS) : Prop := ∀ W', (∀ g o, S g o → W'.cell? ⟨g, o, none⟩ = W.cell? ⟨g, o, none⟩) → Glob W' ∧ Utf W' ∧ GlobX W'
theorem gkX : GK GX := fun _ _ _ _ h hc hS W2 h2 => h W2 fun g o hs => (h2 g o (hS g o hs)).trans (hc g o hs)
theorem GX.now {W : World} {S : CS} (h : GX W S) : Glob W ∧ Utf W ∧ GlobX W := h W fun _ _ _ => rfl
theorem DN {P : Program} {G : World → CS → Prop} {f : FuncId} {us : List Value} {x : IV} (hf : ∃ fn, P.funcs[f]? = some fn ∧ fn.body.isNone = false ∧ (fn.name == "runtime.NumGoroutine") = false)
  (h : ∀ W S, G W S → Calls P f us.toArray W fun e W' => (∃ u, e = .returned u ∧ ∀ S', Rep W' S' x u) ∧ Below W.heap.size W W') : ACalls P G f none (us.map IV.v) (.ret x []) := by
 refine ⟨hf, fun W S p ws hG hSb _ hws => ?_⟩; have hwu : ∀ (us ws : List Value), RepL W S (us.map IV.v) ws → ws = us := by
  intro us; induction us with
  | nil => intro ws h; exact List.eq_nil_of_length_eq_zero h.1
  | cons u r ih =>
   intro ws h; cases ws with
   | nil => exact absurd h.1 (by simp)
   | cons w ws =>
    rw [Cz (h.2 0 (IV.v u) w rfl rfl), ih ws ⟨by simpa using h.1, fun i x u hx hu => h.2 (i + 1) x u hx hu⟩]
 obtain rfl := hwu us ws hws; exact (h W S hG).mono fun e W' ⟨⟨u, he, hr⟩, hb⟩ => ⟨⟨u, he, hr _⟩, fun h => (by cases h), Dk hb⟩
theorem Ff {W : World} {S : CS} {xs : List IV} {us : List Value} (h : RepL W S xs us) : Rep W S (.tup xs) (.tuple us.toArray) := .tup h.1 h.2
theorem U4 {W : World} {S : CS} {xs : List IV} {us : List Value} (h : RepL W S xs us) : Rep W S (.agg xs) (.agg us.toArray) := .agg h.1 h.2
theorem Xi : Tq GX := fun s hs hd => DN (us := [.string s]) ⟨_, Tryz.func150, rfl, rfl⟩ fun W S hG => (PV s (by omega) hd W hG.now.1).mono fun e W' ⟨he, hb⟩ =>
 ⟨⟨_, he, fun S' => Ff (us := [_, _]) (RepL.cons (U4 (us := [_, _]) (RepL.cons (.v _) (RepL.cons (.v _) (RepL.nil _ _)))) (RepL.cons (.v _) (RepL.nil _ _)))⟩, hb⟩
theorem SW {W : World} {S : CS} {T : Nat → Prop} {A : Option Addr} {c : Nat} {l : List Tf} (h : ToksIn W T A c l) (hT : ∀ g o, T g → S g o) : Rep W S (.sl (l.map Db) false) (.slice A l.length c) := by
 have hg : ∀ (j : Nat) e, (l.map Db)[j]? = some e → ∃ hj : j < l.length, e = Db l[j] := fun j e he => by
  rw [List.getElem?_map] at he; cases hq : l[j]? with
  | none => rw [hq] at he; cases he
  | some q =>
   rw [hq] at he; obtain ⟨hj, hq2⟩ := List.getElem?_eq_some_iff.1 hq; injection he with he; exact ⟨hj, by rw [hq2, he]⟩
 have hll : (l.map Db).length = l.length := List.length_map _; have hcap := h.cap; obtain ⟨f, hf⟩ : ∃ f : Nat → Nat → Value, f = fun j i => match l[j]? with
  | some t => (match i with | 0 => .int .i64 (t.kind : Int) | 1 => .string t.text | _ => .int .i64 (t.at_ : Int))
  | none => undef := ⟨_, rfl⟩
 rw [← hll]; refine .sl 3 f (by rw [hll]; exact h.le) h.top (by omega) (fun h => by cases h) (fun e he => ?_) (fun hn => ?_) (fun j i e x he hx => ?_)
 ·obtain ⟨t, _, rfl⟩ := List.mem_map.1 he
  exact ⟨rfl, fun x hx => by simp only [Db, List.mem_cons, List.not_mem_nil, or_false] at hx; rcases hx with rfl | rfl | rfl <;> rfl⟩
 ·obtain ⟨g, o, e, h1, h2⟩ := h.at_ (by omega)
  refine ⟨g, o, e, fun j i hj hi => ⟨hT _ _ h1, ?_⟩⟩; obtain ⟨c0, c1, c2⟩ := h2 j (by omega); rw [hf]; have hlj : l[j]? = some (l[j]'(by omega)) := List.getElem?_eq_getElem _; match i, hi with
  | 0, _ => simp only [hlj]; exact c0
  | 1, _ => simp only [hlj]; exact c1
  | 2, _ => simp only [hlj]; exact c2
 obtain ⟨hj, rfl⟩ := hg j e he; rw [hf]; have hlj : l[j]? = some l[j] := List.getElem?_eq_getElem hj; simp only [hlj]; match i, hx with
 | 0, hx => injection hx with hx; rw [← hx]; exact .v _
 | 1, hx => injection hx with hx; rw [← hx]; exact .v _
 | 2, hx => injection hx with hx; rw [← hx]; exact .v _
 | i + 3, hx => exact absurd hx (by simp [Db])
theorem Wm : Wq GX := fun s hs => by
 refine ⟨⟨_, Tryz.func23, rfl, rfl⟩, fun W S p ws hG hSb _ hws => ?_⟩; obtain rfl := Gh [.string s] ws hws; refine (Qf s hs W hG.now.2.2).mono fun e W' ⟨A, c, he, ht, hb⟩ => ⟨⟨_, he, ?_⟩, fun h => (by cases h), Dk hb⟩
 exact Ff (us := [_, _, _]) (RepL.cons (SW ht fun g o hg => Or.inr hg) (RepL.cons (.v _) (RepL.cons (.v _) (RepL.nil _ _))))
open Go Go.RowKit Go.Proofs Th
set_option maxRecDepth 8000
attribute [local go_sem] sel
attribute [local go_sem] EN CD AF K3 KS GA
attribute [local go_sem] Fk List.map_append List.map_cons List.map_nil List.length_map
variable {G : World → CS → Prop}
theorem NX : Vu Tryz.prog 23 := fun op x y a b c d W hop => by
 have h1 : (Op.equal 23 (.agg #[.int .i64 a, .int .i64 b]) (.agg #[.int .i64 c, .int .i64 d])).run Tryz.prog W = .ok (decide (a = c) && decide (b = d)) W := Nw a b c d W; refine ⟨?_, h1⟩; have hg : Tryz.prog.eqGuardType Tryz.prog.depth 23 = false := by kernel_rfl
 rcases hop with rfl | rfl <;> simp [eqGuard, hg]
theorem Qb {W : World} {S : CS} {us : List Value} {k : Int} {s : ByteArray} {m e : Int} {l : List NJ} {b : List ByteArray} (h : RepL W S [.agg (Ag (.mk k s m e l b))] us) : l.length ≤ 140737488351232 := by
 refine LO (us := us ++ [.bool true]) (W := W) (S := S) (k := k) (s := s) (m := m) (e := e) (l := l) (b := b) (x := .v (.bool true)) ⟨by rw [List.length_append, h.1]; rfl, fun i y u hy hu => ?_⟩; have h1 : us.length = 1 := h.1; match i, hy with
 | 0, hy => exact h.2 0 y u hy (by rw [List.getElem?_append_left (by omega)] at hu; exact hu)
 | 1, hy =>
  rw [List.getElem?_append_right (by omega), h1] at hu; injection hy with hy; injection hu with hu; subst hy hu; exact .v _
 | i + 2, hy => exact absurd hy (by simp)
theorem Bh {W : World} {S : CS} {us : List Value} {cs : List IV} {r : List IV} {i : Nat} {es : List (List IV)} {fl : Bool} (h : RepL W S (.agg cs :: r) us) (hi : cs[i]? = some (.sl es fl)) : es.length ≤ 140737488351232 := by
 obtain ⟨hlen, hr⟩ := h; rcases us with _ | ⟨u, us⟩
 ·cases hlen
 have h0 := hr 0 _ u rfl rfl; cases h0 with
 | @agg _ vs hl hR =>
  have hlt := (List.getElem?_eq_some_iff.1 hi).1; obtain ⟨v, hv⟩ : ∃ v, vs[i]? = some v := ⟨_, List.getElem?_eq_getElem (by omega : i < vs.length)⟩
  have h4 := hR i _ v hi hv; cases h4 with
  | sl _ _ _ _ hl2 => exact hl2
attribute [go_sem] EN CD AF K3 KS GA
attribute [go_sem] Fk List.map_append List.map_cons List.map_nil List.length_map
end Go.Proofs.YtakncilicoefdaaGreatDoor
