/- Lemmas and contracts for the laws CalcWith, part 25 of 50: RowV. Conditions: those that each lemma names. -/
import Derived.Test.YtnkokhpadcgfbaaGreatDoorPw8
import Derived.Test.YtnkokhpadcgfbaaGreatDoorPw21
import Derived.ReadAgain
import Derived.SizedLaws
import Derived.Lib.LaidU8T
import Derived.Deep.Slices
import Derived.Deep.Strs
namespace Go.Proofs.YtnkokhpadcgfbaaGreatDoor
open Go Go.Deep Go.WideElems Go.ChangeShapes Go.WideShapes Go.ChangeAt Go.RowKit Go.Proofs Th
theorem kidsV : Kids Tryz.prog (· < Tryz.prog.types.size) := kids_rows (by kernel_rfl) (by kernel_rfl)
theorem fullV : ∀ t e, t < Tryz.prog.types.size → Tryz.prog.underlying t = some (.slice e) → 0 < Tryz.prog.cellsOf e := slices_full_of _ (by kernel_rfl)
theorem cV : Tryz.prog.cellsOf 27 = 6 := by kernel_rfl
theorem cI : Tryz.prog.cellsOf 3 = 1 := by kernel_rfl
theorem cI64 : Tryz.prog.cellsOf 2 = 1 := by kernel_rfl
theorem cS : Tryz.prog.cellsOf 9 = 1 := by kernel_rfl
theorem bV : Tryz.prog.bytesOf 27 = 88 := by kernel_rfl
theorem bS : Tryz.prog.bytesOf 9 = 16 := by kernel_rfl
section
variable {H : Type} {enc : TypeId × Value → H} {W W' : World}
theorem again_trod {ts : List TypeId} {vs : List Value} {ds : List (DataW H)} {ps : List MemPlace} (h : DataW.TrodAll enc Tryz.prog W 0 (fun _ => true) true ts vs ds ps) (hb : Below W.heap.size W W')
    (hlt : ∀ p ∈ ps, p.block < W.heap.size) (hT : ∀ t ∈ ts, t < Tryz.prog.types.size) (sp : Nat → Bool) (hsp : ∀ p ∈ ps, sp p.block = true) : DataW.TrodAll enc Tryz.prog W' 0 sp true ts vs ds ps := by
  have same : ∀ p : MemPlace, p.block < W.heap.size → W.sameAt W' p := fun p hp => by
    cases p with
    | cell b o => exact hb.cell (p := ⟨b, o, none⟩) hp
    | map b => exact hb.block b hp
  have h2 := h.respare kidsV fullV hT hsp
  clear h hT hsp
  induction ts generalizing vs ds ps with
  | nil => exact (show DataW.TrodAll enc Tryz.prog W 0 sp true [] vs ds ps → DataW.TrodAll enc Tryz.prog W' 0 sp true [] vs ds ps from fun h => by cases vs <;> cases ds <;> first | exact h | cases h) h2
  | cons t ts ih =>
    match vs, ds, h2 with
    | v :: vs, d :: ds, ⟨p, q, ⟨n, h1⟩, h3, e⟩ =>
      subst e
      exact ⟨p, q, ⟨n, DataW.trod_carry n _ _ _ h1 (fun x hx => same x (hlt x (List.mem_append_left _ hx)))⟩, ih (fun x hx => hlt x (List.mem_append_right _ hx)) h3, rfl⟩
theorem each_mem {P : Program} {e : TypeId} : ∀ {l : List (DataW H)} {d : DataW H}, d ∈ l → ∀ n ∈ d.weights P e, n ∈ DataW.weightsAll P e l
  | d0 :: l, d, hd, n, hn => by
    simp only [DataW.weightsAll, List.mem_append]
    rcases List.mem_cons.1 hd with rfl | h
    · exact Or.inl hn
    · exact Or.inr (each_mem h n hn)
theorem plain_of {a : Addr} {v : Value} (h : W.cell? (a.add 0) = some v) : ∃ g o, a = ⟨g, o, none⟩ := by
  have := World.cell?_spot h
  obtain ⟨g, o, sp⟩ := a
  simp [Addr.add] at this
  exact ⟨g, o, by rw [this]⟩
theorem strs_of {n : Nat} {cs : List Value} {x : DataW H × List MemPlace} (h : DataW.trod enc Tryz.prog W 0 (fun _ => true) true n 25 cs = some x) (hw : ∀ k ∈ x.1.weights Tryz.prog 25, k ≤ reachBytes) :
    ∃ A ks c, cs = [.slice A (List.length ks) c] ∧ StrsAt W W.heap.size A c ks := by
  rcases open_slice1 Tryz.underlying25 cS h with ⟨rfl, rfl⟩ | ⟨a, len, cap, m, n', V, D, Pl, rfl, h0, hl, hm, hmm, rfl, hx⟩
  · exact ⟨none, [], 0, rfl, Nat.le_refl _, by decide, by decide, fun _ h => absurd h List.not_mem_nil, fun h => absurd h (by decide)⟩
  · simp only [if_true] at hmm
    subst hmm
    have hwl : (len + (m - len)) * 16 ≤ reachBytes := by
      have := hw ((len + (m - len)) * 16) (by simp only [DataW.weights, Tryz.underlying25, bS, List.length_map, List.length_range]; exact List.mem_cons_self)
      exact this
    obtain ⟨S, hS⟩ := choose_lt (α := ByteArray) (n := len) (p := fun i s => V i = .string s ∧ s.size ≤ reachBytes) (fun i hi => by
      obtain ⟨h1, h2⟩ := hx i (by omega)
      obtain ⟨s, e1, e2, h3⟩ := DataW.trod_string Tryz.underlying9 h2
      injection e1 with e1 _
      injection e2 with e2 _
      refine ⟨s, e1, ?_⟩
      have := hw s.data.toList.length (by
        simp only [DataW.weights, Tryz.underlying25]
        refine List.mem_cons_of_mem _ (List.mem_append_left _ (each_mem (d := D i) (List.mem_map.2 ⟨i, by simpa using hi, rfl⟩) _ ?_))
        rw [e2]; simp [DataW.weights])
      rw [size_listU] at this
      exact this)
    have hR : reachBytes = 140737488351232 := rfl
    refine ⟨some a, (List.range len).map S, m, by simp, by simpa using hl, by simp; omega, by unfold maxLen at hm; omega, fun k hk => ?_, fun hn => ?_⟩
    · obtain ⟨i, hi, rfl⟩ := List.mem_map.1 hk
      have := (hS i (by simpa using hi)).2
      omega
    · simp only [List.length_map, List.length_range] at hn
      have hc := (hx 0 (by omega)).1
      obtain ⟨g, o, rfl⟩ := plain_of hc
      refine ⟨g, o, rfl, lt_of_cell hc, fun j hj => ?_⟩
      simp only [List.length_map, List.length_range] at hj
      have h1 := (hx j (by omega)).1
      rw [add_plain, (hS j hj).1] at h1
      simpa using h1
set_option maxRecDepth 100000 in
/-- a slice of values that comes in, where each that lies in it does so as a tree -/
theorem vals_of {n : Nat} {cs : List Value} {x : DataW H × List MemPlace} (h : DataW.trod enc Tryz.prog W 0 (fun _ => true) true (n + 1) 24 cs = some x) (hw : ∀ k ∈ x.1.weights Tryz.prog 24, k ≤ reachBytes)
    (ih : ∀ (cs : List Value) (x : DataW H × List MemPlace), DataW.trod enc Tryz.prog W 0 (fun _ => true) true n 27 cs = some x → (∀ k ∈ x.1.weights Tryz.prog 27, k ≤ reachBytes) → ∃ t, JAt W W.heap.size t cs) :
    ∃ A l c, cs = [.slice A (List.length l) c] ∧ ValsAt W W.heap.size A c l := by
  rcases DataW.trod_slice Tryz.underlying24 h with ⟨rfl, rfl⟩ | ⟨a, len, cap, elems, rest, n', hn, rfl, rfl, h0, hl, hm, hlen, hel, hsp, _⟩
  · exact ⟨none, [], 0, rfl, Nat.le_refl _, by decide, by decide, fun _ h => absurd h (Nat.not_lt_zero _)⟩
  · obtain rfl : n = n' := by omega
    have hR : reachBytes = 140737488351232 := rfl
    have hr := (hsp rfl).1
    have hwl : (len + rest.length) * 88 ≤ reachBytes := by
      refine hw _ ?_
      simp only [DataW.weights, Tryz.underlying24, bV, List.length_map, hlen]; exact List.mem_cons_self
    haveI : Inhabited JV := ⟨.mk 0 0 0 ⟨#[]⟩ [] []⟩
    have hp : 0 < len → ∃ g o, a = ⟨g, o, none⟩ := fun h0 => by
      have h1 := hel 0 h0
      rw [List.getElem?_eq_getElem (by omega), cV] at h1
      obtain ⟨cs, h2, _⟩ := Option.bind_eq_some_iff.1 h1
      obtain ⟨_, hlc, hcl⟩ := World.cells?_some h2
      have hc0 := hcl 0 (by omega)
      rw [List.getElem?_eq_getElem (by omega), show a.add (0 * 6) = a.add 0 from rfl, show (a.add 0).add 0 = a.add 0 by simp [Addr.add]] at hc0
      exact plain_of hc0
    obtain ⟨S, hS⟩ := choose_lt (α := JV) (n := len) (p := fun i t => ∃ g o cs, a = ⟨g, o, none⟩ ∧ g < W.heap.size ∧ (∀ k v, cs[k]? = some v → W.cell? ⟨g, o + i * 6 + k, none⟩ = some v) ∧ JAt W W.heap.size t cs) (fun i hi => by
      have h1 := hel i hi
      rw [List.getElem?_eq_getElem (by omega), cV] at h1
      obtain ⟨cs, h2, h3⟩ := Option.bind_eq_some_iff.1 h1
      obtain ⟨_, hlc, hcl⟩ := World.cells?_some h2
      obtain ⟨t, ht⟩ := ih cs _ h3 (fun k hk => hw k (by
        simp only [DataW.weights, Tryz.underlying24]
        exact List.mem_cons_of_mem _ (List.mem_append_left _ (each_mem (List.mem_map.2 ⟨_, List.getElem_mem _, rfl⟩) _ hk))))
      have hc0 := hcl 0 (by omega)
      rw [List.getElem?_eq_getElem (by omega)] at hc0
      obtain ⟨g, o, rfl⟩ := hp (by omega)
      refine ⟨t, g, o, cs, rfl, ?_, fun k v hv => ?_, ht⟩
      · rw [add_plain, add_plain] at hc0; exact lt_of_cell hc0
      · have hk : k < 6 := by rw [← hlc]; exact (List.getElem?_eq_some_iff.1 hv).1
        have := hcl k hk
        rw [add_plain, add_plain, hv] at this
        exact this)
    refine ⟨some a, (List.range len).map S, cap, by simp, by simpa using hl, by simp; omega, by unfold maxLen at hm; omega, fun j hj => ?_⟩
    simp only [List.length_map, List.length_range] at hj
    obtain ⟨g, o, cs, rfl, h1, h2, h3⟩ := hS j hj
    exact ⟨g, o, cs, rfl, h1, h2, by simpa using h3⟩
set_option maxRecDepth 100000 in
/-- a value that comes in lies as a tree -/
theorem jat_of : ∀ (N n : Nat), n ≤ N → ∀ (cs : List Value) (x : DataW H × List MemPlace), DataW.trod enc Tryz.prog W 0 (fun _ => true) true n 27 cs = some x → (∀ k ∈ x.1.weights Tryz.prog 27, k ≤ reachBytes) → ∃ t, JAt W W.heap.size t cs := by
  intro N
  induction N with
  | zero => intro n hn cs x h; obtain rfl : n = 0 := by omega
            simp [DataW.trod] at h
  | succ N ih =>
    intro n hn cs x h hw
    obtain ⟨xs, m, hm, rfl, hl, hlen, hf⟩ := DataW.trod_struct Tryz.underlying27 h
    rw [cV] at hl
    match cs, hl with
    | [a0, a1, a2, a3, a4, a5], _ =>
    match xs, hlen with
    | [y0, y1, y2, y3, y4], _ =>
      have h0 := hf 0 _ rfl
      have h1 := hf 1 _ rfl
      have h2 := hf 2 _ rfl
      have h3 := hf 3 _ rfl
      have h4 := hf 4 _ rfl
      simp only [List.getElem?_cons_zero, List.getElem?_cons_succ] at h0 h1 h2 h3 h4
      obtain ⟨k, e0, rfl, w0⟩ := DataW.trod_int Tryz.underlying3 h0
      obtain ⟨z0, z1, m', rfl, _, g0, g1⟩ := trod_struct2 Tryz.underlying23 h1
      simp only [cI, cI64, List.drop_zero] at g0 g1
      obtain ⟨mm, e1, rfl, w1⟩ := DataW.trod_int Tryz.underlying2 g0
      obtain ⟨ee, e2, rfl, w2⟩ := DataW.trod_int Tryz.underlying3 g1
      obtain ⟨s, e3, rfl, w3⟩ := DataW.trod_string Tryz.underlying9 h2
      have hw2 : ∀ k, k ∈ (DataW.lit (H := H) (.string s.data.toList)).weights Tryz.prog 9 ++ (y3.1.weights Tryz.prog 24 ++ y4.1.weights Tryz.prog 25) → k ≤ reachBytes := fun k hk => hw k (by
        simp only [DataW.weights, Tryz.underlying27, List.map_cons, List.map_nil, DataW.weightsEach, List.append_nil, List.nil_append, List.mem_append]
        simp only [DataW.weights, List.mem_append] at hk
        simp only [Tryz.underlying23, List.map_cons, List.map_nil, DataW.weightsEach, DataW.weights, List.append_nil]
        exact Or.inr hk)
      have hw3 : ∀ k, k ∈ y3.1.weights Tryz.prog 24 → k ≤ reachBytes := fun k hk => hw2 k (List.mem_append_right _ (List.mem_append_left _ hk))
      have hw4 : ∀ k, k ∈ y4.1.weights Tryz.prog 25 → k ≤ reachBytes := fun k hk => hw2 k (List.mem_append_right _ (List.mem_append_right _ hk))
      have hws : s.size ≤ reachBytes := by
        have := hw2 s.data.toList.length (List.mem_append_left _ (by simp [DataW.weights]))
        rwa [size_listU] at this
      obtain ⟨A', ks, c', e5, hK⟩ := strs_of h4 hw4
      obtain ⟨A, l, c, e4, hV⟩ : ∃ A l c, [a4] = [.slice A (List.length l) c] ∧ ValsAt W W.heap.size A c l := by
        cases m with
        | zero => simp [DataW.trod] at h3
        | succ m => exact vals_of h3 hw3 (fun cs x h hw => ih m (by omega) cs x h hw)
      injection e0 with e0 _
      injection e1 with e1 _
      injection e2 with e2 _
      injection e3 with e3 _
      injection e4 with e4 _
      injection e5 with e5 _
      subst e0 e1 e2 e3 e4 e5
      exact ⟨.mk k mm ee s l ks, JAt.shut ⟨(bounds_i64 w0).1, (bounds_i64 w0).2⟩ ⟨(bounds_i64 w1).1, (bounds_i64 w1).2⟩ ⟨(bounds_i64 w2).1, (bounds_i64 w2).2⟩ hws hK hV⟩
end
noncomputable def laidV : List (String × DataW Unit) := Rows.calcLengthsRow.laid
set_option maxRecDepth 100000 in
theorem first_same : Go.Pinned.utf8First = Lib.firstData := by kernel_rfl
set_option maxRecDepth 100000 in
theorem accept_same : (Rows.laid_unicode_utf8_acceptRanges : DataW Unit) = Lib.acceptData := by kernel_rfl
theorem globV_of {W : World} (h : laidMetH Tryz.prog laidV W) : GlobW W := by
  have ht : Lib.TabIs Tryz.prog W "thimble/num.tens" .u64 tenTab :=
    Lib.tabIs_of_head (rest := []) gTens tTens Tryz.underlying109 Tryz.underlying32 u64Cells u64Cells20 (h.filter fun x => x.1 == "thimble/num.tens")
  have hp : Lib.TabIs Tryz.prog W "internal/strconv.uint64pow10" .u64 Lib.pow10Tab :=
    Lib.tabIs_of_head (rest := []) gPows tPows Tryz.underlying109 Tryz.underlying32 u64Cells u64Cells20 (h.filter fun x => x.1 == "internal/strconv.uint64pow10")
  have h3 : Lib.VarReads Tryz.prog W "unicode/utf8.first" Go.Pinned.utf8First := Lib.laidMet.reads (l := [("unicode/utf8.first", Go.Pinned.utf8First)]) (h.filter fun x => x.1 == "unicode/utf8.first") (.head _)
  have h4 : Lib.VarReads Tryz.prog W "unicode/utf8.acceptRanges" Rows.laid_unicode_utf8_acceptRanges := Lib.laidMet.reads (l := [("unicode/utf8.acceptRanges", Rows.laid_unicode_utf8_acceptRanges)]) (h.filter fun x => x.1 == "unicode/utf8.acceptRanges") (.head _)
  rw [first_same] at h3
  rw [accept_same] at h4
  refine ⟨⟨⟨fun i hi => ?_⟩, hp⟩, utf8Tabs_of_readsT (U8Types.of196 Tryz.lays196) ⟨by kernel_rfl, by kernel_rfl, by kernel_rfl, by kernel_rfl, by kernel_rfl, by kernel_rfl, by kernel_rfl⟩ h3 h4⟩
  rw [ht.cell gTens i hi]
  congr 2
  revert i; decide
set_option maxRecDepth 100000 in
/-- a value that comes in -/
theorem open_value {H : Type} {enc : TypeId × Value → H} {W : World} {b0 : Nat} {v : Value} {d : DataW H} {p : List MemPlace}
    (hv : Value.okWide Tryz.prog W .any b0 27 v) (h : DataW.Trod enc Tryz.prog W 0 (fun _ => true) true 27 v d p) (hw : ∀ k ∈ d.weights Tryz.prog 27, k ≤ reachBytes) :
    ∃ (t : JV) (cs : List Value), v = .agg cs.toArray ∧ JAt W W.heap.size t cs := by
  obtain ⟨cs, rfl, _⟩ := okWide_struct Tryz.underlying27 hv
  obtain ⟨n, h⟩ := h
  obtain ⟨t, ht⟩ := jat_of n n (Nat.le_refl _) _ _ h hw
  exact ⟨t, cs.toList, by simp, ht⟩
set_option maxRecDepth 100000 in
/-- a text that comes in -/
theorem open_str {H : Type} {enc : TypeId × Value → H} {W : World} {b0 : Nat} {v : Value} {d : DataW H} {p : List MemPlace}
    (_hv : Value.okWide Tryz.prog W .any b0 9 v) (h : DataW.Trod enc Tryz.prog W 0 (fun _ => true) true 9 v d p) (hw : ∀ k ∈ d.weights Tryz.prog 9, k ≤ reachBytes) :
    ∃ s : ByteArray, v = .string s ∧ s.size ≤ 140737488351232 := by
  obtain ⟨s, rfl⟩ := okWide_string Tryz.underlying9 _hv
  obtain ⟨n, h⟩ := h
  obtain ⟨s', e3, e4, w3⟩ := DataW.trod_string Tryz.underlying9 h
  have e3 : [Value.string s] = [.string s'] := e3
  injection e3 with e3 _
  injection e3 with e5
  subst e5
  refine ⟨s, rfl, ?_⟩
  injection e4 with e4 _
  subst e4
  have := hw s.data.toList.length (by simp [DataW.weights])
  rwa [size_listU] at this
noncomputable def laidWorldV (os : Os) : World :=
  { World.holding Tryz.prog os ⟨#[], #[], []⟩ with heap := laidV.foldl lay (World.holding Tryz.prog os ⟨#[], #[], []⟩).heap }
set_option maxRecDepth 100000 in
theorem laid_metV (os : Os) : laidMet Tryz.prog laidV (laidWorldV os) :=
  laidMet_of_run3 8 (by kernel_rfl) (by kernel_rfl) (by kernel_rfl)
end Go.Proofs.YtnkokhpadcgfbaaGreatDoor
