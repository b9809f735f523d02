/- Lemmas and contracts for the laws CalcCompares, part 16 of 33: RowV, CalcMath. Conditions: those that each lemma names. -/
import Derived.Test.YtmacgdcmgbkfnaaGreatDoorPack6
import Derived.Test.YtmacgdcmgbkfnaaGreatDoorPack12
import Derived.Test.YtmacgdcmgbkfnaaGreatDoorPack3
import Derived.Test.YtmacgdcmgbkfnaaGreatDoorPack13
import Derived.ReadAgain
import Derived.SizedLaws
import Derived.Lib.LaidU8T
import Derived.Deep.Slices
import Derived.Deep.Strs
namespace Go.Proofs.YtmacgdcmgbkfnaaGreatDoor
open Go Go.Deep Go.WideElems Go.ChangeShapes Go.WideShapes Go.ChangeAt Go.RowKit Go.Proofs Th
theorem kidsV : Kids Tryz.prog (· < Tryz.prog.types.size) := kids_rows (by kernel_rfl) (by kernel_rfl)
theorem fullV : ∀ t e, t < Tryz.prog.types.size → Tryz.prog.underlying t = some (.slice e) → 0 < Tryz.prog.cellsOf e := slices_full_of _ (by kernel_rfl)
theorem cV : Tryz.prog.cellsOf 27 = 6 := by kernel_rfl
theorem cI : Tryz.prog.cellsOf 3 = 1 := by kernel_rfl
theorem cI64 : Tryz.prog.cellsOf 2 = 1 := by kernel_rfl
theorem cS : Tryz.prog.cellsOf 9 = 1 := by kernel_rfl
theorem bV : Tryz.prog.bytesOf 27 = 88 := by kernel_rfl
theorem bS : Tryz.prog.bytesOf 9 = 16 := by kernel_rfl
section
variable {H : Type} {enc : TypeId × Value → H} {W W' : World}
theorem again_trod {ts : List TypeId} {vs : List Value} {ds : List (DataW H)} {ps : List MemPlace} (h : DataW.TrodAll enc Tryz.prog W 0 (fun _ => true) true ts vs ds ps) (hb : Below W.heap.size W W')
    (hlt : ∀ p ∈ ps, p.block < W.heap.size) (hT : ∀ t ∈ ts, t < Tryz.prog.types.size) (sp : Nat → Bool) (hsp : ∀ p ∈ ps, sp p.block = true) : DataW.TrodAll enc Tryz.prog W' 0 sp true ts vs ds ps := by
  have same : ∀ p : MemPlace, p.block < W.heap.size → W.sameAt W' p := fun p hp => by
    cases p with
    | cell b o => exact hb.cell (p := ⟨b, o, none⟩) hp
    | map b => exact hb.block b hp
  have h2 := h.respare kidsV fullV hT hsp
  clear h hT hsp
  induction ts generalizing vs ds ps with
  | nil => exact (show DataW.TrodAll enc Tryz.prog W 0 sp true [] vs ds ps → DataW.TrodAll enc Tryz.prog W' 0 sp true [] vs ds ps from fun h => by cases vs <;> cases ds <;> first | exact h | cases h) h2
  | cons t ts ih =>
    match vs, ds, h2 with
    | v :: vs, d :: ds, ⟨p, q, ⟨n, h1⟩, h3, e⟩ =>
      subst e
      exact ⟨p, q, ⟨n, DataW.trod_carry n _ _ _ h1 (fun x hx => same x (hlt x (List.mem_append_left _ hx)))⟩, ih (fun x hx => hlt x (List.mem_append_right _ hx)) h3, rfl⟩
theorem each_mem {P : Program} {e : TypeId} : ∀ {l : List (DataW H)} {d : DataW H}, d ∈ l → ∀ n ∈ d.weights P e, n ∈ DataW.weightsAll P e l
  | d0 :: l, d, hd, n, hn => by
    simp only [DataW.weightsAll, List.mem_append]
    rcases List.mem_cons.1 hd with rfl | h
    · exact Or.inl hn
    · exact Or.inr (each_mem h n hn)
theorem plain_of {a : Addr} {v : Value} (h : W.cell? (a.add 0) = some v) : ∃ g o, a = ⟨g, o, none⟩ := by
  have := World.cell?_spot h
  obtain ⟨g, o, sp⟩ := a
  simp [Addr.add] at this
  exact ⟨g, o, by rw [this]⟩
theorem strs_of {n : Nat} {cs : List Value} {x : DataW H × List MemPlace} (h : DataW.trod enc Tryz.prog W 0 (fun _ => true) true n 25 cs = some x) (hw : ∀ k ∈ x.1.weights Tryz.prog 25, k ≤ reachBytes) :
    ∃ A ks c, cs = [.slice A (List.length ks) c] ∧ StrsAt W W.heap.size A c ks := by
  rcases open_slice1 Tryz.underlying25 cS h with ⟨rfl, rfl⟩ | ⟨a, len, cap, m, n', V, D, Pl, rfl, h0, hl, hm, hmm, rfl, hx⟩
  · exact ⟨none, [], 0, rfl, Nat.le_refl _, by decide, by decide, fun _ h => absurd h List.not_mem_nil, fun h => absurd h (by decide)⟩
  · simp only [if_true] at hmm
    subst hmm
    have hwl : (len + (m - len)) * 16 ≤ reachBytes := by
      have := hw ((len + (m - len)) * 16) (by simp only [DataW.weights, Tryz.underlying25, bS, List.length_map, List.length_range]; exact List.mem_cons_self)
      exact this
    obtain ⟨S, hS⟩ := choose_lt (α := ByteArray) (n := len) (p := fun i s => V i = .string s ∧ s.size ≤ reachBytes) (fun i hi => by
      obtain ⟨h1, h2⟩ := hx i (by omega)
      obtain ⟨s, e1, e2, h3⟩ := DataW.trod_string Tryz.underlying9 h2
      injection e1 with e1 _
      injection e2 with e2 _
      refine ⟨s, e1, ?_⟩
      have := hw s.data.toList.length (by
        simp only [DataW.weights, Tryz.underlying25]
        refine List.mem_cons_of_mem _ (List.mem_append_left _ (each_mem (d := D i) (List.mem_map.2 ⟨i, by simpa using hi, rfl⟩) _ ?_))
        rw [e2]; simp [DataW.weights])
      rw [size_listU] at this
      exact this)
    have hR : reachBytes = 140737488351232 := rfl
    refine ⟨some a, (List.range len).map S, m, by simp, by simpa using hl, by simp; omega, by unfold maxLen at hm; omega, fun k hk => ?_, fun hn => ?_⟩
    · obtain ⟨i, hi, rfl⟩ := List.mem_map.1 hk
      have := (hS i (by simpa using hi)).2
      omega
    · simp only [List.length_map, List.length_range] at hn
      have hc := (hx 0 (by omega)).1
      obtain ⟨g, o, rfl⟩ := plain_of hc
      refine ⟨g, o, rfl, lt_of_cell hc, fun j hj => ?_⟩
      simp only [List.length_map, List.length_range] at hj
      have h1 := (hx j (by omega)).1
      rw [add_plain, (hS j hj).1] at h1
      simpa using h1
set_option maxRecDepth 100000 in
/-- a slice of values that comes in, where each that lies in it does so as a tree -/
theorem vals_of {n : Nat} {cs : List Value} {x : DataW H × List MemPlace} (h : DataW.trod enc Tryz.prog W 0 (fun _ => true) true (n + 1) 24 cs = some x) (hw : ∀ k ∈ x.1.weights Tryz.prog 24, k ≤ reachBytes)
    (ih : ∀ (cs : List Value) (x : DataW H × List MemPlace), DataW.trod enc Tryz.prog W 0 (fun _ => true) true n 27 cs = some x → (∀ k ∈ x.1.weights Tryz.prog 27, k ≤ reachBytes) → ∃ t, JAt W W.heap.size t cs) :
    ∃ A l c, cs = [.slice A (List.length l) c] ∧ ValsAt W W.heap.size A c l := by
  rcases DataW.trod_slice Tryz.underlying24 h with ⟨rfl, rfl⟩ | ⟨a, len, cap, elems, rest, n', hn, rfl, rfl, h0, hl, hm, hlen, hel, hsp, _⟩
  · exact ⟨none, [], 0, rfl, Nat.le_refl _, by decide, by decide, fun _ h => absurd h (Nat.not_lt_zero _)⟩
  · obtain rfl : n = n' := by omega
    have hR : reachBytes = 140737488351232 := rfl
    have hr := (hsp rfl).1
    have hwl : (len + rest.length) * 88 ≤ reachBytes := by
      refine hw _ ?_
      simp only [DataW.weights, Tryz.underlying24, bV, List.length_map, hlen]; exact List.mem_cons_self
    haveI : Inhabited JV := ⟨.mk 0 0 0 ⟨#[]⟩ [] []⟩
    have hp : 0 < len → ∃ g o, a = ⟨g, o, none⟩ := fun h0 => by
      have h1 := hel 0 h0
      rw [List.getElem?_eq_getElem (by omega), cV] at h1
      obtain ⟨cs, h2, _⟩ := Option.bind_eq_some_iff.1 h1
      obtain ⟨_, hlc, hcl⟩ := World.cells?_some h2
      have hc0 := hcl 0 (by omega)
      rw [List.getElem?_eq_getElem (by omega), show a.add (0 * 6) = a.add 0 from rfl, show (a.add 0).add 0 = a.add 0 by simp [Addr.add]] at hc0
      exact plain_of hc0
    obtain ⟨S, hS⟩ := choose_lt (α := JV) (n := len) (p := fun i t => ∃ g o cs, a = ⟨g, o, none⟩ ∧ g < W.heap.size ∧ (∀ k v, cs[k]? = some v → W.cell? ⟨g, o + i * 6 + k, none⟩ = some v) ∧ JAt W W.heap.size t cs) (fun i hi => by
      have h1 := hel i hi
      rw [List.getElem?_eq_getElem (by omega), cV] at h1
      obtain ⟨cs, h2, h3⟩ := Option.bind_eq_some_iff.1 h1
      obtain ⟨_, hlc, hcl⟩ := World.cells?_some h2
      obtain ⟨t, ht⟩ := ih cs _ h3 (fun k hk => hw k (by
        simp only [DataW.weights, Tryz.underlying24]
        exact List.mem_cons_of_mem _ (List.mem_append_left _ (each_mem (List.mem_map.2 ⟨_, List.getElem_mem _, rfl⟩) _ hk))))
      have hc0 := hcl 0 (by omega)
      rw [List.getElem?_eq_getElem (by omega)] at hc0
      obtain ⟨g, o, rfl⟩ := hp (by omega)
      refine ⟨t, g, o, cs, rfl, ?_, fun k v hv => ?_, ht⟩
      · rw [add_plain, add_plain] at hc0; exact lt_of_cell hc0
      · have hk : k < 6 := by rw [← hlc]; exact (List.getElem?_eq_some_iff.1 hv).1
        have := hcl k hk
        rw [add_plain, add_plain, hv] at this
        exact this)
    refine ⟨some a, (List.range len).map S, cap, by simp, by simpa using hl, by simp; omega, by unfold maxLen at hm; omega, fun j hj => ?_⟩
    simp only [List.length_map, List.length_range] at hj
    obtain ⟨g, o, cs, rfl, h1, h2, h3⟩ := hS j hj
    exact ⟨g, o, cs, rfl, h1, h2, by simpa using h3⟩
set_option maxRecDepth 100000 in
/-- a value that comes in lies as a tree -/
theorem jat_of : ∀ (N n : Nat), n ≤ N → ∀ (cs : List Value) (x : DataW H × List MemPlace), DataW.trod enc Tryz.prog W 0 (fun _ => true) true n 27 cs = some x → (∀ k ∈ x.1.weights Tryz.prog 27, k ≤ reachBytes) → ∃ t, JAt W W.heap.size t cs := by
  intro N
  induction N with
  | zero => intro n hn cs x h; obtain rfl : n = 0 := by omega
            simp [DataW.trod] at h
  | succ N ih =>
    intro n hn cs x h hw
    obtain ⟨xs, m, hm, rfl, hl, hlen, hf⟩ := DataW.trod_struct Tryz.underlying27 h
    rw [cV] at hl
    match cs, hl with
    | [a0, a1, a2, a3, a4, a5], _ =>
    match xs, hlen with
    | [y0, y1, y2, y3, y4], _ =>
      have h0 := hf 0 _ rfl
      have h1 := hf 1 _ rfl
      have h2 := hf 2 _ rfl
      have h3 := hf 3 _ rfl
      have h4 := hf 4 _ rfl
      simp only [List.getElem?_cons_zero, List.getElem?_cons_succ] at h0 h1 h2 h3 h4
      obtain ⟨k, e0, rfl, w0⟩ := DataW.trod_int Tryz.underlying3 h0
      obtain ⟨z0, z1, m', rfl, _, g0, g1⟩ := trod_struct2 Tryz.underlying23 h1
      simp only [cI, cI64, List.drop_zero] at g0 g1
      obtain ⟨mm, e1, rfl, w1⟩ := DataW.trod_int Tryz.underlying2 g0
      obtain ⟨ee, e2, rfl, w2⟩ := DataW.trod_int Tryz.underlying3 g1
      obtain ⟨s, e3, rfl, w3⟩ := DataW.trod_string Tryz.underlying9 h2
      have hw2 : ∀ k, k ∈ (DataW.lit (H := H) (.string s.data.toList)).weights Tryz.prog 9 ++ (y3.1.weights Tryz.prog 24 ++ y4.1.weights Tryz.prog 25) → k ≤ reachBytes := fun k hk => hw k (by
        simp only [DataW.weights, Tryz.underlying27, List.map_cons, List.map_nil, DataW.weightsEach, List.append_nil, List.nil_append, List.mem_append]
        simp only [DataW.weights, List.mem_append] at hk
        simp only [Tryz.underlying23, List.map_cons, List.map_nil, DataW.weightsEach, DataW.weights, List.append_nil]
        exact Or.inr hk)
      have hw3 : ∀ k, k ∈ y3.1.weights Tryz.prog 24 → k ≤ reachBytes := fun k hk => hw2 k (List.mem_append_right _ (List.mem_append_left _ hk))
      have hw4 : ∀ k, k ∈ y4.1.weights Tryz.prog 25 → k ≤ reachBytes := fun k hk => hw2 k (List.mem_append_right _ (List.mem_append_right _ hk))
      have hws : s.size ≤ reachBytes := by
        have := hw2 s.data.toList.length (List.mem_append_left _ (by simp [DataW.weights]))
        rwa [size_listU] at this
      obtain ⟨A', ks, c', e5, hK⟩ := strs_of h4 hw4
      obtain ⟨A, l, c, e4, hV⟩ : ∃ A l c, [a4] = [.slice A (List.length l) c] ∧ ValsAt W W.heap.size A c l := by
        cases m with
        | zero => simp [DataW.trod] at h3
        | succ m => exact vals_of h3 hw3 (fun cs x h hw => ih m (by omega) cs x h hw)
      injection e0 with e0 _
      injection e1 with e1 _
      injection e2 with e2 _
      injection e3 with e3 _
      injection e4 with e4 _
      injection e5 with e5 _
      subst e0 e1 e2 e3 e4 e5
      exact ⟨.mk k mm ee s l ks, JAt.shut ⟨(bounds_i64 w0).1, (bounds_i64 w0).2⟩ ⟨(bounds_i64 w1).1, (bounds_i64 w1).2⟩ ⟨(bounds_i64 w2).1, (bounds_i64 w2).2⟩ hws hK hV⟩
end
noncomputable def laidV : List (String × DataW Unit) := Rows.calcComparesRow.laid
set_option maxRecDepth 100000 in
theorem first_same : Go.Pinned.utf8First = Lib.firstData := by kernel_rfl
set_option maxRecDepth 100000 in
theorem accept_same : (Rows.laid_unicode_utf8_acceptRanges : DataW Unit) = Lib.acceptData := by kernel_rfl
theorem globV_of {W : World} (h : laidMetH Tryz.prog laidV W) : GlobW W := by
  have ht : Lib.TabIs Tryz.prog W "thimble/num.tens" .u64 tenTab :=
    Lib.tabIs_of_head (rest := []) gTens tTens Tryz.underlying100 Tryz.underlying76 u64Cells u64Cells20 (h.filter fun x => x.1 == "thimble/num.tens")
  have hp : Lib.TabIs Tryz.prog W "internal/strconv.uint64pow10" .u64 Lib.pow10Tab :=
    Lib.tabIs_of_head (rest := []) gPows tPows Tryz.underlying100 Tryz.underlying76 u64Cells u64Cells20 (h.filter fun x => x.1 == "internal/strconv.uint64pow10")
  have h3 : Lib.VarReads Tryz.prog W "unicode/utf8.first" Go.Pinned.utf8First := Lib.laidMet.reads (l := [("unicode/utf8.first", Go.Pinned.utf8First)]) (h.filter fun x => x.1 == "unicode/utf8.first") (.head _)
  have h4 : Lib.VarReads Tryz.prog W "unicode/utf8.acceptRanges" Rows.laid_unicode_utf8_acceptRanges := Lib.laidMet.reads (l := [("unicode/utf8.acceptRanges", Rows.laid_unicode_utf8_acceptRanges)]) (h.filter fun x => x.1 == "unicode/utf8.acceptRanges") (.head _)
  rw [first_same] at h3
  rw [accept_same] at h4
  refine ⟨⟨⟨fun i hi => ?_⟩, hp⟩, utf8Tabs_of_readsT (U8Types.of196 Tryz.lays196) ⟨by kernel_rfl, by kernel_rfl, by kernel_rfl, by kernel_rfl, by kernel_rfl, by kernel_rfl, by kernel_rfl⟩ h3 h4⟩
  rw [ht.cell gTens i hi]
  congr 2
  revert i; decide
set_option maxRecDepth 100000 in
/-- a value that comes in -/
theorem open_value {H : Type} {enc : TypeId × Value → H} {W : World} {b0 : Nat} {v : Value} {d : DataW H} {p : List MemPlace}
    (hv : Value.okWide Tryz.prog W .any b0 27 v) (h : DataW.Trod enc Tryz.prog W 0 (fun _ => true) true 27 v d p) (hw : ∀ k ∈ d.weights Tryz.prog 27, k ≤ reachBytes) :
    ∃ (t : JV) (cs : List Value), v = .agg cs.toArray ∧ JAt W W.heap.size t cs := by
  obtain ⟨cs, rfl, _⟩ := okWide_struct Tryz.underlying27 hv
  obtain ⟨n, h⟩ := h
  obtain ⟨t, ht⟩ := jat_of n n (Nat.le_refl _) _ _ h hw
  exact ⟨t, cs.toList, by simp, ht⟩
noncomputable def laidWorldV (os : Os) : World :=
  { World.holding Tryz.prog os ⟨#[], #[], []⟩ with heap := laidV.foldl lay (World.holding Tryz.prog os ⟨#[], #[], []⟩).heap }
set_option maxRecDepth 100000 in
theorem laid_metV (os : Os) : laidMet Tryz.prog laidV (laidWorldV os) :=
  laidMet_of_run3 8 (by kernel_rfl) (by kernel_rfl) (by kernel_rfl)
end Go.Proofs.YtmacgdcmgbkfnaaGreatDoor
namespace Go.Proofs.YtmacgdcmgbkfnaaGreatDoor
open Go Go.Lib Th
def cmpK : List ByteArray → List ByteArray → Int
  | [], [] => 0
  | [], _ :: _ => -1
  | _ :: _, [] => 1
  | a :: l, b :: r => if compareBytes a.data.toList b.data.toList ≠ 0 then compareBytes a.data.toList b.data.toList else cmpK l r
mutual
/-- the order of two values that may be -/
def cmpJ : JV → JV → Int
  | .mk k m e s l ks, .mk k' m' e' s' l' ks' =>
    if k ≠ k' then compareInt k k' else if k = 3 then (cmpN m e m' e').1 else if k = 4 then compareBytes s.data.toList s'.data.toList
    else if k = 6 ∧ cmpK ks ks' ≠ 0 then cmpK ks ks' else cmpV l l'
def cmpV : List JV → List JV → Int
  | [], [] => 0
  | [], _ :: _ => -1
  | _ :: _, [] => 1
  | a :: l, b :: r => if cmpJ a b ≠ 0 then cmpJ a b else cmpV l r
end
theorem bytes_zero : ∀ a b : List UInt8, compareBytes a b = 0 ↔ a = b
  | [], [] => by simp [compareBytes]
  | [], _ :: _ => by simp [compareBytes]
  | _ :: _, [] => by simp [compareBytes]
  | a :: xs, b :: ys => by
    unfold compareBytes
    by_cases h1 : a < b
    · rw [if_pos h1]
      have : a ≠ b := fun h => by subst h; exact absurd h1 (UInt8.lt_irrefl a)
      simp [this]
    · rw [if_neg h1]
      by_cases h2 : b < a
      · rw [if_pos h2]
        have : a ≠ b := fun h => by subst h; exact absurd h2 (UInt8.lt_irrefl a)
        simp [this]
      · rw [if_neg h2, bytes_zero xs ys]
        have : a = b := by
          have h3 := UInt8.not_lt.1 h1
          have h4 := UInt8.not_lt.1 h2
          exact UInt8.le_antisymm h4 h3
        simp [this]
theorem ba_of {a b : ByteArray} (h : a.data.toList = b.data.toList) : a = b := by
  cases a; cases b; simp at h; exact congrArg _ h
theorem cmpK_zero : ∀ a b : List ByteArray, cmpK a b = 0 ↔ a = b
  | [], [] => by simp [cmpK]
  | [], _ :: _ => by simp [cmpK]
  | _ :: _, [] => by simp [cmpK]
  | a :: xs, b :: ys => by
    unfold cmpK
    by_cases h : compareBytes a.data.toList b.data.toList ≠ 0
    · rw [if_pos h]
      have : a ≠ b := fun hab => by subst hab; exact h ((bytes_zero _ _).2 rfl)
      simp [this]
      exact h
    · rw [if_neg h, cmpK_zero xs ys]
      have : a = b := ba_of ((bytes_zero _ _).1 (by omega))
      simp [this]
theorem cmpInt_zero (a b : Int) : compareInt a b = 0 ↔ a = b := by
  unfold compareInt
  by_cases h : a < b
  · rw [if_pos h]; omega
  · by_cases h2 : b < a
    · rw [if_neg h, if_pos h2]; omega
    · rw [if_neg h, if_neg h2]; omega
structure OkF (k m e : Int) (s : ByteArray) (l : List JV) (ks : List ByteArray) : Prop where
  kk : 0 ≤ k ∧ k ≤ 6
  nn : k ≠ 3 → m = 0 ∧ e = 0
  ss : k ≠ 4 → s = ⟨#[]⟩
  ll : k < 5 → l = []
  kks : k ≠ 6 → ks = []
  six : k = 6 → ks.length = l.length
  rr : right m e = true
  tt : validD s.data.toList = true
  rise : riseK ks = true
theorem ba_none {s : ByteArray} (h : s.size = 0) : s = ⟨#[]⟩ := ba_of (by
  have : s.data.toList.length = 0 := h
  simpa using List.length_eq_zero_iff.1 this)
theorem okF_of {k m e : Int} {s : ByteArray} {l : List JV} {ks : List ByteArray} (h : okOne (.mk k m e s l ks) = true) : OkF k m e s l ks := by
  simp only [okOne, Bool.and_eq_true, Bool.or_eq_true, decide_eq_true_eq] at h
  obtain ⟨⟨⟨⟨⟨⟨⟨⟨h1, h2⟩, h3⟩, h4⟩, h5⟩, h6⟩, h7⟩, h8⟩, h9⟩ := h
  exact ⟨h1, fun h => h2.resolve_left h, fun h => ba_none (h3.resolve_left h), fun h => List.length_eq_zero_iff.1 (h4.resolve_left (by omega)), fun h => List.length_eq_zero_iff.1 (h5.resolve_left h), fun h => h6.resolve_left (fun h' => h' h), h7, h8, h9⟩
mutual
theorem cmpJ_zero : ∀ a b : JV, allJ a = true → allJ b = true → (cmpJ a b = 0 ↔ a = b)
  | .mk k m e s l ks, .mk k' m' e' s' l' ks', ha, hb => by
    unfold allJ at ha hb
    simp only [Bool.and_eq_true] at ha hb
    have A := okF_of ha.1
    have B := okF_of hb.1
    have hl := cmpV_zero l l' ha.2 hb.2
    unfold cmpJ
    by_cases hk : k = k'
    · subst hk
      rw [if_neg (by simp)]
      by_cases h3 : k = 3
      · rw [if_pos h3]
        have hs := order_same A.rr B.rr
        have hc : (cmpN m e m' e').1 = cmpS m e m' e' := by unfold cmpN; rw [A.rr, B.rr]; rfl
        have e1 := A.ss (by omega); have e2 := B.ss (by omega); have e3 := A.ll (by omega); have e4 := B.ll (by omega); have e5 := A.kks (by omega); have e6 := B.kks (by omega)
        subst e1 e2 e3 e4 e5 e6
        rw [hc, Bool.eq_iff_iff] at *
        simp only [beq_iff_eq, Bool.and_eq_true] at hs
        rw [hs]
        simp
      · rw [if_neg h3]
        obtain ⟨rfl, rfl⟩ := A.nn h3
        obtain ⟨rfl, rfl⟩ := B.nn h3
        by_cases h4 : k = 4
        · rw [if_pos h4]
          have e3 := A.ll (by omega); have e4 := B.ll (by omega); have e5 := A.kks (by omega); have e6 := B.kks (by omega)
          subst e3 e4 e5 e6
          rw [bytes_zero]
          exact ⟨fun h => by rw [ba_of h], fun h => by injection h with _ _ _ h; rw [h]⟩
        · rw [if_neg h4]
          have e1 := A.ss h4; have e2 := B.ss h4
          subst e1 e2
          by_cases h6 : k = 6
          · by_cases hn : cmpK ks ks' ≠ 0
            · rw [if_pos ⟨h6, hn⟩]
              exact ⟨fun h => absurd h hn, fun h => by injection h with _ _ _ _ _ h; exact (cmpK_zero _ _).2 h⟩
            · rw [if_neg (fun h => hn h.2), hl]
              have := (cmpK_zero ks ks').1 (by omega)
              subst this
              exact ⟨fun h => by rw [h], fun h => by injection h⟩
          · rw [if_neg (fun h => h6 h.1), hl]
            have e5 := A.kks h6; have e6 := B.kks h6
            subst e5 e6
            exact ⟨fun h => by rw [h], fun h => by injection h⟩
    · rw [if_pos hk, cmpInt_zero]
      exact ⟨fun h => absurd h hk, fun h => by injection h⟩
theorem cmpV_zero : ∀ a b : List JV, allL a = true → allL b = true → (cmpV a b = 0 ↔ a = b)
  | [], [], _, _ => by simp [cmpV]
  | [], _ :: _, _, _ => by simp [cmpV]
  | _ :: _, [], _, _ => by simp [cmpV]
  | a :: xs, b :: ys, ha, hb => by
    unfold allL at ha hb
    simp only [Bool.and_eq_true] at ha hb
    have h1 := cmpJ_zero a b ha.1 hb.1
    have h2 := cmpV_zero xs ys ha.2 hb.2
    unfold cmpV
    by_cases h : cmpJ a b ≠ 0
    · rw [if_pos h]
      exact ⟨fun h' => absurd h' h, fun h' => by injection h' with h'; exact h1.2 h'⟩
    · rw [if_neg h, h2]
      have := h1.1 (by omega)
      subst this
      exact ⟨fun h => by rw [h], fun h => by injection h⟩
end
theorem cmpJ_same {a b : JV} (ha : rightJ a = 0) (hb : rightJ b = 0) : (cmpJ a b == 0) = sameJ a b := by
  have h1 : allJ a = true := by unfold rightJ at ha; split at ha <;> simp_all
  have h2 : allJ b = true := by unfold rightJ at hb; split at hb <;> simp_all
  rw [Bool.eq_iff_iff, beq_iff_eq, sameJ_iff, cmpJ_zero a b h1 h2]
end Go.Proofs.YtmacgdcmgbkfnaaGreatDoor
