/- The references' Same of values. Conditions: those that it names.
thimbleref07.Text, Print of values. Conditions: those that each names. -/
import Derived.Test.YtljemfajjeoecaaDoorRef3
import Derived.Test.YtljemfajjeoecaaDoorWriteP
import Derived.Test.YtljemfajjeoecaaDoorRef2
import Derived.Test.YtljemfajjeoecaaDoorRefPrint
import Derived.Outline
namespace Go.Proofs.YtljemfajjeoecaaDoor
open Go Go.RowKit Go.Proofs Th
attribute [local go_sem] Above.cell Above.frozen

theorem list_eqB {ks ks' : List ByteArray} (hl : ks.length = ks'.length) (h : ∀ j, j < ks.length → ks.getD j ⟨#[]⟩ = ks'.getD j ⟨#[]⟩) : ks = ks' := by
  refine List.ext_getElem hl fun j h1 h2 => ?_
  have := h j h1
  rwa [List.getD_eq_getElem?_getD, List.getD_eq_getElem?_getD, List.getElem?_eq_getElem h1, List.getElem?_eq_getElem h2] at this
theorem getD_B (ks : List ByteArray) (j : Nat) (h : j < ks.length) : ks.getD j ⟨#[]⟩ = ks[j] := by
  rw [List.getD_eq_getElem?_getD, List.getElem?_eq_getElem h]; rfl
theorem ba_eq (a b : ByteArray) : (a.toList == b.toList) = decide (a = b) := by
  rw [Bool.eq_iff_iff, beq_iff_eq, decide_eq_true_eq, ba_list, ba_list]
  exact ⟨fun h => ba_inj h, fun h => by rw [h]⟩
theorem sameL_get : ∀ (l l' : List JV), l.length = l'.length → (sameL l l' = true ↔ ∀ j (h : j < l.length) (h' : j < l'.length), sameJ l[j] l'[j] = true)
  | [], [], _ => by simp [sameL]
  | v :: r, v' :: r', h => by
    simp only [sameL, Bool.and_eq_true, sameL_get r r' (by simpa using h)]
    constructor
    · rintro ⟨h1, h2⟩ j hj hj'
      cases j with
      | zero => exact h1
      | succ j => exact h2 j (by simpa using hj) (by simpa using hj')
    · intro h3
      exact ⟨h3 0 (by simp) (by simp), fun j hj hj' => h3 (j + 1) (by simpa using hj) (by simpa using hj')⟩
/-- two values' cells beside one another -/
structure Two6 (w wr : World) (k m e : Int) (s : ByteArray) (l : List JV) (ks : List ByteArray) (A : Option Addr) (c : Nat) (A' : Option Addr) (c' : Nat)
    (k2 m2 e2 : Int) (s2 : ByteArray) (l2 : List JV) (ks2 : List ByteArray) (B : Option Addr) (d : Nat) (B' : Option Addr) (d' : Nat) : Prop where
  x : Box wr w.heap.size (cells6 k m e s A l.length c A' ks.length c')
  y : Box wr (w.heap.size + 1) (cells6 k2 m2 e2 s2 B l2.length d B' ks2.length d')
  xv : ValsAt wr w.heap.size A c l
  yv : ValsAt wr w.heap.size B d l2
  xk : StrsAt wr w.heap.size A' c' ks
  yk : StrsAt wr w.heap.size B' d' ks2
  b : Below w.heap.size w wr
theorem Two6.below {w wr w' : World} {k m e : Int} {s : ByteArray} {l : List JV} {ks : List ByteArray} {A : Option Addr} {c : Nat} {A' : Option Addr} {c' : Nat}
    {k2 m2 e2 : Int} {s2 : ByteArray} {l2 : List JV} {ks2 : List ByteArray} {B : Option Addr} {d : Nat} {B' : Option Addr} {d' : Nat} (h : Two6 w wr k m e s l ks A c A' c' k2 m2 e2 s2 l2 ks2 B d B' d') (hb : Below wr.heap.size wr w') :
    Two6 w w' k m e s l ks A c A' c' k2 m2 e2 s2 l2 ks2 B d B' d' :=
  ⟨h.x.below hb h.x.lt, h.y.below hb h.y.lt, h.xv.below hb h.b.size, h.yv.below hb h.b.size, h.xk.below hb h.b.size, h.yk.below hb h.b.size, up h.b hb⟩
theorem and_false6 {a b c d e f : Bool} : (a && b && c && d && e && f) = false ↔ (a = false ∨ b = false ∨ c = false ∨ d = false ∨ e = false ∨ f = false) := by
  cases a <;> cases b <;> cases c <;> cases d <;> cases e <;> cases f <;> simp
set_option maxRecDepth 100000 in
set_option maxHeartbeats 4000000 in
theorem ref3_Same : ∀ (n : Nat) (t t2 : JV), countJ t ≤ n → ∀ (w : World) (cs cs2 : List Value), JAt w w.heap.size t cs → JAt w w.heap.size t2 cs2 →
    Calls Tryd.prog 22 #[.agg cs.toArray, .agg cs2.toArray] w fun r w' => r = .returned (.bool (sameJ t t2)) ∧ Below w.heap.size w w' := by
  intro n
  induction n with
  | zero => intro t t2 h; cases t; unfold countJ at h; omega
  | succ n ih =>
    intro t t2 hn w cs cs2 hJ hJ2
    cases t with
    | mk k m e s l ks =>
    cases t2 with
    | mk k2 m2 e2 s2 l2 ks2 =>
      obtain ⟨A, c, A', c', rfl, hk, hm, he, hs, hK, hV⟩ := hJ.open
      obtain ⟨B, d, B', d', rfl, hk2, hm2, he2, hs2, hK2, hV2⟩ := hJ2.open
      show Calls _ _ #[.agg #[.int .i64 k, .int .i64 m, .int .i64 e, .string s, .slice A l.length c, .slice A' ks.length c'], .agg #[.int .i64 k2, .int .i64 m2, .int .i64 e2, .string s2, .slice B l2.length d, .slice B' ks2.length d']] w _
      have hcn := countL_get l
      have hcl : countL l ≤ n := by have : 1 + countL l ≤ n + 1 := hn; omega
      have HD := Keep.mk (show sameJ (.mk k m e s l ks) (.mk k2 m2 e2 s2 l2 ks2) = (decide (k = k2) && decide (m = m2) && decide (e = e2) && decide (s = s2) && decide (ks = ks2) && sameL l l2) from rfl)
      have hlc := hV.le
      have hcc := hV.cap
      have hkl := hK.le
      have hkc := hK.cap
      have hlc2 := hV2.le
      have hcc2 := hV2.cap
      have hkl2 := hK2.le
      have hkc2 := hK2.cap
      have HT := Keep.mk (show Two6 w ((w.alloc (.cells #[.int .i64 k, .int .i64 m, .int .i64 e, .string s, .slice A l.length c, .slice A' ks.length c'] 27)).alloc (.cells #[.int .i64 k2, .int .i64 m2, .int .i64 e2, .string s2, .slice B l2.length d, .slice B' ks2.length d'] 27)) k m e s l ks A c A' c' k2 m2 e2 s2 l2 ks2 B d B' d' from
        ⟨box_new6 .. |>.alloc _, Box.new (cells6 k2 m2 e2 s2 B l2.length d B' ks2.length d') _ (by simp), hV.below (al2 _ _ _) (Nat.le_refl _), hV2.below (al2 _ _ _) (Nat.le_refl _), hK.below (al2 _ _ _) (Nat.le_refl _), hK2.below (al2 _ _ _) (Nat.le_refl _), al2 _ _ _⟩)
      clear hJ hJ2 hV hV2 hK hK2 hs hs2 hk hm he hk2 hm2 he2
      cases hb1 : (k != k2)
      case true =>
        have HE := Keep.mk (show sameJ (.mk k m e s l ks) (.mk k2 m2 e2 s2 l2 ks2) = false by rw [HD.out, and_false6]; left; simpa using hb1)
        go_enter Tryd.func22, Tryd.ntmps22
        go_wp2
        go_ret
        exact ⟨by rw [HE.out]; rfl, HT.out.b⟩
      case false =>
      cases hb2 : (m == m2 && e == e2)
      case false =>
        have HE := Keep.mk (show sameJ (.mk k m e s l ks) (.mk k2 m2 e2 s2 l2 ks2) = false by
          rw [HD.out, and_false6]
          by_cases h : m = m2
          · right; right; left; simpa [h] using hb2
          · right; left; simpa using h)
        go_enter Tryd.func22, Tryd.ntmps22
        go_wp2
        go_ret
        exact ⟨by rw [HE.out]; rfl, HT.out.b⟩
      case true =>
      cases hb3 : (s.toList == s2.toList)
      case false =>
        have HE := Keep.mk (show sameJ (.mk k m e s l ks) (.mk k2 m2 e2 s2 l2 ks2) = false by rw [HD.out, and_false6, ← ba_eq s s2]; right; right; right; left; exact hb3)
        go_enter Tryd.func22, Tryd.ntmps22
        go_wp2
        go_ret
        exact ⟨by rw [HE.out]; rfl, HT.out.b⟩
      case true =>
      cases hb4 : ((l.length : Int) != (l2.length : Int))
      case true =>
        have HE := Keep.mk (show sameJ (.mk k m e s l ks) (.mk k2 m2 e2 s2 l2 ks2) = false by
          cases h : sameJ (.mk k m e s l ks) (.mk k2 m2 e2 s2 l2 ks2)
          · rfl
          · have := (sameJ_iff _ _).1 h; injection this with a1 a2 a3 a4 a5 a6; rw [a5] at hb4; simp at hb4)
        go_enter Tryd.func22, Tryd.ntmps22
        go_wp2
        go_ret
        exact ⟨by rw [HE.out]; rfl, HT.out.b⟩
      case false =>
      cases hb5 : ((ks.length : Int) != (ks2.length : Int))
      case true =>
        have HE := Keep.mk (show sameJ (.mk k m e s l ks) (.mk k2 m2 e2 s2 l2 ks2) = false by
          cases h : sameJ (.mk k m e s l ks) (.mk k2 m2 e2 s2 l2 ks2)
          · rfl
          · have := (sameJ_iff _ _).1 h; injection this with a1 a2 a3 a4 a5 a6; rw [a6] at hb5; simp at hb5)
        go_enter Tryd.func22, Tryd.ntmps22
        go_wp2
        go_ret
        exact ⟨by rw [HE.out]; rfl, HT.out.b⟩
      case false =>
      have hll : l.length = l2.length := by have : (l.length : Int) = l2.length := by simpa using hb4
                                            omega
      have hkk : ks.length = ks2.length := by have : (ks.length : Int) = ks2.length := by simpa using hb5
                                              omega
      have HE := Keep.mk (show sameJ (.mk k m e s l ks) (.mk k2 m2 e2 s2 l2 ks2) = (decide (ks = ks2) && sameL l l2) by
        have h1 : k = k2 := by simpa using hb1
        have h2 : m = m2 ∧ e = e2 := by simpa using hb2
        rw [HD.out, decide_eq_true h1, decide_eq_true h2.1, decide_eq_true h2.2, ← ba_eq s s2, hb3]; rfl)
      have HLL := Keep.mk hll
      have HKK := Keep.mk hkk
      clear hll hkk
      go_enter Tryd.func22, Tryd.ntmps22
      go_upto_block 0 with fail
      refine wp_world (fun W => Two6 w W k m e s l ks A c A' c' k2 m2 e2 s2 l2 ks2 B d B' d') HT.out ?_
      clear HT
      rintro W0 HT
      replace HT := Keep.mk HT
      go_cut [] (fun wx => Keep (ks = ks2) ∧ Keep (Two6 w wx k m e s l ks A c A' c' k2 m2 e2 s2 l2 ks2 B d B' d'))
      case first =>
        go_wp2_with fail
        go_loopg [5] ks.length (fun gk i wr => ∃ j : Nat, j + gk = ks.length ∧ i = .int .i64 j ∧ Keep (∀ x, x < j → ks.getD x ⟨#[]⟩ = ks2.getD x ⟨#[]⟩) ∧ Keep (Two6 w wr k m e s l ks A c A' c' k2 m2 e2 s2 l2 ks2 B d B' d'))
        case atStart => exact ⟨0, by omega, rfl, ⟨by omega⟩, HT⟩
        case round =>
          clear HT
          obtain ⟨j, hj, rfl, HO, HT⟩ := hrel
          have x5 := HT.out.x.cell 5 _ rfl
          have y5 := HT.out.y.cell 5 _ rfl
          have xl := HT.out.x.lt
          have yl := HT.out.y.lt
          have bl := HT.out.b.size
          by_cases hlt : j < ks.length
          · have hgk : gk ≠ 0 := by omega
            have hlt2 : j < ks2.length := by have := HKK.out; omega
            obtain ⟨g, o, rfl, hg, hc⟩ := HT.out.xk.at_ (by omega)
            obtain ⟨g2, o2, rfl, hg2, hc2⟩ := HT.out.yk.at_ (by omega)
            have cj := hc j hlt
            have cj2 := hc2 j hlt2
            have hgl : g < wr.heap.size := by omega
            have hgl2 : g2 < wr.heap.size := by omega
            have HG := Keep.mk (getD_B ks j hlt)
            have HG2 := Keep.mk (getD_B ks2 j hlt2)
            clear hc hc2
            generalize ks[j] = ka at *
            generalize ks2[j] = kb at *
            cases hb6 : (ka.toList == kb.toList)
            · have HF := Keep.mk (show sameJ (.mk k m e s l ks) (.mk k2 m2 e2 s2 l2 ks2) = false by
                rw [HE.out, decide_eq_false, Bool.false_and]
                intro h
                have h2 := HG.out
                rw [h, HG2.out] at h2
                rw [h2, beq_self_eq_true] at hb6
                cases hb6)
              go_wp2_with fail
              refine wp_region_above (by kernel_rfl) (by kernel_rfl) ?_
              repeat (go_big_quiet_step (fail))
              refine wpQuiet_nil ?_
              rintro _ ⟨z, rfl⟩
              go_wp2
              go_ret
              exact ⟨by rw [HF.out]; rfl, up HT.out.b z.property⟩
            · have HF := Keep.mk (show ∀ x, x < j + 1 → ks.getD x ⟨#[]⟩ = ks2.getD x ⟨#[]⟩ by
                intro x hx
                by_cases hxj : x < j
                · exact HO.out x hxj
                · obtain rfl : x = j := by omega
                  rw [HG.out, HG2.out]
                  rw [ba_eq, decide_eq_true_eq] at hb6
                  exact hb6)
              go_wp2_with fail
              refine wp_region_above (by kernel_rfl) (by kernel_rfl) ?_
              repeat (go_big_quiet_step (fail))
              refine wpQuiet_nil ?_
              rintro _ ⟨z, rfl⟩
              go_wp2
              go_roundg (gk - 1)
              case rel => exact ⟨j + 1, by omega, by go_num, HF, ⟨HT.out.below z.property⟩⟩
              case measure => omega
          · have HF := Keep.mk (list_eqB HKK.out (fun x hx => HO.out x (by omega)))
            go_wp2_with fail
            go_meet
            exact ⟨HF, HT⟩
      case rest =>
        clear HT
        obtain ⟨HKS, HT⟩ := hcut
        go_wp2_with fail
        go_loopg [6] l.length (fun gk i wr => ∃ j : Nat, j + gk = l.length ∧ i = .int .i64 j ∧ Keep (∀ x (h : x < j) (h1 : x < l.length) (h2 : x < l2.length), sameJ l[x] l2[x] = true) ∧ Keep (Two6 w wr k m e s l ks A c A' c' k2 m2 e2 s2 l2 ks2 B d B' d'))
        case atStart => exact ⟨0, by omega, rfl, ⟨fun x h => absurd h (by omega)⟩, HT⟩
        case round =>
          clear HT
          obtain ⟨j, hj, rfl, HO, HT⟩ := hrel
          have x4 := HT.out.x.cell 4 _ rfl
          have y4 := HT.out.y.cell 4 _ rfl
          have xl := HT.out.x.lt
          have yl := HT.out.y.lt
          have bl := HT.out.b.size
          by_cases hlt : j < l.length
          · have hgk : gk ≠ 0 := by omega
            have hlt2 : j < l2.length := by have := HLL.out; omega
            have hcj := hcn j hlt
            obtain ⟨g, o, k1, m1, e1, s1, A1, n1, c1, A2, n2, c2, rfl, hg, hJj, z0, z1, z2, z3, z4, z5⟩ := HT.out.xv.elem j hlt
            obtain ⟨g', o', k1', m1', e1', s1', A1', n1', c1', A2', n2', c2', rfl, hg', hJj', z0', z1', z2', z3', z4', z5'⟩ := HT.out.yv.elem j hlt2
            have hgl : g < wr.heap.size := by omega
            have hgl' : g' < wr.heap.size := by omega
            have HC := Keep.mk (fun (z : Above wr) => ih l[j] l2[j] (by omega) z.val _ _ ((hJj.more bl).keep z.property (Nat.le_refl _) |>.more z.property.size) ((hJj'.more bl).keep z.property (Nat.le_refl _) |>.more z.property.size))
            clear hJj hJj'
            cases hb6 : sameJ l[j] l2[j]
            · have HF := Keep.mk (show sameJ (.mk k m e s l ks) (.mk k2 m2 e2 s2 l2 ks2) = false by
                rw [HE.out]
                cases h : sameL l l2
                · rw [Bool.and_false]
                · have := (sameL_get l l2 HLL.out).1 h j hlt hlt2
                  rw [hb6] at this; cases this)
              rw [hb6] at HC
              clear hb6
              go_wp2_with fail
              refine wp_region_above (by kernel_rfl) (by kernel_rfl) ?_
              repeat (go_big_quiet_step ((go_at_call 22; exact calls_above (HC.out _))))
              refine wpQuiet_nil ?_
              rintro _ ⟨z, rfl⟩
              go_wp2
              go_ret
              exact ⟨by rw [HF.out]; rfl, up HT.out.b z.property⟩
            · have HF := Keep.mk (show ∀ x (h : x < j + 1) (h1 : x < l.length) (h2 : x < l2.length), sameJ l[x] l2[x] = true by
                intro x hx h1 h2
                by_cases hxj : x < j
                · exact HO.out x hxj h1 h2
                · obtain rfl : x = j := by omega
                  exact hb6)
              rw [hb6] at HC
              clear hb6
              go_wp2_with fail
              refine wp_region_above (by kernel_rfl) (by kernel_rfl) ?_
              repeat (go_big_quiet_step ((go_at_call 22; exact calls_above (HC.out _))))
              refine wpQuiet_nil ?_
              rintro _ ⟨z, rfl⟩
              go_wp2
              go_roundg (gk - 1)
              case rel => exact ⟨j + 1, by omega, by go_num, HF, ⟨HT.out.below z.property⟩⟩
              case measure => omega
          · have HF := Keep.mk (show sameJ (.mk k m e s l ks) (.mk k2 m2 e2 s2 l2 ks2) = true by
              rw [HE.out, decide_eq_true HKS.out, Bool.true_and]
              exact (sameL_get l l2 HLL.out).2 fun x h1 h2 => HO.out x (by omega) h1 h2)
            go_wp2
            go_ret
            exact ⟨by rw [HF.out]; rfl, HT.out.b⟩
end Go.Proofs.YtljemfajjeoecaaDoor
namespace Go.Proofs.YtljemfajjeoecaaDoor
open Go Go.RowKit Go.Proofs Th
attribute [local go_sem] Above.cell Above.frozen

/-- a value's box, and what it leads to -/
structure Val6 (w wr : World) (k m e : Int) (s : ByteArray) (l : List JV) (ks : List ByteArray) (A : Option Addr) (c : Nat) (A' : Option Addr) (c' : Nat) : Prop where
  x : Box wr w.heap.size (cells6 k m e s A l.length c A' ks.length c')
  v : ValsAt wr w.heap.size A c l
  kk : StrsAt wr w.heap.size A' c' ks
  b : Below w.heap.size w wr
theorem Val6.below {w wr w' : World} {k m e : Int} {s : ByteArray} {l : List JV} {ks : List ByteArray} {A : Option Addr} {c : Nat} {A' : Option Addr} {c' : Nat} (h : Val6 w wr k m e s l ks A c A' c') (hb : Below wr.heap.size wr w') : Val6 w w' k m e s l ks A c A' c' :=
  ⟨h.x.below hb h.x.lt, h.v.below hb h.b.size, h.kk.below hb h.b.size, up h.b hb⟩
theorem Val6.start {w : World} {k m e : Int} {s : ByteArray} {l : List JV} {ks : List ByteArray} {A : Option Addr} {c : Nat} {A' : Option Addr} {c' : Nat} (t : TypeId) (hV : ValsAt w w.heap.size A c l) (hK : StrsAt w w.heap.size A' c' ks) :
    Val6 w (w.alloc (.cells #[.int .i64 k, .int .i64 m, .int .i64 e, .string s, .slice A l.length c, .slice A' ks.length c'] t)) k m e s l ks A c A' c' :=
  ⟨box_new6 .., hV.below (al1 _ _) (Nat.le_refl _), hK.below (al1 _ _) (Nat.le_refl _), al1 _ _⟩
theorem Val6.jat {w wr : World} {k m e : Int} {s : ByteArray} {l : List JV} {ks : List ByteArray} {A : Option Addr} {c : Nat} {A' : Option Addr} {c' : Nat} (h : Val6 w wr k m e s l ks A c A' c') (hk : I64 k) (hm : I64 m) (he : I64 e) (hs : s.size ≤ 140737488351232) :
    JAt wr wr.heap.size (.mk k m e s l ks) (cells6 k m e s A l.length c A' ks.length c') := (JAt.shut hk hm he hs h.kk h.v).more h.b.size
/-- the next element's text behind what stands -/
theorem text_next {a b c : ByteArray} {P C _Q T : List UInt8} (ha : a.data.toList = P) (hb : b.data.toList = C) (hc : c.data.toList = T) : ((a ++ b) ++ c).data.toList = P ++ C ++ T := by rw [ba_append, ba_append, ha, hb, hc]
theorem txt_len {t : JV} (h : allJ t = true) (hz : sizeJ t ≤ 1000000) : (textJ textN t).length ≤ 4000000000 := by
  have := textJ_len t h; omega
theorem pre_len {named : Bool} {l : List JV} {ks : List ByteArray} {j : Nat} {T : List UInt8} {tb : ByteArray} (ht : tb.data.toList = textL textN true named (l.take j) ks) (h : T = 123 :: textL textN true named l ks ++ [125] ∨ T = 91 :: textL textN true named l ks ++ [93]) (hT : T.length ≤ 4000000000) : tb.size ≤ 4000000000 := by
  have h1 := textL_le_take textN named l ks j
  rw [← ht, size_listU] at h1
  rcases h with rfl | rfl <;> simp at hT <;> omega
theorem strB_as {l : List UInt8} {b : ByteArray} (h : b.data.toList = l) : strB l = .string b := by subst h; rfl
set_option maxRecDepth 100000 in
set_option maxHeartbeats 4000000 in
theorem ref7_Text : ∀ (n : Nat) (t : JV), countJ t ≤ n → sizeJ t ≤ 1000000 → allJ t = true → ∀ (w : World) (cs : List Value), JAt w w.heap.size t cs →
    Calls Tryd.prog 51 #[.agg cs.toArray] w fun r w' => r = .returned (strB (textJ textN t)) ∧ Below w.heap.size w w' := by
  intro n
  induction n with
  | zero => intro t h; cases t; unfold countJ at h; omega
  | succ n ih =>
    intro t hn hz hall w cs hJ
    cases t with
    | mk k m e s l ks =>
      obtain ⟨A, c, A', c', rfl, hk, hm, he, hs, hK, hV⟩ := hJ.open
      show Calls _ _ #[.agg #[.int .i64 k, .int .i64 m, .int .i64 e, .string s, .slice A l.length c, .slice A' ks.length c']] w _
      have hcn := countL_get l
      have hcl : countL l ≤ n := by have : 1 + countL l ≤ n + 1 := hn; omega
      have hal : okOne (.mk k m e s l ks) = true ∧ allL l = true := by simpa only [allJ, Bool.and_eq_true] using hall
      obtain ⟨hk06, hri, hva, hrk, hkl⟩ := ok_parts hal.1
      have hz2 : 1 + s.size + keysN ks + sizeL l ≤ 1000000 := hz
      have hlc := hV.cap
      have hkc := hK.cap
      have HTL := Keep.mk (txt_len hall hz)
      have HTJ := Keep.mk (fun (j : Nat) (h : j < l.length) => txt_len (allL_get l j h hal.2) (by have := sizeL_get l j h; omega))
      have HP := Keep.mk (Val6.start (k := k) (m := m) (e := e) (s := s) 27 hV hK)
      have HAL := Keep.mk hal.2
      have HRK := Keep.mk hrk
      have HVA := Keep.mk hva
      have HRI := Keep.mk hri
      have HKL := Keep.mk hkl
      clear hkl hJ hV hK hn hz hall hal hrk hva hri
      have hk7 : k = 0 ∨ k = 1 ∨ k = 2 ∨ k = 3 ∨ k = 4 ∨ k = 5 ∨ k = 6 := by omega
      rcases hk7 with rfl | rfl | rfl | rfl | rfl | rfl | rfl
      · have HT := Keep.mk (show textJ textN (.mk 0 m e s l ks) = [110, 117, 108, 108] by simp [textJ])
        rw [HT.out]
        go_enter Tryd.func51, Tryd.ntmps51
        go_wp2
        go_ret
        exact ⟨rfl, al2 _ _ _⟩
      · have HT := Keep.mk (show textJ textN (.mk 1 m e s l ks) = [102, 97, 108, 115, 101] by simp [textJ])
        rw [HT.out]
        go_enter Tryd.func51, Tryd.ntmps51
        go_wp2
        go_ret
        exact ⟨rfl, al2 _ _ _⟩
      · have HT := Keep.mk (show textJ textN (.mk 2 m e s l ks) = [116, 114, 117, 101] by simp [textJ])
        rw [HT.out]
        go_enter Tryd.func51, Tryd.ntmps51
        go_wp2
        go_ret
        exact ⟨rfl, al2 _ _ _⟩
      · have HT := Keep.mk (show textJ textN (.mk 3 m e s l ks) = textN m e by simp [textJ])
        rw [HT.out]
        have HC := Keep.mk (fun w => ref_Print m e hm w)
        rw [print_ok HRI.out] at HC
        go_enter Tryd.func51, Tryd.ntmps51
        go_wp2_with fail
        refine (HC.out _).mono ?_
        rintro r w1 ⟨rfl, hb1⟩
        go_wp2
        go_ret
        exact ⟨rfl, up (al2 _ _ _) hb1⟩
      · have HT := Keep.mk (show textJ textN (.mk 4 m e s l ks) = quoteD s.data.toList by simp [textJ])
        rw [HT.out]
        have HC := Keep.mk (fun w => ref2_Write s (by omega) HVA.out w)
        go_enter Tryd.func51, Tryd.ntmps51
        go_wp2_with fail
        refine (HC.out _).mono ?_
        rintro r w1 ⟨rfl, hb1⟩
        go_wp2
        go_ret
        exact ⟨rfl, up (al2 _ _ _) hb1⟩
      · have HT := Keep.mk (textJ_list textN 5 m e s l ks rfl)
        rw [HT.out]
        rw [HT.out] at HTL
        go_enter Tryd.func51, Tryd.ntmps51
        go_upto_block 0 with fail
        refine wp_world (fun W => Val6 w W 5 m e s l ks A c A' c') (HP.out.below (al1 _ _)) ?_
        clear HP
        rintro W0 HP
        replace HP := Keep.mk HP
        go_wp2_with fail
        go_loopg [8, 9] l.length (fun gk sv i wr => ∃ (j : Nat) (tb : ByteArray), j + gk = l.length ∧ i = .int .i64 j ∧ sv = .string tb ∧ Keep (tb.data.toList = textL textN true false (l.take j) ks) ∧ Keep (Val6 w wr 5 m e s l ks A c A' c'))
        case atStart => exact ⟨0, _, by omega, rfl, rfl, ⟨by rw [List.take_zero]; rfl⟩, HP⟩
        case round =>
          clear HP
          obtain ⟨j, tb, hj, rfl, rfl, HTB, HP⟩ := hrel
          have htbz := pre_len HTB.out (by first | exact Or.inl rfl | exact Or.inr rfl) HTL.out
          have x0 := HP.out.x.cell 0 _ rfl
          have x3 := HP.out.x.cell 4 _ rfl
          have xl := HP.out.x.lt
          by_cases hlt : j < l.length
          · have hgk : gk ≠ 0 := by omega
            have HS := Keep.mk (textL_take textN false l ks j hlt)
            have hcj := hcn j hlt
            have hsj := sizeL_get l j hlt
            have haj := allL_get l j hlt HAL.out
            obtain ⟨gx, ox, k1', m1', e1', s1', A1', n1', c1', A2', n2', c2', rfl, hgx, hJ0, y0', y1', y2', y3', y4', y5'⟩ := HP.out.v.elem j hlt
            have hgs := HP.out.b.size
            have hgx2 : gx < wr.heap.size := by omega
            have HIH := Keep.mk (ih l[j] (by omega) (by omega) haj wr _ (hJ0.more hgs))
            clear hJ0 haj
            have hT1z := HTJ.out j hlt
            generalize textJ textN l[j] = T1 at *
            have hT1 : (⟨T1.toArray⟩ : ByteArray).data.toList = T1 := rfl
            rw [show strB T1 = .string ⟨T1.toArray⟩ from rfl] at HIH
            generalize (⟨T1.toArray⟩ : ByteArray) = tb1 at *
            have HT1 := Keep.mk hT1
            have htb1 : tb1.size ≤ 4000000000 := by rw [← size_listU, hT1]; exact hT1z
            clear hT1z
            clear hT1
            by_cases h0 : j = 0
            · have h0i : ¬ (0 : Int) < j := by omega
              have HN := Keep.mk (show (tb ++ tb1).data.toList = textL textN true false (l.take (j + 1)) ks by rw [HS.out, if_pos h0, ba_append, HTB.out, HT1.out]; simp)
              clear h0
              go_wp2_with fail
              refine HIH.out.mono ?_
              rintro r w3 ⟨rfl, hb3⟩
              go_wp2
              go_roundg (gk - 1)
              case rel => exact ⟨j + 1, _, by omega, by go_num, rfl, HN, ⟨HP.out.below hb3⟩⟩
              case measure => omega
            · have h0i : (0 : Int) < j := by omega
              have HN := Keep.mk (show (tb ++ ⟨#[44]⟩ ++ tb1).data.toList = textL textN true false (l.take (j + 1)) ks by rw [HS.out, if_neg h0, ba_append, ba_append, HTB.out, HT1.out]; simp)
              clear h0
              go_wp2_with fail
              refine HIH.out.mono ?_
              rintro r w3 ⟨rfl, hb3⟩
              go_wp2
              go_roundg (gk - 1)
              case rel => exact ⟨j + 1, _, by omega, by go_num, rfl, HN, ⟨HP.out.below hb3⟩⟩
              case measure => omega
          · have HE := Keep.mk (show l.take j = l from List.take_of_length_le (by omega))
            have HF := Keep.mk (show (⟨#[91]⟩ ++ tb ++ ⟨#[93]⟩ : ByteArray).data.toList = 91 :: textL textN true false l ks ++ [93] by rw [ba_append, ba_append, HTB.out, HE.out]; rfl)
            go_wp2
            go_ret
            exact ⟨ret_as HF.out, HP.out.b⟩
      · have HT := Keep.mk (textJ_map textN 6 m e s l ks rfl)
        rw [HT.out]
        rw [HT.out] at HTL
        go_enter Tryd.func51, Tryd.ntmps51
        go_upto_block 0 with fail
        refine wp_world (fun W => Val6 w W 6 m e s l ks A c A' c') (HP.out.below (al1 _ _)) ?_
        clear HP
        rintro W0 HP
        replace HP := Keep.mk HP
        go_wp2_with fail
        go_loopg [8, 9] l.length (fun gk sv i wr => ∃ (j : Nat) (tb : ByteArray), j + gk = l.length ∧ i = .int .i64 j ∧ sv = .string tb ∧ Keep (tb.data.toList = textL textN true true (l.take j) ks) ∧ Keep (Val6 w wr 6 m e s l ks A c A' c'))
        case atStart => exact ⟨0, _, by omega, rfl, rfl, ⟨by rw [List.take_zero]; rfl⟩, HP⟩
        case round =>
          clear HP
          obtain ⟨j, tb, hj, rfl, rfl, HTB, HP⟩ := hrel
          have htbz := pre_len HTB.out (by first | exact Or.inl rfl | exact Or.inr rfl) HTL.out
          have x0 := HP.out.x.cell 0 _ rfl
          have x3 := HP.out.x.cell 4 _ rfl
          have x4 := HP.out.x.cell 5 _ rfl
          have xl := HP.out.x.lt
          by_cases hlt : j < l.length
          · have hgk : gk ≠ 0 := by omega
            have HS := Keep.mk (textL_take textN true l ks j hlt)
            have hcj := hcn j hlt
            have hsj := sizeL_get l j hlt
            have haj := allL_get l j hlt HAL.out
            have hjk : j < ks.length := by have := HKL.out (by trivial); omega
            have hvk := key_valid HRK.out j hjk
            have hsk := keysN_get ks j hjk
            have hQ1z := quoteD_le (ks[j]).data.toList
            rw [size_listU] at hQ1z
            obtain ⟨gy, oy, rfl, hgy, hcy⟩ := HP.out.kk.at_ (by omega)
            have cy := hcy j hjk
            clear hcy
            obtain ⟨gx, ox, k1', m1', e1', s1', A1', n1', c1', A2', n2', c2', rfl, hgx, hJ0, y0', y1', y2', y3', y4', y5'⟩ := HP.out.v.elem j hlt
            have hgs := HP.out.b.size
            have hgx2 : gx < wr.heap.size := by omega
            have hgy2 : gy < wr.heap.size := by omega
            have HIH := Keep.mk (fun (w3 : World) (hb : Below wr.heap.size wr w3) => ih l[j] (by omega) (by omega) haj w3 _ (((hJ0.more hgs).keep hb (Nat.le_refl _)).more hb.size))
            have HQW := Keep.mk (fun (w3 : World) => ref2_Write ks[j] (by omega) hvk w3)
            have HS2 := Keep.mk (show textL textN true true (l.take (j + 1)) ks = textL textN true true (l.take j) ks ++ (if j = 0 then [] else [44]) ++ (quoteD (ks[j]'hjk).data.toList ++ [58]) ++ textJ textN l[j] by have h := HS.out; rw [getD_K ks j hjk] at h; simpa using h)
            clear hJ0 haj hvk HS
            generalize ks[j] = kb at *
            generalize quoteD kb.data.toList = Q1 at *
            have hQ1 : (⟨Q1.toArray⟩ : ByteArray).data.toList = Q1 := rfl
            rw [show strB Q1 = .string ⟨Q1.toArray⟩ from rfl] at HQW
            generalize (⟨Q1.toArray⟩ : ByteArray) = qb1 at *
            have HQ1 := Keep.mk hQ1
            have hqb1 : qb1.size ≤ 10000000 := by rw [← size_listU, hQ1]; omega
            clear hQ1z
            clear hQ1
            have hT1z := HTJ.out j hlt
            generalize textJ textN l[j] = T1 at *
            have hT1 : (⟨T1.toArray⟩ : ByteArray).data.toList = T1 := rfl
            rw [show strB T1 = .string ⟨T1.toArray⟩ from rfl] at HIH
            generalize (⟨T1.toArray⟩ : ByteArray) = tb1 at *
            have HT1 := Keep.mk hT1
            have htb1 : tb1.size ≤ 4000000000 := by rw [← size_listU, hT1]; exact hT1z
            clear hT1z
            clear hT1
            by_cases h0 : j = 0
            · have h0i : ¬ (0 : Int) < j := by omega
              have HN := Keep.mk (show ((tb ++ qb1 ++ ⟨#[58]⟩) ++ tb1).data.toList = textL textN true true (l.take (j + 1)) ks by rw [HS2.out, if_pos h0, ba_append, ba_append, ba_append, HTB.out, HT1.out, HQ1.out]; simp)
              clear h0
              go_wp2_with fail
              refine (HQW.out _).mono ?_
              rintro r w2 ⟨rfl, hb2⟩
              replace HIH := Keep.mk (HIH.out _ hb2)
              replace HP := Keep.mk (HP.out.below hb2)
              have z0 := (hb2.cell (p := ⟨gx, ox + j * 6, none⟩) hgx2).trans y0'
              have z1 := (hb2.cell (p := ⟨gx, ox + j * 6 + 1, none⟩) hgx2).trans y1'
              have z2 := (hb2.cell (p := ⟨gx, ox + j * 6 + 2, none⟩) hgx2).trans y2'
              have z3 := (hb2.cell (p := ⟨gx, ox + j * 6 + 3, none⟩) hgx2).trans y3'
              have z4 := (hb2.cell (p := ⟨gx, ox + j * 6 + 4, none⟩) hgx2).trans y4'
              have z5 := (hb2.cell (p := ⟨gx, ox + j * 6 + 5, none⟩) hgx2).trans y5'
              have hgx3 : gx < w2.heap.size := by have := hb2.size; omega
              clear hb2 x0 x3 x4 xl y0' y1' y2' y3' y4' y5' cy
              have x0 := HP.out.x.cell 0 _ rfl
              have x3 := HP.out.x.cell 4 _ rfl
              have xl := HP.out.x.lt
              go_wp2_with fail
              refine HIH.out.mono ?_
              rintro r w3 ⟨rfl, hb3⟩
              go_wp2
              go_roundg (gk - 1)
              case rel => exact ⟨j + 1, _, by omega, by go_num, rfl, HN, ⟨HP.out.below hb3⟩⟩
              case measure => omega
            · have h0i : (0 : Int) < j := by omega
              have HN := Keep.mk (show ((tb ++ ⟨#[44]⟩ ++ qb1 ++ ⟨#[58]⟩) ++ tb1).data.toList = textL textN true true (l.take (j + 1)) ks by rw [HS2.out, if_neg h0, ba_append, ba_append, ba_append, ba_append, HTB.out, HT1.out, HQ1.out]; simp)
              clear h0
              go_wp2_with fail
              refine (HQW.out _).mono ?_
              rintro r w2 ⟨rfl, hb2⟩
              replace HIH := Keep.mk (HIH.out _ hb2)
              replace HP := Keep.mk (HP.out.below hb2)
              have z0 := (hb2.cell (p := ⟨gx, ox + j * 6, none⟩) hgx2).trans y0'
              have z1 := (hb2.cell (p := ⟨gx, ox + j * 6 + 1, none⟩) hgx2).trans y1'
              have z2 := (hb2.cell (p := ⟨gx, ox + j * 6 + 2, none⟩) hgx2).trans y2'
              have z3 := (hb2.cell (p := ⟨gx, ox + j * 6 + 3, none⟩) hgx2).trans y3'
              have z4 := (hb2.cell (p := ⟨gx, ox + j * 6 + 4, none⟩) hgx2).trans y4'
              have z5 := (hb2.cell (p := ⟨gx, ox + j * 6 + 5, none⟩) hgx2).trans y5'
              have hgx3 : gx < w2.heap.size := by have := hb2.size; omega
              clear hb2 x0 x3 x4 xl y0' y1' y2' y3' y4' y5' cy
              have x0 := HP.out.x.cell 0 _ rfl
              have x3 := HP.out.x.cell 4 _ rfl
              have xl := HP.out.x.lt
              go_wp2_with fail
              refine HIH.out.mono ?_
              rintro r w3 ⟨rfl, hb3⟩
              go_wp2
              go_roundg (gk - 1)
              case rel => exact ⟨j + 1, _, by omega, by go_num, rfl, HN, ⟨HP.out.below hb3⟩⟩
              case measure => omega
          · have HE := Keep.mk (show l.take j = l from List.take_of_length_le (by omega))
            have HF := Keep.mk (show (⟨#[123]⟩ ++ tb ++ ⟨#[125]⟩ : ByteArray).data.toList = 123 :: textL textN true true l ks ++ [125] by rw [ba_append, ba_append, HTB.out, HE.out]; rfl)
            go_wp2
            go_ret
            exact ⟨ret_as HF.out, HP.out.b⟩
set_option maxRecDepth 100000 in
theorem ref7_Print (t : JV) (hz : sizeJ t ≤ 1000000) (hn : countJ t ≤ 1000000) (w : World) (cs : List Value) (hJ : JAt w w.heap.size t cs) :
    Calls Tryd.prog 20 #[.agg cs.toArray] w fun r w' => r = .returned (.tuple #[strB (printJ t), .int .i64 (rightJ t)]) ∧ Below w.heap.size w w' := by
  have HJ := Keep.mk hJ
  have HC := Keep.mk (ref3_Right t hn)
  have HP := Keep.mk (ref7_Text _ t (Nat.le_refl _) hz)
  have HR := Keep.mk (right_ok (t := t))
  have HPR := Keep.mk (show printJ t = if rightJ t = 0 then textJ textN t else [] from rfl)
  generalize rightJ t = rr at *
  cases t with
  | mk k m e s l ks =>
    obtain ⟨A, c, A', c', rfl, hk, hm, he, hs, hK, hV⟩ := hJ.open
    show Calls _ _ #[.agg #[.int .i64 k, .int .i64 m, .int .i64 e, .string s, .slice A l.length c, .slice A' ks.length c']] w _
    have HO := Keep.mk (Val6.start (k := k) (m := m) (e := e) (s := s) 27 hV hK)
    have HJJ := Keep.mk (fun (W : World) (h : Val6 w W k m e s l ks A c A' c') => h.jat hk hm he hs)
    clear hJ hV hK HJ
    go_enter Tryd.func20, Tryd.ntmps20
    go_wp2_with fail
    refine calls_world (fun W => Val6 w W k m e s l ks A c A' c') HO.out ?_
    clear HO
    rintro W0 HO
    replace HO := Keep.mk HO
    refine (HC.out _ _ (HJJ.out _ HO.out)).mono ?_
    rintro r w1 ⟨rfl, hb1⟩
    replace HO := Keep.mk (HO.out.below hb1)
    clear hb1
    by_cases hrr : rr = 0
    · subst hrr
      obtain ⟨hall, hdep⟩ := HR.out rfl
      have x0 := HO.out.x.cell 0 _ rfl
      have x1 := HO.out.x.cell 1 _ rfl
      have x2 := HO.out.x.cell 2 _ rfl
      have x3 := HO.out.x.cell 3 _ rfl
      have x4 := HO.out.x.cell 4 _ rfl
      have x5 := HO.out.x.cell 5 _ rfl
      have xl := HO.out.x.lt
      have HPT := Keep.mk (HP.out hall w1 _ (HJJ.out _ HO.out))
      have HE := Keep.mk (show printJ (.mk k m e s l ks) = textJ textN (.mk k m e s l ks) by rw [HPR.out, if_pos rfl])
      clear hall HP HPR HR
      go_wp2_with fail
      refine HPT.out.mono ?_
      rintro r w2 ⟨rfl, h3⟩
      go_wp2
      go_ret2
      exact ⟨by rw [HE.out]; rfl, up HO.out.b h3⟩
    · have hr2 : (rr != 0) = true := by simpa using hrr
      have HE := Keep.mk (show printJ (.mk k m e s l ks) = [] by rw [HPR.out, if_neg hrr])
      clear hrr HPR HR HP
      go_wp2
      go_ret2
      exact ⟨by rw [HE.out]; rfl, HO.out.b⟩
end Go.Proofs.YtljemfajjeoecaaDoor
