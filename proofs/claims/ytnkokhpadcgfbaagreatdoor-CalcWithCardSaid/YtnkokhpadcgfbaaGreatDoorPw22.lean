/- Lemmas and contracts for the laws CalcWith, part 22 of 50: Same. Conditions: those that each lemma names. -/
import Derived.Test.YtnkokhpadcgfbaaGreatDoorPw19
import Derived.Outline
namespace Go.Proofs.YtnkokhpadcgfbaaGreatDoor
open Go Go.RowKit Go.Proofs Th
attribute [local go_sem] Above.cell
theorem list_eqB {ks ks' : List ByteArray} (hl : ks.length = ks'.length) (h : ∀ j, j < ks.length → ks.getD j ⟨#[]⟩ = ks'.getD j ⟨#[]⟩) : ks = ks' := by
  refine List.ext_getElem hl fun j h1 h2 => ?_
  have := h j h1
  rwa [List.getD_eq_getElem?_getD, List.getD_eq_getElem?_getD, List.getElem?_eq_getElem h1, List.getElem?_eq_getElem h2] at this
theorem getD_B (ks : List ByteArray) (j : Nat) (h : j < ks.length) : ks.getD j ⟨#[]⟩ = ks[j] := by
  rw [List.getD_eq_getElem?_getD, List.getElem?_eq_getElem h]; rfl
theorem ba_eq (a b : ByteArray) : (a.toList == b.toList) = decide (a = b) := by
  rw [Bool.eq_iff_iff, beq_iff_eq, decide_eq_true_eq, ba_list, ba_list]
  exact ⟨fun h => ba_inj h, fun h => by rw [h]⟩
theorem sameL_get : ∀ (l l' : List JV), l.length = l'.length → (sameL l l' = true ↔ ∀ j (h : j < l.length) (h' : j < l'.length), sameJ l[j] l'[j] = true)
  | [], [], _ => by simp [sameL]
  | v :: r, v' :: r', h => by
    simp only [sameL, Bool.and_eq_true, sameL_get r r' (by simpa using h)]
    constructor
    · rintro ⟨h1, h2⟩ j hj hj'
      cases j with
      | zero => exact h1
      | succ j => exact h2 j (by simpa using hj) (by simpa using hj')
    · intro h3
      exact ⟨h3 0 (by simp) (by simp), fun j hj hj' => h3 (j + 1) (by simpa using hj) (by simpa using hj')⟩
structure Two6 (w wr : World) (k m e : Int) (s : ByteArray) (l : List JV) (ks : List ByteArray) (A : Option Addr) (c : Nat) (A' : Option Addr) (c' : Nat)
    (k2 m2 e2 : Int) (s2 : ByteArray) (l2 : List JV) (ks2 : List ByteArray) (B : Option Addr) (d : Nat) (B' : Option Addr) (d' : Nat) : Prop where
  x : Box wr w.heap.size (cells6 k m e s A l.length c A' ks.length c')
  y : Box wr (w.heap.size + 1) (cells6 k2 m2 e2 s2 B l2.length d B' ks2.length d')
  xv : ValsAt wr w.heap.size A c l
  yv : ValsAt wr w.heap.size B d l2
  xk : StrsAt wr w.heap.size A' c' ks
  yk : StrsAt wr w.heap.size B' d' ks2
  b : Below w.heap.size w wr
theorem Two6.below {w wr w' : World} {k m e : Int} {s : ByteArray} {l : List JV} {ks : List ByteArray} {A : Option Addr} {c : Nat} {A' : Option Addr} {c' : Nat}
    {k2 m2 e2 : Int} {s2 : ByteArray} {l2 : List JV} {ks2 : List ByteArray} {B : Option Addr} {d : Nat} {B' : Option Addr} {d' : Nat} (h : Two6 w wr k m e s l ks A c A' c' k2 m2 e2 s2 l2 ks2 B d B' d') (hb : Below wr.heap.size wr w') :
    Two6 w w' k m e s l ks A c A' c' k2 m2 e2 s2 l2 ks2 B d B' d' :=
  ⟨h.x.below hb h.x.lt, h.y.below hb h.y.lt, h.xv.below hb h.b.size, h.yv.below hb h.b.size, h.xk.below hb h.b.size, h.yk.below hb h.b.size, up h.b hb⟩
theorem and_false6 {a b c d e f : Bool} : (a && b && c && d && e && f) = false ↔ (a = false ∨ b = false ∨ c = false ∨ d = false ∨ e = false ∨ f = false) := by
  cases a <;> cases b <;> cases c <;> cases d <;> cases e <;> cases f <;> simp
set_option maxRecDepth 100000 in
set_option maxHeartbeats 4000000 in
theorem ref3_Same : ∀ (n : Nat) (t t2 : JV), countJ t ≤ n → ∀ (w : World) (cs cs2 : List Value), JAt w w.heap.size t cs → JAt w w.heap.size t2 cs2 →
    Calls Tryz.prog 12 #[.agg cs.toArray, .agg cs2.toArray] w fun r w' => r = .returned (.bool (sameJ t t2)) ∧ Below w.heap.size w w' := by
  intro n
  induction n with
  | zero => intro t t2 h; cases t; unfold countJ at h; omega
  | succ n ih =>
    intro t t2 hn w cs cs2 hJ hJ2
    cases t with
    | mk k m e s l ks =>
    cases t2 with
    | mk k2 m2 e2 s2 l2 ks2 =>
      obtain ⟨A, c, A', c', rfl, hk, hm, he, hs, hK, hV⟩ := hJ.open
      obtain ⟨B, d, B', d', rfl, hk2, hm2, he2, hs2, hK2, hV2⟩ := hJ2.open
      show Calls _ _ #[.agg #[.int .i64 k, .int .i64 m, .int .i64 e, .string s, .slice A l.length c, .slice A' ks.length c'], .agg #[.int .i64 k2, .int .i64 m2, .int .i64 e2, .string s2, .slice B l2.length d, .slice B' ks2.length d']] w _
      have hcn := countL_get l
      have hcl : countL l ≤ n := by have : 1 + countL l ≤ n + 1 := hn; omega
      have HD := Keep.mk (show sameJ (.mk k m e s l ks) (.mk k2 m2 e2 s2 l2 ks2) = (decide (k = k2) && decide (m = m2) && decide (e = e2) && decide (s = s2) && decide (ks = ks2) && sameL l l2) from rfl)
      have hlc := hV.le
      have hcc := hV.cap
      have hkl := hK.le
      have hkc := hK.cap
      have hlc2 := hV2.le
      have hcc2 := hV2.cap
      have hkl2 := hK2.le
      have hkc2 := hK2.cap
      have HT := Keep.mk (show Two6 w ((w.alloc (.cells #[.int .i64 k, .int .i64 m, .int .i64 e, .string s, .slice A l.length c, .slice A' ks.length c'] 27)).alloc (.cells #[.int .i64 k2, .int .i64 m2, .int .i64 e2, .string s2, .slice B l2.length d, .slice B' ks2.length d'] 27)) k m e s l ks A c A' c' k2 m2 e2 s2 l2 ks2 B d B' d' from
        ⟨box_new6 .. |>.alloc _, Box.new (cells6 k2 m2 e2 s2 B l2.length d B' ks2.length d') _ (by simp), hV.below (al2 _ _ _) (Nat.le_refl _), hV2.below (al2 _ _ _) (Nat.le_refl _), hK.below (al2 _ _ _) (Nat.le_refl _), hK2.below (al2 _ _ _) (Nat.le_refl _), al2 _ _ _⟩)
      clear hJ hJ2 hV hV2 hK hK2 hs hs2 hk hm he hk2 hm2 he2
      cases hb1 : (k != k2)
      case true =>
        have HE := Keep.mk (show sameJ (.mk k m e s l ks) (.mk k2 m2 e2 s2 l2 ks2) = false by rw [HD.out, and_false6]; left; simpa using hb1)
        go_enter Tryz.func12, Tryz.ntmps12
        go_wp2
        go_ret
        exact ⟨by rw [HE.out]; rfl, HT.out.b⟩
      case false =>
      cases hb2 : (m == m2 && e == e2)
      case false =>
        have HE := Keep.mk (show sameJ (.mk k m e s l ks) (.mk k2 m2 e2 s2 l2 ks2) = false by
          rw [HD.out, and_false6]
          by_cases h : m = m2
          · right; right; left; simpa [h] using hb2
          · right; left; simpa using h)
        go_enter Tryz.func12, Tryz.ntmps12
        go_wp2
        go_ret
        exact ⟨by rw [HE.out]; rfl, HT.out.b⟩
      case true =>
      cases hb3 : (s.toList == s2.toList)
      case false =>
        have HE := Keep.mk (show sameJ (.mk k m e s l ks) (.mk k2 m2 e2 s2 l2 ks2) = false by rw [HD.out, and_false6, ← ba_eq s s2]; right; right; right; left; exact hb3)
        go_enter Tryz.func12, Tryz.ntmps12
        go_wp2
        go_ret
        exact ⟨by rw [HE.out]; rfl, HT.out.b⟩
      case true =>
      cases hb4 : ((l.length : Int) != (l2.length : Int))
      case true =>
        have HE := Keep.mk (show sameJ (.mk k m e s l ks) (.mk k2 m2 e2 s2 l2 ks2) = false by
          cases h : sameJ (.mk k m e s l ks) (.mk k2 m2 e2 s2 l2 ks2)
          · rfl
          · have := (sameJ_iff _ _).1 h; injection this with a1 a2 a3 a4 a5 a6; rw [a5] at hb4; simp at hb4)
        go_enter Tryz.func12, Tryz.ntmps12
        go_wp2
        go_ret
        exact ⟨by rw [HE.out]; rfl, HT.out.b⟩
      case false =>
      cases hb5 : ((ks.length : Int) != (ks2.length : Int))
      case true =>
        have HE := Keep.mk (show sameJ (.mk k m e s l ks) (.mk k2 m2 e2 s2 l2 ks2) = false by
          cases h : sameJ (.mk k m e s l ks) (.mk k2 m2 e2 s2 l2 ks2)
          · rfl
          · have := (sameJ_iff _ _).1 h; injection this with a1 a2 a3 a4 a5 a6; rw [a6] at hb5; simp at hb5)
        go_enter Tryz.func12, Tryz.ntmps12
        go_wp2
        go_ret
        exact ⟨by rw [HE.out]; rfl, HT.out.b⟩
      case false =>
      have hll : l.length = l2.length := by have : (l.length : Int) = l2.length := by simpa using hb4
                                            omega
      have hkk : ks.length = ks2.length := by have : (ks.length : Int) = ks2.length := by simpa using hb5
                                              omega
      have HE := Keep.mk (show sameJ (.mk k m e s l ks) (.mk k2 m2 e2 s2 l2 ks2) = (decide (ks = ks2) && sameL l l2) by
        have h1 : k = k2 := by simpa using hb1
        have h2 : m = m2 ∧ e = e2 := by simpa using hb2
        rw [HD.out, decide_eq_true h1, decide_eq_true h2.1, decide_eq_true h2.2, ← ba_eq s s2, hb3]; rfl)
      have HLL := Keep.mk hll
      have HKK := Keep.mk hkk
      clear hll hkk
      go_enter Tryz.func12, Tryz.ntmps12
      go_upto_block 0 with fail
      refine wp_world (fun W => Two6 w W k m e s l ks A c A' c' k2 m2 e2 s2 l2 ks2 B d B' d') HT.out ?_
      clear HT
      rintro W0 HT
      replace HT := Keep.mk HT
      go_cut [] (fun wx => Keep (ks = ks2) ∧ Keep (Two6 w wx k m e s l ks A c A' c' k2 m2 e2 s2 l2 ks2 B d B' d'))
      case first =>
        go_wp2_with fail
        go_loopg [5] ks.length (fun gk i wr => ∃ j : Nat, j + gk = ks.length ∧ i = .int .i64 j ∧ Keep (∀ x, x < j → ks.getD x ⟨#[]⟩ = ks2.getD x ⟨#[]⟩) ∧ Keep (Two6 w wr k m e s l ks A c A' c' k2 m2 e2 s2 l2 ks2 B d B' d'))
        case atStart => exact ⟨0, by omega, rfl, ⟨by omega⟩, HT⟩
        case round =>
          clear HT
          obtain ⟨j, hj, rfl, HO, HT⟩ := hrel
          have x5 := HT.out.x.cell 5 _ rfl
          have y5 := HT.out.y.cell 5 _ rfl
          have xl := HT.out.x.lt
          have yl := HT.out.y.lt
          have bl := HT.out.b.size
          by_cases hlt : j < ks.length
          · have hgk : gk ≠ 0 := by omega
            have hlt2 : j < ks2.length := by have := HKK.out; omega
            obtain ⟨g, o, rfl, hg, hc⟩ := HT.out.xk.at_ (by omega)
            obtain ⟨g2, o2, rfl, hg2, hc2⟩ := HT.out.yk.at_ (by omega)
            have cj := hc j hlt
            have cj2 := hc2 j hlt2
            have hgl : g < wr.heap.size := by omega
            have hgl2 : g2 < wr.heap.size := by omega
            have HG := Keep.mk (getD_B ks j hlt)
            have HG2 := Keep.mk (getD_B ks2 j hlt2)
            clear hc hc2
            generalize ks[j] = ka at *
            generalize ks2[j] = kb at *
            cases hb6 : (ka.toList == kb.toList)
            · have HF := Keep.mk (show sameJ (.mk k m e s l ks) (.mk k2 m2 e2 s2 l2 ks2) = false by
                rw [HE.out, decide_eq_false, Bool.false_and]
                intro h
                have h2 := HG.out
                rw [h, HG2.out] at h2
                rw [h2, beq_self_eq_true] at hb6
                cases hb6)
              go_wp2_with fail
              refine wp_region_above (by kernel_rfl) (by kernel_rfl) ?_
              repeat (go_big_quiet_step (fail))
              refine wpQuiet_nil ?_
              rintro _ ⟨z, rfl⟩
              go_wp2
              go_ret
              exact ⟨by rw [HF.out]; rfl, up HT.out.b z.property⟩
            · have HF := Keep.mk (show ∀ x, x < j + 1 → ks.getD x ⟨#[]⟩ = ks2.getD x ⟨#[]⟩ by
                intro x hx
                by_cases hxj : x < j
                · exact HO.out x hxj
                · obtain rfl : x = j := by omega
                  rw [HG.out, HG2.out]
                  rw [ba_eq, decide_eq_true_eq] at hb6
                  exact hb6)
              go_wp2_with fail
              refine wp_region_above (by kernel_rfl) (by kernel_rfl) ?_
              repeat (go_big_quiet_step (fail))
              refine wpQuiet_nil ?_
              rintro _ ⟨z, rfl⟩
              go_wp2
              go_roundg (gk - 1)
              case rel => exact ⟨j + 1, by omega, by go_num, HF, ⟨HT.out.below z.property⟩⟩
              case measure => omega
          · have HF := Keep.mk (list_eqB HKK.out (fun x hx => HO.out x (by omega)))
            go_wp2_with fail
            go_meet
            exact ⟨HF, HT⟩
      case rest =>
        clear HT
        obtain ⟨HKS, HT⟩ := hcut
        go_wp2_with fail
        go_loopg [6] l.length (fun gk i wr => ∃ j : Nat, j + gk = l.length ∧ i = .int .i64 j ∧ Keep (∀ x (h : x < j) (h1 : x < l.length) (h2 : x < l2.length), sameJ l[x] l2[x] = true) ∧ Keep (Two6 w wr k m e s l ks A c A' c' k2 m2 e2 s2 l2 ks2 B d B' d'))
        case atStart => exact ⟨0, by omega, rfl, ⟨fun x h => absurd h (by omega)⟩, HT⟩
        case round =>
          clear HT
          obtain ⟨j, hj, rfl, HO, HT⟩ := hrel
          have x4 := HT.out.x.cell 4 _ rfl
          have y4 := HT.out.y.cell 4 _ rfl
          have xl := HT.out.x.lt
          have yl := HT.out.y.lt
          have bl := HT.out.b.size
          by_cases hlt : j < l.length
          · have hgk : gk ≠ 0 := by omega
            have hlt2 : j < l2.length := by have := HLL.out; omega
            have hcj := hcn j hlt
            obtain ⟨g, o, k1, m1, e1, s1, A1, n1, c1, A2, n2, c2, rfl, hg, hJj, z0, z1, z2, z3, z4, z5⟩ := HT.out.xv.elem j hlt
            obtain ⟨g', o', k1', m1', e1', s1', A1', n1', c1', A2', n2', c2', rfl, hg', hJj', z0', z1', z2', z3', z4', z5'⟩ := HT.out.yv.elem j hlt2
            have hgl : g < wr.heap.size := by omega
            have hgl' : g' < wr.heap.size := by omega
            have HC := Keep.mk (fun (z : Above wr) => ih l[j] l2[j] (by omega) z.val _ _ ((hJj.more bl).keep z.property (Nat.le_refl _) |>.more z.property.size) ((hJj'.more bl).keep z.property (Nat.le_refl _) |>.more z.property.size))
            clear hJj hJj'
            cases hb6 : sameJ l[j] l2[j]
            · have HF := Keep.mk (show sameJ (.mk k m e s l ks) (.mk k2 m2 e2 s2 l2 ks2) = false by
                rw [HE.out]
                cases h : sameL l l2
                · rw [Bool.and_false]
                · have := (sameL_get l l2 HLL.out).1 h j hlt hlt2
                  rw [hb6] at this; cases this)
              rw [hb6] at HC
              clear hb6
              go_wp2_with fail
              refine wp_region_above (by kernel_rfl) (by kernel_rfl) ?_
              repeat (go_big_quiet_step ((go_at_call 12; exact calls_above (HC.out _))))
              refine wpQuiet_nil ?_
              rintro _ ⟨z, rfl⟩
              go_wp2
              go_ret
              exact ⟨by rw [HF.out]; rfl, up HT.out.b z.property⟩
            · have HF := Keep.mk (show ∀ x (h : x < j + 1) (h1 : x < l.length) (h2 : x < l2.length), sameJ l[x] l2[x] = true by
                intro x hx h1 h2
                by_cases hxj : x < j
                · exact HO.out x hxj h1 h2
                · obtain rfl : x = j := by omega
                  exact hb6)
              rw [hb6] at HC
              clear hb6
              go_wp2_with fail
              refine wp_region_above (by kernel_rfl) (by kernel_rfl) ?_
              repeat (go_big_quiet_step ((go_at_call 12; exact calls_above (HC.out _))))
              refine wpQuiet_nil ?_
              rintro _ ⟨z, rfl⟩
              go_wp2
              go_roundg (gk - 1)
              case rel => exact ⟨j + 1, by omega, by go_num, HF, ⟨HT.out.below z.property⟩⟩
              case measure => omega
          · have HF := Keep.mk (show sameJ (.mk k m e s l ks) (.mk k2 m2 e2 s2 l2 ks2) = true by
              rw [HE.out, decide_eq_true HKS.out, Bool.true_and]
              exact (sameL_get l l2 HLL.out).2 fun x h1 h2 => HO.out x (by omega) h1 h2)
            go_wp2
            go_ret
            exact ⟨by rw [HF.out]; rfl, HT.out.b⟩
end Go.Proofs.YtnkokhpadcgfbaaGreatDoor
