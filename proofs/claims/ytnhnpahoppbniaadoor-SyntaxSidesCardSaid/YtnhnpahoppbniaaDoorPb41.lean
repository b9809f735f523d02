/- Lemmas and contracts for the laws SyntaxBrackets, SyntaxJoins, SyntaxSides, part 41 of 44: R10S. Conditions: those that each lemma names. -/
import Derived.Test.YtnhnpahoppbniaaDoorPb11
import Derived.Test.YtnhnpahoppbniaaDoorPb40
import Derived.Test.YtnhnpahoppbniaaDoorPb26
import Derived.Test.YtnhnpahoppbniaaDoorPb2
namespace Go.Proofs.YtnhnpahoppbniaaDoor
open Go Go.RowKit Go.Proofs Th
set_option maxRecDepth 8000
attribute [local go_sem] aops aopsD stepA chkD disj aguard isWant aop aval abuil acall acallP acallR argsIV valOf aput startS mkS numb look upd toIV allIV zeroFV aload setSeg afill aelems cellsOf toSl toVal valsOf aidx abin ainR FV.ok IV.one IV.er IV.erA IV.er1 iI sI bI nodeIV nodesIV tokIV parIV faultV resP lift AThen ABlock AEnd resL resV rload rcOf imsOf oneV nodeJ kidsJ strJ knownJ selfJ noNJ noTf foot owns pruneS filtF filtO Value.oneCell'
attribute [local go_sem] ti_node ti_tok ti_par ti_fault ti_nodes ti_toks ti_strs ti_ints ti_str ti_int ti_num ti_errno
attribute [local go_sem] sel
attribute [local go_sem] zeroN nodesIV_append nodesIV_len kidC rowC nodeF
attribute [local go_sem] nodesIV_getE List.map_append List.map_cons List.map_nil List.length_map
variable {G : World → CS → Prop}
theorem eqTy_num : EqTy Tryd.prog 24 := fun op x y a b c d W hop => by
  have h1 : (Op.equal 24 (.agg #[.int .i64 a, .int .i64 b]) (.agg #[.int .i64 c, .int .i64 d])).run Tryd.prog W = .ok (decide (a = c) && decide (b = d)) W := eq_num a b c d W
  refine ⟨?_, h1⟩
  have hg : Tryd.prog.eqGuardType Tryd.prog.depth 24 = false := by kernel_rfl
  rcases hop with rfl | rfl <;> simp [eqGuard, hg]
theorem kids_room1 {W : World} {S : CS} {us : List Value} {k : Int} {s : ByteArray} {m e : Int} {l : List NJ} {b : List ByteArray} (h : RepL W S [.agg (nodeIV (.mk k s m e l b))] us) : l.length ≤ 140737488351232 := by
  refine kids_room (us := us ++ [.bool true]) (W := W) (S := S) (k := k) (s := s) (m := m) (e := e) (l := l) (b := b) (x := .v (.bool true)) ⟨by rw [List.length_append, h.1]; rfl, fun i y u hy hu => ?_⟩
  have h1 : us.length = 1 := h.1
  match i, hy with
  | 0, hy => exact h.2 0 y u hy (by rw [List.getElem?_append_left (by omega)] at hu; exact hu)
  | 1, hy =>
    rw [List.getElem?_append_right (by omega), h1] at hu
    injection hy with hy; injection hu with hu
    subst hy hu; exact .v _
  | i + 2, hy => exact absurd hy (by simp)
set_option maxHeartbeats 1000000 in
theorem r_Depth (gk : GK G) : ∀ (n : Nat), n ≤ 4000000000000000000 → ∀ x : NJ, depJ x ≤ n → ACalls Tryd.prog G 14 none [.agg (nodeIV x)] (.ret (iI (depJ x)) []) := by
  intro n
  induction n with
  | zero => intro _ x h; obtain ⟨k1, t1, m1, q1, l1, b1⟩ := x; simp only [depJ] at h; omega
  | succ n ih =>
    intro hn x hx
    obtain ⟨k1, t1, m1, q1, l1, b1⟩ := x
    rw [depJ] at hx
    obtain ⟨r, hr⟩ : ∃ r, depsJ l1 = r := ⟨_, rfl⟩
    rw [depJ, hr]
    rw [hr] at hx
    have hz : -9223372036854775808 ≤ 1 + (r : Int) ∧ 1 + (r : Int) ≤ 9223372036854775807 := by omega
    by_cases hlen : l1.length ≤ 140737488351232
    case neg => exact ⟨⟨_, Tryd.func14, rfl, rfl⟩, fun W S p us hG hSb hrc hrep => absurd (kids_room1 hrep) hlen⟩
    refine ACalls.enter Tryd.func14 rfl rfl gk Tryd.ntmps14 fun X F => ?_
    repeat refine AW.seq ?_
    refine AW.reg F ?_
    go_simp
    repeat refine AW.seq ?_
    refine AW.reg F ?_
    go_simp
    repeat refine AW.seq ?_
    refine AW.reg F ?_
    go_simp
    repeat refine AW.seq ?_
    refine AW.block ?_
    repeat refine AW.seq ?_
    refine AW.loopP [1, 3, 4] [1000, 1] (by decide) (fun g s => ∃ (k m : Nat), s = mkS [(1, .ptr 1 0), (3, .im (iI m)), (4, .im (iI k))] [(1000, .none), (1, .box ((nodeIV (.mk k1 t1 m1 q1 l1 b1)).map .im))] ∧ g = l1.length - k ∧ k ≤ l1.length ∧ max m (depsJ (l1.drop k)) = r) (l1.length) ?_ ?_
    · refine ⟨0, 0, ?_, by omega, by omega, by rw [List.drop_zero, hr]; omega⟩
      go_simp
    · rintro g s ⟨k, m, rfl, rfl, hk, h⟩
      by_cases hkt : k < l1.length
      · have hkI : (k : Int) < (l1.length : Int) := by omega
        have hrk : -9223372036854775808 ≤ (k : Int) + 1 ∧ (k : Int) + 1 ≤ 9223372036854775807 := by omega
        rw [depsJ_get l1 k hkt] at h
        obtain ⟨y, hyE⟩ : ∃ y, l1[k] = y := ⟨_, rfl⟩
        rw [hyE] at h
        have cy := ih (by omega) y (by omega)
        obtain ⟨d, hd⟩ : ∃ d, depJ y = d := ⟨_, rfl⟩
        rw [hd] at h cy
        clear hd
        obtain ⟨k2, t2, m2, q2, l2, b2⟩ := y
        repeat refine AW.seq ?_
        refine AW.reg F ?_
        go_simp
        repeat refine AW.seq ?_
        refine AW.condT (by go_simp) ?_
        refine AW.skip ?_
        go_simp
        repeat refine AW.seq ?_
        refine AW.block ?_
        repeat refine AW.seq ?_
        refine AW.reg F ?_
        go_simp
        refine ⟨_, cy, ?_⟩
        go_simp
        by_cases hmd : m < d
        · have hmdI : (m : Int) < (d : Int) := by omega
          repeat refine AW.seq ?_
          refine AW.reg F ?_
          go_simp
          repeat refine AW.seq ?_
          refine AW.condT (by go_simp) ?_
          repeat refine AW.seq ?_
          refine AW.reg F ?_
          go_simp
          repeat refine AW.seq ?_
          refine AW.reg F ?_
          go_simp
          refine ⟨l1.length - (k + 1), by omega, k + 1, d, ?_, rfl, by omega, by omega⟩
          go_simp
        · have hmdI : ¬ (m : Int) < (d : Int) := by omega
          repeat refine AW.seq ?_
          refine AW.reg F ?_
          go_simp
          repeat refine AW.seq ?_
          refine AW.condF (by go_simp) ?_
          refine AW.skip ?_
          go_simp
          repeat refine AW.seq ?_
          refine AW.reg F ?_
          go_simp
          refine ⟨l1.length - (k + 1), by omega, k + 1, m, ?_, rfl, by omega, by omega⟩
          go_simp
      · have hkI : ¬ (k : Int) < (l1.length : Int) := by omega
        rw [List.drop_eq_nil_of_le (by omega), depsJ] at h
        obtain rfl : m = r := by omega
        repeat refine AW.seq ?_
        refine AW.reg F ?_
        go_simp
        repeat refine AW.seq ?_
        refine AW.condF (by go_simp) ?_
        refine AW.exit ?_
        go_simp
        repeat refine AW.seq ?_
        refine AW.reg F ?_
        go_simp
        refine AW.ret ?_
        go_simp
theorem agg_room {W : World} {S : CS} {us : List Value} {cs : List IV} {r : List IV} {i : Nat} {es : List (List IV)} {fl : Bool} (h : RepL W S (.agg cs :: r) us) (hi : cs[i]? = some (.sl es fl)) : es.length ≤ 140737488351232 := by
  obtain ⟨hlen, hr⟩ := h
  rcases us with _ | ⟨u, us⟩
  · cases hlen
  · have h0 := hr 0 _ u rfl rfl
    cases h0 with
    | @agg _ vs hl hR =>
      have hlt := (List.getElem?_eq_some_iff.1 hi).1
      obtain ⟨v, hv⟩ : ∃ v, vs[i]? = some v := ⟨_, List.getElem?_eq_getElem (by omega : i < vs.length)⟩
      have h4 := hR i _ v hi hv
      cases h4 with
      | sl _ _ _ _ hl2 => exact hl2
set_option maxHeartbeats 4000000 in
theorem r_Same (gk : GK G) : ∀ (n : Nat) (x : NJ), depJ x ≤ n → ACalls Tryd.prog G 8 none [.agg (nodeIV x), .agg (nodeIV x)] (.ret (bI true) []) := by
  intro n
  induction n with
  | zero => intro x h; obtain ⟨k1, t1, m1, q1, l1, b1⟩ := x; simp only [depJ] at h; omega
  | succ n ih =>
    intro x hx
    obtain ⟨k1, t1, m1, q1, l1, b1⟩ := x
    rw [depJ] at hx
    have heq := eqTy_num
    by_cases hlen : l1.length ≤ 140737488351232
    case neg => exact ⟨⟨_, Tryd.func8, rfl, rfl⟩, fun W S p us hG hSb hrc hrep => absurd (by have := agg_room (i := 4) hrep rfl; rwa [nodesIV_len] at this) hlen⟩
    by_cases hlen2 : b1.length ≤ 140737488351232
    case neg => exact ⟨⟨_, Tryd.func8, rfl, rfl⟩, fun W S p us hG hSb hrc hrep => absurd (by have := agg_room (i := 5) hrep rfl; rwa [List.length_map] at this) hlen2⟩
    refine ACalls.enter Tryd.func8 rfl rfl gk Tryd.ntmps8 fun X F => ?_
    repeat refine AW.seq ?_
    refine AW.reg F ?_
    go_simp
    repeat refine AW.seq ?_
    refine AW.reg F ?_
    go_simp
    repeat refine AW.seq ?_
    refine AW.condF (by go_simp) ?_
    refine AW.skip ?_
    go_simp
    repeat refine AW.seq ?_
    refine AW.reg F ?_
    go_simp
    repeat refine AW.seq ?_
    refine AW.block ?_
    repeat refine AW.seq ?_
    refine AW.loopP [2, 3, 5] [1000, 2, 3] (by decide) (fun g s => ∃ (k : Nat), s = mkS [(2, .ptr 2 0), (3, .ptr 3 0), (5, .im (iI k))] [(1000, .none), (2, .box ((nodeIV (.mk k1 t1 m1 q1 l1 b1)).map .im)), (3, .box ((nodeIV (.mk k1 t1 m1 q1 l1 b1)).map .im))] ∧ g = b1.length - k ∧ k ≤ b1.length) (b1.length) ?_ ?_
    · refine ⟨0, ?_, by omega, by omega⟩
      go_simp
    · rintro g s ⟨k, rfl, rfl, hk⟩
      by_cases hkt : k < b1.length
      · have hkI : (k : Int) < (b1.length : Int) := by omega
        have hrk : -9223372036854775808 ≤ (k : Int) + 1 ∧ (k : Int) + 1 ≤ 9223372036854775807 := by omega
        repeat refine AW.seq ?_
        refine AW.reg F ?_
        go_simp
        repeat refine AW.seq ?_
        refine AW.condT (by go_simp) ?_
        refine AW.skip ?_
        go_simp
        repeat refine AW.seq ?_
        refine AW.block ?_
        repeat refine AW.seq ?_
        refine AW.drw F [0, 1, 2, 3, 4, 5, 6, 7, 8, 9, 10] [] mixed (by kernel_rfl) ?_
        go_simp
        repeat refine AW.seq ?_
        refine AW.condF (by go_simp) ?_
        refine AW.skip ?_
        go_simp
        repeat refine AW.seq ?_
        refine AW.reg F ?_
        go_simp
        refine ⟨b1.length - (k + 1), by omega, k + 1, ?_, rfl, by omega⟩
        go_simp
      · have hkI : ¬ (k : Int) < (b1.length : Int) := by omega
        repeat refine AW.seq ?_
        refine AW.reg F ?_
        go_simp
        repeat refine AW.seq ?_
        refine AW.condF (by go_simp) ?_
        refine AW.exit ?_
        go_simp
        repeat refine AW.seq ?_
        refine AW.reg F ?_
        go_simp
        repeat refine AW.seq ?_
        refine AW.block ?_
        repeat refine AW.seq ?_
        refine AW.loopP [2, 3, 6] [1000, 2, 3] (by decide) (fun g s => ∃ (k : Nat), s = mkS [(2, .ptr 2 0), (3, .ptr 3 0), (6, .im (iI k))] [(1000, .none), (2, .box ((nodeIV (.mk k1 t1 m1 q1 l1 b1)).map .im)), (3, .box ((nodeIV (.mk k1 t1 m1 q1 l1 b1)).map .im))] ∧ g = l1.length - k ∧ k ≤ l1.length) (l1.length) ?_ ?_
        · refine ⟨0, ?_, by omega, by omega⟩
          go_simp
        · rintro g s ⟨k, rfl, rfl, hk⟩
          by_cases hkt : k < l1.length
          · have hkI : (k : Int) < (l1.length : Int) := by omega
            have hrk : -9223372036854775808 ≤ (k : Int) + 1 ∧ (k : Int) + 1 ≤ 9223372036854775807 := by omega
            repeat refine AW.seq ?_
            refine AW.reg F ?_
            go_simp
            repeat refine AW.seq ?_
            refine AW.condT (by go_simp) ?_
            refine AW.skip ?_
            go_simp
            repeat refine AW.seq ?_
            refine AW.block ?_
            have hdk : depJ l1[k] ≤ n := by
              have := depsJ_get l1 k hkt
              have h2 : depsJ (l1.drop k) ≤ depsJ l1 := by
                conv => rhs; rw [← List.take_append_drop k l1, depsJ_append]
                omega
              omega
            obtain ⟨y, hyE⟩ : ∃ y, l1[k] = y := ⟨_, rfl⟩
            rw [hyE] at hdk
            have cy := ih y hdk
            obtain ⟨k2, t2, m2, q2, l2, b2⟩ := y
            repeat refine AW.seq ?_
            refine AW.drw F [0, 1, 2, 3, 4, 5, 6, 7, 8, 9, 10, 11] [] mixed (by kernel_rfl) ?_
            go_simp
            refine ⟨_, cy, ?_⟩
            go_simp
            repeat refine AW.seq ?_
            refine AW.condF (by go_simp) ?_
            refine AW.skip ?_
            go_simp
            repeat refine AW.seq ?_
            refine AW.reg F ?_
            go_simp
            refine ⟨l1.length - (k + 1), by omega, k + 1, ?_, rfl, by omega⟩
            go_simp
          · have hkI : ¬ (k : Int) < (l1.length : Int) := by omega
            repeat refine AW.seq ?_
            refine AW.reg F ?_
            go_simp
            repeat refine AW.seq ?_
            refine AW.condF (by go_simp) ?_
            refine AW.exit ?_
            go_simp
            repeat refine AW.seq ?_
            refine AW.reg F ?_
            go_simp
            refine AW.ret ?_
            go_simp
theorem deps_le {k : Nat} : ∀ {l : List NJ}, depsJ l ≤ k ↔ ∀ y ∈ l, depJ y ≤ k
  | [] => by simp [depsJ]
  | a :: r => by
    rw [depsJ, Nat.max_le, deps_le (l := r)]
    simp
theorem sh_dep : ∀ (k : Nat) (x : NJ), shJ k x = true ↔ depJ x ≤ k
  | 0, .mk _ _ _ _ l _ => by rw [shJ, depJ]; constructor <;> intro h <;> first | cases h | omega
  | k + 1, .mk _ _ _ _ l _ => by
    rw [shJ, depJ, List.all_eq_true]
    have := deps_le (k := k) (l := l)
    constructor
    · intro h
      have h2 := this.2 fun y hy => (sh_dep k y).1 (h y hy)
      omega
    · intro h y hy
      exact (sh_dep k y).2 (this.1 (by omega) y hy)
end Go.Proofs.YtnhnpahoppbniaaDoor
