/- The contracts of package num's small functions: zero, size, Right, sign, compare. Conditions: the table of tens holds the powers of ten (Glob). -/
import Derived.Test.YtohhnkmfgfgpjaaGreatDoorProg
import Derived.Test.YtohhnkmfgfgpjaaGreatDoorNumMath
import Derived.Test.YtohhnkmfgfgpjaaGreatDoorBase
import Derived.Test.YtohhnkmfgfgpjaaGreatDoorTypes
import Derived.Lib.LaidTab
import Derived.Lib.ItoaNum
import Derived.Lib.Hide
import Derived.Lib.ItoaMem
namespace Go.Proofs.YtohhnkmfgfgpjaaGreatDoor
open Go Go.RowKit Go.Proofs Th

theorem tab_below {P : Program} {w w' : World} {name : String} {k : IntKind} {zs : List Int} (h : Lib.TabIs P w name k zs) (b : Below w.heap.size w w') : Lib.TabIs P w' name k zs := by
  unfold Lib.TabIs World.var? at *
  cases hg : P.globalNamed name with
  | none => simp [hg] at h
  | some g =>
    simp only [hg, Option.bind_some] at h ⊢
    have hlt : g < w.heap.size := by
      rcases Nat.lt_or_ge g w.heap.size with h' | h'
      · exact h'
      · rw [Array.getElem?_eq_none h'] at h; simp at h
    rw [b.block g hlt]
    exact h

/-- what the tables hold -/
structure Glob (w : World) : Prop where
  tens : ∀ i, i < 20 → w.cell? ⟨0, i, none⟩ = some (.int .u64 ((10 ^ i : Nat) : Int))

theorem Glob.below {w w' : World} (h : Glob w) (b : Below w.heap.size w w') : Glob w' :=
  ⟨fun i hi => (b.cell (lt_of_cell (h.tens i hi))).trans (h.tens i hi)⟩
/-- the table that printing reads stands, too -/
structure GlobP (w : World) : Prop where
  weak : Glob w
  pows : Lib.TabIs Tryz.prog w "internal/strconv.uint64pow10" .u64 Lib.pow10Tab
theorem GlobP.below {w w' : World} (h : GlobP w) (b : Below w.heap.size w w') : GlobP w' := ⟨h.weak.below b, tab_below h.pows b⟩
theorem GlobP.alloc {w : World} (h : GlobP w) (o : Obj) : GlobP (w.alloc o) := h.below ((Below.refl _ _).alloc (Nat.le_refl _) _)
instance globP_weak (w : World) : Coe (GlobP w) (Glob w) := ⟨fun h => h.weak⟩

theorem Glob.alloc {w : World} (h : Glob w) (o : Obj) : Glob (w.alloc o) := h.below ((Below.refl _ _).alloc (Nat.le_refl _) _)

attribute [local go_sem] Above.cell Above.frozen

theorem num_zero (w : World) : Calls Tryz.prog 71 #[] w fun e w' => e = .returned (.agg #[.int .i64 0, .int .i64 0]) ∧ Below w.heap.size w w' := by
  go_enter Tryz.func71, Tryz.ntmps71
  go_wp2
  refine bodyPost_ret (v := .agg #[.int .i64 0, .int .i64 0]) (by simp [results, Tryz.results71, go_sem]) rfl ⟨rfl, ?_⟩
  exact (Below.refl _ _).alloc (Nat.le_refl _) _

theorem ret_u64 {a b : Int} (h : a = b) : Ending.returned (.int .u64 a) = .returned (.int .u64 b) := by rw [h]

theorem num_size (m e : Int) (h0 : -9223372036854775808 ≤ m) (h1 : m ≤ 9223372036854775807) (w : World) :
    Calls Tryz.prog 62 #[.agg #[.int .i64 m, .int .i64 e]] w fun r w' => r = .returned (.int .u64 m.natAbs) ∧ Below w.heap.size w w' := by
  by_cases h : m < 0
  · have k : IntKind.u64.wrap (-IntKind.u64.wrap m) = m.natAbs := by rw [IntKind.wrap_u64, IntKind.wrap_u64]; omega
    have K := Lib.hid k
    clear k
    go_enter Tryz.func62, Tryz.ntmps62
    go_wp2
    go_ret
    exact ⟨ret_u64 K.out, (Below.refl _ _).alloc (Nat.le_refl _) _⟩
  · have k : IntKind.u64.wrap m = m.natAbs := by rw [IntKind.wrap_u64]; omega
    have K := Lib.hid k
    clear k
    go_enter Tryz.func62, Tryz.ntmps62
    go_wp2
    go_ret
    exact ⟨ret_u64 (by omega), (Below.refl _ _).alloc (Nat.le_refl _) _⟩

theorem num_Right_zero (e : Int) (w : World) : Calls Tryz.prog 59 #[.agg #[.int .i64 0, .int .i64 e]] w fun r w' => r = .returned (.bool (e == 0)) ∧ Below w.heap.size w w' := by
  go_enter Tryz.func59, Tryz.ntmps59
  go_wp2
  refine wp_region_above (by kernel_rfl) (by kernel_rfl) ?_
  repeat (go_big_quiet_step ((go_at_call 71; exact calls_above (num_zero _))))
  refine wpQuiet_nil ?_
  rintro _ ⟨x, rfl⟩
  go_wp2
  go_ret
  exact ⟨rfl, ((Below.refl _ _).alloc (Nat.le_refl _) _).trans (x.property.mono (by simp))⟩

theorem ret_bool {a b : Bool} (h : a = b) : Ending.returned (.bool a) = .returned (.bool b) := by rw [h]

set_option maxRecDepth 100000 in
theorem num_Right_pos (m e : Int) (h0 : -9223372036854775808 ≤ m) (h1 : m ≤ 9223372036854775807) (hm : (m == 0) = false) (w : World) (hg : Glob w) :
    Calls Tryz.prog 59 #[.agg #[.int .i64 m, .int .i64 e]] w fun r w' => r = .returned (.bool (right m e)) ∧ Below w.heap.size w w' := by
  have c18 := hg.tens 18 (by omega)
  have b18 : 0 < w.heap.size := lt_of_cell c18
  rcases right_cases m e (by simpa using hm) with ⟨h2, hr⟩ | ⟨h2, h3, hr⟩ | ⟨h2, h3, h4, hr⟩ | ⟨h2, h3, h4, hr⟩
  all_goals
    have HR := Lib.hid hr
    clear hr
    go_enter Tryz.func59, Tryz.ntmps59
    go_wp2
    refine wp_region_above (by kernel_rfl) (by kernel_rfl) ?_
    repeat (go_big_quiet_step ((go_at_call 62; exact calls_above (num_size _ _ h0 h1 _))))
    refine wpQuiet_nil ?_
    rintro _ ⟨x, rfl⟩
    go_wp2
    go_ret
    exact ⟨ret_bool HR.out.symm, ((Below.refl _ _).alloc (Nat.le_refl _) _).trans (x.property.mono (by simp))⟩

theorem num_Right (m e : Int) (h0 : -9223372036854775808 ≤ m) (h1 : m ≤ 9223372036854775807) (w : World) (hg : Glob w) :
    Calls Tryz.prog 59 #[.agg #[.int .i64 m, .int .i64 e]] w fun r w' => r = .returned (.bool (right m e)) ∧ Below w.heap.size w w' := by
  by_cases hm : m = 0
  · subst hm
    exact num_Right_zero e w
  · exact num_Right_pos m e h0 h1 (by simpa using hm) w hg
end Go.Proofs.YtohhnkmfgfgpjaaGreatDoor
