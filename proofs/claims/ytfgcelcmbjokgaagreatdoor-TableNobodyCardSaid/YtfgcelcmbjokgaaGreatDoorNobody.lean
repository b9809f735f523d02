/- A table that is none: what each of its methods answers. Conditions: that the table is nil, or has no pager. -/
import Derived.Test.YtfgcelcmbjokgaaGreatDoorBase
import Derived.Test.YtfgcelcmbjokgaaGreatDoorTypes
import Derived.Outline
namespace Go.Proofs.YtfgcelcmbjokgaaGreatDoor
open Go Go.RowKit Go.Proofs Th
attribute [local go_sem] Above.cell Above.frozen

/-- no table: nil, or one without a pager -/
inductive NoT (w : World) (B : Nat) : Option Addr → Prop
  | nil : NoT w B none
  | empty (b : Nat) (hb : b < B) (h : w.cell? ⟨b, 0, none⟩ = some (.pointer none)) : NoT w B (some ⟨b, 0, none⟩)
theorem NoT.below {w w' : World} {v : Option Addr} (h : NoT w w.heap.size v) (hb : Below w.heap.size w w') : NoT w' w'.heap.size v := by
  cases h with
  | nil => exact .nil
  | empty b h1 h2 => exact .empty b (Nat.lt_of_lt_of_le h1 hb.size) ((hb.cell (p := ⟨b, 0, none⟩) h1).trans h2)
set_option maxRecDepth 100000 in
theorem tab_none (v : Option Addr) (w : World) (h : NoT w w.heap.size v) : Calls Tryz.prog 21 #[.pointer v] w fun r w' => r = .returned (.bool true) ∧ w' = w := by
  cases h with
  | nil =>
    go_enter Tryz.func21, Tryz.ntmps21
    go_wp2
    go_ret
    exact ⟨rfl, rfl⟩
  | empty b hb h =>
    go_enter Tryz.func21, Tryz.ntmps21
    go_wp2
    go_ret
    exact ⟨rfl, rfl⟩
set_option maxRecDepth 100000 in
theorem tab_Insert (v : Option Addr) (k m e : Int) (s : ByteArray) (A : Option Addr) (n c : Nat) (A2 : Option Addr) (n2 c2 : Nat) (w : World) (h : NoT w w.heap.size v) : Calls Tryz.prog 4 #[.pointer v, .agg #[.int .i64 k, .int .i64 m, .int .i64 e, .string s, .slice A n c, .slice A2 n2 c2]] w fun r w' => r = .returned (.tuple #[.int .i64 0, .int .i64 1]) ∧ Below w.heap.size w w' := by
  have HH := Keep.mk h
  clear h
  have HF := Keep.mk (fun W (hb : Below w.heap.size w W) => tab_none v W (HH.out.below hb))
  clear HH
  go_enter Tryz.func4, Tryz.ntmps4
  go_wp2_with fail
  refine (HF.out _ (al2 _ _ _)).mono ?_
  rintro r w1 ⟨rfl, rfl⟩
  go_wp2
  refine bodyPost_ret (v := .tuple #[.int .i64 0, .int .i64 1]) ?_ rfl ⟨rfl, al2 _ _ _⟩
  simp [results, Tryz.results4, go_sem]
set_option maxRecDepth 100000 in
theorem tab_Get (v : Option Addr) (id : Int) (w : World) (h : NoT w w.heap.size v) : Calls Tryz.prog 5 #[.pointer v, .int .i64 id] w fun r w' => r = .returned (.tuple #[.agg #[.int .i64 0, .int .i64 0, .int .i64 0, .string ⟨#[]⟩, .slice none 0 0, .slice none 0 0], .int .i64 1]) ∧ Below w.heap.size w w' := by
  have HH := Keep.mk h
  clear h
  have HF := Keep.mk (fun W (hb : Below w.heap.size w W) => tab_none v W (HH.out.below hb))
  clear HH
  go_enter Tryz.func5, Tryz.ntmps5
  go_wp2_with fail
  refine (HF.out _ (al1 _ _)).mono ?_
  rintro r w1 ⟨rfl, rfl⟩
  go_wp2
  refine bodyPost_ret (v := .tuple #[.agg #[.int .i64 0, .int .i64 0, .int .i64 0, .string ⟨#[]⟩, .slice none 0 0, .slice none 0 0], .int .i64 1]) ?_ rfl ⟨rfl, al1 _ _⟩
  simp [results, Tryz.results5, go_sem]
set_option maxRecDepth 100000 in
theorem tab_Ids (v : Option Addr)  (w : World) (h : NoT w w.heap.size v) : Calls Tryz.prog 6 #[.pointer v] w fun r w' => r = .returned (.tuple #[.slice none 0 0, .int .i64 1]) ∧ Below w.heap.size w w' := by
  have HH := Keep.mk h
  clear h
  have HF := Keep.mk (fun W (hb : Below w.heap.size w W) => tab_none v W (HH.out.below hb))
  clear HH
  go_enter Tryz.func6, Tryz.ntmps6
  go_wp2_with fail
  refine (HF.out _ (Below.refl _ _)).mono ?_
  rintro r w1 ⟨rfl, rfl⟩
  go_wp2
  refine bodyPost_ret (v := .tuple #[.slice none 0 0, .int .i64 1]) ?_ rfl ⟨rfl, Below.refl _ _⟩
  simp [results, Tryz.results6, go_sem]
set_option maxRecDepth 100000 in
theorem tab_Find (v : Option Addr) (id : Int) (B : Option Addr) (n c : Nat) (B2 : Option Addr) (n2 c2 : Nat) (w : World) (h : NoT w w.heap.size v) : Calls Tryz.prog 7 #[.pointer v, .int .i64 id, .slice B n c, .slice B2 n2 c2] w fun r w' => r = .returned (.tuple #[.slice none 0 0, .int .i64 1]) ∧ Below w.heap.size w w' := by
  have HH := Keep.mk h
  clear h
  have HF := Keep.mk (fun W (hb : Below w.heap.size w W) => tab_none v W (HH.out.below hb))
  clear HH
  go_enter Tryz.func7, Tryz.ntmps7
  go_wp2_with fail
  refine (HF.out _ (Below.refl _ _)).mono ?_
  rintro r w1 ⟨rfl, rfl⟩
  go_wp2
  refine bodyPost_ret (v := .tuple #[.slice none 0 0, .int .i64 1]) ?_ rfl ⟨rfl, Below.refl _ _⟩
  simp [results, Tryz.results7, go_sem]
set_option maxRecDepth 100000 in
theorem tab_Pages (v : Option Addr)  (w : World) (h : NoT w w.heap.size v) : Calls Tryz.prog 8 #[.pointer v] w fun r w' => r = .returned (.tuple #[.slice none 0 0, .int .i64 1]) ∧ Below w.heap.size w w' := by
  have HH := Keep.mk h
  clear h
  have HF := Keep.mk (fun W (hb : Below w.heap.size w W) => tab_none v W (HH.out.below hb))
  clear HH
  go_enter Tryz.func8, Tryz.ntmps8
  go_wp2_with fail
  refine (HF.out _ (Below.refl _ _)).mono ?_
  rintro r w1 ⟨rfl, rfl⟩
  go_wp2
  refine bodyPost_ret (v := .tuple #[.slice none 0 0, .int .i64 1]) ?_ rfl ⟨rfl, Below.refl _ _⟩
  simp [results, Tryz.results8, go_sem]
set_option maxRecDepth 100000 in
theorem tab_Paths (v : Option Addr)  (w : World) (h : NoT w w.heap.size v) : Calls Tryz.prog 10 #[.pointer v] w fun r w' => r = .returned (.slice none 0 0) ∧ Below w.heap.size w w' := by
  have HH := Keep.mk h
  clear h
  have HF := Keep.mk (fun W (hb : Below w.heap.size w W) => tab_none v W (HH.out.below hb))
  clear HH
  go_enter Tryz.func10, Tryz.ntmps10
  go_wp2_with fail
  refine (HF.out _ (Below.refl _ _)).mono ?_
  rintro r w1 ⟨rfl, rfl⟩
  go_wp2
  go_ret
  exact ⟨rfl, Below.refl _ _⟩
set_option maxRecDepth 100000 in
theorem tab_Fields (v : Option Addr)  (w : World) (h : NoT w w.heap.size v) : Calls Tryz.prog 11 #[.pointer v] w fun r w' => r = .returned (.slice none 0 0) ∧ Below w.heap.size w w' := by
  have HH := Keep.mk h
  clear h
  have HF := Keep.mk (fun W (hb : Below w.heap.size w W) => tab_none v W (HH.out.below hb))
  clear HH
  go_enter Tryz.func11, Tryz.ntmps11
  go_wp2_with fail
  refine (HF.out _ (Below.refl _ _)).mono ?_
  rintro r w1 ⟨rfl, rfl⟩
  go_wp2
  go_ret
  exact ⟨rfl, Below.refl _ _⟩
set_option maxRecDepth 100000 in
theorem tab_Replace (v : Option Addr) (id : Int) (k m e : Int) (s : ByteArray) (A : Option Addr) (n c : Nat) (A2 : Option Addr) (n2 c2 : Nat) (w : World) (h : NoT w w.heap.size v) : Calls Tryz.prog 12 #[.pointer v, .int .i64 id, .agg #[.int .i64 k, .int .i64 m, .int .i64 e, .string s, .slice A n c, .slice A2 n2 c2]] w fun r w' => r = .returned (.int .i64 1) ∧ Below w.heap.size w w' := by
  have HH := Keep.mk h
  clear h
  have HF := Keep.mk (fun W (hb : Below w.heap.size w W) => tab_none v W (HH.out.below hb))
  clear HH
  go_enter Tryz.func12, Tryz.ntmps12
  go_wp2_with fail
  refine (HF.out _ (al3 _ _ _ _)).mono ?_
  rintro r w1 ⟨rfl, rfl⟩
  go_wp2
  go_ret
  exact ⟨rfl, al3 _ _ _ _⟩
set_option maxRecDepth 100000 in
theorem tab_Delete (v : Option Addr) (id : Int) (w : World) (h : NoT w w.heap.size v) : Calls Tryz.prog 13 #[.pointer v, .int .i64 id] w fun r w' => r = .returned (.int .i64 1) ∧ Below w.heap.size w w' := by
  have HH := Keep.mk h
  clear h
  have HF := Keep.mk (fun W (hb : Below w.heap.size w W) => tab_Get v id W (HH.out.below hb))
  clear HH
  go_enter Tryz.func13, Tryz.ntmps13
  go_wp2_with fail
  refine (HF.out _ (al2 _ _ _)).mono ?_
  rintro r w1 ⟨rfl, hb1⟩
  have HB := Keep.mk (up (al2 _ _ _) hb1)
  clear hb1
  go_wp2
  go_ret
  exact ⟨rfl, up HB.out (al1 _ _)⟩
set_option maxRecDepth 100000 in
theorem tab_AddIndex (v : Option Addr) (B : Option Addr) (n c : Nat) (w : World) (h : NoT w w.heap.size v) : Calls Tryz.prog 14 #[.pointer v, .slice B n c] w fun r w' => r = .returned (.int .i64 1) ∧ Below w.heap.size w w' := by
  have HH := Keep.mk h
  clear h
  have HF := Keep.mk (fun W (hb : Below w.heap.size w W) => tab_none v W (HH.out.below hb))
  clear HH
  go_enter Tryz.func14, Tryz.ntmps14
  go_wp2_with fail
  refine (HF.out _ (al2 _ _ _)).mono ?_
  rintro r w1 ⟨rfl, rfl⟩
  go_wp2
  go_ret
  exact ⟨rfl, al2 _ _ _⟩
set_option maxRecDepth 100000 in
theorem tab_DropIndex (v : Option Addr) (B : Option Addr) (n c : Nat) (w : World) (h : NoT w w.heap.size v) : Calls Tryz.prog 15 #[.pointer v, .slice B n c] w fun r w' => r = .returned (.int .i64 1) ∧ Below w.heap.size w w' := by
  have HH := Keep.mk h
  clear h
  have HF := Keep.mk (fun W (hb : Below w.heap.size w W) => tab_none v W (HH.out.below hb))
  clear HH
  go_enter Tryz.func15, Tryz.ntmps15
  go_wp2_with fail
  refine (HF.out _ (al2 _ _ _)).mono ?_
  rintro r w1 ⟨rfl, rfl⟩
  go_wp2
  go_ret
  exact ⟨rfl, al2 _ _ _⟩
set_option maxRecDepth 100000 in
theorem tab_Pack (v : Option Addr)  (w : World) (h : NoT w w.heap.size v) : Calls Tryz.prog 16 #[.pointer v] w fun r w' => r = .returned (.int .i64 1) ∧ Below w.heap.size w w' := by
  have HH := Keep.mk h
  clear h
  have HF := Keep.mk (fun W (hb : Below w.heap.size w W) => tab_none v W (HH.out.below hb))
  clear HH
  go_enter Tryz.func16, Tryz.ntmps16
  go_wp2_with fail
  refine (HF.out _ (al1 _ _)).mono ?_
  rintro r w1 ⟨rfl, rfl⟩
  go_wp2
  go_ret
  exact ⟨rfl, al1 _ _⟩
set_option maxRecDepth 100000 in
theorem tab_Mark (v : Option Addr)  (w : World) (h : NoT w w.heap.size v) : Calls Tryz.prog 18 #[.pointer v] w fun r w' => r = .returned (.pointer none) ∧ Below w.heap.size w w' := by
  have HH := Keep.mk h
  clear h
  have HF := Keep.mk (fun W (hb : Below w.heap.size w W) => tab_none v W (HH.out.below hb))
  clear HH
  go_enter Tryz.func18, Tryz.ntmps18
  go_wp2_with fail
  refine (HF.out _ (Below.refl _ _)).mono ?_
  rintro r w1 ⟨rfl, rfl⟩
  go_wp2
  go_ret
  exact ⟨rfl, Below.refl _ _⟩
set_option maxRecDepth 100000 in
theorem tab_Back (v : Option Addr)  (w : World) (h : NoT w w.heap.size v) : Calls Tryz.prog 17 #[.pointer v, .pointer none] w fun r w' => r = .returned (.int .i64 1) ∧ Below w.heap.size w w' := by
  have HH := Keep.mk h
  clear h
  have HF := Keep.mk (fun W (hb : Below w.heap.size w W) => tab_none v W (HH.out.below hb))
  clear HH
  go_enter Tryz.func17, Tryz.ntmps17
  go_wp2_with fail
  refine (HF.out _ (Below.refl _ _)).mono ?_
  rintro r w1 ⟨rfl, rfl⟩
  go_wp2
  go_ret
  exact ⟨rfl, Below.refl _ _⟩
set_option maxRecDepth 100000 in
theorem pager_none (v : Option Addr) (w : World) (h : NoT w w.heap.size v) : Calls Tryz.prog 104 #[.pointer v] w fun r w' => r = .returned (.bool true) ∧ w' = w := by
  cases h with
  | nil =>
    go_enter Tryz.func104, Tryz.ntmps104
    go_wp2
    go_ret
    exact ⟨rfl, rfl⟩
  | empty b hb h =>
    go_enter Tryz.func104, Tryz.ntmps104
    go_wp2
    go_ret
    exact ⟨rfl, rfl⟩
set_option maxRecDepth 100000 in
theorem pager_Mark (v : Option Addr) (w : World) (h : NoT w w.heap.size v) : Calls Tryz.prog 54 #[.pointer v] w fun r w' => r = .returned (.pointer none) ∧ w' = w := by
  have HF := Keep.mk (pager_none v w h)
  clear h
  go_enter Tryz.func54, Tryz.ntmps54
  go_wp2_with fail
  refine HF.out.mono ?_
  rintro r w1 ⟨rfl, rfl⟩
  go_wp2
  go_ret
  exact ⟨rfl, rfl⟩
set_option maxRecDepth 100000 in
theorem tree_New (w : World) : Calls Tryz.prog 45 #[.pointer none] w fun r w' => r = .returned (.tuple #[.pointer none, .int .i64 1]) ∧ w' = w := by
  have HF := Keep.mk (pager_Mark none w .nil)
  go_enter Tryz.func45, Tryz.ntmps45
  go_wp2_with fail
  refine HF.out.mono ?_
  rintro r w1 ⟨rfl, rfl⟩
  go_wp2
  refine bodyPost_ret (v := .tuple #[.pointer none, .int .i64 1]) ?_ rfl ⟨rfl, rfl⟩
  simp [results, Tryz.results45, go_sem]
set_option maxRecDepth 100000 in
theorem table_New (w : World) : Calls Tryz.prog 19 #[.pointer none] w fun r w' => r = .returned (.tuple #[.pointer none, .int .i64 1]) ∧ w' = w := by
  have HF := Keep.mk (tree_New w)
  go_enter Tryz.func19, Tryz.ntmps19
  go_wp2_with fail
  refine HF.out.mono ?_
  rintro r w1 ⟨rfl, rfl⟩
  go_wp2
  refine bodyPost_ret (v := .tuple #[.pointer none, .int .i64 1]) ?_ rfl ⟨rfl, rfl⟩
  simp [results, Tryz.results19, go_sem]
set_option maxRecDepth 100000 in
theorem table_Open (v : Option Addr) (A : Option Addr) (n c : Nat) (w : World) (h : NoT w w.heap.size v) : Calls Tryz.prog 20 #[.pointer v, .slice A n c] w fun r w' => r = .returned (.tuple #[.pointer none, .int .i64 1]) ∧ w' = w := by
  have HF := Keep.mk (pager_Mark v w h)
  clear h
  go_enter Tryz.func20, Tryz.ntmps20
  go_wp2_with fail
  refine HF.out.mono ?_
  rintro r w1 ⟨rfl, rfl⟩
  go_wp2
  refine bodyPost_ret (v := .tuple #[.pointer none, .int .i64 1]) ?_ rfl ⟨rfl, rfl⟩
  simp [results, Tryz.results20, go_sem]
end Go.Proofs.YtfgcelcmbjokgaaGreatDoor
