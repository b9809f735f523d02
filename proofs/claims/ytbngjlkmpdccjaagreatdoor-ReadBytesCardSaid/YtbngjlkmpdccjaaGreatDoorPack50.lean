/- Lemmas and contracts for the laws ReadParses, ReadBytes, part 50 of 50: LawBytes. Conditions: those that each lemma names. -/
import Derived.Test.YtbngjlkmpdccjaaGreatDoorPack49
import Derived.Great.Walk
namespace Go.Proofs.YtbngjlkmpdccjaaGreatDoor
open Go Go.RowKit Go.Proofs Th
attribute [local go_sem] Above.cell
structure Pieces (w W : World) (p : Nat) : Prop where
  b : Below w.heap.size w W
  lt : p < W.heap.size
  at_ : ∀ m, m < 20 → ∃ t : ByteArray, W.cell? ⟨p, m, none⟩ = some (.string t) ∧ t.size ≤ 12
theorem pieces_new (w : World) (l : List ByteArray) (t : TypeId) (hl : l.length = 20) (h : ∀ x ∈ l, x.size ≤ 12) : Pieces w (w.alloc (.cells (l.map Value.string).toArray t)) w.heap.size := by
  have hB : Box (w.alloc (.cells (l.map Value.string).toArray t)) w.heap.size (l.map Value.string) := Box.new _ t rfl
  refine ⟨al1 w _, hB.lt, fun m hm => ⟨l[m], hB.cell m _ (by simp [hl, hm]), h _ (List.getElem_mem _)⟩⟩
def pieceL : List ByteArray := [⟨#[123]⟩, ⟨#[125]⟩, ⟨#[91]⟩, ⟨#[93]⟩, ⟨#[58]⟩, ⟨#[44]⟩, ⟨#[34, 97, 34]⟩, ⟨#[34, 98, 34]⟩, ⟨#[49]⟩, ⟨#[45, 50, 46, 53, 101, 49]⟩, ⟨#[110, 117, 108, 108]⟩, ⟨#[116, 114, 117, 101]⟩, ⟨#[102, 97, 108, 115, 101]⟩, ⟨#[32]⟩, ⟨#[10]⟩, ⟨#[34]⟩, ⟨#[110, 117, 108]⟩, ⟨#[48, 49]⟩, ⟨#[91, 91, 91, 91, 91, 91, 91, 91, 91, 91, 91, 91]⟩, ⟨#[93, 93, 93, 93, 93, 93, 93, 93, 93, 93, 93, 93]⟩]
def pieceC : Array Value := (pieceL.map Value.string).toArray
def nothingC : Array Value := (List.replicate 20 (Value.string ⟨#[]⟩)).toArray
theorem pieces_le : ∀ x ∈ pieceL, x.size ≤ 12 := fun x hx => by
  simp only [pieceL, List.mem_cons, List.not_mem_nil, or_false] at hx
  rcases hx with rfl | rfl | rfl | rfl | rfl | rfl | rfl | rfl | rfl | rfl | rfl | rfl | rfl | rfl | rfl | rfl | rfl | rfl | rfl | rfl <;> decide
theorem alloc_at (w : World) (o : Obj) : (w.alloc o).heap[w.heap.size]? = some o := by
  show (w.heap.push o)[w.heap.size]? = some o
  simp
theorem setRow_alloc (w : World) (a b : Array Value) (t : TypeId) : (w.alloc (.cells a t)).setRow w.heap.size b = w.alloc (.cells b t) := by
  unfold World.setRow World.alloc
  congr 1
  apply Array.ext
  · simp
  · intro i h1 h2
    rw [Array.getElem_modify]
    by_cases h : i = w.heap.size
    · subst h; simp
    · have h3 : i < w.heap.size := by simp at h2; omega
      rw [if_neg (Ne.symm h)]
      simp [Array.getElem_push, h3]
set_option maxRecDepth 100000 in
set_option maxHeartbeats 4000000 in
theorem law_bytes (A : Option Addr) (zs : List Int) (c : Nat) (w : World) (hG : GlobV w) (hI : NumsAt w w.heap.size A c zs) :
    Calls Tryz.prog 4 #[.slice A zs.length c] w fun r w' => r = .returned (.bool true) ∧ Below w.heap.size w w' := by
  have HW := Keep.mk (fun (W : World) (hb : Below w.heap.size w W) => works6 W (hG.below hb))
  have HP := Keep.mk (fun (s : ByteArray) (hs : s.size ≤ 3600) (W : World) (hb : Below w.heap.size w W) => read_Parse s (by omega) W (hG.below hb))
  have HQ := Keep.mk (fun (s : ByteArray) (hs : s.size ≤ 3600) (W : World) => ref6_Parse s (by omega) W)
  have HI := Keep.mk hI
  have hz := hI.cap
  clear hG hI
  go_enter Tryz.func4, Tryz.ntmps4
  go_upto_region 1 with fail
  have hK := fun a' w' => ‹∀ (a : Act) (W : World), Code.wp Tryz.prog _ _ a W → _› a' w'
  apply wp_region_lit
  refine wpList_buildTo rfl 37 _ rfl (some 12) rfl pieceC (by as_aux_lemma => kernel_rfl) ?_
  refine Great.wpList_allocTo rfl (some 3) rfl (.pointer (some ⟨w.heap.size, 0, none⟩)) (.cells nothingC 37) (by as_aux_lemma => kernel_rfl) ?_
  refine wpList_store_rowTo rfl 37 _ _ rfl rfl w.heap.size pieceC rfl rfl 37 nothingC (alloc_at _ _) (by as_aux_lemma => kernel_rfl) (by as_aux_lemma => kernel_rfl) (by as_aux_lemma => kernel_rfl) ?_
  apply wpList_nil
  rw [setRow_alloc]
  refine ‹∀ (a : Act) (W : World), Code.wp Tryz.prog _ _ a W → _› _ _ ?_
  refine wp_world (fun W => Pieces w W w.heap.size) (pieces_new w pieceL 37 rfl pieces_le) ?_
  generalize w.heap.size = p0
  rintro W1 HT1
  replace HT1 := Keep.mk HT1
  have HI1 := Keep.mk (HI.out.below HT1.out.b)
  clear HI
  generalize (Value.agg pieceC) = ag
  simp only [Act.put]
  go_upto_block 0 with fail
  go_cut [4] (fun x4 wx => ∃ s : ByteArray, x4 = .string s ∧ s.size ≤ 3600 ∧ W1 = wx)
  case first =>
    go_wp2_with fail
    go_loopg [4, 5] 300 (fun gk x4 x5 wr => ∃ (j : Nat) (s : ByteArray), j + gk = 300 ∧ j ≤ zs.length ∧ x5 = .int .i64 j ∧ x4 = .string s ∧ s.size ≤ 12 * j ∧ W1 = wr)
    case atStart => exact ⟨0, ⟨#[]⟩, by omega, Nat.zero_le _, rfl, rfl, by decide, rfl⟩
    case round =>
      obtain ⟨j, s, hj, hjz, rfl, rfl, hsz, rfl⟩ := hrel
      by_cases hlt : j < zs.length
      · by_cases hlt2 : j < 300
        · have hgk : gk ≠ 0 := by omega
          obtain ⟨g, o, rfl, hg, hc⟩ := HI1.out.at_ (by omega)
          have hcj := hc j hlt
          have hgl : g < W1.heap.size := Nat.lt_of_lt_of_le hg HT1.out.b.size
          clear hc
          generalize zs[j] = z at *
          obtain ⟨m, hm, hm2⟩ : ∃ m : Nat, (IntKind.u64.wrap z).tmod 20 = m ∧ m < 20 := by
            have h1 := IntKind.wrap_u64 z
            have h2 : 0 ≤ IntKind.u64.wrap z := by omega
            refine ⟨((IntKind.u64.wrap z).tmod 20).toNat, ?_, ?_⟩ <;> rw [Int.tmod_eq_emod_of_nonneg h2] <;> omega
          obtain ⟨t, ht, htz⟩ := HT1.out.at_ m hm2
          have hp0 := HT1.out.lt
          go_wp2
          go_roundg (gk - 1)
          case rel => exact ⟨j + 1, _, by omega, by omega, by go_num, rfl, by rw [ByteArray.size_append]; omega, rfl⟩
          case measure => omega
        · obtain rfl : j = 300 := by omega
          go_wp2_with fail
          go_meet
          exact ⟨s, rfl, by omega, rfl⟩
      · obtain rfl : j = zs.length := by omega
        go_wp2_with fail
        go_meet
        exact ⟨s, rfl, by omega, rfl⟩
  case rest =>
    obtain ⟨s, rfl, hsz, rfl⟩ := hcut
    have HP1 := Keep.mk (HP.out s hsz W1 HT1.out.b)
    have HQ1 := Keep.mk (HQ.out s hsz)
    clear HP HQ HI1
    generalize readV madeJ s.data.toList = R1 at *
    obtain ⟨v1, a1, e1⟩ := R1
    have HB1 := Keep.mk HT1.out.b
    clear HT1 hsz
    go_upto_region 7 with fail
    go_wp2_with fail
    refine HP1.out.mono ?_
    rintro r w2 ⟨cs, rfl, hJ, hb2⟩
    have HJ1 := Keep.mk (blkP_new HB1.out hJ hb2)
    obtain ⟨k9, m9, e9, s9, A9, n9, c9, A8, n8, c8, rfl⟩ := hJ.cells
    clear hJ hb2 HP1 HB1
    simp only [cells6] at HJ1 ⊢
    go_upto_region 8 with fail
    refine wp_world (fun W => BlkP w W w2.heap.size v1 (cells6 k9 m9 e9 s9 A9 n9 c9 A8 n8 c8)) HJ1.out ?_
    generalize w2.heap.size = p
    clear HJ1
    rintro W3 HJ1
    replace HJ1 := Keep.mk HJ1
    go_wp2_with fail
    refine (HQ1.out _).mono ?_
    rintro r w4 ⟨cs, rfl, hJ, hb4⟩
    have HJ3 := Keep.mk ((HJ1.out.below hb4).below (al1 w4 (.cells cs.toArray 28)))
    have HJ2 := Keep.mk (blkP_new HJ1.out.b hJ hb4)
    obtain ⟨k7, m7, e7, s7, A7, n7, c7, A6, n6, c6, rfl⟩ := hJ.cells
    clear hJ hb4 HQ1 HJ1
    simp only [cells6] at HJ2 HJ3 ⊢
    go_upto_region 9 with fail
    refine wp_world (fun W => BlkP w W p v1 (cells6 k9 m9 e9 s9 A9 n9 c9 A8 n8 c8) ∧ BlkP w W w4.heap.size v1 (cells6 k7 m7 e7 s7 A7 n7 c7 A6 n6 c6)) ⟨HJ3.out, HJ2.out⟩ ?_
    generalize w4.heap.size = q
    clear HJ2 HJ3
    rintro W5 ⟨HJ1, HJ2⟩
    have HSM := Keep.mk (ref3_Same _ v1 v1 (Nat.le_refl _) W5 _ _ HJ1.j HJ2.j)
    have x0 := HJ1.v.box.cell 0 _ rfl
    have x1 := HJ1.v.box.cell 1 _ rfl
    have x2 := HJ1.v.box.cell 2 _ rfl
    have x3 := HJ1.v.box.cell 3 _ rfl
    have x4 := HJ1.v.box.cell 4 _ rfl
    have x5 := HJ1.v.box.cell 5 _ rfl
    have hxl := HJ1.v.box.lt
    have y0 := HJ2.v.box.cell 0 _ rfl
    have y1 := HJ2.v.box.cell 1 _ rfl
    have y2 := HJ2.v.box.cell 2 _ rfl
    have y3 := HJ2.v.box.cell 3 _ rfl
    have y4 := HJ2.v.box.cell 4 _ rfl
    have y5 := HJ2.v.box.cell 5 _ rfl
    have hyl := HJ2.v.box.lt
    have HB5 := Keep.mk HJ1.b
    clear HJ1 HJ2
    go_wp2_with fail
    refine HSM.out.mono ?_
    rintro r w6 ⟨rfl, hb6⟩
    rw [sameJ_self]
    have HB6 := Keep.mk (up HB5.out hb6)
    clear HSM hb6 HB5
    go_wp2_with fail
    refine (HW.out _ HB6.out).mono ?_
    rintro r w7 ⟨rfl, hb7⟩
    have HB7 := Keep.mk (up HB6.out hb7)
    clear HB6 HW hb7
    go_wp2
    go_ret
    exact ⟨rfl, HB7.out⟩
end Go.Proofs.YtbngjlkmpdccjaaGreatDoor
