/- Lemmas and contracts for the laws SyntaxPieces, part 47 of 48: RowX, LawPiec. Conditions: those that each lemma names. -/
import Derived.Test.YtinknjhclpaieaaGreatDoorPq15
import Derived.Test.YtinknjhclpaieaaGreatDoorPq46
import Derived.Great.Walk
import Derived.Outline
set_option maxRecDepth 100000
set_option maxHeartbeats 4000000
namespace Go.Proofs.YtinknjhclpaieaaGreatDoor
open Go Go.Deep Go.WideElems Go.ChangeShapes Go.WideShapes Go.ChangeAt Go.RowKit Go.Proofs Th
noncomputable def laidR : List (String × DataW Unit) := Rows.syntaxParsesRow.laid
theorem globR_of {W : World} (h : laidMetH Tryz.prog laidR W) : GlobV W := by
  have ht : Lib.TabIs Tryz.prog W "thimble/num.tens" .u64 tenTab :=
    Lib.tabIs_of_head (rest := []) gTens tTens Tryz.underlying128 Tryz.underlying38 u64Cells u64Cells20 (h.filter fun x => x.1 == "thimble/num.tens")
  have h3 : Lib.VarReads Tryz.prog W "unicode/utf8.first" Go.Pinned.utf8First := Lib.laidMet.reads (l := [("unicode/utf8.first", Go.Pinned.utf8First)]) (h.filter fun x => x.1 == "unicode/utf8.first") (.head _); have h4 : Lib.VarReads Tryz.prog W "unicode/utf8.acceptRanges" Rows.laid_unicode_utf8_acceptRanges := Lib.laidMet.reads (l := [("unicode/utf8.acceptRanges", Rows.laid_unicode_utf8_acceptRanges)]) (h.filter fun x => x.1 == "unicode/utf8.acceptRanges") (.head _); rw [first_same] at h3; rw [accept_same] at h4; refine ⟨⟨fun i hi => ?_⟩, utf8Tabs_of_readsT (U8Types.of260 Tryz.lays260) ⟨by kernel_rfl, by kernel_rfl, by kernel_rfl, by kernel_rfl, by kernel_rfl, by kernel_rfl, by kernel_rfl⟩ h3 h4⟩; rw [ht.cell gTens i hi]; congr 2
  revert i; decide
noncomputable def laidWorldR (os : Os) : World :=
  { World.holding Tryz.prog os ⟨#[], #[], []⟩ with heap := laidR.foldl lay (World.holding Tryz.prog os ⟨#[], #[], []⟩).heap }
theorem laid_metR (os : Os) : laidMet Tryz.prog laidR (laidWorldR os) :=
  laidMet_of_run3 8 (by kernel_rfl) (by kernel_rfl) (by kernel_rfl)
theorem globX_of {W : World} (h : W.ShapedOpen Tryz.prog) : GlobX W := Tryz.laysM143.s1_3 W h
open Go Go.RowKit Go.Proofs Th
attribute [local go_sem] aops aopsD stepA chkD disj aguard isWant aop aval abuil acall acallP acallR argsIV valOf aput startS mkS numb look upd toIV allIV zeroFV aload setSeg afill aelems cellsOf toSl toVal valsOf aidx abin ainR FV.ok IV.one IV.er IV.erA IV.er1 iI sI bI nodeIV nodesIV tokIV parIV faultV resP lift AThen ABlock AEnd resL resV rload rcOf imsOf oneV nodeJ kidsJ strJ knownJ selfJ noNJ noTf foot owns pruneS filtF filtO Value.oneCell'
attribute [local go_sem] ti_node ti_tok ti_par ti_fault ti_nodes ti_toks ti_strs ti_ints ti_str ti_int ti_num ti_errno
attribute [local go_sem] rdrIV ti_rdr St.next sel
attribute [local go_sem] resR zeroN nodesIV_append nodesIV_len kidC rowC nodeF
attribute [local go_sem] Above.cell sel
structure NumsAt (W : World) (B : Nat) (A : Option Addr) (c : Nat) (zs : List Int) : Prop where
  le : zs.length ≤ c
  cap : zs.length ≤ 140737488351232
  top : c ≤ 9223372036854775807
  i64 : ∀ z ∈ zs, I64 z
  at_ : 0 < zs.length → ∃ g o, A = some ⟨g, o, none⟩ ∧ g < B ∧ ∀ j (h : j < zs.length), W.cell? ⟨g, o + j, none⟩ = some (.int .i64 zs[j])
theorem NumsAt.below {W W' : World} {B : Nat} {A : Option Addr} {c : Nat} {zs : List Int} (h : NumsAt W B A c zs) (hb : Below B W W') : NumsAt W' B A c zs :=
  ⟨h.le, h.cap, h.top, h.i64, fun hn => by
    obtain ⟨g, o, e, hg, hc⟩ := h.at_ hn; exact ⟨g, o, e, hg, fun j hj => (cell_block (hb.block g hg)).trans (hc j hj)⟩⟩
structure Pieces (w W : World) (p : Nat) : Prop where
  b : Below w.heap.size w W
  lt : p < W.heap.size
  at_ : ∀ m, m < 48 → ∃ t : ByteArray, W.cell? ⟨p, m, none⟩ = some (.string t) ∧ t.size ≤ 15
theorem pieces_new (w : World) (l : List ByteArray) (t : TypeId) (hl : l.length = 48) (h : ∀ x ∈ l, x.size ≤ 15) : Pieces w (w.alloc (.cells (l.map Value.string).toArray t)) w.heap.size := by
  have hB : Box (w.alloc (.cells (l.map Value.string).toArray t)) w.heap.size (l.map Value.string) := Box.new _ t rfl; refine ⟨al1 w _, hB.lt, fun m hm => ⟨l[m], hB.cell m _ (by simp [hl, hm]), h _ (List.getElem_mem _)⟩⟩
def pieceL : List ByteArray := [⟨#[46]⟩, ⟨#[46, 46]⟩, ⟨#[46, 97]⟩, ⟨#[120]⟩, ⟨#[36, 120]⟩, ⟨#[49]⟩, ⟨#[34, 97, 34]⟩, ⟨#[34, 92, 40, 49, 41, 34]⟩, ⟨#[40]⟩, ⟨#[41]⟩, ⟨#[91]⟩, ⟨#[93]⟩, ⟨#[123]⟩, ⟨#[125]⟩, ⟨#[124]⟩, ⟨#[44]⟩, ⟨#[58]⟩, ⟨#[59]⟩, ⟨#[63]⟩, ⟨#[47, 47]⟩, ⟨#[61]⟩, ⟨#[124, 61]⟩, ⟨#[43, 61]⟩, ⟨#[61, 61]⟩, ⟨#[60]⟩, ⟨#[43]⟩, ⟨#[45]⟩, ⟨#[42]⟩, ⟨#[47]⟩, ⟨#[37]⟩, ⟨#[97, 110, 100]⟩, ⟨#[111, 114]⟩, ⟨#[105, 102]⟩, ⟨#[116, 104, 101, 110]⟩, ⟨#[101, 108, 105, 102]⟩, ⟨#[101, 108, 115, 101]⟩, ⟨#[101, 110, 100]⟩, ⟨#[116, 114, 121]⟩, ⟨#[99, 97, 116, 99, 104]⟩, ⟨#[114, 101, 100, 117, 99, 101]⟩, ⟨#[102, 111, 114, 101, 97, 99, 104]⟩, ⟨#[97, 115]⟩, ⟨#[100, 101, 102]⟩, ⟨#[102]⟩, ⟨#[97, 115, 32, 36, 120]⟩, ⟨#[49, 32, 97, 115, 32, 36, 121, 32, 124]⟩, ⟨#[105, 102, 32, 46, 32, 116, 104, 101, 110, 32, 46, 32, 101, 110, 100]⟩, ⟨#[100, 101, 102, 32, 102, 58, 32, 46, 59]⟩]
def pieceC : Array Value := (pieceL.map Value.string).toArray
def nothingC : Array Value := (List.replicate 48 (Value.string ⟨#[]⟩)).toArray
theorem pieces_le : ∀ x ∈ pieceL, x.size ≤ 15 := by decide
theorem alloc_at (w : World) (o : Obj) : (w.alloc o).heap[w.heap.size]? = some o := by
  show (w.heap.push o)[w.heap.size]? = some o
  simp
theorem setRow_alloc (w : World) (a b : Array Value) (t : TypeId) : (w.alloc (.cells a t)).setRow w.heap.size b = w.alloc (.cells b t) := by
  unfold World.setRow World.alloc; congr 1
  apply Array.ext
  · simp
  intro i h1 h2; rw [Array.getElem_modify]; by_cases h : i = w.heap.size
  · subst h; simp
  have h3 : i < w.heap.size := by simp at h2; omega
  rw [if_neg (Ne.symm h)]; simp [Array.getElem_push, h3]
theorem tail_ac {c : Code} {fn : Func} {n : Nat} (W : World) (hG : GX W (fun g _ => g < W.heap.size)) (a : Act) (hn : n ≤ a.tmps.size) (hd : a.defers = []) (fr : Nat → FV) (hfr : ∀ t, RepF W (fun g _ => g < W.heap.size) ⟨fun _ => 0, fun _ => undef⟩ (fun _ => .none) (fr t) (a.tmps.getD t undef))
    (h : ∀ X : Ctx, Fit X GX n → AW Tryz.prog X c (AEnd Tryz.prog fn (.ret (bI true) [])) ⟨fr, fun _ => .none⟩) : c.wp Tryz.prog (bodyPost Tryz.prog fn fun e w' => e = .returned (.bool true) ∧ Below W.heap.size W w') a W := by
  obtain ⟨X, hX⟩ : ∃ X : Ctx, X = ⟨W, fun g _ => g < W.heap.size, fun k => (none : Option (List IV)).isSome = true ∧ k = 0, a.tmps.size, 0, false, GX, gkX, []⟩ := ⟨_, rfl⟩
  have hrel : RelE X ⟨fun _ => 0, fun _ => undef⟩ (fun g _ => g < W.heap.size) ⟨fr, fun _ => .none⟩ a W :=
    ⟨by rw [hX], by rw [hX]; exact hd, hfr, fun id => trivial, fun i j g hi _ => (by cases hi), fun g o h => h, fun g o ho => by rw [hX] at ho; exact ho, fun g o ho => Or.inl (by rw [hX]; exact ho), by rw [hX]; exact UpdR.refl _ _, by rw [hX]; exact hG, by rw [hX], fun h => by rw [hX] at h; cases h⟩
  refine wp_mono (h X ⟨by rw [hX], by rw [hX]; exact hn⟩ a W ⟨_, _, hrel⟩) fun e a' W' hq => ?_
  have hret : ∀ {s : ASt}, Rel X s a' W' → (∃ l rc, resL Tryz.prog s fn.results.toList = some l ∧ rcOf s = some rc ∧ ARes.ret (bI true) [] = .ret (oneV l).er rc) → a'.defers = [] ∧ ∃ v, (results fn a'.tmps).run Tryz.prog W' = .ok v W' ∧ Ending.returned v = .returned (.bool true) ∧ Below W.heap.size W W' := by
    rintro s ⟨E', S', hRel⟩ ⟨l, rc', h1, h2, h3⟩; obtain ⟨u, hu1, hu2⟩ := results_rep hRel h1; injection h3 with h3 h4; rw [← h3] at hu2; have hu := hRel.u; rw [hX] at hu; obtain rfl := rep_v hu2; exact ⟨hRel.df.trans (by rw [hX]), _, hu1, rfl, hu.os, hu.tape, hu.output, hu.size, fun k hk => hu.block k hk (fun h => by cases h.1)⟩
  cases e with
  | normal => obtain ⟨s, hRel, hA⟩ := hq; exact hret hRel hA
  | ret => obtain ⟨s, hRel, hA⟩ := hq; exact hret hRel hA
  | panic ch => obtain ⟨s, x, rfl, _, h3⟩ := hq; cases h3
  | exit id => obtain ⟨s, _, hA⟩ := hq; exact hA.elim
  | goto l => obtain ⟨s, _, hA⟩ := hq; exact hA.elim
  | outgrown => exact hq.elim
theorem law_pieces (A : Option Addr) (zs : List Int) (c : Nat) (w : World) (hg : Glob w) (hu : Utf w) (hm : GlobX w) (hI : NumsAt w w.heap.size A c zs) :
    Calls Tryz.prog 4 #[.slice A zs.length c] w fun r w' => r = .returned (.bool true) ∧ Below w.heap.size w w' := by
  have HG := Keep.mk (fun (W : World) (hb : Below w.heap.size w W) => gx_old (hg.below hb) (hu.below hb) (hm.below hb)); have HI := Keep.mk hI; have hz := hI.cap; clear hg hu hm hI; go_enter Tryz.func4, Tryz.ntmps4
  go_upto_region 1 with fail
  have hK := fun a' w' => ‹∀ (a : Act) (W : World), Code.wp Tryz.prog _ _ a W → _› a' w'
  apply wp_region_lit; refine wpList_buildTo rfl 37 _ rfl (some 12) rfl pieceC (by as_aux_lemma => kernel_rfl) ?_; refine Great.wpList_allocTo rfl (some 3) rfl (.pointer (some ⟨w.heap.size, 0, none⟩)) (.cells nothingC 37) (by as_aux_lemma => kernel_rfl) ?_; refine wpList_store_rowTo rfl 37 _ _ rfl rfl w.heap.size pieceC rfl rfl 37 nothingC (alloc_at _ _) (by as_aux_lemma => kernel_rfl) (by as_aux_lemma => kernel_rfl) (by as_aux_lemma => kernel_rfl) ?_; apply wpList_nil; rw [setRow_alloc]; refine ‹∀ (a : Act) (W : World), Code.wp Tryz.prog _ _ a W → _› _ _ ?_
  refine wp_world (fun W => Pieces w W w.heap.size) (pieces_new w pieceL 37 rfl pieces_le) ?_; generalize w.heap.size = p0; rintro W1 HT1; replace HT1 := Keep.mk HT1; have HI1 := Keep.mk (HI.out.below HT1.out.b); clear HI; generalize (Value.agg pieceC) = ag; simp only [Act.put]; go_upto_block 0 with fail
  go_cut [4] (fun x4 wx => ∃ s : ByteArray, x4 = .string s ∧ s.size ≤ 1280 ∧ W1 = wx)
  case first =>
    go_wp2_with fail
    go_loopg [4, 5] 80 (fun gk x4 x5 wr => ∃ (j : Nat) (s : ByteArray), j + gk = 80 ∧ j ≤ zs.length ∧ x5 = .int .i64 j ∧ x4 = .string s ∧ s.size ≤ 16 * j ∧ W1 = wr)
    case atStart => exact ⟨0, ⟨#[]⟩, by omega, Nat.zero_le _, rfl, rfl, by decide, rfl⟩
    case round =>
      obtain ⟨j, s, hj, hjz, rfl, rfl, hsz, rfl⟩ := hrel; by_cases hlt : j < zs.length
      · by_cases hlt2 : j < 80
        · have hgk : gk ≠ 0 := by omega
          obtain ⟨g, o, rfl, hg, hc⟩ := HI1.out.at_ (by omega); have hcj := hc j hlt; have hgl : g < W1.heap.size := Nat.lt_of_lt_of_le hg HT1.out.b.size; clear hc; generalize zs[j] = z at *; obtain ⟨m, hm, hm2⟩ : ∃ m : Nat, (IntKind.u64.wrap z).tmod 48 = m ∧ m < 48 := by
            have h1 := IntKind.wrap_u64 z; have h2 : 0 ≤ IntKind.u64.wrap z := by omega
            refine ⟨((IntKind.u64.wrap z).tmod 48).toNat, ?_, ?_⟩ <;> rw [Int.tmod_eq_emod_of_nonneg h2] <;> omega
          obtain ⟨t, ht, htz⟩ := HT1.out.at_ m hm2; have hp0 := HT1.out.lt; go_wp2
          go_roundg (gk - 1)
          case rel => exact ⟨j + 1, _, by omega, by omega, by go_num, rfl, by rw [ByteArray.size_append, ByteArray.size_append]; show s.size + (t.size + 1) ≤ _; omega, rfl⟩
          case measure => omega
        obtain rfl : j = 80 := by omega
        go_wp2_with fail
        go_meet
        exact ⟨s, rfl, by omega, rfl⟩
      obtain rfl : j = zs.length := by omega
      go_wp2_with fail
      go_meet
      exact ⟨s, rfl, by omega, rfl⟩
  case rest =>
    obtain ⟨s, rfl, hsz, rfl⟩ := hcut; have hB1 := HT1.out.b; have hGX := HG.out W1 hB1; obtain ⟨n, ap, ep, c1, c2⟩ := parse_both s (by omega); have c3 := r_Same gkX (depJ n) n (Nr _); have cw := syn_works; clear HG HI1 HT1; have hK := ‹∀ (a : Act) (W : World), Code.wp Tryz.prog _ _ a W → _›
    obtain ⟨k1, t1, m1, q1, l1, b1⟩ := n; refine hK _ _ (wp_mono (tail_ac (fn := Tryz.f4) (n := 63) W1 hGX _ ?hn rfl (look .junk [(4, .im (sI s))]) ?hfr ?hA) ?hP)
    case hn => simp
    case hfr =>
      intro t; match t with
      | 0 => trivial
      | 1 => trivial
      | 2 => trivial
      | 3 => trivial
      | 4 => exact .v _
      | n + 5 =>
        rw [show look FV.junk [(4, .im (sI s))] (n + 5) = .junk from by simp [look]]; trivial
    case hA =>
      intro X F; clear hK hGX; apply Ar F; go_simp; refine ⟨_, c1, ?_⟩; go_simp; apply Ar F; go_simp; refine ⟨_, c2, ?_⟩; go_simp; (repeat apply Aq); refine AW.regL F [0, 1, 2] [3, 4, 5, 6, 7, 8, 9, 10, 11, 12, 13, 14, 15, 16] (by rfl) ?_; go_simp; refine ⟨_, c3, ?_⟩; go_simp; refine laterL_I [3, 4, 5, 6, 7, 8, 9, 10, 11, 12, 13, 14] [15, 16] ?_; go_simp; refine ⟨_, cw, ?_⟩; go_simp; refine laterL_E ?_; go_simp; apply Au; go_simp
    case hP =>
      intro e a' W' hq; cases e with
      | normal => obtain ⟨hd, v, hr, he, hb⟩ := hq; exact ⟨hd, v, hr, he, up hB1 hb⟩
      | ret => obtain ⟨hd, v, hr, he, hb⟩ := hq; exact ⟨hd, v, hr, he, up hB1 hb⟩
      | panic ch => obtain ⟨_, he, _⟩ := hq; cases he
      | outgrown => obtain ⟨he, _⟩ := hq; cases he
      | exit id => exact hq
      | goto l => exact hq
end Go.Proofs.YtinknjhclpaieaaGreatDoor
