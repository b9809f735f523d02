/- Lemmas and contracts for the laws ReadParses, ReadBytes, part 36 of 50: ReadPb, Ref6T. Conditions: those that each lemma names. -/
import Derived.Test.YtbngjlkmpdccjaaGreatDoorPack34
import Derived.Test.YtbngjlkmpdccjaaGreatDoorPack30
import Derived.Test.YtbngjlkmpdccjaaGreatDoorPack12
import Derived.Test.YtbngjlkmpdccjaaGreatDoorPack20
import Derived.Test.YtbngjlkmpdccjaaGreatDoorPack35
import Derived.Test.YtbngjlkmpdccjaaGreatDoorPack24
import Derived.Outline
namespace Go.Proofs.YtbngjlkmpdccjaaGreatDoor
open Go Go.RowKit Go.Proofs Th
attribute [local go_sem] Above.cell
set_option maxRecDepth 100000 in
/-- read.Parse's frame at its labels: the text, the boxes; all else is passed over -/
inductive FrameP (s : ByteArray) (b : Nat) : Act → Prop
  | mk (u1 u3 u4 u7 u8 u9 u10 u11 u12 u13 u14 u15 u16 u17 u18 u19 u20 u21 u22 u23 u24 u25 u26 u27 u28 u29 u30 u31 u32 u33 u34 u35 u36 u37 u38 u39 u40 u41 u42 u43 u44 u45 u46 u47 u48 u49 u50 u51 u52 u53 u54 u55 u56 u57 u58 u59 u60 u61 u62 u63 u64 u65 u66 u67 u68 u69 u70 u71 u72 u73 u74 u75 u76 u77 u78 u79 u80 u81 u82 u83 u84 u85 u86 u87 u88 u89 u90 u91 u92 u93 u94 u95 u96 u97 u98 u99 u100 u101 u102 u103 u104 u105 u106 u107 u108 u109 u110 u111 u112 u113 u114 u115 u116 u117 u118 u119 u120 u121 u122 u123 u124 u125 u126 u127 u128 u129 u130 u131 u132 u133 u134 u135 u136 u137 u138 u139 u140 u141 u142 u143 u144 u145 u146 u147 u148 u149 u150 u151 u152 u153 u154 u155 u156 u157 u158 u159 u160 u161 u162 u163 u164 u165 u166 u167 u168 u169 u170 u171 u172 u173 u174 u175 u176 u177 u178 u179 u180 u181 u182 u183 u184 u185 u186 u187 u188 u189 u190 u191 u192 u193 u194 u195 u196 u197 u198 u199 u200 u201 u202 u203 u204 u205 u206 u207 u208 u209 u210 u211 u212 u213 u214 u215 u216 u217 u218 u219 u220 u221 u222 u223 u224 u225 u226 u227 u228 u229 u230 u231 u232 u233 u234 u235 u236 u237 u238 u239 u240 u241 u242 u243 u244 u245 u246 u247 u248 u249 : Value) : FrameP s b { tmps := #[.string s, u1, .pointer (some ⟨b, 0, none⟩), u3, u4, .pointer (some ⟨b + 1, 0, none⟩), .pointer (some ⟨b + 2, 0, none⟩), u7, u8, u9, u10, u11, u12, u13, u14, u15, u16, u17, u18, u19, u20, u21, u22, u23, u24, u25, u26, u27, u28, u29, u30, u31, u32, u33, u34, u35, u36, u37, u38, u39, u40, u41, u42, u43, u44, u45, u46, u47, u48, u49, u50, u51, u52, u53, u54, u55, u56, u57, u58, u59, u60, u61, u62, u63, u64, u65, u66, u67, u68, u69, u70, u71, u72, u73, u74, u75, u76, u77, u78, u79, u80, u81, u82, u83, u84, u85, u86, u87, u88, u89, u90, u91, u92, u93, u94, u95, u96, u97, u98, u99, u100, u101, u102, u103, u104, u105, u106, u107, u108, u109, u110, u111, u112, u113, u114, u115, u116, u117, u118, u119, u120, u121, u122, u123, u124, u125, u126, u127, u128, u129, u130, u131, u132, u133, u134, u135, u136, u137, u138, u139, u140, u141, u142, u143, u144, u145, u146, u147, u148, u149, u150, u151, u152, u153, u154, u155, u156, u157, u158, u159, u160, u161, u162, u163, u164, u165, u166, u167, u168, u169, u170, u171, u172, u173, u174, u175, u176, u177, u178, u179, u180, u181, u182, u183, u184, u185, u186, u187, u188, u189, u190, u191, u192, u193, u194, u195, u196, u197, u198, u199, u200, u201, u202, u203, u204, u205, u206, u207, u208, u209, u210, u211, u212, u213, u214, u215, u216, u217, u218, u219, u220, u221, u222, u223, u224, u225, u226, u227, u228, u229, u230, u231, u232, u233, u234, u235, u236, u237, u238, u239, u240, u241, u242, u243, u244, u245, u246, u247, u248, u249], defers := [] }
def wantP (L : Nat) (ph : Ph) (a : Nat) : Nat := match ph with | .end_ => 2 * (L - a) + 1 | _ => 2 * (L - a) + 2
def offW (ph : Ph) (v : JV) : Nat := match ph with | .off => sizeJ v | _ => 0
structure GS (L : List UInt8) (RV : JV × Nat × Int) (w : World) (n : Nat) (ph : Ph) (st : List OJ) (v : JV) (t : Tk) (rs : List Row) (sv : Value) (cs : List Value) (W : World) : Prop where
  big : L.length ≤ 16384
  ps : PS w W st rs sv t cs
  six : ∃ k m e s A n c A' n' c', cs = cells6 k m e s A n c A' n' c'
  run : readP madeJ L n ph st v t = RV
  fuel : wantP L.length ph t.at_ ≤ n
  tok : ∃ p, p ≤ L.length ∧ t = nextT L p
  len : st.length ≤ 48
  wt : weighS st + offW ph v ≤ t.at_
  off : ph = .off → JIn W (Still W (w.heap.size + 3) sv rs) v cs
  top : ph = .key ∨ ph = .end_ → st ≠ []
  sh : ph = .end_ → t.e = 0 ∧ t.sign ≠ 255
def phL : Nat → Ph
  | 0 => .off
  | 1 => .val
  | 2 => .end_
  | _ => .key
abbrev JP (s : ByteArray) (RV : JV × Nat × Int) (w : World) (n l : Nat) (a : Act) (W : World) : Prop :=
  FrameP s w.heap.size a ∧ ∃ st v t rs sv cs, GS s.data.toList RV w n (phL l) st v t rs sv cs W
structure TokF (L : List UInt8) (t : Tk) : Prop where
  at_ : t.at_ ≤ L.length
  to_ : t.to_ ≤ L.length
  wt : t.e = 0 → t.sign ≠ 255 → t.at_ + 1 + t.s.size ≤ t.to_
theorem GS.tokF {L : List UInt8} {RV : JV × Nat × Int} {w : World} {n : Nat} {ph : Ph} {st : List OJ} {v : JV} {t : Tk} {rs : List Row} {sv : Value} {cs : List Value} {W : World} (h : GS L RV w n ph st v t rs sv cs W) : TokF L t := by
  obtain ⟨p, hp, rfl⟩ := h.tok
  have h1 := nextT_to L p hp
  exact ⟨h1.2.2, h1.1, nextT_weight L p⟩
theorem next_tokF (L : List UInt8) (p : Nat) (hp : p ≤ L.length) : TokF L (nextT L p) ∧ p ≤ (nextT L p).at_ := by
  have h1 := nextT_to L p hp
  exact ⟨⟨h1.2.2, h1.1, nextT_weight L p⟩, h1.2.1⟩
theorem PS.tb {w W : World} {st : List OJ} {rs : List Row} {sv : Value} {t : Tk} {cs : List Value} (h : PS w W st rs sv t cs) : Box W (w.heap.size + 2) (tokC t) := by
  have ht := h.t
  exact ⟨fun i v hv => by simp only [World.cell?, ht]; simpa using hv, fun i => by simp [World.frozen?, ht], lt_of_block ht⟩
structure ErrI (w : World) (t : Tk) (cs : List Value) (k : Nat) (L : Nat → Bool) (W : World) : Prop where
  b : Below w.heap.size w W
  t : Box W (w.heap.size + 2) (tokC t)
  v0 : L k = false → VBlkT W w.heap.size cs
  v1 : L k = true → VBlkT W w.heap.size zero6
theorem ErrI.new {w W : World} {st : List OJ} {rs : List Row} {sv : Value} {t : Tk} {cs : List Value} {k : Nat} (h : PS w W st rs sv t cs) : ErrI w t cs k (fun _ => false) { W with drawn := W.drawn + 1 } := by
  have h := h.below (below_drawn W)
  exact ⟨h.b, h.tb, fun _ => h.v, fun h => by cases h⟩
theorem ErrI.step {w W : World} {t : Tk} {cs : List Value} {k j : Nat} {L : Nat → Bool} (h : ErrI w t cs k L W) (hj : k ≠ j) : ErrI w t cs k (fun i => decide (i = j) || L i) W :=
  ⟨h.b, h.t, fun e => h.v0 (by simpa [hj] using e), fun e => h.v1 (by simpa [hj] using e)⟩
theorem ErrI.put {w W : World} {t : Tk} {k9 m9 e9 : Int} {s9 : ByteArray} {A9 : Option Addr} {n9 c9 : Nat} {A8 : Option Addr} {n8 c8 k : Nat} {L : Nat → Bool} (h : ErrI w t (cells6 k9 m9 e9 s9 A9 n9 c9 A8 n8 c8) k L W) (hk : L k = false) :
    ErrI w t (cells6 k9 m9 e9 s9 A9 n9 c9 A8 n8 c8) k (fun i => decide (i = k) || L i) (six W w.heap.size (.int .i64 0) (.int .i64 0) (.int .i64 0) (.string ⟨#[]⟩) (.slice none 0 0) (.slice none 0 0)) :=
  ⟨h.b.trans (six_below _ _ _ _ _ _ _ _ (Nat.le_refl _)), ⟨fun i v hv => (cell_block (six_other _ _ _ _ _ _ _ _ _ (by omega))).trans (h.t.cell i v hv), fun i => by
    have := six_other W w.heap.size (.int .i64 0) (.int .i64 0) (.int .i64 0) (.string ⟨#[]⟩) (.slice none 0 0) (.slice none 0 0) (w.heap.size + 2) (by omega)
    have h2 := h.t.froz i
    simp only [World.frozen?] at h2 ⊢
    rw [this]; exact h2, by have := h.t.lt; simp [six]; omega⟩, fun e => by simp at e, fun _ => (h.v0 hk).six _ _ _ _ _ _⟩
theorem fuel_pos {L n a : Nat} {ph : Ph} (h : wantP L ph a ≤ n) : ∃ f, n = f + 1 := ⟨n - 1, by cases ph <;> simp only [wantP] at h <;> omega⟩
structure TopAt (w W : World) (sv : Value) (r : Row) (rs : List Row) (g : Nat) : Prop where
  own : sv.ownBlock = some g
  lo : w.heap.size + 3 ≤ g
  hi : g < W.heap.size
  cell : ∀ i u, (cells3 r)[i]? = some u → ∀ W' : World, W'.heap[g]? = W.heap[g]? → W'.cell? ⟨g, rs.length * 3 + i, none⟩ = some u
  froz : ∀ (i : Nat) (W' : World), W'.heap[g]? = W.heap[g]? → W'.frozen? ⟨g, i, none⟩ = false
  top : ∀ W' : World, W'.heap[w.heap.size + 1]? = W.heap[w.heap.size + 1]? → W'.heap[g]? = W.heap[g]? → Calls Tryz.prog 11 #[.pointer (some ⟨w.heap.size + 1, 0, none⟩)] W' fun r w' => r = .returned (.pointer (some ⟨g, rs.length * 3, none⟩)) ∧ Below W'.heap.size W' w'
theorem frozen_block {W W' : World} {g i : Nat} (h : W'.heap[g]? = W.heap[g]?) : W'.frozen? ⟨g, i, none⟩ = W.frozen? ⟨g, i, none⟩ := by simp only [World.frozen?]; rw [h]
theorem PS.topAt {w W : World} {st : List OJ} {rs : List Row} {sv : Value} {t : Tk} {cs : List Value} {o : OJ} {r : Row} (h : PS w W (o :: st) (r :: rs) sv t cs) (hl : (o :: st).length ≤ 1000) : ∃ g, TopAt w W sv r rs g := by
  have hO := h.o
  rw [List.reverse_cons] at hO
  obtain ⟨g, c, e, h1, h2, h3, h4, h5, h6, h7⟩ := hO.at (by simp)
  have hlen := h.rows.len
  subst e
  refine ⟨g, rfl, h1, h2, fun i u hu W' hW => ?_, fun i W' hW => (frozen_block hW).trans (h6 i), fun W' hs hg => ?_⟩
  · rw [show rs.length = rs.reverse.length from List.length_reverse.symm]
    have := h5 rs.reverse.length (by simp) i u (by rw [List.getElem_append_right (Nat.le_refl _)]; simpa using hu)
    exact (cell_block hW).trans this
  · have hO' : OpensAt W' (w.heap.size + 3) _ (rs.reverse ++ [r]) := row_keep hO (fun b hb => by injection hb with hb; subst hb; exact hg)
    refine (stack_top (w.heap.size + 1) _ _ (w.heap.size + 3) W' (hs.trans h.s) hO' (by simp) (by simp at hlen hl ⊢; omega)).mono ?_
    rintro r' w' ⟨g', e, rfl, hb⟩
    injection e with e
    subst e
    exact ⟨by simp, hb⟩
set_option maxRecDepth 100000 in
/-- append of texts, as an operation -/
theorem op_append_strs {w : World} {o : Oper} {a : Act} {K : Act → World → Prop} {Q : Exit → Act → World → Prop} (s x : Operand)
    (ho : o.op = .call { callee := .builtin .append, args := #[s, x], argTypes := #[26, 26] })
    (base : Nat) (v : Value) (ks : List ByteArray) (hs : a.eval s = v) (hown : OwnS w base v ks) (S : Nat → Prop) (A : Option Addr) (n c : Nat) (es : List ByteArray) (hn : n = es.length) (hx : a.eval x = .slice A n c) (hr : StrsIn w S A c es)
    (hl : ks.length + es.length ≤ 1000000000) (hbase : base ≤ w.heap.size)
    (h : ∀ v' w', OwnS w' base v' (ks ++ es) → w.grownBy w' v.ownBlock → (v'.ownBlock = v.ownBlock ∨ v'.ownBlock = some w.heap.size) → K (a.put o.dst v') w') : Oper.wp Tryz.prog o a w K Q := by
  subst hn
  obtain ⟨v', w', hrun, h2, h3, h4⟩ := run_append_strs (w := w) o.type base v ks hown S A c es hr hl hbase
  unfold Oper.wp execOp
  simp only [ho, resolve, invoke, builtin, Sem.run_bind, Sem.run_pure, Result.andThen_ok, List.map_toArray, List.map_cons, List.map_nil, hs, hx, hrun]
  exact h _ _ h2 h3 h4
theorem PS.new_still {w W W' : World} {st : List OJ} {rs : List Row} {sv : Value} {t : Tk} {cs : List Value} (h : PS w W st rs sv t cs) {b : Nat} (hb : newIn W W' b) : Still W' (w.heap.size + 3) sv rs b :=
  ⟨Nat.le_trans h.size hb.1, hb.2, fun e => by have := (h.o.lt b e).2; have := hb.1; omega, fun r hr => by
    obtain ⟨o, ho⟩ := h.rows.own r hr
    exact ⟨fun e => by have := (ho.lt b (Or.inl e)).2; have := hb.1; omega, fun e => by have := (ho.lt b (Or.inr e)).2; have := hb.1; omega⟩⟩
theorem rows_cons {st : List OJ} {rs : List Row} (h : st ≠ []) (hl : rs.length = st.length) : ∃ o st' k0 kv lv rs', st = o :: st' ∧ rs = (k0, kv, lv) :: rs' := by
  cases st with
  | nil => exact absurd rfl h
  | cons o st' =>
    cases rs with
    | nil => simp at hl
    | cons r rs' => obtain ⟨k0, kv, lv⟩ := r; exact ⟨o, st', k0, kv, lv, rs', rfl, rfl⟩
theorem strs_one (w : World) (x : ByteArray) (hx : x.size ≤ 140737488351232) (o : TypeId) : StrsIn (w.alloc (.cells #[.string x] o)) (fun b => b = w.heap.size) (some ⟨w.heap.size, 0, none⟩) 1 [x] :=
  ⟨by simp, by simp, by simp, fun k hk => by rw [List.mem_singleton.1 hk]; exact hx, fun _ => ⟨w.heap.size, 0, rfl, rfl, fun j hj => by
    obtain rfl : j = 0 := by simpa using hj
    have h := heap_alloc_new w (.cells #[.string x] o)
    show World.cell? _ ⟨w.heap.size, 0 + 0, none⟩ = _
    unfold World.cell?
    simp only [h]
    rfl⟩⟩
theorem grown_trans {w a b : World} {r : Option Nat} (h : w.grownBy a r) (h2 : a.grownBy b r) : w.grownBy b r := ⟨h2.os.trans h.os, h2.tape.trans h.tape, h2.output.trans h.output, Nat.le_trans h.size h2.size, fun k hk hn => (h2.block k (Nat.lt_of_lt_of_le hk h.size) hn).trans (h.block k hk hn)⟩
theorem grown_below {w a b : World} {r : Option Nat} (h : w.grownBy a r) (h2 : Below a.heap.size a b) : w.grownBy b r := grown_trans h ⟨h2.os, h2.tape, h2.output, h2.size, fun k hk _ => h2.block k hk⟩
noncomputable def bodyP : Code := match Tryz.f6.body with
  | some (.seq _ (.scope c)) => c
  | _ => .skip
noncomputable def restP (l : Nat) : Code := (findLabel bodyP l).getD .skip
abbrev QP (w : World) (RV : JV × Nat × Int) : Exit → Act → World → Prop := bodyPost Tryz.prog Tryz.f6 fun r w' =>
    ∃ cs, r = .returned (.tuple #[.agg (List.toArray cs), .int .i64 RV.2.1, .int .i64 RV.2.2]) ∧ JIn w' (newIn w w') RV.1 cs ∧ Below w.heap.size w w'
noncomputable abbrev outP (s : ByteArray) (RV : JV × Nat × Int) (w : World) (n : Nat) : Exit → Act → World → Prop :=
  outBy (four (restP 0) (restP 1) (restP 2) (restP 3)) (fun l' a' w' => ∃ m, m < n ∧ JP s RV w m l' a' w') (QP w RV)
theorem outP_ret (s : ByteArray) (RV : JV × Nat × Int) (w : World) (n : Nat) (a : Act) (W : World) : outP s RV w n .ret a W = QP w RV .ret a W := rfl
noncomputable def tailP (l : Nat) : Code := match findLabel bodyP l with
  | some (.seq .skip X) => X
  | _ => .skip
theorem pass_of {l : Nat} {X : Code} {Q : Exit → Act → World → Prop} {a : Act} {w : World} (h : findLabel bodyP l = some (.seq .skip X)) (hp : X.wp Tryz.prog Q a w) : (tailP l).wp Tryz.prog Q a w := by
  unfold tailP
  rw [h]
  exact hp
theorem tail_use {l : Nat} {X : Code} {Q : Exit → Act → World → Prop} {a : Act} {w : World} (h : findLabel bodyP l = some (.seq .skip X)) (hp : (tailP l).wp Tryz.prog Q a w) : X.wp Tryz.prog Q a w := by
  unfold tailP at hp
  rw [h] at hp
  exact hp
theorem rest_of {l : Nat} {X : Code} {Q : Exit → Act → World → Prop} {a : Act} {w : World} (h : findLabel bodyP l = some (.seq .skip X)) (hp : (tailP l).wp Tryz.prog Q a w) : (restP l).wp Tryz.prog Q a w := by
  unfold restP
  rw [h]
  exact wp_seq (wp_skip (tail_use h hp))
end Go.Proofs.YtbngjlkmpdccjaaGreatDoor
namespace Th
open Go Go.Lib
def tokR (t : Tk) : Tk := if t.sign = 255 then ⟨1, t.k, t.m, t.x, t.s, t.at_, t.to_, t.e⟩ else t
def tokensV (l : List UInt8) : Nat → Nat → List Tk
  | 0, _ => []
  | f + 1, a => if (nextT l a).sign = 255 ∨ (nextT l a).e ≠ 0 then [tokR (nextT l a)] else nextT l a :: tokensV l f (nextT l a).to_
theorem nextT_W2 (l : List UInt8) (a : Nat) (h : a ≤ l.length) : (nextT l a).to_ ≤ l.length ∧ ((nextT l a).e = 0 → (nextT l a).sign ≠ 255 → a + 1 ≤ (nextT l a).to_) := by
  have h2 := nextT_to l a h
  exact ⟨h2.1, fun he hs => by have := nextT_weight l a he hs; omega⟩
end Th
namespace Go.Proofs.YtbngjlkmpdccjaaGreatDoor
open Go Go.RowKit Go.Proofs Th
attribute [local go_sem] Above.cell
def OwnT (w : World) (base : Nat) (v : Value) (ts : List Tk) : Prop := w.ownsRow base 68 9 v ts.length (ts.flatMap tok9)
theorem OwnT.nil (w : World) (base : Nat) : OwnT w base (.slice none 0 0) [] := World.ownsRow_nil w base _ 9
theorem OwnT.keep {w w' : World} {base : Nat} {v : Value} {ts : List Tk} (h : OwnT w base v ts) (hb : ∀ k, v.ownBlock = some k → w'.heap[k]? = w.heap[k]?) : OwnT w' base v ts := row_keep h hb
theorem OwnT.lt {w : World} {base : Nat} {v : Value} {ts : List Tk} (h : OwnT w base v ts) : ∀ k, v.ownBlock = some k → base ≤ k ∧ k < w.heap.size := own_block_lt h
theorem OwnT.below {w w' : World} {base : Nat} {v : Value} {ts : List Tk} (h : OwnT w base v ts) (hb : Below w.heap.size w w') : OwnT w' base v ts := h.keep fun k hk => hb.block k (h.lt k hk).2
theorem toks_info : (Tryz.prog.info? 68).map (fun i => (i.zero, i.size, i.bytes)) = some (some (.agg (tok9 ⟨0, 0, 0, 0, ⟨#[]⟩, 0, 0, 0⟩).toArray), 9, 112) := by kernel_rfl
theorem tok_one (t : Tk) : ∀ u ∈ tok9 t, u.oneCell' = true := by
  intro u hu
  simp only [tok9, List.mem_cons, List.not_mem_nil, or_false] at hu
  rcases hu with rfl | rfl | rfl | rfl | rfl | rfl | rfl | rfl | rfl <;> rfl
set_option maxRecDepth 100000 in
theorem wpList_append_tok {w : World} {ops : Array Oper} {rest : List Oper} {o : Oper} {a : Act} {Q : Exit → Act → World → Prop} (hgd : o.guard = none) (s x : Operand)
    (ho : o.op = .call { callee := .builtin .append, args := #[s, x], argTypes := #[54, 54] })
    (base : Nat) (v : Value) (ts : List Tk) (hs : a.eval s = v) (hown : OwnT w base v ts) (p : Nat) (t : Tk) (hx : a.eval x = .slice (some ⟨p, 0, none⟩) 1 1) (hc : w.heap[p]? = some (.cells (tok9 t).toArray 68 (0, 0)))
    (hl : ts.length + 1 ≤ 1000000000) (hbase : base ≤ w.heap.size)
    (h : ∀ v' w', OwnT w' base v' (ts ++ [t]) → w.grownBy w' v.ownBlock → wpList Tryz.prog ops Q rest (a.put o.dst v') w') : wpList Tryz.prog ops Q (o :: rest) a w := by
  refine wpList_plain hgd fun K hK => ?_
  obtain ⟨i, hi, hz, hsize, hby⟩ := info_parts toks_info
  have hcell : ∀ j u, (tok9 t)[j]? = some u → w.cell? ((⟨p, 0, none⟩ : Addr).add j) = some u := by
    intro j u hu
    rw [add_at, Nat.zero_add]
    unfold World.cell?
    simp only [hc]
    simpa using hu
  obtain ⟨v', w', hrun, h2, h3, _, _⟩ := run_append_own_at (P := Tryz.prog) w base 54 o.type 68 i _ 9 112 Tryz.underlying54 hi hz hsize hby rfl (by omega) v ts.length _ hown ⟨p, 0, none⟩ 1 1 (tok9 t) rfl hcell (tok_one t) (by simp [maxLen]; omega) (by omega) hbase
  unfold Oper.wp execOp
  simp only [ho, resolve, invoke, builtin, Sem.run_bind, Sem.run_pure, Result.andThen_ok, List.map_toArray, List.map_cons, List.map_nil, hs, hx, hrun]
  exact hK _ _ (h v' w' (by unfold OwnT; rw [List.length_append, List.flatMap_append]; simpa using h2) h3)
set_option maxRecDepth 100000 in
set_option maxHeartbeats 4000000 in
theorem ref6_Tokens (s : ByteArray) (hs : s.size ≤ 100000) (w : World) : Calls Tryz.prog 14 #[.string s] w fun r w' =>
    ∃ v, r = .returned v ∧ OwnT w' w.heap.size v (tokensV s.data.toList (s.size + 1) 0) ∧ Below w.heap.size w w' := by
  have HL := Keep.mk (size_listU s)
  obtain ⟨TS, hTS⟩ : ∃ ts, tokensV s.data.toList (s.size + 1) 0 = ts := ⟨_, rfl⟩
  rw [hTS]
  replace hTS := Keep.mk hTS
  go_enter Tryz.func14, Tryz.ntmps14
  go_wp2_with fail
  go_loopg [3, 4] (s.size + 1) (fun gk v i wr => ∃ (vo : Value) (a : Nat) (acc : List Tk), v = vo ∧ i = .int .i64 a ∧ a ≤ s.size ∧ s.size - a < gk ∧ acc.length ≤ a ∧ Keep (acc ++ tokensV s.data.toList gk a = TS) ∧ Keep (OwnT wr w.heap.size vo acc) ∧ Keep (Below w.heap.size w wr))
  case atStart => exact ⟨_, 0, [], rfl, rfl, by omega, by omega, Nat.le_refl _, ⟨by rw [← hTS.out]; rfl⟩, ⟨OwnT.nil _ _⟩, ⟨Below.refl _ _⟩⟩
  case round =>
    obtain ⟨vo, a, acc, rfl, rfl, ha, hgk0, hacc, HT, HO, HB⟩ := hrel
    obtain ⟨g2, rfl⟩ : ∃ g2, gk = g2 + 1 := ⟨gk - 1, by omega⟩
    go_upto_block 2 with fail
    go_cut [4] (fun s4 wx => ∃ j : Nat, s4 = .int .i64 j ∧ a ≤ j ∧ j ≤ s.size ∧ Keep (a + runB blankC (s.data.toList.drop a) = j) ∧ wr = wx)
    case first =>
      go_wp2_with fail
      go_loopg [4] (s.size - a) (fun gk i wq => ∃ j : Nat, j + gk = s.size ∧ a ≤ j ∧ i = .int .i64 j ∧ Keep (∀ i (h : i < s.data.toList.length), a ≤ i → i < j → blankC s.data.toList[i] = true) ∧ wr = wq)
      case atStart => exact ⟨a, by omega, by omega, rfl, ⟨fun _ _ h h2 => absurd h (by omega)⟩, rfl⟩
      case round =>
        obtain ⟨j, hj, haj, rfl, HBL, rfl⟩ := hrel
        by_cases hlt : j < s.size
        · have hgk : gk ≠ 0 := by omega
          have HC := Keep.mk (fun w => ref6_blank s[j] w)
          by_cases k1 : blankC s[j] = true
          · have HN := Keep.mk (runp_more (p := blankC) hlt HBL.out k1)
            rw [k1] at HC
            clear HBL k1
            go_wp2_with fail
            refine (HC.out _).mono ?_
            rintro r w1 ⟨rfl, rfl⟩
            go_wp2
            go_roundg (gk - 1)
            case rel => exact ⟨j + 1, by omega, by omega, by go_num, HN, rfl⟩
            case measure => omega
          · have k2 : blankC s[j] = false := by simpa using k1
            have HE := Keep.mk (runp_end (p := blankC) haj (by omega) HBL.out (Or.inr ⟨hlt, k2⟩))
            rw [k2] at HC
            clear HBL k1 k2
            go_wp2_with fail
            refine (HC.out _).mono ?_
            rintro r w1 ⟨rfl, rfl⟩
            go_wp2_with fail
            go_meet
            exact ⟨j, rfl, haj, by omega, HE, rfl⟩
        · have HE := Keep.mk (runp_end (p := blankC) haj (by omega) HBL.out (Or.inl (by omega)))
          clear HBL
          go_wp2_with fail
          go_meet
          exact ⟨j, rfl, haj, by omega, HE, rfl⟩
    case rest =>
      obtain ⟨j, rfl, haj, hj, HR, rfl⟩ := hcut
      have HNX := Keep.mk (show nextT s.data.toList a = oneT (s.data.toList.drop j) j by unfold nextT; rw [HR.out])
      have HSZ := Keep.mk HB.out.size
      clear HR
      by_cases hjs : j = s.size
      · subst hjs
        have HE := Keep.mk (show tokensV s.data.toList (g2 + 1) a = [⟨1, 0, 0, 0, ⟨#[]⟩, s.size, s.size, 0⟩] by
          have h1 : nextT s.data.toList a = ⟨255, 0, 0, 0, ⟨#[]⟩, s.size, s.size, 0⟩ := by
            rw [HNX.out, List.drop_eq_nil_of_le (by rw [HL.out]; exact Nat.le_refl _)]; rfl
          simp only [tokensV]
          rw [h1, if_pos (Or.inl rfl)]
          rfl)
        have hjb : ((s.size : Int) == (s.size : Int)) = true := by simp
        clear HNX
        go_wp2_with (at_builtin; refine wpList_append_tok rfl (.tmp 23) (.tmp 26) rfl w.heap.size _ acc rfl (HO.out.below (al1 _ _)) wr.heap.size ⟨1, 0, 0, 0, ⟨#[]⟩, s.size, s.size, 0⟩ rfl (heap_alloc_new wr _) (by omega) ?_ ?_)
        · have := HSZ.out; simp; omega
        · intro v' w' hO2 hgr
          have HO2 := Keep.mk hO2
          have HB2 := Keep.mk ((up HB.out (al1 wr (.cells (tok9 ⟨1, 0, 0, 0, ⟨#[]⟩, s.size, s.size, 0⟩).toArray 68))).grown hgr (by have := HSZ.out; simp; omega) (fun k hk => (HO.out.lt k hk).1))
          go_wp2
          go_ret
          exact ⟨_, rfl, by rw [← HT.out, HE.out]; exact HO2.out, HB2.out⟩
      · have hlt : j < s.size := by omega
        have HON := Keep.mk (fun w => ref6_one s hs j hlt w)
        rw [← HNX.out] at HON
        have hne : s.data.toList.drop j ≠ [] := fun h => by have := congrArg List.length h; rw [List.length_drop, HL.out] at this; have h0 : ([] : List UInt8).length = 0 := rfl; omega
        have HSG := Keep.mk (show (nextT s.data.toList a).sign ≠ 255 from fun h => hne (by rw [HNX.out] at h; exact oneT_end _ _ h))
        have HW := Keep.mk (nextT_W2 s.data.toList a (by rw [HL.out]; exact ha))
        have hjb : ((j : Int) == (s.size : Int)) = false := by rw [beq_eq_false_iff_ne]; omega
        obtain ⟨t, ht⟩ : ∃ t, nextT s.data.toList a = t := ⟨_, rfl⟩
        have HTV := Keep.mk (show tokensV s.data.toList (g2 + 1) a = if t.e ≠ 0 then [t] else t :: tokensV s.data.toList g2 t.to_ by
          have h1 := HSG.out
          rw [ht] at h1
          simp only [tokensV]
          rw [ht]
          by_cases he : t.e ≠ 0
          · rw [if_pos (Or.inr he), if_pos he]; unfold tokR; rw [if_neg h1]
          · rw [if_neg (by rintro (h | h); exact h1 h; exact he h), if_neg he])
        rw [ht] at HON HW HSG
        clear HNX ht hne
        obtain ⟨hw1, hw2⟩ := HW.out
        rw [HL.out] at hw1
        go_wp2_with fail
        refine (HON.out _).mono ?_
        rintro r w1 ⟨n, rfl, hn, hb1⟩
        replace hn := Keep.mk hn
        have HO1 := Keep.mk ((HO.out.below hb1).below (al1 w1 (.cells (tok9 t).toArray 68)))
        have HB1 := Keep.mk (up (up HB.out hb1) (al1 w1 (.cells (tok9 t).toArray 68)))
        have HX1 := Keep.mk (show Box (w1.alloc (.cells (tok9 t).toArray 68)) w1.heap.size (tok9 t) from Box.new _ _ rfl)
        have HS1 := Keep.mk (show wr.heap.size ≤ w1.heap.size from hb1.size)
        clear hb1 HON
        simp only [tok9] at HO1 HB1 HX1 ⊢
        go_upto_region 8 with fail
        refine wp_world (fun W => OwnT W w.heap.size _ acc ∧ Below w.heap.size w W ∧ Box W w1.heap.size [.int .u8 t.sign, .int .i64 t.k, .int .i64 t.m, .int .i64 t.x, .string t.s, .slice none 0 0, .slice none 0 0, .int .i64 t.at_, .int .i64 t.e] ∧ W.heap.size = w1.heap.size + 1) ⟨HO1.out, HB1.out, HX1.out, by simp⟩ ?_
        clear HO1 HB1 HX1
        rintro W2 ⟨HO1, HB1, HX1, hsz2⟩
        replace HO1 := Keep.mk HO1
        replace HB1 := Keep.mk HB1
        replace HX1 := Keep.mk HX1
        have HS2 := Keep.mk hsz2
        clear hsz2
        have x0 := HX1.out.cell 0 _ rfl
        have x1 := HX1.out.cell 1 _ rfl
        have x2 := HX1.out.cell 2 _ rfl
        have x3 := HX1.out.cell 3 _ rfl
        have x4 := HX1.out.cell 4 _ rfl
        have x5 := HX1.out.cell 5 _ rfl
        have x6 := HX1.out.cell 6 _ rfl
        have x7 := HX1.out.cell 7 _ rfl
        have x8 := HX1.out.cell 8 _ rfl
        have xl := HX1.out.lt
        go_wp2_with (at_builtin; refine wpList_append_tok rfl (.tmp 34) (.tmp 36) rfl w.heap.size _ acc rfl (HO1.out.below (al1 _ _)) W2.heap.size t rfl (heap_alloc_new W2 _) (by omega) ?_ ?_)
        · have := HSZ.out; have := HS1.out; have := HS2.out; simp; omega
        · intro v' w3 hO3 hgr
          have hlo := fun k hk => (HO.out.lt k hk).1
          have hlo2 := fun k hk => (HO.out.lt k hk).2
          have HO3 := Keep.mk hO3
          have HB3 := Keep.mk ((up HB1.out (al1 W2 (.cells (tok9 t).toArray 68))).grown hgr (by have := HSZ.out; have := HS1.out; have := HS2.out; simp; omega) hlo)
          have x8 := (World.cell?_of_block (a := ⟨w1.heap.size, 8, none⟩) (hgr.block w1.heap.size (by have := HS2.out; simp; omega) (fun e => by have := hlo2 _ e.symm; have := HS1.out; omega))).trans ((HX1.out.alloc (.cells (tok9 t).toArray 68)).cell 8 _ rfl)
          clear x0 x1 x2 x3 x4 x5 x6 x7 xl HO HB HO1 HB1 HX1 hlo hlo2 hgr hO3
          by_cases he : t.e = 0
          · have heb : (t.e != 0) = false := by rw [he]; rfl
            have HT2 := Keep.mk (show (acc ++ [t]) ++ tokensV s.data.toList g2 t.to_ = TS by rw [← HT.out, HTV.out, if_neg (by simp [he]), List.append_assoc]; rfl)
            have hto := hn.out he
            subst hto
            have hw3 := hw2 he HSG.out
            clear HT HTV he hn
            go_wp2
            go_roundg g2
            case rel => exact ⟨_, t.to_, acc ++ [t], rfl, rfl, by omega, by omega, by simp; omega, HT2, HO3, HB3⟩
            case measure => omega
          · have heb : (t.e != 0) = true := by simpa using he
            have HE := Keep.mk (show acc ++ [t] = TS by rw [← HT.out, HTV.out, if_pos he])
            clear HT HTV he hn
            go_wp2
            go_ret
            exact ⟨_, rfl, by rw [← HE.out]; exact HO3.out, HB3.out⟩
end Go.Proofs.YtbngjlkmpdccjaaGreatDoor
