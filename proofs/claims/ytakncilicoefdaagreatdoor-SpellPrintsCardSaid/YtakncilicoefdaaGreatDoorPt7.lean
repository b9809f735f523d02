/- Lemmas and contracts. Conditions: those that each lemma names. -/
import Derived.Test.YtakncilicoefdaaGreatDoorPt6
set_option maxRecDepth 100000
set_option maxHeartbeats 4000000
namespace Go.Proofs.YtakncilicoefdaaGreatDoor
open Go Go.RowKit Go.Proofs Th
structure Box (w : World) (g : Nat) (cs : List Value) : Prop where
 cell : ∀ i v, cs[i]? = some v → w.cell? ⟨g, i, none⟩ = some v
 froz : ∀ i, w.frozen? ⟨g, i, none⟩ = false
 lt : g < w.heap.size
theorem Box.p2 {w : World} {g : Nat} {a0 a1 : Value} (h : Box w g [a0, a1]) : w.cell? ⟨g, 0, none⟩ = some a0 ∧ w.cell? ⟨g, 1, none⟩ = some a1 := ⟨h.cell 0 _ rfl, h.cell 1 _ rfl⟩
theorem Box.p3 {w : World} {g : Nat} {a0 a1 a2 : Value} (h : Box w g [a0, a1, a2]) : w.cell? ⟨g, 0, none⟩ = some a0 ∧ w.cell? ⟨g, 1, none⟩ = some a1 ∧ w.cell? ⟨g, 2, none⟩ = some a2 := ⟨h.cell 0 _ rfl, h.cell 1 _ rfl, h.cell 2 _ rfl⟩
theorem Box.p3l {w : World} {g : Nat} {a0 a1 a2 : Value} (h : Box w g [a0, a1, a2]) : w.cell? ⟨g, 0, none⟩ = some a0 ∧ w.cell? ⟨g, 1, none⟩ = some a1 ∧ w.cell? ⟨g, 2, none⟩ = some a2 ∧ g < w.heap.size := ⟨h.cell 0 _ rfl, h.cell 1 _ rfl, h.cell 2 _ rfl, h.lt⟩
theorem Box.q2 {w : World} {g : Nat} {a0 a1 : Value} (h : Box w g [a0, a1]) : w.cell? ⟨g, 0, none⟩ = some a0 ∧ w.frozen? ⟨g, 0, none⟩ = false ∧ w.cell? ⟨g, 1, none⟩ = some a1 ∧ w.frozen? ⟨g, 1, none⟩ = false := ⟨h.cell 0 _ rfl, h.froz 0, h.cell 1 _ rfl, h.froz 1⟩
theorem Box.q2l {w : World} {g : Nat} {a0 a1 : Value} (h : Box w g [a0, a1]) : w.cell? ⟨g, 0, none⟩ = some a0 ∧ w.frozen? ⟨g, 0, none⟩ = false ∧ w.cell? ⟨g, 1, none⟩ = some a1 ∧ w.frozen? ⟨g, 1, none⟩ = false ∧ g < w.heap.size := ⟨h.cell 0 _ rfl, h.froz 0, h.cell 1 _ rfl, h.froz 1, h.lt⟩
theorem Box.q3 {w : World} {g : Nat} {a0 a1 a2 : Value} (h : Box w g [a0, a1, a2]) : w.cell? ⟨g, 0, none⟩ = some a0 ∧ w.frozen? ⟨g, 0, none⟩ = false ∧ w.cell? ⟨g, 1, none⟩ = some a1 ∧ w.frozen? ⟨g, 1, none⟩ = false ∧ w.cell? ⟨g, 2, none⟩ = some a2 ∧ w.frozen? ⟨g, 2, none⟩ = false := ⟨h.cell 0 _ rfl, h.froz 0, h.cell 1 _ rfl, h.froz 1, h.cell 2 _ rfl, h.froz 2⟩
theorem Box.q3l {w : World} {g : Nat} {a0 a1 a2 : Value} (h : Box w g [a0, a1, a2]) : w.cell? ⟨g, 0, none⟩ = some a0 ∧ w.frozen? ⟨g, 0, none⟩ = false ∧ w.cell? ⟨g, 1, none⟩ = some a1 ∧ w.frozen? ⟨g, 1, none⟩ = false ∧ w.cell? ⟨g, 2, none⟩ = some a2 ∧ w.frozen? ⟨g, 2, none⟩ = false ∧ g < w.heap.size := ⟨h.cell 0 _ rfl, h.froz 0, h.cell 1 _ rfl, h.froz 1, h.cell 2 _ rfl, h.froz 2, h.lt⟩
theorem Box.below {w w' : World} {g B : Nat} {cs : List Value} (h : Box w g cs) (hb : Below B w w') (hg : g < B) : Box w' g cs :=
 ⟨fun i v hv => (hb.cell (p := ⟨g, i, none⟩) hg).trans (h.cell i v hv), fun i => (hb.frozen (p := ⟨g, i, none⟩) hg).trans (h.froz i), Nat.lt_of_lt_of_le h.lt hb.size⟩
theorem Box.alloc {w : World} {g : Nat} {cs : List Value} (h : Box w g cs) (o : Obj) : Box (w.alloc o) g cs := h.below ((Below.refl _ _).alloc (Nat.le_refl _) _) h.lt
theorem Box.new {w : World} {n : Nat} (cs : List Value) (t : TypeId) (h : w.heap.size = n) : Box (w.alloc (.cells cs.toArray t)) n cs := by
 subst h; refine ⟨fun i v hv => ?_, fun i => ?_, by simp⟩
 ·simp [go_sem, hv]
 simp [go_sem]
theorem Box.other {w : World} {g m o : Nat} {cs : List Value} (h : Box w g cs) (hm : m ≠ g) (v : Value) : Box (w.setCell ⟨m, o, none⟩ v) g cs := by
 refine ⟨fun i u hu => ?_, fun i => ?_, by simpa using h.lt⟩
 ·rw [World.cell?_setCell_other _ _ _ _ (by intro e; injection e; omega)]; exact h.cell i u hu
 rw [World.frozen?_setCell]; exact h.froz i
theorem Box.set {w : World} {g i : Nat} {cs : List Value} (h : Box w g cs) (hi : i < cs.length) (v : Value) : Box (w.setCell ⟨g, i, none⟩ v) g (cs.set i v) := by
 refine ⟨fun j u hu => ?_, fun j => ?_, by simpa using h.lt⟩
 ·by_cases e : i = j
  ·subst e
   have hu' : v = u := by simpa [hi] using hu
   subst hu'; have := h.cell i _ (List.getElem?_eq_getElem hi); exact World.cell?_setCell_same _ _ _ this
  rw [World.cell?_setCell_other _ _ _ _ (by intro e'; injection e' with e1 e2; exact e e2)]; exact h.cell j u (by rwa [List.getElem?_set_ne e] at hu)
 rw [World.frozen?_setCell]; exact h.froz j
theorem RH {w : World} {B g o : Nat} (hg : B ≤ g) (v : Value) : Below B w (w.setCell ⟨g, o, none⟩ v) := by
 have h : Below B w w := Below.refl _ _; exact h.setCell (p := ⟨g, o, none⟩) hg v
theorem IntsAt.set {w : World} {B c : Nat} {A : Option Addr} {ds : List Nat} (h : IntsAt w B A c ds) {g o : Nat} (hg : B ≤ g) (v : Value) : IntsAt (w.setCell ⟨g, o, none⟩ v) B A c ds :=
 h.below (RH hg v) (Nat.le_refl _)
def FJ (neg : Bool) (A : Option Addr) (c : Nat) (ds : List Nat) (e : Int) : Value := .agg #[.bool neg, .slice A ds.length c, .int .i64 e]
theorem Dj (g o j : Nat) : (⟨g, o, none⟩ : Addr).add j = ⟨g, o + j, none⟩ := by
 unfold Addr.add; split
 ·rename_i h; subst h; rfl
 rfl
def iv (d : Nat) : Value := .int .i64 (d : Int)
theorem VK (ds : List Nat) : ∀ u ∈ ds.map iv, u.oneCell' = true := by
 intro u hu; obtain ⟨d, _, rfl⟩ := List.mem_map.1 hu; rfl
def OwnInts (w : World) (base : Nat) (v : Value) (ds : List Nat) : Prop := w.ownsRow base 3 1 v ds.length (ds.map iv)
theorem OwnInts.nil (w : World) (base : Nat) : OwnInts w base (.slice none 0 0) [] := World.ownsRow_nil w base _ 1
theorem OwnInts.ints {w : World} {base : Nat} {v : Value} {ds : List Nat} (h : OwnInts w base v ds) : ∃ A c, v = .slice A ds.length c ∧ IntsAt w w.heap.size A c ds := by
 have h' := h; obtain ⟨_, ⟨rfl, h0⟩ | ⟨g, cap, cur, rfl, hb, hh, hn, hm, hs, ht⟩⟩ := h
 ·have : ds = [] := List.eq_nil_of_length_eq_zero h0
  subst this; exact ⟨none, 0, rfl, Nat.le_refl _, by simp [maxLen], fun hp => absurd hp (by simp)⟩
 have hlt : g < w.heap.size := by
  rcases Nat.lt_or_ge g w.heap.size with h1 | h1
  ·exact h1
  rw [Array.getElem?_eq_none h1] at hh; cases hh
 refine ⟨some ⟨g, 0, none⟩, cap, rfl, hn, hm, fun _ => ⟨g, 0, rfl, hlt, fun j hj => ?_⟩⟩; have := World.ownsRow.cells h' (g := g) rfl j (iv ds[j]) (by simp [hj]); rw [Dj] at this; exact this
theorem OwnInts.read {w : World} {base n c : Nat} {A : Option Addr} {ds : List Nat} (h : OwnInts w base (.slice A n c) ds) : IntsAt w w.heap.size A c ds := by
 obtain ⟨A', c', e, hI⟩ := h.ints; injection e with e1 e2 e3; subst e1 e3; exact hI
theorem OwnInts.alloc {w : World} {base : Nat} {v : Value} {ds : List Nat} (h : OwnInts w base v ds) (o : Obj) : OwnInts (w.alloc o) base v ds := World.ownsRow.alloc h o
theorem OwnInts.set {w : World} {base g o : Nat} {v : Value} {ds : List Nat} (h : OwnInts w base v ds) (hg : g < base) (x : Value) : OwnInts (w.setCell ⟨g, o, none⟩ x) base v ds :=
 World.ownsRow.kept (row := some g) h ⟨rfl, rfl, rfl, by simp, fun k _ hk => Below.heap_setCell w ⟨g, o, none⟩ x k (fun e => hk (by rw [e]))⟩ (by
  cases hv : v.ownBlock with
  | none => exact Or.inl rfl
  | some k => right; intro e; injection e with e; subst e; have := (World.ownsRow.lt h _ hv).1; omega)
theorem OwnInts.below {w w' : World} {base B : Nat} {v : Value} {ds : List Nat} (h : OwnInts w base v ds) (hb : Below B w w') (hB : w.heap.size ≤ B) : OwnInts w' base v ds := by
 obtain ⟨h1, h2⟩ := h; refine ⟨h1, ?_⟩; rcases h2 with h2 | ⟨g, cap, cur, h3, h4, h5, h6⟩
 ·exact Or.inl h2
 have hlt : g < w.heap.size := by
  rcases Nat.lt_or_ge g w.heap.size with h1 | h1
  ·exact h1
  rw [Array.getElem?_eq_none h1] at h5; cases h5
 exact Or.inr ⟨g, cap, cur, h3, h4, (hb.block g (by omega)).trans h5, h6⟩
theorem OwnInts.one {w : World} {n base : Nat} (d : Nat) (h : w.heap.size = n) (hb : base ≤ n) : OwnInts (w.alloc (.cells #[.int .i64 d] 3)) base (.slice (some ⟨n, 0, none⟩) 1 1) [d] := by
 subst h; exact ⟨rfl, Or.inr ⟨w.heap.size, 1, _, rfl, hb, heap_alloc_new w _, Nat.le_refl _, by simp [maxLen], rfl, rfl⟩⟩
theorem IntsAt.one {w : World} {n : Nat} (d : Int) (k : Nat) (hd : d = k) (h : w.heap.size = n) : IntsAt (w.alloc (.cells #[.int .i64 d] 3)) (n + 1) (some ⟨n, 0, none⟩) 1 [k] := by
 subst h hd; refine ⟨Nat.le_refl _, by simp [maxLen], fun _ => ⟨_, _, rfl, Nat.lt_succ_self _, fun j hj => ?_⟩⟩; have : j = 0 := by simpa using hj
 subst this; simp [go_sem]
theorem IntsAt.none_ (w : World) (B : Nat) : IntsAt w B none 0 [] := ⟨Nat.le_refl _, by simp [maxLen], fun hp => absurd hp (by simp)⟩
theorem SM : (Tryz.prog.info? 3).map (fun i => (i.zero, i.size, i.bytes)) = some (some (.int .i64 0), 1, 8) := by kernel_rfl
/-- append of a slice that reads onto a slice of the call's own -/
theorem JP {w : World} (ty : TypeId) (base : Nat) (v : Value) (ds : List Nat) (hown : OwnInts w base v ds) (B : Nat) (A : Option Addr) (c : Nat) (es : List Nat) (hr : IntsAt w B A c es)
  (hl : ds.length + es.length ≤ 1000000) (hbase : base ≤ w.heap.size) :
  ∃ v' w', (Builtin.append_ #[79, 79] ty #[v, .slice A es.length c]).run Tryz.prog w = .ok v' w' ∧ OwnInts w' base v' (ds ++ es) ∧ Below base w w' := by
 obtain ⟨i, hi, hz, hsize, hby⟩ := info_parts SM; have ht := Tryz.underlying79; cases A with
 | none =>
  have hes : es = [] := by
   cases es with
   | nil => rfl
   | cons a b => obtain ⟨_, _, h, _⟩ := hr.at_ (by simp); cases h
  subst hes; refine ⟨v, w, ?_, by simpa using hown, Below.refl _ _⟩; rcases hown.2 with ⟨rfl, hx⟩ | ⟨g, cap, cur, rfl, _, _, hnc, _⟩
  ·simp [Builtin.append_, run_underlying ht, sizeOf, typeInfo, hi, Builtin.lenOf, Builtin.firstCells]
  simp [Builtin.append_, run_underlying ht, sizeOf, typeInfo, hi, Builtin.lenOf, Builtin.firstCells, hnc, storeCells]
 | some ad =>
  have hcells : ∀ j u, (es.map iv)[j]? = some u → w.cell? (ad.add j) = some u := by
   intro j u hu; have hj : j < es.length := by
    rcases Nat.lt_or_ge j es.length with h1 | h1
    ·exact h1
    rw [List.getElem?_eq_none (by simpa using h1)] at hu; cases hu
   obtain ⟨g, o, h, _, hc⟩ := hr.at_ (by omega); injection h with h; subst h; rw [Dj, hc j hj, ← hu]; simp [hj, iv]
  obtain ⟨v', w', hrun, h2, h3, _, h5⟩ := run_append_own_at (P := Tryz.prog) w base 79 ty 3 i (.int .i64 0) 1 8 ht hi hz hsize hby rfl (by omega) v ds.length (ds.map iv) hown ad es.length c (es.map iv) (by simp) hcells (VK es) (by simp [maxLen]; omega) (by omega) hbase; refine ⟨v', w', hrun, ?_, (Below.refl _ _).grown h3 hbase fun k hk => (World.ownsRow.lt hown k hk).1⟩; unfold OwnInts; rw [List.length_append, List.map_append]; exact h2
theorem Dz {w : World} {ops : Array Oper} {rest : List Oper} {o : Oper} {a : Act} {Q : Exit → Act → World → Prop} (hgd : o.guard = none) (s x : Operand)
  (ho : o.op = .call { callee := .builtin .append, args := #[s, x], argTypes := #[79, 79] })
  (base : Nat) (v : Value) (ds : List Nat) (hs : a.eval s = v) (hown : OwnInts w base v ds) (B : Nat) (A : Option Addr) (n c : Nat) (es : List Nat) (hn : n = es.length) (hx : a.eval x = .slice A n c) (hr : IntsAt w B A c es)
  (hl : ds.length + es.length ≤ 1000000) (hbase : base ≤ w.heap.size)
  (h : ∀ v' w', OwnInts w' base v' (ds ++ es) → Below base w w' → wpList Tryz.prog ops Q rest (a.put o.dst v') w') : wpList Tryz.prog ops Q (o :: rest) a w := by
 subst hn; refine wpList_plain hgd fun K hK => ?_
 obtain ⟨v', w', hrun, h2, h3⟩ := JP (w := w) o.type base v ds hown B A c es hr hl hbase; unfold Oper.wp execOp; simp only [ho, resolve, invoke, builtin, Sem.run_bind, Sem.run_pure, Result.andThen_ok, List.map_toArray, List.map_cons, List.map_nil, hs, hx, hrun]; exact hK _ _ (h v' w' h2 h3)
end Go.Proofs.YtakncilicoefdaaGreatDoor
namespace Th
open Go Go.Lib
inductive NJ where
 | mk (kind : Int) (name : ByteArray) (m e : Int) (kids : List NJ) (args : List ByteArray)
def Lg : NJ := .mk 0 ⟨#[]⟩ 0 0 [] []
def Dh : NJ := .mk 1 ⟨#[]⟩ 0 0 [] []
def Dp (s : ByteArray) : NJ := .mk 3 s 0 0 [] []
def J5 (s : ByteArray) : NJ := .mk 22 s 0 0 [] []
def BG (k : Int) (l : List NJ) : NJ := .mk k ⟨#[]⟩ 0 0 l []
def BX (k : Int) (s : ByteArray) (a b : NJ) : NJ := .mk k s 0 0 [a, b] []
structure Env where
 l : List Tf
 base : Nat
 end_ : Nat
def Aj (E : Env) (i : Nat) : Tf := E.l.getD i Ft
def DA (E : Env) (i : Nat) : Nat := E.base + (match E.l[i]? with | some t => t.at_ | none => E.end_)
inductive PR (α : Type) where
 | ok (a : α) (i : Nat)
 | bad (a e : Nat)
def AX {α β : Type} (x : Option (PR α)) (f : α → Nat → Option (PR β)) : Option (PR β) := match x with
 | none => none
 | some (.bad a e) => some (.bad a e)
 | some (.ok a i) => f a i
def DH {α : Type} (E : Env) (i e : Nat) : Option (PR α) := some (.bad (DA E i) e)
def okP {α : Type} (a : α) (i : Nat) : Option (PR α) := some (.ok a i)
def isT (E : Env) (i k : Nat) (s : ByteArray) : Prop := (Aj E i).kind = k ∧ (Aj E i).text = s
instance (E : Env) (i k : Nat) (s : ByteArray) : Decidable (isT E i k s) := by unfold isT; exact inferInstance
def Bs {β : Type} (E : Env) (i k : Nat) (s : ByteArray) (f : Nat → Option (PR β)) : Option (PR β) := if isT E i k s then f (i + 1) else DH E i 60
def words13 : List ByteArray := [⟨#[97, 110, 100]⟩, ⟨#[111, 114]⟩, ⟨#[105, 102]⟩, ⟨#[116, 104, 101, 110]⟩, ⟨#[101, 108, 105, 102]⟩, ⟨#[101, 108, 115, 101]⟩, ⟨#[101, 110, 100]⟩, ⟨#[114, 101, 100, 117, 99, 101]⟩, ⟨#[102, 111, 114, 101, 97, 99, 104]⟩, ⟨#[97, 115]⟩, ⟨#[100, 101, 102]⟩, ⟨#[116, 114, 121]⟩, ⟨#[99, 97, 116, 99, 104]⟩]
def inB (l : List ByteArray) (s : ByteArray) : Bool := l.any fun q => decide (q = s)
def D1 {β : Type} (E : Env) (i k : Nat) (f : ByteArray → Nat → Option (PR β)) : Option (PR β) :=
 if (Aj E i).kind ≠ k ∨ (k = 1 ∧ inB words13 (Aj E i).text = true) then DH E i 60 else f (Aj E i).text (i + 1)
def EH : List ByteArray := [⟨#[61]⟩, ⟨#[124, 61]⟩, ⟨#[43, 61]⟩, ⟨#[45, 61]⟩, ⟨#[42, 61]⟩, ⟨#[47, 61]⟩, ⟨#[47, 47, 61]⟩]
def RE : List ByteArray := [⟨#[61, 61]⟩, ⟨#[33, 61]⟩, ⟨#[60]⟩, ⟨#[60, 61]⟩, ⟨#[62]⟩, ⟨#[62, 61]⟩]
def Ub : List ByteArray := [⟨#[43]⟩, ⟨#[45]⟩]
def L1 : List ByteArray := [⟨#[42]⟩, ⟨#[47]⟩, ⟨#[37]⟩]
def AD (t : Tf) : Nat :=
 if t.kind = 1 then (if t.text = ⟨#[111, 114]⟩ then 4 else if t.text = ⟨#[97, 110, 100]⟩ then 5 else 0)
 else if t.kind ≠ 6 then 0 else if t.text = ⟨#[44]⟩ then 1 else if t.text = ⟨#[47, 47]⟩ then 2 else if inB EH t.text = true then 3 else if inB RE t.text = true then 6 else if inB Ub t.text = true then 7 else if inB L1 t.text = true then 8 else 0
def C5 (t : Tf) (a b : NJ) : NJ :=
 if AD t = 1 then BX 9 ⟨#[]⟩ a b else if AD t = 2 then BX 13 ⟨#[]⟩ a b else if AD t = 3 then BX 25 t.text a b
 else if AD t = 4 then BX 12 ⟨#[]⟩ a b else if AD t = 5 then BX 11 ⟨#[]⟩ a b else BX 10 t.text a b
def FL {β : Type} (E : Env) (k : List ByteArray → Nat → Option (PR β)) : Nat → List ByteArray → Nat → Option (PR β)
 | 0, _, _ => none
 | n + 1, acc, i =>
  if (Aj E i).kind = 2 then (if isT E (i + 1) 6 ⟨#[59]⟩ then FL E k n (acc ++ [⟨#[36]⟩ ++ (Aj E i).text]) (i + 2) else k (acc ++ [⟨#[36]⟩ ++ (Aj E i).text]) (i + 1))
  else D1 E i 1 fun s j => if isT E j 6 ⟨#[59]⟩ then FL E k n (acc ++ [s]) (j + 1) else k (acc ++ [s]) j
inductive Job where
 | filter | def_ | binary (least : Nat) | binLoop (least top : Nat) (n : NJ) | minus | term | termLoop (n : NJ) | index (x : NJ) | quoted
 | parts (texts filters : List (List UInt8)) (places : List Nat) (kids : List NJ)
 | whole | first | sign (s : ByteArray) | object | objLoop (kids : List NJ) | entry | word (s : ByteArray) | callLoop (name : ByteArray) (kids : List NJ) | branch | loop (kind : Int)
def Mv (s : List UInt8) : List UInt8 := 34 :: (s ++ [34])
def G1 (s : List UInt8) (base : Nat) : Env := ⟨(B5 s).1, base, s.length⟩
def NJ.kids : NJ → List NJ
 | .mk _ _ _ _ l _ => l
def Mo (kids : List NJ) : NJ := match kids with
 | [n] => n
 | _ => BG 4 kids
def BP (run : Env → Job → Nat → Option (PR NJ)) (E : Env) (job : Job) (i : Nat) : Option (PR NJ) := match job with
  | .filter => if isT E i 1 ⟨#[100, 101, 102]⟩ then run E .def_ (i + 1) else AX (run E (.binary 1) i) fun n j =>
    if isT E j 6 ⟨#[124]⟩ then AX (run E .filter (j + 1)) fun m k => okP (BX 8 ⟨#[]⟩ n m) k else okP n j
  | .def_ => D1 E i 1 fun name i1 =>
    let rest := fun (args : List ByteArray) (j : Nat) => Bs E j 6 ⟨#[58]⟩ fun j => AX (run E .filter j) fun what j => Bs E j 6 ⟨#[59]⟩ fun j => AX (run E .filter j) fun m j => okP (.mk 24 name 0 0 [what, m] args) j
    if isT E i1 6 ⟨#[40]⟩ then FL E (fun args j => Bs E j 6 ⟨#[41]⟩ fun j => rest args j) (E.l.length + 1) [] (i1 + 1) else rest [] i1
  | .binary least => AX (run E .minus i) fun n j => run E (.binLoop least 8 n) j
  | .binLoop least top n =>
    if AD (Aj E i) < least ∨ top < AD (Aj E i) ∨ AD (Aj E i) = 0 then okP n i
    else if AD (Aj E i) = 2 then AX (run E (.binary 2) (i + 1)) fun m j => run E (.binLoop least 1 (C5 (Aj E i) n m)) j
    else if AD (Aj E i) = 3 ∨ AD (Aj E i) = 6 then AX (run E (.binary (AD (Aj E i) + 1)) (i + 1)) fun m j => run E (.binLoop least (AD (Aj E i) - 1) (C5 (Aj E i) n m)) j
    else AX (run E (.binary (AD (Aj E i) + 1)) (i + 1)) fun m j => run E (.binLoop least (AD (Aj E i)) (C5 (Aj E i) n m)) j
  | .minus => if isT E i 6 ⟨#[45]⟩ then AX (run E .minus (i + 1)) fun n j => okP (BG 14 [n]) j else AX (run E .term i) fun n j =>
    if isT E j 1 ⟨#[97, 115]⟩ then D1 E (j + 1) 2 fun name j => Bs E j 6 ⟨#[124]⟩ fun j => AX (run E .filter j) fun m j => okP (BX 21 name n m) j else okP n j
  | .term => AX (run E .first i) fun n j => run E (.termLoop n) j
  | .termLoop n =>
    if (Aj E i).kind = 3 then run E (.termLoop (BX 5 ⟨#[]⟩ n (Dp (Aj E i).text))) (i + 1)
    else if isT E i 6 ⟨#[63]⟩ then run E (.termLoop (BG 18 [n])) (i + 1)
    else if isT E i 6 ⟨#[91]⟩ then AX (run E (.index n) i) fun m j => run E (.termLoop m) j
    else if isT E i 6 ⟨#[46]⟩ then (if (Aj E (i + 1)).kind = 5 then AX (run E .quoted (i + 1)) fun m j => run E (.termLoop (BX 5 ⟨#[]⟩ n m)) j
     else if isT E (i + 1) 6 ⟨#[91]⟩ then AX (run E (.index n) (i + 1)) fun m j => run E (.termLoop m) j else DH E (i + 1) 60)
    else okP n i
  | .index x => Bs E i 6 ⟨#[91]⟩ fun i => if isT E i 6 ⟨#[93]⟩ then okP (BG 7 [x]) (i + 1) else
    let to_ := fun (kids : List NJ) (args : List ByteArray) (j : Nat) => AX (run E .filter j) fun m j => Bs E j 6 ⟨#[93]⟩ fun j => okP (.mk 6 ⟨#[]⟩ 0 0 (kids ++ [m]) (args ++ [⟨#[116, 111]⟩])) j
    if isT E i 6 ⟨#[58]⟩ then to_ [x] [] (i + 1) else AX (run E .filter i) fun m j => if isT E j 6 ⟨#[93]⟩ then okP (BX 5 ⟨#[]⟩ x m) (j + 1) else Bs E j 6 ⟨#[58]⟩ fun j =>
     if isT E j 6 ⟨#[93]⟩ then okP (.mk 6 ⟨#[]⟩ 0 0 [x, m] [⟨#[102, 114, 111, 109]⟩]) (j + 1) else to_ [x, m] [⟨#[102, 114, 111, 109]⟩] j
  | .quoted => if (Aj E i).kind ≠ 5 then DH E i 60 else
    run E (.parts (NZ (Aj E i).text.data.toList).1.texts (NZ (Aj E i).text.data.toList).1.filters (NZ (Aj E i).text.data.toList).1.places []) i
  | .parts texts filters places kids => match texts with
   | [] => okP (Mo kids) (i + 1)
   | s :: texts => if (Mm (Mv s)).2.2 ≠ 0 ∨ (Mm (Mv s)).2.1 ≠ s.length + 2 then DH E i 20 else match filters with
    | [] => run E (.parts texts [] places (kids ++ [Dp ⟨(Mm (Mv s)).1.toArray⟩])) i
    | g :: filters => AX (run (G1 g (E.base + (Aj E i).at_ + places.headD 0)) .whole 0) fun m _ => run E (.parts texts filters places.tail (kids ++ [Dp ⟨(Mm (Mv s)).1.toArray⟩, m])) i
  | .whole => AX (run E .filter i) fun n j => if j < E.l.length then DH E j 60 else okP n j
  | .first => if (Aj E i).kind = 3 then okP (BX 5 ⟨#[]⟩ Dh (Dp (Aj E i).text)) (i + 1) else if (Aj E i).kind = 2 then okP (J5 (Aj E i).text) (i + 1)
    else if (Aj E i).kind = 5 then run E .quoted i
    else if (Aj E i).kind = 4 then (if (CO (Aj E i).text.data.toList).2 = 10 then DH E i 60 else if (CO (Aj E i).text.data.toList).2 ≠ 0 then DH E i (CO (Aj E i).text.data.toList).2.toNat
     else okP (.mk 2 ⟨#[]⟩ (CO (Aj E i).text.data.toList).1.1 (CO (Aj E i).text.data.toList).1.2 [] []) (i + 1))
    else if (Aj E i).kind = 1 then run E (.word (Aj E i).text) i else if (Aj E i).kind = 6 then run E (.sign (Aj E i).text) i else DH E i 60
  | .sign s => if s = ⟨#[46]⟩ then (if (Aj E (i + 1)).kind = 5 then AX (run E .quoted (i + 1)) fun m j => okP (BX 5 ⟨#[]⟩ Dh m) j else okP Dh (i + 1))
    else if s = ⟨#[46, 46]⟩ then okP (BG 26 []) (i + 1)
    else if s = ⟨#[40]⟩ then AX (run E .filter (i + 1)) fun n j => Bs E j 6 ⟨#[41]⟩ fun j => okP n j
    else if s = ⟨#[91]⟩ then (if isT E (i + 1) 6 ⟨#[93]⟩ then okP (BG 15 []) (i + 2) else AX (run E .filter (i + 1)) fun n j => Bs E j 6 ⟨#[93]⟩ fun j => okP (BG 15 [n]) j)
    else if s = ⟨#[123]⟩ then run E .object (i + 1) else DH E i 60
  | .object => if isT E i 6 ⟨#[125]⟩ then okP (BG 16 []) (i + 1) else run E (.objLoop []) i
  | .objLoop kids => AX (run E .entry i) fun kv j => if isT E j 6 ⟨#[44]⟩ then run E (.objLoop (kids ++ kv.kids)) (j + 1) else Bs E j 6 ⟨#[125]⟩ fun j => okP (BG 16 (kids ++ kv.kids)) j
  | .entry =>
    let value := fun (k : NJ) (j : Nat) => Bs E j 6 ⟨#[58]⟩ fun j => AX (run E (.binary 2) j) fun v j => okP (BG 0 [k, v]) j
    let alone := fun (k : NJ) (j : Nat) => if isT E j 6 ⟨#[58]⟩ then value k j else okP (BG 0 [k, BX 5 ⟨#[]⟩ Dh k]) j
    if (Aj E i).kind = 2 then okP (BG 0 [Dp (Aj E i).text, J5 (Aj E i).text]) (i + 1) else if (Aj E i).kind = 1 then alone (Dp (Aj E i).text) (i + 1)
    else if (Aj E i).kind = 5 then AX (run E .quoted i) fun k j => alone k j
    else if isT E i 6 ⟨#[40]⟩ then AX (run E .filter (i + 1)) fun k j => Bs E j 6 ⟨#[41]⟩ fun j => value k j else DH E i 60
  | .word s => if s = ⟨#[105, 102]⟩ then run E .branch (i + 1)
    else if s = ⟨#[116, 114, 121]⟩ then AX (run E .term (i + 1)) fun n j => if isT E j 1 ⟨#[99, 97, 116, 99, 104]⟩ then AX (run E .term (j + 1)) fun m j => okP (BG 18 [n, m]) j else okP (BG 18 [n]) j
    else if s = ⟨#[114, 101, 100, 117, 99, 101]⟩ then run E (.loop 19) (i + 1) else if s = ⟨#[102, 111, 114, 101, 97, 99, 104]⟩ then run E (.loop 20) (i + 1)
    else D1 E i 1 fun name j => if isT E j 6 ⟨#[40]⟩ then run E (.callLoop name []) (j + 1) else okP (.mk 23 name 0 0 [] []) j
  | .callLoop name kids => AX (run E .filter i) fun n j => if isT E j 6 ⟨#[59]⟩ then run E (.callLoop name (kids ++ [n])) (j + 1) else Bs E j 6 ⟨#[41]⟩ fun j => okP (.mk 23 name 0 0 (kids ++ [n]) []) j
  | .branch => AX (run E .filter i) fun c j => Bs E j 1 ⟨#[116, 104, 101, 110]⟩ fun j => AX (run E .filter j) fun t j =>
    if isT E j 1 ⟨#[101, 108, 105, 102]⟩ then AX (run E .branch (j + 1)) fun m j => okP (BG 17 [c, t, m]) j
    else if isT E j 1 ⟨#[101, 108, 115, 101]⟩ then AX (run E .filter (j + 1)) fun m j => Bs E j 1 ⟨#[101, 110, 100]⟩ fun j => okP (BG 17 [c, t, m]) j
    else Bs E j 1 ⟨#[101, 110, 100]⟩ fun j => okP (BG 17 [c, t, Dh]) j
  | .loop kind => AX (run E .term i) fun x j => Bs E j 1 ⟨#[97, 115]⟩ fun j => D1 E j 2 fun name j => Bs E j 6 ⟨#[40]⟩ fun j => AX (run E .filter j) fun y j => Bs E j 6 ⟨#[59]⟩ fun j =>
    AX (run E .filter j) fun z j =>
    if kind = 20 then (if isT E j 6 ⟨#[59]⟩ then AX (run E .filter (j + 1)) fun u j => Bs E j 6 ⟨#[41]⟩ fun j => okP (.mk kind name 0 0 [x, y, z, u] []) j
     else Bs E j 6 ⟨#[41]⟩ fun j => okP (.mk kind name 0 0 [x, y, z, Dh] []) j)
    else Bs E j 6 ⟨#[41]⟩ fun j => okP (.mk kind name 0 0 [x, y, z] []) j
def BO : Nat → Env → Job → Nat → Option (PR NJ)
 | 0, _, _, _ => none
 | f + 1, E, job, i => BP (BO f) E job i
end Th
namespace Th
open Go Go.Lib
theorem RJ (l : List UInt8) (h : (BA l).1 ≠ 0) : (BA l).2.1 + 1 ≤ (BA l).2.2 := by
 cases l with
 | nil => exact absurd rfl h
 | cons c r =>
  rcases FZ c r with ⟨h1, _⟩ | ⟨k, n, h1, h2, h3, h4, h5, h6, h7⟩
  ·rw [h1] at h; exact absurd rfl h
  rw [h1]; dsimp only; split
  ·rename_i hk
   rcases Nat.lt_or_ge n 2 with hn | hn
   ·exfalso
    have : n = 1 := by omega
    subst this; have hp : CR [c] = k := h6; unfold CR at hp; have hi : AU ([c] : List UInt8).tail = false := rfl; rw [hi] at hp; repeat' split at hp
    all_goals first | omega | (rename_i hh; cases hh.2)
   omega
  omega
theorem S3 (L : List UInt8) (quote : Nat → Nat × Nat) (hq : ∀ f, f < L.length → (quote f).1 ≤ L.length ∧ ((quote f).2 = 0 → f < (quote f).1)) (b : Nat) (h0 : (Cf L quote b).2.2 = 0) (hk : (Cf L quote b).1.kind ≠ 0) :
  1 ≤ (Cf L quote b).1.text.size ∧ b + (Cf L quote b).1.text.size ≤ (Cf L quote b).2.1 := by
 unfold Cf at h0 hk ⊢; cases hd : L.drop b with
 | nil => rw [hd] at hk; exact absurd rfl hk
 | cons c r =>
  rw [hd] at h0 hk; dsimp only at h0 hk ⊢; have hlen : (c :: r).length = L.length - b := by rw [← hd, List.length_drop]
  rw [List.length_cons] at hlen; by_cases h34 : c = 34
  ·rw [if_pos h34] at h0 hk ⊢
   obtain ⟨h1, h2⟩ := hq b (by omega); by_cases h3 : (quote b).2 ≠ 0
   ·rw [if_pos h3] at h0; exact absurd h0 h3
   rw [if_neg h3]; have := h2 (by omega); dsimp only; rw [DE, List.length_take, List.length_cons]; omega
  rw [if_neg h34] at h0 hk ⊢; by_cases h4 : (BA (c :: r)).1 = 0
  ·rw [if_pos h4] at h0; cases h0
  rw [if_neg h4]; have h5 := RJ (c :: r) h4; obtain ⟨h6, _⟩ := Lc (c :: r); rw [List.length_cons] at h6; dsimp only; rw [DE, List.length_drop, List.length_take, List.length_cons]; omega
theorem NT (L : List UInt8) (d a : Nat) (ha : a ≤ L.length) (h0 : (AQ L d a).2.2 = 0) (hk : (AQ L d a).1.kind ≠ 0) : 1 ≤ (AQ L d a).1.text.size ∧ a + (AQ L d a).1.text.size ≤ (AQ L d a).2.1 := by
 have h1 := (D4 L a ha).1; rw [ED] at h0 hk ⊢; have := S3 L _ (fun f hf => L5 L d f hf) _ h0 hk; omega
def EE (l : List Tf) : Nat := (l.map fun t => t.text.size).sum
theorem N6 (l r : List Tf) : EE (l ++ r) = EE l + EE r := by unfold EE; rw [List.map_append, List.sum_append]
theorem Ps (L : List UInt8) : ∀ (n a : Nat) (acc : List Tf), a ≤ L.length → EE acc ≤ a → (∀ t ∈ acc, 1 ≤ t.text.size) → EE (CE L n a acc).1 ≤ L.length ∧ ∀ t ∈ (CE L n a acc).1, 1 ≤ t.text.size := by
 intro n; induction n with
 | zero => intro a acc h1 h2 h3; exact ⟨Nat.le_trans h2 h1, h3⟩
 | succ n ih =>
  intro a acc h1 h2 h3; simp only [CE]; by_cases h4 : (AQ L 48 a).2.2 ≠ 0
  ·rw [if_pos h4]; exact ⟨Nat.zero_le _, fun t ht => by cases ht⟩
  rw [if_neg h4]; by_cases h5 : (AQ L 48 a).1.kind = 0
  ·rw [if_pos h5]; exact ⟨Nat.le_trans h2 h1, h3⟩
  rw [if_neg h5]; obtain ⟨h6, h7⟩ := NT L 48 a h1 (by omega) h5; refine ih _ _ (Fc L 48 a h1).le ?_ fun t ht => ?_
  ·rw [N6]
   have : EE [(AQ L 48 a).1] = (AQ L 48 a).1.text.size := by simp [EE]
   omega
  rcases List.mem_append.1 ht with ht | ht
  ·exact h3 t ht
  rw [List.mem_singleton.1 ht]; exact h6
theorem LD (L : List UInt8) : EE (B5 L).1 ≤ L.length ∧ ∀ t ∈ (B5 L).1, 1 ≤ t.text.size := by
 unfold B5; split
 ·exact ⟨Nat.zero_le _, fun t ht => by cases ht⟩
 exact Ps L _ _ _ (Nat.zero_le _) (Nat.zero_le _) (fun t ht => by cases ht)
def PathQ (L : List UInt8) (one : Nat → Tf × Nat × Nat) (a : Nat) : Prop := ∃ n, n ≤ L.length + 2 ∧ qGo L one 0 n 0 a = (L.length, 0)
theorem PathQ.lt {L : List UInt8} {one : Nat → Tf × Nat × Nat} {a : Nat} (h : PathQ L one a) : ∃ c, L[a]? = some c ∧ (c = 34 → a + 1 = L.length) := by
 obtain ⟨n, _, h⟩ := h; cases n with
 | zero => exact absurd (show (20 : Nat) = 0 from congrArg Prod.snd h) (by decide)
 | succ n =>
  simp only [qGo] at h; cases hc : L[a]? with
  | none => rw [hc] at h; exact absurd (show (20 : Nat) = 0 from congrArg Prod.snd h) (by decide)
  | some c =>
   refine ⟨c, rfl, fun h34 => ?_⟩; rw [hc] at h; dsimp only at h; rw [if_pos h34] at h; injection h
theorem PathQ.char {L : List UInt8} {one : Nat → Tf × Nat × Nat} {a : Nat} {c : UInt8} (h : PathQ L one a) (hc : L[a]? = some c) (h34 : c ≠ 34) (h92 : c ≠ 92) : PathQ L one (a + 1) := by
 obtain ⟨n, hn, h⟩ := h; cases n with
 | zero => exact absurd (show (20 : Nat) = 0 from congrArg Prod.snd h) (by decide)
 | succ n =>
  simp only [qGo] at h; rw [hc] at h; dsimp only at h; rw [if_neg h34, if_pos h92] at h; exact ⟨n, by omega, h⟩
theorem PathQ.esc {L : List UInt8} {one : Nat → Tf × Nat × Nat} {a : Nat} (h : PathQ L one a) (hc : L[a]? = some 92) (h40 : L[a + 1]? ≠ some 40) : PathQ L one (a + 2) := by
 obtain ⟨n, hn, h⟩ := h; cases n with
 | zero => exact absurd (show (20 : Nat) = 0 from congrArg Prod.snd h) (by decide)
 | succ n =>
  simp only [qGo] at h; rw [hc] at h; dsimp only at h; rw [if_neg (by decide), if_neg (by decide), if_neg h40] at h; exact ⟨n, by omega, h⟩
theorem Xq (L : List UInt8) (one : Nat → Tf × Nat × Nat) (hone : ∀ a, a ≤ L.length → OneOk L a (one a)) : ∀ (n o a : Nat), a ≤ L.length → qGo L one 0 n (o + 1) a = (L.length, 0) → ∀ m, n ≤ m → (∃ n', n' ≤ n ∧ qGo L one 0 n' 0 (DQ one m (o + 1) a) = (L.length, 0)) ∧ a < DQ one m (o + 1) a ∧ DQ one m (o + 1) a ≤ L.length := by
 intro n; induction n with
 | zero => intro o a _ h; exact absurd (show (20 : Nat) = 0 from congrArg Prod.snd h) (by decide)
 | succ n ih =>
  intro o a ha h m hm; obtain ⟨m, rfl⟩ : ∃ k, m = k + 1 := ⟨m - 1, by omega⟩
  have hok := hone a ha; simp only [qGo] at h; by_cases h1 : (one a).2.2 ≠ 0
  ·rw [if_pos h1] at h
   injection h with _ h; exact absurd h h1
  rw [if_neg h1] at h; by_cases h2 : (one a).1.kind = 0
  ·rw [if_pos h2] at h; exact absurd (show (20 : Nat) = 0 from congrArg Prod.snd h) (by decide)
  rw [if_neg h2] at h; have hf := hok.fwd (by omega) h2; have hl := hok.le; simp only [DQ]; by_cases h3 : (one a).1.kind = 6 ∧ (one a).1.text = ⟨#[40]⟩
  ·rw [if_pos h3] at h ⊢
   obtain ⟨⟨n', h4, h5⟩, h6, h7⟩ := ih (o + 1) _ hl h m (by omega); exact ⟨⟨n', by omega, h5⟩, Nat.lt_trans hf h6, h7⟩
  rw [if_neg h3] at h ⊢; by_cases h8 : (one a).1.kind = 6 ∧ (one a).1.text = ⟨#[41]⟩
  ·rw [if_pos h8] at h ⊢
   cases o with
   | zero =>
    have e : DQ one m 0 (one a).2.1 = (one a).2.1 := by cases m <;> rfl
    rw [e]; exact ⟨⟨n, by omega, h⟩, hf, hl⟩
   | succ o =>
    obtain ⟨⟨n', h4, h5⟩, h6, h7⟩ := ih o _ hl h m (by omega); exact ⟨⟨n', by omega, h5⟩, by omega, h7⟩
  rw [if_neg h8] at h ⊢; obtain ⟨⟨n', h4, h5⟩, h6, h7⟩ := ih o _ hl h m (by omega); exact ⟨⟨n', by omega, h5⟩, by omega, h7⟩
theorem PathQ.sub {L : List UInt8} {one : Nat → Tf × Nat × Nat} (hone : ∀ a, a ≤ L.length → OneOk L a (one a)) {a : Nat} (h : PathQ L one a) (hc : L[a]? = some 92) (h40 : L[a + 1]? = some 40) :
  PathQ L one (DQ one (L.length + 2) 1 (a + 2)) ∧ a + 2 < DQ one (L.length + 2) 1 (a + 2) ∧ DQ one (L.length + 2) 1 (a + 2) ≤ L.length := by
 obtain ⟨n, hn, h⟩ := h; cases n with
 | zero => exact absurd (show (20 : Nat) = 0 from congrArg Prod.snd h) (by decide)
 | succ n =>
  simp only [qGo] at h; rw [hc] at h; dsimp only at h; rw [if_neg (by decide), if_neg (by decide), if_pos h40] at h; have hl := (List.getElem?_eq_some_iff.1 h40).1; obtain ⟨⟨n', h1, h2⟩, h3, h4⟩ := Xq L one hone n 0 (a + 2) (by omega) h (L.length + 2) (by omega); exact ⟨⟨n', by omega, h2⟩, h3, h4⟩
theorem PathQ.end_ {L : List UInt8} {one : Nat → Tf × Nat × Nat} (_hone : ∀ a, a ≤ L.length → OneOk L a (one a)) {a : Nat} (h : PathQ L one a) : a + 1 ≤ L.length ∧ (a + 1 = L.length ↔ L[a]? = some 34) := by
 obtain ⟨c, hc, h34⟩ := h.lt; have hl := (List.getElem?_eq_some_iff.1 hc).1; refine ⟨hl, fun he => ?_, fun hh => h34 (by rw [hc] at hh; injection hh)⟩; by_cases h1 : c = 34
 ·rw [hc, h1]
 exfalso; have hx : L[a + 1]? = none := List.getElem?_eq_none (by omega); by_cases h2 : c = 92
 ·subst h2
  obtain ⟨d, hd, _⟩ := (h.esc hc (by rw [hx]; exact fun h => by cases h)).lt; have := (List.getElem?_eq_some_iff.1 hd).1; omega
 obtain ⟨d, hd, _⟩ := (h.char hc h1 h2).lt; rw [hx] at hd; cases hd
end Th
namespace Go.Proofs.YtakncilicoefdaaGreatDoor
open Go Go.RowKit Go.Proofs Th
attribute [local go_sem] Above.cell Above.frozen
theorem Da {a b : Bool} (h : a = b) : Ending.returned (.bool a) = .returned (.bool b) := by rw [h]
theorem Mu (c : UInt8) (h : 97 ≤ c.toNat ∧ c.toNat ≤ 122 ∨ 65 ≤ c.toNat ∧ c.toNat ≤ 90) : true = Ba c := by
 unfold Ba; rcases h with h | h <;> simp [h.1, h.2]
theorem Ig (c : UInt8) (h1 : 97 ≤ c.toNat → 122 < c.toNat) (h2 : 65 ≤ c.toNat → 90 < c.toNat) : ((c.toNat : Int) == 95) = Ba c := by
 unfold Ba; rw [decide_eq_false (fun h => by have := h1 h.1; omega), decide_eq_false (fun h => by have := h2 h.1; omega)]; simp only [Bool.false_or]; by_cases h5 : c.toNat = 95
 ·rw [decide_eq_true h5, beq_iff_eq]; omega
 rw [decide_eq_false h5, beq_eq_false_iff_ne]; omega
theorem Qt {p : UInt8 → Bool} {s : ByteArray} {j : Nat} (hj : j ≤ s.size) (h1 : ∀ i (h : i < s.data.toList.length), i < j → p s.data.toList[i] = true) (h2 : j = s.size ∨ ∃ h : j < s.size, p s[j] = false) : A8 p s.data.toList = j := by
 refine QI p _ j (by rw [Al]; exact hj) h1 ?_; rcases h2 with h2 | ⟨h, h2⟩
 ·exact Or.inl (by rw [Al]; exact h2)
 exact Or.inr ⟨by rw [Al]; exact h, h2⟩
theorem Ip {p : UInt8 → Bool} {s : ByteArray} {j : Nat} (hj : j < s.size) (h1 : ∀ i (h : i < s.data.toList.length), i < j → p s.data.toList[i] = true) (h2 : p s[j] = true) : ∀ i (h : i < s.data.toList.length), i < j + 1 → p s.data.toList[i] = true := by
 intro i h hi; by_cases hij : i < j
 ·exact h1 i h hij
 obtain rfl : i = j := by omega
 exact h2
theorem Uk (c : UInt8) (h1 : 48 ≤ c.toNat) : decide ((c.toNat : Int) ≤ 57) = Bo c := by
 unfold Bo; rw [decide_eq_true h1, Bool.true_and]; congr 1; apply propext; omega
theorem Uh (c : UInt8) (h1 : ¬ 48 ≤ c.toNat) : false = Bo c := by unfold Bo; simp [h1]
theorem E5 (c : UInt8) (w : World) : Calls Tryz.prog 73 #[.int .u8 c.toNat] w fun r w' => r = .returned (.bool (Ba c)) ∧ w' = w := by
 by_cases h1 : 97 ≤ c.toNat
 ·by_cases h2 : c.toNat ≤ 122
  ·have K := Keep.mk (Mu c (Or.inl ⟨h1, h2⟩))
   go_enter Tryz.func73, Tryz.ntmps73
   go_wp2
   go_ret
   exact ⟨Da K.out, rfl⟩
  have K := Keep.mk (show (decide ((c.toNat : Int) ≤ 122) || decide ((c.toNat : Int) ≤ 90) || (c.toNat : Int) == 95) = Ba c by rw [decide_eq_false (by omega), decide_eq_false (by omega)]; exact Ig c (fun _ => by omega) (fun _ => by omega)); go_enter Tryz.func73, Tryz.ntmps73
  go_wp2
  go_ret
  exact ⟨Da K.out, rfl⟩
 by_cases h2 : 65 ≤ c.toNat
 ·by_cases h3 : c.toNat ≤ 90
  ·have K := Keep.mk (Mu c (Or.inr ⟨h2, h3⟩))
   go_enter Tryz.func73, Tryz.ntmps73
   go_wp2
   go_ret
   exact ⟨Da K.out, rfl⟩
  have K := Keep.mk (show (decide ((c.toNat : Int) ≤ 90) || (c.toNat : Int) == 95) = Ba c by rw [decide_eq_false (by omega)]; exact Ig c (fun h => absurd h h1) (fun _ => by omega)); go_enter Tryz.func73, Tryz.ntmps73
  go_wp2
  go_ret
  exact ⟨Da K.out, rfl⟩
 have K := Keep.mk (Ig c (fun h => absurd h h1) (fun h => absurd h h2)); go_enter Tryz.func73, Tryz.ntmps73
 go_wp2
 go_ret
 exact ⟨Da K.out, rfl⟩
theorem FR (c : UInt8) (w : World) : Calls Tryz.prog 75 #[.int .u8 c.toNat] w fun r w' => r = .returned (.bool (Bo c)) ∧ w' = w := by
 by_cases h1 : 48 ≤ c.toNat
 ·have K := Keep.mk (Uk c h1)
  go_enter Tryz.func75, Tryz.ntmps75
  go_wp2
  go_ret
  exact ⟨Da K.out, rfl⟩
 have K := Keep.mk (Uh c h1); go_enter Tryz.func75, Tryz.ntmps75
 go_wp2
 go_ret
 exact ⟨Da K.out, rfl⟩
theorem Rv (c : UInt8) (w : World) : Calls Tryz.prog 99 #[.int .u8 c.toNat] w fun r w' => r = .returned (.bool (Ba c)) ∧ w' = w := by
 by_cases h1 : 97 ≤ c.toNat
 ·by_cases h2 : c.toNat ≤ 122
  ·have K := Keep.mk (Mu c (Or.inl ⟨h1, h2⟩))
   go_enter Tryz.func99, Tryz.ntmps99
   go_wp2
   go_ret
   exact ⟨Da K.out, rfl⟩
  have K := Keep.mk (show (decide ((c.toNat : Int) ≤ 122) || decide ((c.toNat : Int) ≤ 90) || (c.toNat : Int) == 95) = Ba c by rw [decide_eq_false (by omega), decide_eq_false (by omega)]; exact Ig c (fun _ => by omega) (fun _ => by omega)); go_enter Tryz.func99, Tryz.ntmps99
  go_wp2
  go_ret
  exact ⟨Da K.out, rfl⟩
 by_cases h2 : 65 ≤ c.toNat
 ·by_cases h3 : c.toNat ≤ 90
  ·have K := Keep.mk (Mu c (Or.inr ⟨h2, h3⟩))
   go_enter Tryz.func99, Tryz.ntmps99
   go_wp2
   go_ret
   exact ⟨Da K.out, rfl⟩
  have K := Keep.mk (show (decide ((c.toNat : Int) ≤ 90) || (c.toNat : Int) == 95) = Ba c by rw [decide_eq_false (by omega)]; exact Ig c (fun h => absurd h h1) (fun _ => by omega)); go_enter Tryz.func99, Tryz.ntmps99
  go_wp2
  go_ret
  exact ⟨Da K.out, rfl⟩
 have K := Keep.mk (Ig c (fun h => absurd h h1) (fun h => absurd h h2)); go_enter Tryz.func99, Tryz.ntmps99
 go_wp2
 go_ret
 exact ⟨Da K.out, rfl⟩
theorem TV (c : UInt8) (w : World) : Calls Tryz.prog 100 #[.int .u8 c.toNat] w fun r w' => r = .returned (.bool (Bo c)) ∧ w' = w := by
 by_cases h1 : 48 ≤ c.toNat
 ·have K := Keep.mk (Uk c h1)
  go_enter Tryz.func100, Tryz.ntmps100
  go_wp2
  go_ret
  exact ⟨Da K.out, rfl⟩
 have K := Keep.mk (Uh c h1); go_enter Tryz.func100, Tryz.ntmps100
 go_wp2
 go_ret
 exact ⟨Da K.out, rfl⟩
theorem OZ (s : ByteArray) (hs : s.size ≤ 100000000) (w : World) : Calls Tryz.prog 104 #[.string s] w fun r w' => r = .returned (.int .i64 (A7 s.data.toList : Int)) ∧ w' = w := by
 have HL := Keep.mk (Al s); have HR := Keep.mk (fun (j : Nat) (hj : j ≤ s.size) (h1 : ∀ i (h : i < s.data.toList.length), i < j → Bo s.data.toList[i] = true) (h2 : j = s.size ∨ ∃ h : j < s.size, Bo s[j] = false) => show A7 s.data.toList = j from Qt hj h1 h2); go_enter Tryz.func104, Tryz.ntmps104
 go_wp2_with fail
 go_loopg [3] s.size (fun gk i wr => ∃ j : Nat, j + gk = s.size ∧ i = .int .i64 j ∧ Keep (∀ i (h : i < s.data.toList.length), i < j → Bo s.data.toList[i] = true) ∧ w = wr)
 case atStart => exact ⟨0, by omega, rfl, ⟨fun _ _ h => absurd h (by omega)⟩, rfl⟩
 case round =>
  obtain ⟨j, hj, rfl, HD, rfl⟩ := hrel; by_cases hlt : j < s.size
  ·have hgk : gk ≠ 0 := by omega
   have HC := Keep.mk (FR s[j] w); cases hd : Bo s[j]
   ·rw [hd] at HC
    have HE := Keep.mk (HR.out j (by omega) HD.out (Or.inr ⟨hlt, hd⟩)); clear hd HD HR HL; go_wp2_with fail
    refine HC.out.mono ?_; rintro r w1 ⟨rfl, rfl⟩; go_wp2
    go_ret
    exact ⟨by rw [HE.out]; rfl, rfl⟩
   rw [hd] at HC; have HN := Keep.mk (Ip hlt HD.out hd); clear hd HD; go_wp2_with fail
   refine HC.out.mono ?_; rintro r w1 ⟨rfl, rfl⟩; go_wp2
   go_roundg (gk - 1)
   case rel => exact ⟨j + 1, by omega, by go_num, HN, rfl⟩
   case measure => omega
  have HE := Keep.mk (HR.out j (by omega) HD.out (Or.inl (by omega))); clear HD HR HL; go_wp2
  go_ret
  exact ⟨by rw [HE.out]; rfl, rfl⟩
theorem EA {s : ByteArray} (h : 0 < s.size) : ∃ r, s.data.toList = s[0] :: r := by
 have hl : 0 < s.data.toList.length := by rw [Al]; exact h
 cases hs : s.data.toList with
 | nil => rw [hs] at hl; cases hl
 | cons c r =>
  have : s[0] = s.data.toList[0] := rfl; refine ⟨r, ?_⟩; rw [this]; congr 1
  simp [hs]
theorem SA {s : ByteArray} (h : 0 < s.size) (hl : Ba s[0] = true) : AH s.data.toList = A8 Bg s.data.toList := by
 obtain ⟨r, hr⟩ := EA h; have hn : Bg s[0] = true := by unfold Bg; rw [hl]; rfl
 rw [hr]; simp only [AH, A8]; rw [if_pos hl, if_pos hn]
theorem Q8 {s : ByteArray} (h : 0 < s.size) (hl : Ba s[0] = false) : AH s.data.toList = 0 := by
 obtain ⟨r, hr⟩ := EA h; rw [hr]; simp only [AH]; rw [if_neg (by rw [hl]; decide)]
theorem QE {s : ByteArray} (h : s.size = 0) : AH s.data.toList = 0 := by
 rw [show s.data.toList = [] from List.eq_nil_of_length_eq_zero (by rw [Al]; exact h)]; rfl
theorem I7 (s : ByteArray) (hs : s.size ≤ 100000000) (w : World) : Calls Tryz.prog 74 #[.string s] w fun r w' => r = .returned (.int .i64 (AH s.data.toList : Int)) ∧ w' = w := by
 by_cases h0 : s.size = 0
 ·have HN := Keep.mk (QE h0)
  obtain rfl : s = ⟨#[]⟩ := Fu (show s.data.toList = [] from List.eq_nil_of_length_eq_zero (by rw [Al]; exact h0)); clear h0; go_enter Tryz.func74, Tryz.ntmps74
  go_wp2
  go_ret
  exact ⟨by rw [HN.out]; rfl, rfl⟩
 have h1 : 0 < s.size := by omega
 have hne : (s.toList == []) = false := by rw [Fh, beq_eq_false_iff_ne]; intro h; have := Al s; rw [h] at this; exact h0 this.symm
 have HC0 := Keep.mk (E5 s[0] w); cases hd0 : Ba s[0]
 ·rw [hd0] at HC0
  have HN := Keep.mk (Q8 h1 hd0); clear h0 hd0; go_enter Tryz.func74, Tryz.ntmps74
  go_wp2_with fail
  refine HC0.out.mono ?_; rintro r w1 ⟨rfl, rfl⟩; go_wp2
  go_ret
  exact ⟨by rw [HN.out]; rfl, rfl⟩
 rw [hd0] at HC0; have HR := Keep.mk (fun (j : Nat) (hj : j ≤ s.size) (h2 : ∀ i (h : i < s.data.toList.length), i < j → Bg s.data.toList[i] = true) (h3 : j = s.size ∨ ∃ h : j < s.size, Bg s[j] = false) => show AH s.data.toList = j from (SA h1 hd0).trans (Qt hj h2 h3)); have H0 := Keep.mk (show ∀ i (h : i < s.data.toList.length), i < 1 → Bg s.data.toList[i] = true from Ip h1 (fun i _ h => absurd h (by omega)) (by unfold Bg; rw [hd0]; rfl)); clear h0 hd0; go_enter Tryz.func74, Tryz.ntmps74
 go_wp2_with fail
 refine HC0.out.mono ?_; rintro r w1 ⟨rfl, rfl⟩; clear HC0; go_wp2_with fail
 go_loopg [3] (s.size - 1) (fun gk i wr => ∃ j : Nat, j + gk = s.size ∧ i = .int .i64 j ∧ Keep (∀ i (h : i < s.data.toList.length), i < j → Bg s.data.toList[i] = true) ∧ w1 = wr)
 case atStart => exact ⟨1, by omega, rfl, H0, rfl⟩
 case round =>
  obtain ⟨j, hj, rfl, HD, rfl⟩ := hrel; by_cases hlt : j < s.size
  ·have hgk : gk ≠ 0 := by omega
   have HC := Keep.mk (E5 s[j] w1); have HC2 := Keep.mk (FR s[j] w1); cases hd : Ba s[j]
   ·rw [hd] at HC
    cases hd2 : Bo s[j]
    ·rw [hd2] at HC2
     have HE := Keep.mk (HR.out j (by omega) HD.out (Or.inr ⟨hlt, by unfold Bg; rw [hd, hd2]; rfl⟩)); clear hd hd2 HD HR H0; go_wp2_with fail
     refine HC.out.mono ?_; rintro r w2 ⟨rfl, rfl⟩; go_wp2_with fail
     refine HC2.out.mono ?_; rintro r w3 ⟨rfl, rfl⟩; go_wp2
     go_ret
     exact ⟨by rw [HE.out]; rfl, rfl⟩
    rw [hd2] at HC2; have HN := Keep.mk (Ip hlt HD.out (show Bg s[j] = true by unfold Bg; rw [hd, hd2]; rfl)); clear hd hd2 HD; go_wp2_with fail
    refine HC.out.mono ?_; rintro r w2 ⟨rfl, rfl⟩; go_wp2_with fail
    refine HC2.out.mono ?_; rintro r w3 ⟨rfl, rfl⟩; go_wp2
    go_roundg (gk - 1)
    case rel => exact ⟨j + 1, by omega, by go_num, HN, rfl⟩
    case measure => omega
   rw [hd] at HC; have HN := Keep.mk (Ip hlt HD.out (show Bg s[j] = true by unfold Bg; rw [hd]; rfl)); clear hd HD; go_wp2_with fail
   refine HC.out.mono ?_; rintro r w2 ⟨rfl, rfl⟩; go_wp2
   go_roundg (gk - 1)
   case rel => exact ⟨j + 1, by omega, by go_num, HN, rfl⟩
   case measure => omega
  have HE := Keep.mk (HR.out j (by omega) HD.out (Or.inl (by omega))); clear HD HR H0; go_wp2
  go_ret
  exact ⟨by rw [HE.out]; rfl, rfl⟩
theorem Gw (s : ByteArray) (a : Nat) (_h : a ≤ s.size) : (s.extract a s.size).size = s.size - a := by
 have := congrArg List.length (EK s a); rw [Al, List.length_drop, Al] at this; exact this
theorem QP (l : List UInt8) (h : A7 l ≠ 0) : CT l = Ea l (C9 l (A7 l)) := by unfold CT; rw [if_neg h]
theorem Ph (l : List UInt8) (n : Nat) (c : UInt8) : Lib.hasPrefix (l.drop n) [c] = decide (l[n]? = some c) := by
 have : (l.drop n)[0]? = l[n]? := by rw [List.getElem?_drop]; rfl
 rw [← this]; unfold Lib.hasPrefix; cases l.drop n with
 | nil => rfl
 | cons d r =>
  simp [List.isPrefixOf]; by_cases hc : c = d
  ·simp [hc]
  simp [hc, Ne.symm hc]
open Go Go.RowKit Go.Proofs Th Go.Sort
theorem J7 (w : World) (k : Nat) (os : Array Obj) : Below w.heap.size w (grow (w.drewN k) os) :=
 ⟨rfl, rfl, rfl, by simp [grow, World.drewN], fun i hi => heap_grow_old (w.drewN k) os hi⟩
theorem OA (w : World) (T : TypeId) (nd : Nat) (hs : nd ≤ 24) : Holds (fun (b : UInt8) => Value.int .u8 (b.toNat : Int)) (w.alloc (.cells Lib.zeros24 T)) w.heap.size 0 (Array.replicate nd (0 : UInt8)) := fun j hj => by
 have hj' : j < nd := by simpa using hj
 refine ⟨?_, World.frozen?_alloc_new _ _ _ _⟩; rw [World.cell?_alloc_new, Lib.zeros24_at _ (by omega), getElem!_pos _ j hj]; simp
theorem Mb (u : Nat) (hu : u < 100) (w : World) : Calls Tryz.prog 82 #[.int .u64 u, .int .i64 10] w fun r w' =>
  r = .returned (.string ⟨(Lib.decDigits u).toArray⟩) ∧ Below w.heap.size w w' := by
 go_enter Tryz.func82, Tryz.ntmps82
 go_wp2_with (go_at_call 113; refine (Tryz.internal_strconv_small u hu _).mono ?_; rintro e w' ⟨rfl, rfl⟩)
 go_ret
 exact ⟨rfl, Below.refl _ _⟩
theorem N4 (u : Nat) (hu : 100 ≤ u) (hu64 : u < 18446744073709551616) (w : World) (hg : GlobP w) : Calls Tryz.prog 82 #[.int .u64 u, .int .i64 10] w fun r w' =>
  r = .returned (.string ⟨(Lib.decDigits u).toArray⟩) ∧ Below w.heap.size w w' := by
 have hu1 : 1 ≤ u := by omega
 have hnd20 : Lib.nDigits u ≤ 20 := by have := Lib.numDigits_eq u hu1 hu64; split at this <;> omega
 have hal : Tryz.prog.arrayLen 123 = 24 := by kernel_rfl
 have hel : Tryz.prog.elem 123 = 5 := by kernel_rfl
 have hsl : ∀ W, (Instr.sliceAt 123 (.pointer (some ⟨w.heap.size, 0, none⟩)) none (some (.int .i64 (Lib.nDigits u : Int))) none).run Tryz.prog W = .ok (.slice (some ⟨w.heap.size, 0, none⟩) (Lib.nDigits u) 24) W := fun W => by
  rw [run_sliceAt_array_h W 123 ⟨w.heap.size, 0, none⟩ (by simp [Program.arrayLen, Program.elem, Tryz.underlying123]) .i64 (Lib.nDigits u : Int) (by omega) (by rw [hal]; omega), hal, hel, Tryz.sizeOf5]; simp [slicedAt, Lib.add_plain]
 have hH0 := OA w 123 (Lib.nDigits u) (by omega); have hfmt := Tryz.internal_strconv_formatBase10 w.heap.size 0 24 u (Array.replicate (Lib.nDigits u) 0) (w.alloc (.cells Lib.zeros24 123)) hH0 (by rw [Array.size_replicate]; exact Lib.lt_pow_nDigits u) hu64 (by rw [Array.size_replicate]; omega); rw [Array.size_replicate] at hfmt; have HH0 := Keep.mk hH0; have HU := Keep.mk hu64; have HND := Keep.mk hnd20; clear hH0 hal hel hu64 hnd20; have hlt : ¬ u < 100 := by omega
 go_enter Tryz.func82, Tryz.ntmps82
 go_wp2_with (first
  | (go_at_call 114; refine (Tryz.internal_strconv_numDigits u hu1 HU.out _ (Lib.tabIs_alloc hg.pows _)).mono ?_; rintro e w' ⟨rfl, rfl⟩))
 go_at_call 115
 refine hfmt.mono ?_; rintro e w' ⟨rfl, k, v', dk, rfl, hF⟩; have hcv : (convert 101 9 (.slice (some ⟨w.heap.size, 0, none⟩) (Lib.nDigits u) 24)).run Tryz.prog ((putRow (fun (b : UInt8) => Value.int .u8 (b.toNat : Int)) (w.alloc (.cells Lib.zeros24 123)) w.heap.size 0 dk).drewN k) = .ok (.string ⟨(Lib.decDigits u).toArray⟩) ((putRow (fun (b : UInt8) => Value.int .u8 (b.toNat : Int)) (w.alloc (.cells Lib.zeros24 123)) w.heap.size 0 dk).drewN k) := by
  have h := run_convert_bytes_back (P := Tryz.prog) ((putRow (fun (b : UInt8) => Value.int .u8 (b.toNat : Int)) (w.alloc (.cells Lib.zeros24 123)) w.heap.size 0 dk).drewN k) 101 9 5 ⟨w.heap.size, 0, none⟩ 24 (Lib.decDigits u) Tryz.underlying101 Tryz.underlying5 Tryz.underlying9 (fun j hj => by
   rw [Lib.row_is_numeral hF j hj, Lib.add_plain, World.cell?_drewN]; exact cell?_putRow (fun (b : UInt8) => Value.int .u8 (b.toNat : Int)) _ w.heap.size 0 _ dk HH0.out (by rw [hF.size, Array.size_replicate]) j (by rw [hF.size]; rw [Lib.decDigits_length] at hj; exact hj))
  rw [Lib.decDigits_length] at h; exact h
 go_wp2
 go_ret
 refine ⟨rfl, ?_⟩; rw [alloc_eq_grow]; obtain ⟨os', _, e⟩ := putRow_grow_new (fun (b : UInt8) => Value.int .u8 (b.toNat : Int)) w #[.cells Lib.zeros24 123] w.heap.size 0 dk (Nat.le_refl _); rw [e]; exact J7 w k os'
theorem Qe (u : Nat) (hu64 : u < 18446744073709551616) (w : World) (hg : GlobP w) : Calls Tryz.prog 51 #[.int .u64 u, .int .i64 10] w fun r w' =>
  r = .returned (.string ⟨(Lib.decDigits u).toArray⟩) ∧ Below w.heap.size w w' := by
 have key : Calls Tryz.prog 82 #[.int .u64 u, .int .i64 10] w fun r w' => r = .returned (.string ⟨(Lib.decDigits u).toArray⟩) ∧ Below w.heap.size w w' := by
  by_cases h : u < 100
  ·exact Mb u h w
  exact N4 u (by omega) hu64 w hg
 have KEY := Keep.mk key; clear key hu64; go_enter Tryz.func51, Tryz.ntmps51
 go_wp2_with fail
 refine KEY.out.mono ?_; rintro e w' ⟨rfl, hb⟩; go_wp2
 go_ret
 exact ⟨rfl, hb⟩
theorem itoa (n : Int) (h0 : -9223372036854775808 ≤ n) (h1 : n ≤ 9223372036854775807) (w : World) (hg : GlobP w) : Calls Tryz.prog 54 #[.int .i64 n] w fun r w' =>
  r = .returned (.string ⟨(Lib.itoa n).toArray⟩) ∧ Below w.heap.size w w' :=
 (Tryz.strconv_Itoa n h0 h1 w hg.pows).mono fun e w' ⟨he, k, os, hw⟩ => ⟨he, by rw [hw]; exact J7 w k os⟩
theorem Fw (m e : Int) (hm : I64 m) (hr : right m e = true) : ∃ (A : Int) (S : ByteArray), (m.natAbs : Int) = A ∧ S = ⟨(Lib.decDigits m.natAbs).toArray⟩ ∧ S.size = nd m ∧
  (∀ w, Calls Tryz.prog 52 #[.agg #[.int .i64 m, .int .i64 e]] w fun r w' => r = .returned (.int .u64 A) ∧ Below w.heap.size w w') ∧
  (∀ w, GlobP w → Calls Tryz.prog 51 #[.int .u64 A, .int .i64 10] w fun r w' => r = .returned (.string S) ∧ Below w.heap.size w w') := by
 refine ⟨_, _, rfl, rfl, ?_, fun w => NP m e hm.lo hm.hi w, fun w hg => Qe m.natAbs (by have := GI hr; omega) w hg⟩; show (Lib.decDigits m.natAbs).toArray.size = _
 rw [List.size_toArray, Lib.decDigits_length]; rfl
theorem Ng (u : Nat) (h : u ≠ 0) : 10 ^ (Lib.nDigits u - 1) ≤ u := by
 induction u using Nat.strongRecOn with
 | _ u ih =>
  by_cases h9 : u < 10
  ·rw [Lib.nDigits_small h9]; simp; omega
  rw [Lib.nDigits_big h9, Nat.add_sub_cancel]; have := ih (u / 10) (by omega) (by omega); have h1 : Lib.nDigits (u / 10) = (Lib.nDigits (u / 10) - 1) + 1 := by
   have : 1 ≤ Lib.nDigits (u / 10) := by
    by_cases h9' : u / 10 < 10
    ·rw [Lib.nDigits_small h9']; omega
    rw [Lib.nDigits_big h9']; omega
   omega
  rw [h1, Nat.pow_succ]; omega
theorem Km {m e : Int} (h : right m e = true) : nd m ≤ 18 := by
 have h1 := GI h; unfold nd; by_cases h0 : m.natAbs = 0
 ·rw [h0, Lib.nDigits_small (by omega)]; omega
 have h2 := Lib.numDigits_eq m.natAbs (by omega) (by omega); have h3 : Lib.nDigits m.natAbs ≤ 18 := by
  rcases Nat.lt_or_ge 18 (Lib.nDigits m.natAbs) with h4 | h4
  ·exfalso
   have h5 := Ng m.natAbs (by omega); have h6 : (10 : Nat) ^ 18 ≤ 10 ^ (Lib.nDigits m.natAbs - 1) := Nat.pow_le_pow_right (by omega) (by omega); omega
  exact h4
 exact h3
end Go.Proofs.YtakncilicoefdaaGreatDoor
