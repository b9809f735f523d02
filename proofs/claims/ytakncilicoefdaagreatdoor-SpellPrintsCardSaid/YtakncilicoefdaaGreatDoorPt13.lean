/- Lemmas and contracts. Conditions: those that each lemma names. -/
import Derived.Test.YtakncilicoefdaaGreatDoorPt12
import Derived.Great.BuildSlice
set_option maxRecDepth 100000
set_option maxHeartbeats 4000000
namespace Go.Proofs.YtakncilicoefdaaGreatDoor
open Go Go.RowKit Go.Proofs Th
structure FI where
 off : Nat
 size : Nat
 agg : Bool
inductive TI where
 | flat (z : Value)
 | slice (e : TypeId) (esz : Nat)
 | struct (fs : List FI) (z : List Value)
def PA : TypeDesc → Bool
 | .struct _ => true
 | .array _ _ => true
 | _ => false
def MG (P : Program) (f : Field) : Option FI := match P.info? f.type, P.underlying f.type with
 | some i, some d => if 0 < i.size then some ⟨f.offset, i.size, PA d⟩ else none
 | _, _ => none
def G2 (P : Program) : List Field → Option (List FI)
 | [] => some []
 | f :: r => match MG P f, G2 P r with
  | some x, some y => some (x :: y)
  | _, _ => none
def Bx (P : Program) (t : TypeId) : Option TI := match P.underlying t, P.info? t with
 | some (.struct fields), some i => match i.zero, G2 P fields.toList with
  | some (.agg z), some fs => if i.size = z.size ∧ z.toList.all Value.oneCell' = true then some (.struct fs z.toList) else none
  | _, _ => none
 | some (.slice e), some i => match i.zero, P.info? e with
  | some (.slice none 0 0), some j => match j.zero with
   | some z => if i.size = 1 ∧ z.cells.size = j.size ∧ 0 < j.size ∧ j.bytes ≤ 140000 then some (.slice e j.size) else none
   | none => none
  | _, _ => none
 | some d, some i => match i.zero with
  | some z => if i.size = 1 ∧ z.oneCell' = true ∧ PA d = false then some (.flat z) else none
  | none => none
 | _, _ => none
theorem Dy {P : Program} {t : TypeId} {fs : List FI} {z : List Value} (h : Bx P t = some (.struct fs z)) :
  ∃ fields i, P.underlying t = some (.struct fields) ∧ P.info? t = some i ∧ i.zero = some (.agg z.toArray) ∧ i.size = z.length ∧ z.all Value.oneCell' = true ∧ G2 P fields.toList = some fs := by
 unfold Bx at h; split at h
 ·rename_i fields i hu hi
  split at h
  ·rename_i z' fs' hz hfs
   split at h
   ·rename_i hc
    injection h with h; injection h with h1 h2; subst h1 h2; exact ⟨fields, i, hu, hi, by rw [hz], by simpa using hc.1, hc.2, hfs⟩
   cases h
  cases h
 ·repeat' split at h
  all_goals cases h
 ·repeat' split at h
  all_goals cases h
 cases h
theorem Ex {P : Program} {t e : TypeId} {esz : Nat} (h : Bx P t = some (.slice e esz)) :
  ∃ i j z, P.underlying t = some (.slice e) ∧ P.info? t = some i ∧ i.size = 1 ∧ i.zero = some (.slice none 0 0) ∧ P.info? e = some j ∧ j.zero = some z ∧ z.cells.size = esz ∧ j.size = esz ∧ 0 < esz ∧ j.bytes ≤ 140000 := by
 unfold Bx at h; split at h
 ·repeat' split at h
  all_goals cases h
 ·rename_i e' i hu hi
  split at h
  ·rename_i j hz hj
   split at h
   ·rename_i z hz2
    split at h
    ·rename_i hc
     injection h with h; injection h with h1 h2; subst h1 h2; exact ⟨i, j, z, hu, hi, hc.1, hz, hj, hz2, hc.2.1, rfl, hc.2.2⟩
    cases h
   cases h
  cases h
 ·repeat' split at h
  all_goals cases h
 cases h
theorem OX {P : Program} {t : TypeId} {z : Value} (h : Bx P t = some (.flat z)) : ∃ d i, P.underlying t = some d ∧ P.info? t = some i ∧ i.size = 1 ∧ i.zero = some z ∧ z.oneCell' = true ∧ PA d = false := by
 unfold Bx at h; split at h
 ·repeat' split at h
  all_goals cases h
 ·repeat' split at h
  all_goals cases h
 ·rename_i d i _ _ hu hi
  split at h
  ·rename_i z' hz
   split at h
   ·rename_i hc
    injection h with h; injection h with h1; subst h1; exact ⟨d, i, hu, hi, hc.1, hz, hc.2⟩
   cases h
  cases h
 cases h
theorem Q0 {P : Program} {t : TypeId} {ti : TI} (h : Bx P t = some ti) (hs : ∀ fs z, ti ≠ .struct fs z) : ∃ d i, P.underlying t = some d ∧ P.info? t = some i ∧ i.size = 1 ∧ PA d = false := by
 cases ti with
 | flat z => obtain ⟨d, i, h1, h2, h3, _, _, h6⟩ := OX h; exact ⟨d, i, h1, h2, h3, h6⟩
 | slice e esz => obtain ⟨i, j, z, h1, h2, h3, _⟩ := Ex h; exact ⟨_, i, h1, h2, h3, rfl⟩
 | struct fs z => exact absurd rfl (hs fs z)
theorem KQ {P : Program} : ∀ {l : List Field} {fs : List FI}, G2 P l = some fs → ∀ (k : Nat) f, fs[k]? = some f → ∃ fd, l[k]? = some fd ∧ MG P fd = some f
 | [], _, h, k, f, hk => by
  injection h with h; subst h; simp at hk
 | d :: r, fs, h, k, f, hk => by
  simp only [G2] at h; split at h
  ·rename_i x y hx hy
   injection h with h; subst h; cases k with
   | zero => simp at hk; subst hk; exact ⟨d, rfl, hx⟩
   | succ k => simp at hk; simpa using KQ hy k f hk
  cases h
def FN (P : Program) (t : TypeId) : Option (Nat × Nat × List Value) := match P.underlying t, P.info? t with
 | some (.array n e), some i => match i.zero, P.info? e with
  | some (.agg z), some j => if i.size = z.size ∧ z.toList.all Value.oneCell' = true ∧ z.size = n * j.size ∧ 0 < j.size then some (n, j.size, z.toList) else none
  | _, _ => none
 | _, _ => none
theorem JF {P : Program} {t : TypeId} {n esz : Nat} {z : List Value} (h : FN P t = some (n, esz, z)) :
  ∃ e i j, P.underlying t = some (.array n e) ∧ P.info? t = some i ∧ i.zero = some (.agg z.toArray) ∧ i.size = z.length ∧ z.all Value.oneCell' = true ∧ P.info? e = some j ∧ j.size = esz ∧ z.length = n * esz := by
 unfold FN at h; split at h
 ·rename_i n' e i hu hi
  split at h
  ·rename_i z' j hz hj
   split at h
   ·rename_i hc
    injection h with h; injection h with h1 h2; injection h2 with h2 h3; subst h1 h2 h3; exact ⟨e, i, j, hu, hi, by rw [hz], by simpa using hc.1, hc.2.1, hj, rfl, by simpa using hc.2.2.1⟩
   cases h
  cases h
 cases h
def GD (n esz : Nat) : List FI := (List.range n).map fun i => ⟨i * esz, esz, false⟩
/-! what operations do -/
def Aw (s : ASt) : Operand → FV
 | .tmp t => s.fr t
 | .const x => .im (lift x)
 | .func f => .im (.v (.func (.func f) #[] #[]))
 | .global _ => .junk
def CX (st : Nat → AObj) : FV → Option IV
 | .im x => some x
 | .own k n => match st k with
  | .row _ _ es => if es.length = n then some (.sl es false) else none
  | _ => none
 | _ => none
def DG (st : Nat → AObj) : List FV → Option (List IV)
 | [] => some []
 | c :: r => match CX st c, DG st r with
  | some x, some y => some (x :: y)
  | _, _ => none
def cellsOf : IV → List IV
 | .agg cs => cs
 | x => [x]
def BT {α : Type} (cs : List α) (o : Nat) (xs : List α) : List α := cs.take o ++ (xs ++ cs.drop (o + xs.length))
def FV.ok (st : Nat → AObj) : FV → Prop
 | .im x => x.one = true
 | .own k n => match st k with
  | .row _ _ es => es.length = n
  | _ => False
 | .ptr _ _ => True
 | .pin _ _ => False
 | .junk => False
def En : TI → List FV
 | .flat z => [.im (lift z)]
 | .slice _ _ => [.im (.sl [] true)]
 | .struct _ z => z.map fun x => .im (lift x)
def Dr (st : Nat → AObj) (ti : Option TI) (cs : List FV) (o : Nat) (K : FV → Prop) : Prop := match ti with
 | some (.struct _ z) => match DG st ((cs.drop o).take z.length) with
  | some xs => xs.length = z.length ∧ K (.im (.agg xs))
  | none => False
 | some _ => match cs[o]? with
  | some c => K c
  | none => False
 | none => False
def EY (k : IntKind) (n : Int) (K : Value → Prop) : Prop := if k = .i64 then (-9223372036854775808 ≤ n ∧ n ≤ 9223372036854775807) ∧ K (.int k n) else K (.int k (k.wrap n))
def Hl (B : Prop) (op : BinOp) (a b : Value) (K : Value → Prop) : Prop := match a, b with
 | .int k x, .int k' y => k = k' ∧ (match op with
  | .add => EY k (x + y) K
  | .sub => EY k (x - y) K
  | .mul => EY k (x * y) K
  | .eql => K (.bool (decide (x = y)))
  | .neq => K (.bool (!decide (x = y)))
  | .lss => K (.bool (decide (x < y)))
  | .leq => K (.bool (decide (x ≤ y)))
  | .rem => y ≠ 0 ∧ K (.int k (x.tmod y))
  | .gtr => K (.bool (decide (y < x)))
  | .geq => K (.bool (decide (y ≤ x)))
  | _ => False)
 | .string x, .string y => (match op with
  | .add => x.size + y.size ≤ 9223372036854775807 ∧ K (.string (x ++ y))
  | .eql => K (.bool (decide (x = y)))
  | .neq => K (.bool (!decide (x = y)))
  | _ => False)
 | .bool x, .bool y => B ∧ (match op with
  | .eql => K (.bool (decide (x = y)))
  | .neq => K (.bool (!decide (x = y)))
  | _ => False)
 | _, _ => False
def Mt : Value → IV
 | .agg us => .agg (us.toList.map IV.v)
 | u => lift u
def Vu (P : Program) (t : TypeId) : Prop := ∀ (op : BinOp) (x y : Operand) (a b c d : Int) (W : World), (op = .eql ∨ op = .neq) → (eqGuard op t x y (.agg #[.int .i64 a, .int .i64 b]) (.agg #[.int .i64 c, .int .i64 d])).run P W = .ok () W ∧ (Op.equal t (.agg #[.int .i64 a, .int .i64 b]) (.agg #[.int .i64 c, .int .i64 d])).run P W = .ok (decide (a = c) && decide (b = d)) W
def DX (s : ASt) (fs : List FI) : List IV → List (Nat × Operand) → Option (List IV)
 | cells, [] => some cells
 | cells, (i, x) :: r => match fs[i]?, CX s.st (Aw s x) with
  | some f, some y => if (cellsOf y).length = f.size ∧ f.off + f.size ≤ cells.length ∧ (cellsOf y).all IV.one = true then DX s fs (BT cells f.off (cellsOf y)) r else none
  | _, _ => none
def DS (s : ASt) (esz : Nat) : Nat → List (Nat × Operand) → Option (List (List IV))
 | _, [] => some []
 | k, (i, x) :: r => match CX s.st (Aw s x), DS s esz (k + 1) r with
  | some y, some l => if i = k ∧ (cellsOf y).length = esz ∧ (cellsOf y).all IV.one = true then some ((cellsOf y).map IV.er1 :: l) else none
  | _, _ => none
def EX (st : Nat → AObj) (c : FV) : Option (List (List IV)) := match CX st c with
 | some (.sl es _) => some es
 | _ => none
def Gj : List IV → Option (List Value)
 | [] => some []
 | .v x :: r => match Gj r with
  | some l => some (x :: l)
  | none => none
 | _ => none
def Ky : FV → Option Value
 | .im (.v x) => some x
 | .im (.agg cs) => match Gj cs with
  | some l => some (.agg l.toArray)
  | none => none
 | _ => none
def Ek (s : ASt) (d : Nat) : Option Operand → (Int → Prop) → Prop
 | none, K => K d
 | some x, K => match Aw s x with
  | .im (.v (.int _ n)) => K n
  | _ => False
def Cw (P : Program) (b : Builtin) (xs : List Operand) (ts : List TypeId) (d : Option Nat) (s : ASt) (K : FV → (Nat → AObj) → Prop) : Prop := match b, xs, ts with
 | .len, [x], [t] => (match P.underlying t, Aw s x with
  | some .string, .im (.v (.string b)) => K (.im (.v (.int .i64 b.size))) s.st
  | some (.slice _), c => (match EX s.st c with
   | some es => K (.im (.v (.int .i64 es.length))) s.st
   | none => False)
  | _, _ => False)
 | .append, [x, y], [t, t'] => t' = t ∧ (match Bx P t, EX s.st (Aw s y), d with
  | some (.slice e esz), some new, some d => (match Aw s x with
   | .own k n => (match s.st k with
    | .row ty z es => (ty = e ∧ z = esz ∧ es.length = n ∧ 0 < new.length ∧ es.length + new.length ≤ 1000000000 ∧ ∀ e ∈ new, e.length = esz) ∧ K (.own k (es ++ new).length) (upd s.st k (.row e esz (es ++ new)))
    | _ => False)
   | .im (.sl es true) => (match s.st d with
    | .none => (0 < new.length ∧ es.length + new.length ≤ 1000000000 ∧ (∀ e ∈ new, e.length = esz) ∧ ∀ e ∈ es, e.length = esz) ∧ K (.own d (es ++ new).length) (upd s.st d (.row e esz (es ++ new)))
    | _ => False)
   | _ => False)
  | _, _, _ => False)
 | .min, [x, y], _ => (match Aw s x, Aw s y with
  | .im (.v (.int k a)), .im (.v (.int _ b)) => K (.im (.v (.int k (if b < a then b else a)))) s.st
  | _, _ => False)
 | _, _, _ => False
def Az (P : Program) (op : Op) (d : Option Nat) (s : ASt) (K : FV → (Nat → AObj) → Prop) : Prop := match op with
 | .move x => K (Aw s x) s.st
 | .assign x => K (Aw s x) s.st
 | .pick c a b => (match Aw s c with
  | .im (.v (.bool t)) => K (if t = true then Aw s a else Aw s b) s.st
  | _ => False)
 | .nilCheck x => (match Aw s x with
  | .ptr b o => K (.ptr b o) s.st
  | .im (.elt cs o) => K (.im (.elt cs o)) s.st
  | _ => False)
 | .alloc t => (match d with
  | some d => d ≠ 1000 ∧ (match s.st d, Bx P t with
   | .none, some ti => K (.ptr d 0) (upd s.st d (.box (En ti)))
   | .none, none => (match FN P t with
    | some a => K (.ptr d 0) (upd s.st d (.box (a.2.2.map fun x => .im (lift x))))
    | none => False)
   | _, _ => False)
  | none => False)
 | .box _ x => (match d with
  | some d => d ≠ 1000 ∧ (match s.st d, Aw s x with
   | .none, .im (.agg cs) => cs.all IV.one = true ∧ K (.ptr d 0) (upd s.st d (.box (cs.map FV.im)))
   | .none, c => c.ok s.st ∧ K (.ptr d 0) (upd s.st d (.box [c]))
   | _, _ => False)
  | none => False)
 | .load t x => (match Aw s x with
  | .ptr b o => (match s.st b with
   | .box cs => Dr s.st (Bx P t) cs o fun c => K c s.st
   | _ => False)
  | .im (.elt cs o) => Dr s.st (Bx P t) (cs.map FV.im) o fun c => K c s.st
  | _ => False)
 | .store t x y => (match Aw s x with
  | .ptr b o => (match s.st b with
   | .box cs => (match Bx P t with
    | some (.struct _ z) => (match Aw s y with
     | .im (.agg xs) => (xs.length = z.length ∧ o + z.length ≤ cs.length ∧ xs.all IV.one = true) ∧ K .junk (upd s.st b (.box (BT cs o (xs.map FV.im))))
     | _ => False)
    | some _ => (o < cs.length ∧ (Aw s y).ok s.st) ∧ K .junk (upd s.st b (.box (cs.set o (Aw s y))))
    | none => (match FN P t, Aw s y with
     | some a, .im (.agg xs) => (xs.length = a.2.2.length ∧ o + a.2.2.length ≤ cs.length ∧ xs.all IV.one = true) ∧ K .junk (upd s.st b (.box (BT cs o (xs.map FV.im))))
     | _, _ => False))
   | _ => False)
  | _ => False)
 | .build t parts => (match Bx P t with
  | some (.struct fs z) => (match DX s fs (z.map lift) parts.toList with
   | some cs => K (.im (.agg cs)) s.st
   | none => False)
  | none => (match FN P t with
   | some a => (match DX s (GD a.1 a.2.1) (a.2.2.map lift) parts.toList with
    | some cs => K (.im (.agg cs)) s.st
    | none => False)
   | none => False)
  | _ => False)
 | .buildSlice t n parts => (match Bx P t with
  | some (.slice _ esz) => (match DS s esz 0 parts.toList with
   | some es => (es.length = n ∧ 0 < n ∧ n * esz ≤ 16777216) ∧ K (.im (.sl es true)) s.st
   | none => False)
  | _ => False)
 | .fieldAddr t x f => (match Bx P t with
  | some (.struct fs _) => (match fs[f]?, Aw s x with
   | some fi, .ptr b o => K (.ptr b (o + fi.off)) s.st
   | some fi, .im (.elt cs o) => K (.im (.elt cs (o + fi.off))) s.st
   | _, _ => False)
  | _ => False)
 | .field t x f => (match Bx P t with
  | some (.struct fs _) => (match fs[f]?, Aw s x with
   | some fi, .im (.agg cs) => fi.agg = false ∧ (match cs[fi.off]? with
    | some y => K (.im y) s.st
    | none => False)
   | _, _ => False)
  | _ => False)
 | .indexAddr t x i => (match Bx P t with
  | some (.slice _ esz) => (match EX s.st (Aw s x), Aw s i with
   | some es, .im (.v (.int _ n)) => 0 ≤ n ∧ ∃ e, es[n.toNat]? = some e ∧ e.length = esz ∧ K (.im (.elt e 0)) s.st
   | _, _ => False)
  | none => (match FN P t, Aw s x, Aw s i with
   | some a, .ptr b o, .im (.v (.int _ n)) => (0 ≤ n ∧ n < (a.1 : Int)) ∧ K (.ptr b (o + n.toNat * a.2.1)) s.st
   | _, _, _ => False)
  | _ => False)
 | .index t x i => (match P.underlying t, Aw s x, Aw s i with
  | some .string, .im (.v (.string b)), .im (.v (.int _ n)) => 0 ≤ n ∧ ∃ c, b.data.toList[n.toNat]? = some c ∧ K (.im (.v (.int .u8 c.toNat))) s.st
  | _, _, _ => False)
 | .slice t x lo hi none => (match P.underlying t, Aw s x with
  | some .string, .im (.v (.string b)) => Ek s 0 lo fun l => Ek s b.size hi fun h => (0 ≤ l ∧ l ≤ h ∧ h ≤ b.size) ∧ K (.im (.v (.string (b.extract l.toNat h.toNat)))) s.st
  | some (.slice _), .im (.sl es _) => (match Bx P t with
   | some (.slice _ esz) => Ek s 0 lo fun l => Ek s es.length hi fun h => ((0 ≤ l ∧ l ≤ h ∧ h ≤ es.length) ∧ ∀ e ∈ es, e.length = esz) ∧ K (.im (.sl ((es.take h.toNat).drop l.toNat) false)) s.st
   | _ => False)
  | _, _ => False)
 | .binOp op t x y _ => (match Aw s x, Aw s y with
  | .im (.v a), .im (.v b) => Hl (P.underlying t = some .bool) op a b fun u => K (.im (.v u)) s.st
  | .im (.agg [.v (.int .i64 a), .v (.int .i64 b)]), .im (.agg [.v (.int .i64 c), .v (.int .i64 d)]) => Vu P t ∧ (match op with
   | .eql => K (.im (.v (.bool (decide (a = c) && decide (b = d))))) s.st
   | .neq => K (.im (.v (.bool (!(decide (a = c) && decide (b = d)))))) s.st
   | _ => False)
  | _, _ => False)
 | .unOp .not _ x => (match Aw s x with
  | .im (.v (.bool b)) => K (.im (.v (.bool !b))) s.st
  | _ => False)
 | .convert src dst x => (match P.underlying src, P.underlying dst, Aw s x with
  | some _, some (.int k), .im (.v (.int _ n)) => K (.im (.v (.int k (k.wrap n)))) s.st
  | _, _, _ => False)
 | .extract t i => (match Aw s t with
  | .im (.tup vs) => (match vs[i]? with
   | some x => K (.im x) s.st
   | none => False)
  | _ => False)
 | .typeAssert x _ t true => (match Bx P t, Aw s x with
  | some (.struct _ _), .im (.v (.iface t' u)) => t' = t ∧ K (.im (.tup [Mt u, .v (.bool true)])) s.st
  | _, _ => False)
 | .makeInterface t x => (match P.underlying t, Ky (Aw s x) with
  | some (.interface _), _ => False
  | some _, some u => K (.im (.v (.iface t u))) s.st
  | _, _ => False)
 | .call c => (match c.callee with
  | .builtin b => Cw P b c.args.toList c.argTypes.toList d s K
  | _ => False)
 | _ => False
/-! that they do so -/
theorem A5 {X : Ctx} {E : AEnv} {S : CS} {s : ASt} {a : Act} {W : World} (h : RelE X E S s a W) (x : Operand) : Bv W S E s.st (Aw s x) (a.eval x) := by
 cases x with
 | tmp t => exact h.fr t
 | const v => exact FB W S v
 | global g => trivial
 | func f => exact Rep.v _
theorem D8 {X : Ctx} {E : AEnv} {S : CS} {s : ASt} {a : Act} {W : World} (h : RelE X E S s a W) {c : FV} {u : Value} {x : IV} (hc : Bv W S E s.st c u) (hx : CX s.st c = some x) : Rep W S x u := by
 cases c with
 | junk => cases hx
 | im y => injection hx with hx; subst hx; exact hc
 | ptr b o => cases hx
 | pin b p => cases hx
 | own k n =>
  obtain ⟨ty, esz, es, h1, h2, h3⟩ := hc; simp only [CX, h1] at hx; split at hx
  ·rename_i hn
   injection hx with hx; subst hx; rw [h3 hn]; have ho := h.ob k; rw [h1] at ho; obtain ⟨xs, ⟨hxl, hv⟩, h5, h6, h7, h8, h9⟩ := ho; rcases hv with ⟨hv, h0⟩ | ⟨g, cap, cur, hv, hg, hcur, hcap, hmax, hsz, htk⟩
   ·rw [hv]
    obtain rfl : es = [] := List.eq_nil_of_length_eq_zero h0; exact .sl (es := []) 0 (fun _ _ => undef) (Nat.le_refl _) (by simp) (by simp) (fun h => by cases h) (fun _ h => absurd h List.not_mem_nil) (fun h => absurd h (Nat.lt_irrefl _)) (fun j i e x h => by simp at h)
   rw [hv]; have hown : W.ownsRow X.W0.heap.size ty esz (.slice (some ⟨g, 0, none⟩) es.length cap) es.length xs := ⟨hxl, Or.inr ⟨g, cap, cur, rfl, hg, hcur, hcap, hmax, hsz, htk⟩⟩; refine .sl esz (fun j i => xs.getD (j * esz + i) undef) hcap (by unfold maxLen at hmax; omega) (by omega) (fun h => by cases h) h7 (fun _ => ⟨g, 0, rfl, fun j i hj hi => ?_⟩) (fun j i e x he hx => ?_)
   ·have hlt : j * esz + i < es.length * esz := by
     have := Nat.mul_le_mul_right esz (show j + 1 ≤ es.length from hj); rw [Nat.add_mul] at this; omega
    refine ⟨(h9 g (by rw [hv]; rfl) _).2 (by omega), ?_⟩; have hcl := World.ownsRow.cells hown (g := g) rfl (j * esz + i) (xs.getD (j * esz + i) undef) (by rw [List.getD_eq_getElem?_getD, List.getElem?_eq_getElem (by omega)]; rfl); rw [Dj] at hcl; rw [← hcl]; congr 2; omega
   have hj := (List.getElem?_eq_some_iff.1 he).1; have hi := (List.getElem?_eq_some_iff.1 hx).1; rw [(h7 e (List.mem_of_getElem? he)).1] at hi; have hlt : j * esz + i < es.length * esz := by
    have := Nat.mul_le_mul_right esz (show j + 1 ≤ es.length from hj); rw [Nat.add_mul] at this; omega
   exact h8 j i e x _ he hx (by rw [List.getD_eq_getElem?_getD, List.getElem?_eq_getElem (by omega)]; rfl)
  cases hx
theorem Hu {X : Ctx} {E : AEnv} {S : CS} {s : ASt} {a : Act} {W : World} (h : RelE X E S s a W) : ∀ {cs : List FV} {us : List Value} {xs : List IV}, us.length = cs.length → (∀ (i : Nat) c u, cs[i]? = some c → us[i]? = some u → Bv W S E s.st c u) → DG s.st cs = some xs → RepL W S xs us
 | [], us, xs, hl, _, hx => by
  injection hx with hx; subst hx; obtain rfl : us = [] := List.eq_nil_of_length_eq_zero hl; exact RepL.nil W S
 | c :: r, us, xs, hl, hr, hx => by
  cases us with
  | nil => cases hl
  | cons u us =>
   simp only [DG] at hx; split at hx
   ·rename_i x l h1 h2
    injection hx with hx; subst hx; exact RepL.cons (D8 h (hr 0 c u rfl rfl) h1) (Hu h (by simpa using hl) (fun i c' u' hc hu => hr (i + 1) c' u' hc hu) h2)
   cases hx
def Out (P : Program) (X : Ctx) (s : ASt) (a : Act) (W : World) (o : Oper) (K : FV → (Nat → AObj) → Prop) (Q : Exit → Act → World → Prop) : Prop :=
 o.wp P a W (fun a' W' => ∃ c st' E' S' u, K c st' ∧ a' = a.put o.dst u ∧ RelE X E' S' ⟨s.fr, st'⟩ a W' ∧ Bv W' S' E' st' c u) Q
theorem Ef {P : Program} {X : Ctx} {s : ASt} {a : Act} {W : World} {o : Oper} {K : FV → (Nat → AObj) → Prop} {Q : Exit → Act → World → Prop} {c : FV} {st' : Nat → AObj} {E' : AEnv} {S' : CS} {u : Value} {W' : World}
  (hr : (execOp a.eval o).run P W = .ok (.value u) W') (hK : K c st') (hR : RelE X E' S' ⟨s.fr, st'⟩ a W') (hc : Bv W' S' E' st' c u) : Out P X s a W o K Q := by
 unfold Out Oper.wp; rw [hr]; exact ⟨c, st', E', S', u, hK, rfl, hR, hc⟩
theorem MC {P : Program} {X : Ctx} {s : ASt} {a : Act} {W : World} {o : Oper} {K : FV → (Nat → AObj) → Prop} {Q : Exit → Act → World → Prop} {c : FV} {st' : Nat → AObj} {E' : AEnv} {S' : CS} {W' : World}
  (hr : (execOp a.eval o).run P W = .ok .skip W') (hK : K c st') (hR : RelE X E' S' ⟨s.fr, st'⟩ a W') (hc : Bv W' S' E' st' c undef) : Out P X s a W o K Q := by
 unfold Out Oper.wp; rw [hr]; exact ⟨c, st', E', S', undef, hK, rfl, hR, hc⟩
section
variable {P : Program} {X : Ctx} {E : AEnv} {S : CS} {s : ASt} {a : Act} {W : World} {o : Oper} {K : FV → (Nat → AObj) → Prop} {Q : Exit → Act → World → Prop}
theorem AZ (h : RelE X E S s a W) {c : FV} {u : Value} (hr : (execOp a.eval o).run P W = .ok (.value u) W) (hK : K c s.st) (hc : Bv W S E s.st c u) : Out P X s a W o K Q :=
 Ef hr hK h hc
end
open Go Go.RowKit Go.Proofs Th
structure Upd (p : Nat) (w w' : World) : Prop where
 os : w'.os = w.os
 tape : w'.tape = w.tape
 output : w'.output = w.output
 size : w.heap.size ≤ w'.heap.size
 block : ∀ k, k < w.heap.size → k ≠ p → w'.heap[k]? = w.heap[k]?
theorem Upd.refl (p : Nat) (w : World) : Upd p w w := ⟨rfl, rfl, rfl, Nat.le_refl _, fun _ _ _ => rfl⟩
theorem Upd.trans {p : Nat} {a b c : World} (h : Upd p a b) (k : Upd p b c) : Upd p a c :=
 ⟨k.os.trans h.os, k.tape.trans h.tape, k.output.trans h.output, Nat.le_trans h.size k.size, fun i hi hp => (k.block i (Nat.lt_of_lt_of_le hi h.size) hp).trans (h.block i hi hp)⟩
theorem Upd.of {p : Nat} {w w' : World} (h : Below w.heap.size w w') : Upd p w w' := ⟨h.os, h.tape, h.output, h.size, fun k hk _ => h.block k hk⟩
theorem Upd.below {p B : Nat} {w w' : World} (h : Upd p w w') (hB : B ≤ w.heap.size) (hp : B ≤ p) : Below B w w' := ⟨h.os, h.tape, h.output, h.size, fun k hk => h.block k (Nat.lt_of_lt_of_le hk hB) (by omega)⟩
theorem Upd.set (p i : Nat) (w : World) (v : Value) : Upd p w (w.setCell ⟨p, i, none⟩ v) := by
 have h := (Below.refl p w).setCell (p := ⟨p, i, none⟩) (Nat.le_refl _) v; exact ⟨h.os, h.tape, h.output, h.size, fun k _ hp => Below.heap_setCell w ⟨p, i, none⟩ v k hp⟩
theorem Box.upd {w w' : World} {g p : Nat} {cs : List Value} (h : Box w g cs) (hu : Upd p w w') (hp : g ≠ p) : Box w' g cs := by
 have hb := hu.block g h.lt hp; refine ⟨fun i v hv => (Bw hb).trans (h.cell i v hv), fun i => ?_, Nat.lt_of_lt_of_le h.lt hu.size⟩; have := h.froz i; unfold World.frozen? at this ⊢; rw [hb]; exact this
structure ToksIn (W : World) (S : Nat → Prop) (A : Option Addr) (c : Nat) (l : List Tf) : Prop where
 le : l.length ≤ c
 cap : l.length ≤ 100000
 top : c ≤ 9223372036854775807
 small : ∀ t ∈ l, t.text.size ≤ 100000 ∧ t.at_ ≤ 100000
 at_ : 0 < l.length → ∃ g o, A = some ⟨g, o, none⟩ ∧ S g ∧ ∀ j (h : j < l.length), W.cell? ⟨g, o + j * 3, none⟩ = some (.int .i64 (l[j].kind : Int)) ∧ W.cell? ⟨g, o + j * 3 + 1, none⟩ = some (.string l[j].text) ∧ W.cell? ⟨g, o + j * 3 + 2, none⟩ = some (.int .i64 (l[j].at_ : Int))
theorem ToksIn.keep {W W' : World} {S T : Nat → Prop} {A : Option Addr} {c : Nat} {l : List Tf} (h : ToksIn W S A c l) (hb : ∀ g, S g → W'.heap[g]? = W.heap[g]?) (hT : ∀ g, S g → T g) : ToksIn W' T A c l :=
 ⟨h.le, h.cap, h.top, h.small, fun hn => by
  obtain ⟨g, o, e, hg, hc⟩ := h.at_ hn; refine ⟨g, o, e, hT g hg, fun j hj => ?_⟩; obtain ⟨h1, h2, h3⟩ := hc j hj; exact ⟨(Bw (hb g hg)).trans h1, (Bw (hb g hg)).trans h2, (Bw (hb g hg)).trans h3⟩⟩
open Go Go.RowKit Go.Proofs Th
attribute [local go_sem] Above.cell Above.frozen
theorem I9 (n : Nat) (h : n ≠ 0) : (Ap n).map (fun d => UInt8.ofNat (48 + d)) = Lib.decDigits n := by
 induction n using Nat.strongRecOn with
 | _ n ih =>
  rw [Eu n h, List.map_append, Lib.decDigits]; split
  ·rename_i h10
   rw [show n / 10 = 0 by omega, C6, show n % 10 = n by omega]; rfl
  rename_i h10
  rw [ih (n / 10) (by omega) (by omega)]; rfl
theorem BU (n : Nat) (h : n ≠ 0) : (AO (Ap n)).data.toList = Lib.decDigits n := by
 unfold AO; rw [← I9 n h]
theorem E1 (ds : List Nat) : (AO ds).data.toList = ds.map (fun d => UInt8.ofNat (48 + d)) := by unfold AO; rfl
theorem EJ (n : Nat) : (BZ n).data.toList = List.replicate n 48 := by unfold BZ; rfl
theorem IntsAt.drop {w : World} {B g o c : Nat} {ds : List Nat} (h : IntsAt w B (some ⟨g, o, none⟩) c ds) (k : Nat) (hk : k ≤ ds.length) : IntsAt w B (if c = k then some ⟨g, o, none⟩ else some ⟨g, o + k, none⟩) (c - k) (ds.drop k) := by
 have hl := h.le; refine ⟨by rw [List.length_drop]; omega, by have := h.cap; omega, fun hn => ?_⟩; rw [List.length_drop] at hn; obtain ⟨g', o', e, hg, hc⟩ := h.at_ (by omega); injection e with e; injection e with e1 e2; subst e1 e2; rw [if_neg (by omega)]; refine ⟨_, _, rfl, hg, fun j hj => ?_⟩; rw [List.length_drop] at hj; have := hc (k + j) (by omega); rw [List.getElem_drop, Nat.add_assoc]; exact this
theorem IntsAt.drop2 {w : World} {B g o c : Nat} {ds : List Nat} (h : IntsAt w B (some ⟨g, o, none⟩) c ds) (k : Nat) (hk : k < c) (hl : k ≤ ds.length) : IntsAt w B (some ⟨g, o + k, none⟩) (c - k) (ds.drop k) := by
 have := h.drop k hl; rwa [if_neg (by omega)] at this
theorem CN {W : World} {A : Option Addr} {c : Nat} {ds : List Nat} (h : IntsAt W W.heap.size A c ds) (x : Above W) : IntsAt x.val x.val.heap.size A c ds := (h.below x.property (Nat.le_refl _)).more x.property.size
theorem Cc (A : Option Addr) (c n : Nat) (ds : List Nat) (hn : n = ds.length) (hd : Digs ds) (hl : ds.length ≤ 1000) (S : ByteArray) (hS : AO ds = S) (w : World) (hI : IntsAt w w.heap.size A c ds) :
  Calls Tryz.prog 60 #[.slice A n c] w fun r w' => r = .returned (.string S) ∧ Below w.heap.size w w' := by
 subst hn hS; exact SK A c ds hd hl w hI
theorem FT (n : Int) (h : n ≤ 1000) (Z : ByteArray) (hZ : BZ n.toNat = Z) (w : World) : Calls Tryz.prog 61 #[.int .i64 n] w fun r w' => r = .returned (.string Z) ∧ Below w.heap.size w w' := by
 subst hZ; exact Ou n h w
theorem D6 (m e : Int) (hm : I64 m) (hn : m < 0) (w : World) : Calls Tryz.prog 59 #[.agg #[.int .i64 m, .int .i64 e]] w fun r w' => ∃ A c, r = .returned (.agg #[.bool true, .slice A (Ap m.natAbs).length c, .int .i64 e]) ∧ IntsAt w' w'.heap.size A c (Ap m.natAbs) ∧ Below w.heap.size w w' := by
 have := Pb m e hm w; rwa [decide_eq_true hn] at this
theorem Du (m e : Int) (hm : I64 m) (hn : ¬ m < 0) (w : World) : Calls Tryz.prog 59 #[.agg #[.int .i64 m, .int .i64 e]] w fun r w' => ∃ A c, r = .returned (.agg #[.bool false, .slice A (Ap m.natAbs).length c, .int .i64 e]) ∧ IntsAt w' w'.heap.size A c (Ap m.natAbs) ∧ Below w.heap.size w w' := by
 have := Pb m e hm w; rwa [decide_eq_false hn] at this
theorem Pp (m e : Int) (hm : I64 m) (h : right m e = false) (w : World) : Calls Tryz.prog 37 #[.agg #[.int .i64 m, .int .i64 e]] w fun r w' => r = .returned (Bl ([], 10)) ∧ Below w.heap.size w w' := by
 go_enter Tryz.func37, Tryz.ntmps37
 go_wp2_with fail
 refine (B0 m e hm _).mono ?_; rw [h]; rintro r W1 ⟨rfl, hb⟩; have Hx := Keep.mk ((Box.new (w := w) (n := w.heap.size) [.int .i64 m, .int .i64 e] 23 (by first | rfl | simp)).below hb (by simp only [World.size_alloc]; omega)); have HB := Keep.mk (up (al1 w _) hb); obtain ⟨xc0, xf0, xc1, xf1, xl⟩ := Hx.out.q2l; go_wp2
 go_ret2
 exact ⟨rfl, HB.out⟩
theorem Qk (m e : Int) (hm : I64 m) (h : right m e = true) (_hm0 : m ≠ 0) (hn : m < 0) (he : 0 ≤ e) (hk : (nd m : Int) + e ≤ 21) (w : World) : Calls Tryz.prog 37 #[.agg #[.int .i64 m, .int .i64 e]] w fun r w' => r = .returned (Bl (AL m e, 0)) ∧ Below w.heap.size w w' := by
 have HE := Bz h; have hlen := BR m.natAbs (by have := hm.lo; have := hm.hi; omega); have HD := Keep.mk (BI m.natAbs); have HK := Keep.mk (show ((Ap m.natAbs).length : Nat) = nd m from BS _ (by omega)); have hkk : 1 ≤ (Ap m.natAbs).length := by rw [HK.out]; exact Ct m
 rw [← HK.out] at hk; have HF := Keep.mk (show AL m e = sgn m ++ (AO (Ap m.natAbs)).data.toList ++ (BZ e.toNat).data.toList by
   unfold AL; rw [if_pos ⟨he, by rw [← HK.out]; exact hk⟩, BU _ (by omega), EJ])
 have HG := Keep.mk (show sgn m = [45] by unfold sgn; rw [if_pos hn]); go_enter Tryz.func37, Tryz.ntmps37
 go_wp2_with fail
 refine (B0 m e hm _).mono ?_; rw [h]; rintro r W1 ⟨rfl, hb⟩; have Hx := Keep.mk ((Box.new (w := w) (n := w.heap.size) [.int .i64 m, .int .i64 e] 23 (by first | rfl | simp)).below hb (by simp only [World.size_alloc]; omega)); have HB := Keep.mk (up (al1 w _) hb); obtain ⟨xc0, xf0, xc1, xf1, xl⟩ := Hx.out.q2l; go_wp2_with fail
 refine (D6 m e hm (by omega) _).mono ?_; rintro r W2 ⟨A2, c2, rfl, hI2, hb⟩; clear xc0 xc1 xf0 xf1 xl; replace Hx := Keep.mk (Hx.out.below hb Hx.out.lt); replace HB := Keep.mk (up HB.out hb); obtain ⟨xc0, xf0, xc1, xf1, xl⟩ := Hx.out.q2l; have HJ := Keep.mk hI2; clear hn; go_upto_region 4 with fail
 have xlW2 := Hx.out.lt; refine BC (fun W => Box W (w.heap.size) [.int .i64 m, .int .i64 e] ∧ Box W (W2.heap.size) [.bool true, .slice A2 (Ap m.natAbs).length c2, .int .i64 e] ∧ Below w.heap.size w W ∧ IntsAt W W.heap.size A2 c2 (Ap m.natAbs)) ⟨Hx.out.alloc _, Box.new [.bool true, .slice A2 (Ap m.natAbs).length c2, .int .i64 e] _ rfl, up HB.out (al1 _ _), (HJ.out.below (al1 _ _) (Nat.le_refl _)).more (al1 _ _).size⟩ ?_; clear xc0 xc1 xf0 xf1 xl; clear Hx HB HJ; rintro W3 ⟨Hx, Hp, HB, HJ⟩; replace Hx := Keep.mk Hx; replace Hp := Keep.mk Hp; replace HB := Keep.mk HB; replace HJ := Keep.mk HJ; obtain ⟨xc0, xf0, xc1, xf1, xl⟩ := Hx.out.q2l; obtain ⟨pc0, pf0, pc1, pf1, pc2, pf2, pl⟩ := Hp.out.q3l; generalize hds : Ap m.natAbs = ds at *; clear hds; obtain ⟨S, hS⟩ : ∃ S, AO ds = S := ⟨_, rfl⟩
 obtain ⟨Z, hZ⟩ : ∃ Z, BZ e.toNat = Z := ⟨_, rfl⟩
 have hSs : S.size ≤ 1000 := by rw [← hS, Bi]; omega
 have hZs : Z.size ≤ 1000 := by rw [← hZ, DT]; omega
 rw [hS, hZ] at HF; have HS := Keep.mk hS; have HZ := Keep.mk hZ; clear hS hZ; go_wp2_with fail
 refine Ay (by kernel_rfl) (by kernel_rfl) ?_; repeat (go_big_quiet_step (((first | (go_at_call 60; exact Be (Cc A2 c2 _ ds rfl HD.out (by omega) S HS.out _ (CN HJ.out _))) | (go_at_call 61; exact Be (FT e (by omega) Z HZ.out _))))))
 refine wpQuiet_nil ?_; rintro _ ⟨x, rfl⟩; go_wp2
 go_ret2
 exact ⟨Bj (by rw [HF.out, HG.out]; simp), up HB.out x.property⟩
theorem P9 (m e : Int) (hm : I64 m) (h : right m e = true) (hm0 : m ≠ 0) (hn : ¬ m < 0) (he : 0 ≤ e) (hk : (nd m : Int) + e ≤ 21) (w : World) : Calls Tryz.prog 37 #[.agg #[.int .i64 m, .int .i64 e]] w fun r w' => r = .returned (Bl (AL m e, 0)) ∧ Below w.heap.size w w' := by
 have HE := Bz h; have hlen := BR m.natAbs (by have := hm.lo; have := hm.hi; omega); have HD := Keep.mk (BI m.natAbs); have HK := Keep.mk (show ((Ap m.natAbs).length : Nat) = nd m from BS _ (by omega)); have hkk : 1 ≤ (Ap m.natAbs).length := by rw [HK.out]; exact Ct m
 rw [← HK.out] at hk; have HF := Keep.mk (show AL m e = sgn m ++ (AO (Ap m.natAbs)).data.toList ++ (BZ e.toNat).data.toList by
   unfold AL; rw [if_pos ⟨he, by rw [← HK.out]; exact hk⟩, BU _ (by omega), EJ])
 have HG := Keep.mk (show sgn m = [] by unfold sgn; rw [if_neg hn]); go_enter Tryz.func37, Tryz.ntmps37
 go_wp2_with fail
 refine (B0 m e hm _).mono ?_; rw [h]; rintro r W1 ⟨rfl, hb⟩; have Hx := Keep.mk ((Box.new (w := w) (n := w.heap.size) [.int .i64 m, .int .i64 e] 23 (by first | rfl | simp)).below hb (by simp only [World.size_alloc]; omega)); have HB := Keep.mk (up (al1 w _) hb); obtain ⟨xc0, xf0, xc1, xf1, xl⟩ := Hx.out.q2l; go_wp2_with fail
 refine (Du m e hm (by omega) _).mono ?_; rintro r W2 ⟨A2, c2, rfl, hI2, hb⟩; clear xc0 xc1 xf0 xf1 xl; replace Hx := Keep.mk (Hx.out.below hb Hx.out.lt); replace HB := Keep.mk (up HB.out hb); obtain ⟨xc0, xf0, xc1, xf1, xl⟩ := Hx.out.q2l; have HJ := Keep.mk hI2; clear hn; go_upto_region 4 with fail
 have xlW2 := Hx.out.lt; refine BC (fun W => Box W (w.heap.size) [.int .i64 m, .int .i64 e] ∧ Box W (W2.heap.size) [.bool false, .slice A2 (Ap m.natAbs).length c2, .int .i64 e] ∧ Below w.heap.size w W ∧ IntsAt W W.heap.size A2 c2 (Ap m.natAbs)) ⟨Hx.out.alloc _, Box.new [.bool false, .slice A2 (Ap m.natAbs).length c2, .int .i64 e] _ rfl, up HB.out (al1 _ _), (HJ.out.below (al1 _ _) (Nat.le_refl _)).more (al1 _ _).size⟩ ?_; clear xc0 xc1 xf0 xf1 xl; clear Hx HB HJ; rintro W3 ⟨Hx, Hp, HB, HJ⟩; replace Hx := Keep.mk Hx; replace Hp := Keep.mk Hp; replace HB := Keep.mk HB; replace HJ := Keep.mk HJ; obtain ⟨xc0, xf0, xc1, xf1, xl⟩ := Hx.out.q2l; obtain ⟨pc0, pf0, pc1, pf1, pc2, pf2, pl⟩ := Hp.out.q3l; generalize hds : Ap m.natAbs = ds at *; clear hds; obtain ⟨S, hS⟩ : ∃ S, AO ds = S := ⟨_, rfl⟩
 obtain ⟨Z, hZ⟩ : ∃ Z, BZ e.toNat = Z := ⟨_, rfl⟩
 have hSs : S.size ≤ 1000 := by rw [← hS, Bi]; omega
 have hZs : Z.size ≤ 1000 := by rw [← hZ, DT]; omega
 rw [hS, hZ] at HF; have HS := Keep.mk hS; have HZ := Keep.mk hZ; clear hS hZ; go_wp2_with fail
 refine Ay (by kernel_rfl) (by kernel_rfl) ?_; repeat (go_big_quiet_step (((first | (go_at_call 60; exact Be (Cc A2 c2 _ ds rfl HD.out (by omega) S HS.out _ (CN HJ.out _))) | (go_at_call 61; exact Be (FT e (by omega) Z HZ.out _))))))
 refine wpQuiet_nil ?_; rintro _ ⟨x, rfl⟩; go_wp2
 go_ret2
 exact ⟨Bj (by rw [HF.out, HG.out]; simp), up HB.out x.property⟩
theorem Ox (m e : Int) (hm : I64 m) (h : right m e = true) (_hm0 : m ≠ 0) (hn : m < 0) (he : e < 0) (he2 : -20 ≤ e) (hk : -e < (nd m : Int)) (w : World) : Calls Tryz.prog 37 #[.agg #[.int .i64 m, .int .i64 e]] w fun r w' => r = .returned (Bl (AL m e, 0)) ∧ Below w.heap.size w w' := by
 have HE := Bz h; have hlen := BR m.natAbs (by have := hm.lo; have := hm.hi; omega); have HD := Keep.mk (BI m.natAbs); have HK := Keep.mk (show ((Ap m.natAbs).length : Nat) = nd m from BS _ (by omega)); have hkk : 1 ≤ (Ap m.natAbs).length := by rw [HK.out]; exact Ct m
 rw [← HK.out] at hk; have HF := Keep.mk (show AL m e = sgn m ++ (AO ((Ap m.natAbs).take (((Ap m.natAbs).length : Int) + e).toNat)).data.toList ++ [46] ++ (AO ((Ap m.natAbs).drop (((Ap m.natAbs).length : Int) + e).toNat)).data.toList by
   have hp : pad m e = Lib.decDigits m.natAbs := by {unfold pad; rw [if_neg (by rw [← HK.out]; omega)]}
   unfold AL; rw [if_neg (by omega), if_pos ⟨he, he2⟩, hp, Lib.decDigits_length, E1, E1, List.map_take, List.map_drop, I9 _ (by omega), show (Ap m.natAbs).length = Lib.nDigits m.natAbs from HK.out])
 have HG := Keep.mk (show sgn m = [45] by unfold sgn; rw [if_pos hn]); go_enter Tryz.func37, Tryz.ntmps37
 go_wp2_with fail
 refine (B0 m e hm _).mono ?_; rw [h]; rintro r W1 ⟨rfl, hb⟩; have Hx := Keep.mk ((Box.new (w := w) (n := w.heap.size) [.int .i64 m, .int .i64 e] 23 (by first | rfl | simp)).below hb (by simp only [World.size_alloc]; omega)); have HB := Keep.mk (up (al1 w _) hb); obtain ⟨xc0, xf0, xc1, xf1, xl⟩ := Hx.out.q2l; go_wp2_with fail
 refine (D6 m e hm (by omega) _).mono ?_; rintro r W2 ⟨A2, c2, rfl, hI2, hb⟩; clear xc0 xc1 xf0 xf1 xl; replace Hx := Keep.mk (Hx.out.below hb Hx.out.lt); replace HB := Keep.mk (up HB.out hb); obtain ⟨xc0, xf0, xc1, xf1, xl⟩ := Hx.out.q2l; have HJ := Keep.mk hI2; clear hn; go_upto_region 4 with fail
 have xlW2 := Hx.out.lt; refine BC (fun W => Box W (w.heap.size) [.int .i64 m, .int .i64 e] ∧ Box W (W2.heap.size) [.bool true, .slice A2 (Ap m.natAbs).length c2, .int .i64 e] ∧ Below w.heap.size w W ∧ IntsAt W W.heap.size A2 c2 (Ap m.natAbs)) ⟨Hx.out.alloc _, Box.new [.bool true, .slice A2 (Ap m.natAbs).length c2, .int .i64 e] _ rfl, up HB.out (al1 _ _), (HJ.out.below (al1 _ _) (Nat.le_refl _)).more (al1 _ _).size⟩ ?_; clear xc0 xc1 xf0 xf1 xl; clear Hx HB HJ; rintro W3 ⟨Hx, Hp, HB, HJ⟩; replace Hx := Keep.mk Hx; replace Hp := Keep.mk Hp; replace HB := Keep.mk HB; replace HJ := Keep.mk HJ; obtain ⟨xc0, xf0, xc1, xf1, xl⟩ := Hx.out.q2l; obtain ⟨pc0, pf0, pc1, pf1, pc2, pf2, pl⟩ := Hp.out.q3l; generalize hds : Ap m.natAbs = ds at *; clear hds; obtain ⟨j, hj⟩ : ∃ j : Nat, (ds.length : Int) + e = j := ⟨((ds.length : Int) + e).toNat, by omega⟩
 have hje : ((ds.length : Int) + e).toNat = j := by omega
 rw [hje] at HF; clear hje; have hjl : j ≤ ds.length := by omega
 have hj0 : 0 < j := by omega
 obtain ⟨S, hS⟩ : ∃ S, AO (ds.take j) = S := ⟨_, rfl⟩
 obtain ⟨Z, hZ⟩ : ∃ Z, AO (ds.drop j) = Z := ⟨_, rfl⟩
 have hSs : S.size ≤ 1000 := by rw [← hS, Bi, List.length_take]; omega
 have hZs : Z.size ≤ 1000 := by rw [← hZ, Bi, List.length_drop]; omega
 rw [hS, hZ] at HF; have HS := Keep.mk hS; have HZ := Keep.mk hZ; clear hS hZ; obtain ⟨g, o, rfl, hg, hc⟩ := HJ.out.at_ (by omega); clear hc; have hcap := HJ.out.le; have hcm := HJ.out.cap; unfold maxLen at hcm; have H1 := Keep.mk (HJ.out.init j hjl); have hjc : j < c2 := by omega
 have hcj : ¬ c2 = j := by omega
 have hjl2 : j < ds.length := by omega
 have H2 := Keep.mk (HJ.out.drop2 j hjc hjl); have w1 : IntKind.i64.wrap ((ds.length : Int) + e) = j := by rw [hj]; exact IntWalk.i64_in _ (by omega)
 have hdl : Keep ((ds.drop j).length = ds.length - j) := ⟨by simp⟩; have htl : Keep ((ds.take j).length = j) := ⟨by simp; omega⟩; go_wp2_with fail
 refine Ay (by kernel_rfl) (by kernel_rfl) ?_; repeat (go_big_quiet_step (((first | (go_at_call 60; with_reducible exact Be (Cc (some ⟨g, o, none⟩) c2 j (ds.take j) htl.out.symm (HD.out.take j) (by rw [htl.out]; omega) S HS.out _ (CN H1.out _))) | (go_at_call 60; with_reducible exact Be (Cc (some ⟨g, o + j, none⟩) (c2 - j) (ds.length - j) (ds.drop j) hdl.out.symm (HD.out.drop j) (by rw [hdl.out]; omega) Z HZ.out _ (CN H2.out _)))))))
 refine wpQuiet_nil ?_; rintro _ ⟨x, rfl⟩; go_wp2
 go_ret2
 exact ⟨Bj (by rw [HF.out, HG.out]; simp), up HB.out x.property⟩
theorem On (m e : Int) (hm : I64 m) (h : right m e = true) (_hm0 : m ≠ 0) (hn : m < 0) (he : e < 0) (he2 : -20 ≤ e) (hk : (nd m : Int) ≤ -e) (w : World) : Calls Tryz.prog 37 #[.agg #[.int .i64 m, .int .i64 e]] w fun r w' => r = .returned (Bl (AL m e, 0)) ∧ Below w.heap.size w w' := by
 have HE := Bz h; have hlen := BR m.natAbs (by have := hm.lo; have := hm.hi; omega); have HD := Keep.mk (BI m.natAbs); have HK := Keep.mk (show ((Ap m.natAbs).length : Nat) = nd m from BS _ (by omega)); have hkk : 1 ≤ (Ap m.natAbs).length := by rw [HK.out]; exact Ct m
 rw [← HK.out] at hk; have HF := Keep.mk (show AL m e = sgn m ++ [48] ++ [46] ++ (BZ (-e - ((Ap m.natAbs).length : Int)).toNat).data.toList ++ (AO (Ap m.natAbs)).data.toList by
   have hp : pad m e = List.replicate (1 - e - nd m).toNat 48 ++ Lib.decDigits m.natAbs := by {unfold pad; rw [if_pos (by rw [← HK.out]; exact hk)]}
   obtain ⟨z, hz⟩ : ∃ z : Nat, (1 - e - nd m).toNat = z + 1 := ⟨(1 - e - nd m).toNat - 1, by have := HK.out; omega⟩
   unfold AL; rw [if_neg (by omega), if_pos ⟨he, he2⟩, hp, hz, List.length_append, List.length_replicate, Lib.decDigits_length, show (((z + 1 + Lib.nDigits m.natAbs : Nat) : Int) + e).toNat = 1 by unfold nd at hz; omega, List.replicate_succ, EJ, BU _ (by omega), show (-e - ((Ap m.natAbs).length : Int)).toNat = z by rw [HK.out]; omega]; simp)
 have HG := Keep.mk (show sgn m = [45] by unfold sgn; rw [if_pos hn]); go_enter Tryz.func37, Tryz.ntmps37
 go_wp2_with fail
 refine (B0 m e hm _).mono ?_; rw [h]; rintro r W1 ⟨rfl, hb⟩; have Hx := Keep.mk ((Box.new (w := w) (n := w.heap.size) [.int .i64 m, .int .i64 e] 23 (by first | rfl | simp)).below hb (by simp only [World.size_alloc]; omega)); have HB := Keep.mk (up (al1 w _) hb); obtain ⟨xc0, xf0, xc1, xf1, xl⟩ := Hx.out.q2l; go_wp2_with fail
 refine (D6 m e hm (by omega) _).mono ?_; rintro r W2 ⟨A2, c2, rfl, hI2, hb⟩; clear xc0 xc1 xf0 xf1 xl; replace Hx := Keep.mk (Hx.out.below hb Hx.out.lt); replace HB := Keep.mk (up HB.out hb); obtain ⟨xc0, xf0, xc1, xf1, xl⟩ := Hx.out.q2l; have HJ := Keep.mk hI2; clear hn; go_upto_region 4 with fail
 have xlW2 := Hx.out.lt; refine BC (fun W => Box W (w.heap.size) [.int .i64 m, .int .i64 e] ∧ Box W (W2.heap.size) [.bool true, .slice A2 (Ap m.natAbs).length c2, .int .i64 e] ∧ Below w.heap.size w W ∧ IntsAt W W.heap.size A2 c2 (Ap m.natAbs)) ⟨Hx.out.alloc _, Box.new [.bool true, .slice A2 (Ap m.natAbs).length c2, .int .i64 e] _ rfl, up HB.out (al1 _ _), (HJ.out.below (al1 _ _) (Nat.le_refl _)).more (al1 _ _).size⟩ ?_; clear xc0 xc1 xf0 xf1 xl; clear Hx HB HJ; rintro W3 ⟨Hx, Hp, HB, HJ⟩; replace Hx := Keep.mk Hx; replace Hp := Keep.mk Hp; replace HB := Keep.mk HB; replace HJ := Keep.mk HJ; obtain ⟨xc0, xf0, xc1, xf1, xl⟩ := Hx.out.q2l; obtain ⟨pc0, pf0, pc1, pf1, pc2, pf2, pl⟩ := Hp.out.q3l; generalize hds : Ap m.natAbs = ds at *; clear hds; obtain ⟨S, hS⟩ : ∃ S, AO ds = S := ⟨_, rfl⟩
 obtain ⟨Z, hZ⟩ : ∃ Z, BZ (-e - (ds.length : Int)).toNat = Z := ⟨_, rfl⟩
 have hSs : S.size ≤ 1000 := by rw [← hS, Bi]; omega
 have hZs : Z.size ≤ 1000 := by rw [← hZ, DT]; omega
 rw [hS, hZ] at HF; have HS := Keep.mk hS; have HZ := Keep.mk hZ; clear hS hZ; go_wp2_with fail
 refine Ay (by kernel_rfl) (by kernel_rfl) ?_; repeat (go_big_quiet_step (((first | (go_at_call 60; exact Be (Cc A2 c2 _ ds rfl HD.out (by omega) S HS.out _ (CN HJ.out _))) | (go_at_call 61; exact Be (FT _ (by omega) Z HZ.out _))))))
 refine wpQuiet_nil ?_; rintro _ ⟨x, rfl⟩; go_wp2
 go_ret2
 exact ⟨Bj (by rw [HF.out, HG.out]; simp), up HB.out x.property⟩
theorem OC (m e : Int) (hm : I64 m) (h : right m e = true) (hm0 : m ≠ 0) (hn : ¬ m < 0) (he : e < 0) (he2 : -20 ≤ e) (hk : -e < (nd m : Int)) (w : World) : Calls Tryz.prog 37 #[.agg #[.int .i64 m, .int .i64 e]] w fun r w' => r = .returned (Bl (AL m e, 0)) ∧ Below w.heap.size w w' := by
 have HE := Bz h; have hlen := BR m.natAbs (by have := hm.lo; have := hm.hi; omega); have HD := Keep.mk (BI m.natAbs); have HK := Keep.mk (show ((Ap m.natAbs).length : Nat) = nd m from BS _ (by omega)); have hkk : 1 ≤ (Ap m.natAbs).length := by rw [HK.out]; exact Ct m
 rw [← HK.out] at hk; have HF := Keep.mk (show AL m e = sgn m ++ (AO ((Ap m.natAbs).take (((Ap m.natAbs).length : Int) + e).toNat)).data.toList ++ [46] ++ (AO ((Ap m.natAbs).drop (((Ap m.natAbs).length : Int) + e).toNat)).data.toList by
   have hp : pad m e = Lib.decDigits m.natAbs := by {unfold pad; rw [if_neg (by rw [← HK.out]; omega)]}
   unfold AL; rw [if_neg (by omega), if_pos ⟨he, he2⟩, hp, Lib.decDigits_length, E1, E1, List.map_take, List.map_drop, I9 _ (by omega), show (Ap m.natAbs).length = Lib.nDigits m.natAbs from HK.out])
 have HG := Keep.mk (show sgn m = [] by unfold sgn; rw [if_neg hn]); go_enter Tryz.func37, Tryz.ntmps37
 go_wp2_with fail
 refine (B0 m e hm _).mono ?_; rw [h]; rintro r W1 ⟨rfl, hb⟩; have Hx := Keep.mk ((Box.new (w := w) (n := w.heap.size) [.int .i64 m, .int .i64 e] 23 (by first | rfl | simp)).below hb (by simp only [World.size_alloc]; omega)); have HB := Keep.mk (up (al1 w _) hb); obtain ⟨xc0, xf0, xc1, xf1, xl⟩ := Hx.out.q2l; go_wp2_with fail
 refine (Du m e hm (by omega) _).mono ?_; rintro r W2 ⟨A2, c2, rfl, hI2, hb⟩; clear xc0 xc1 xf0 xf1 xl; replace Hx := Keep.mk (Hx.out.below hb Hx.out.lt); replace HB := Keep.mk (up HB.out hb); obtain ⟨xc0, xf0, xc1, xf1, xl⟩ := Hx.out.q2l; have HJ := Keep.mk hI2; clear hn; go_upto_region 4 with fail
 have xlW2 := Hx.out.lt; refine BC (fun W => Box W (w.heap.size) [.int .i64 m, .int .i64 e] ∧ Box W (W2.heap.size) [.bool false, .slice A2 (Ap m.natAbs).length c2, .int .i64 e] ∧ Below w.heap.size w W ∧ IntsAt W W.heap.size A2 c2 (Ap m.natAbs)) ⟨Hx.out.alloc _, Box.new [.bool false, .slice A2 (Ap m.natAbs).length c2, .int .i64 e] _ rfl, up HB.out (al1 _ _), (HJ.out.below (al1 _ _) (Nat.le_refl _)).more (al1 _ _).size⟩ ?_; clear xc0 xc1 xf0 xf1 xl; clear Hx HB HJ; rintro W3 ⟨Hx, Hp, HB, HJ⟩; replace Hx := Keep.mk Hx; replace Hp := Keep.mk Hp; replace HB := Keep.mk HB; replace HJ := Keep.mk HJ; obtain ⟨xc0, xf0, xc1, xf1, xl⟩ := Hx.out.q2l; obtain ⟨pc0, pf0, pc1, pf1, pc2, pf2, pl⟩ := Hp.out.q3l; generalize hds : Ap m.natAbs = ds at *; clear hds; obtain ⟨j, hj⟩ : ∃ j : Nat, (ds.length : Int) + e = j := ⟨((ds.length : Int) + e).toNat, by omega⟩
 have hje : ((ds.length : Int) + e).toNat = j := by omega
 rw [hje] at HF; clear hje; have hjl : j ≤ ds.length := by omega
 have hj0 : 0 < j := by omega
 obtain ⟨S, hS⟩ : ∃ S, AO (ds.take j) = S := ⟨_, rfl⟩
 obtain ⟨Z, hZ⟩ : ∃ Z, AO (ds.drop j) = Z := ⟨_, rfl⟩
 have hSs : S.size ≤ 1000 := by rw [← hS, Bi, List.length_take]; omega
 have hZs : Z.size ≤ 1000 := by rw [← hZ, Bi, List.length_drop]; omega
 rw [hS, hZ] at HF; have HS := Keep.mk hS; have HZ := Keep.mk hZ; clear hS hZ; obtain ⟨g, o, rfl, hg, hc⟩ := HJ.out.at_ (by omega); clear hc; have hcap := HJ.out.le; have hcm := HJ.out.cap; unfold maxLen at hcm; have H1 := Keep.mk (HJ.out.init j hjl); have hjc : j < c2 := by omega
 have hcj : ¬ c2 = j := by omega
 have hjl2 : j < ds.length := by omega
 have H2 := Keep.mk (HJ.out.drop2 j hjc hjl); have w1 : IntKind.i64.wrap ((ds.length : Int) + e) = j := by rw [hj]; exact IntWalk.i64_in _ (by omega)
 have hdl : Keep ((ds.drop j).length = ds.length - j) := ⟨by simp⟩; have htl : Keep ((ds.take j).length = j) := ⟨by simp; omega⟩; go_wp2_with fail
 refine Ay (by kernel_rfl) (by kernel_rfl) ?_; repeat (go_big_quiet_step (((first | (go_at_call 60; with_reducible exact Be (Cc (some ⟨g, o, none⟩) c2 j (ds.take j) htl.out.symm (HD.out.take j) (by rw [htl.out]; omega) S HS.out _ (CN H1.out _))) | (go_at_call 60; with_reducible exact Be (Cc (some ⟨g, o + j, none⟩) (c2 - j) (ds.length - j) (ds.drop j) hdl.out.symm (HD.out.drop j) (by rw [hdl.out]; omega) Z HZ.out _ (CN H2.out _)))))))
 refine wpQuiet_nil ?_; rintro _ ⟨x, rfl⟩; go_wp2
 go_ret2
 exact ⟨Bj (by rw [HF.out, HG.out]; simp), up HB.out x.property⟩
theorem Ot (m e : Int) (hm : I64 m) (h : right m e = true) (hm0 : m ≠ 0) (hn : ¬ m < 0) (he : e < 0) (he2 : -20 ≤ e) (hk : (nd m : Int) ≤ -e) (w : World) : Calls Tryz.prog 37 #[.agg #[.int .i64 m, .int .i64 e]] w fun r w' => r = .returned (Bl (AL m e, 0)) ∧ Below w.heap.size w w' := by
 have HE := Bz h; have hlen := BR m.natAbs (by have := hm.lo; have := hm.hi; omega); have HD := Keep.mk (BI m.natAbs); have HK := Keep.mk (show ((Ap m.natAbs).length : Nat) = nd m from BS _ (by omega)); have hkk : 1 ≤ (Ap m.natAbs).length := by rw [HK.out]; exact Ct m
 rw [← HK.out] at hk; have HF := Keep.mk (show AL m e = sgn m ++ [48] ++ [46] ++ (BZ (-e - ((Ap m.natAbs).length : Int)).toNat).data.toList ++ (AO (Ap m.natAbs)).data.toList by
   have hp : pad m e = List.replicate (1 - e - nd m).toNat 48 ++ Lib.decDigits m.natAbs := by {unfold pad; rw [if_pos (by rw [← HK.out]; exact hk)]}
   obtain ⟨z, hz⟩ : ∃ z : Nat, (1 - e - nd m).toNat = z + 1 := ⟨(1 - e - nd m).toNat - 1, by have := HK.out; omega⟩
   unfold AL; rw [if_neg (by omega), if_pos ⟨he, he2⟩, hp, hz, List.length_append, List.length_replicate, Lib.decDigits_length, show (((z + 1 + Lib.nDigits m.natAbs : Nat) : Int) + e).toNat = 1 by unfold nd at hz; omega, List.replicate_succ, EJ, BU _ (by omega), show (-e - ((Ap m.natAbs).length : Int)).toNat = z by rw [HK.out]; omega]; simp)
 have HG := Keep.mk (show sgn m = [] by unfold sgn; rw [if_neg hn]); go_enter Tryz.func37, Tryz.ntmps37
 go_wp2_with fail
 refine (B0 m e hm _).mono ?_; rw [h]; rintro r W1 ⟨rfl, hb⟩; have Hx := Keep.mk ((Box.new (w := w) (n := w.heap.size) [.int .i64 m, .int .i64 e] 23 (by first | rfl | simp)).below hb (by simp only [World.size_alloc]; omega)); have HB := Keep.mk (up (al1 w _) hb); obtain ⟨xc0, xf0, xc1, xf1, xl⟩ := Hx.out.q2l; go_wp2_with fail
 refine (Du m e hm (by omega) _).mono ?_; rintro r W2 ⟨A2, c2, rfl, hI2, hb⟩; clear xc0 xc1 xf0 xf1 xl; replace Hx := Keep.mk (Hx.out.below hb Hx.out.lt); replace HB := Keep.mk (up HB.out hb); obtain ⟨xc0, xf0, xc1, xf1, xl⟩ := Hx.out.q2l; have HJ := Keep.mk hI2; clear hn; go_upto_region 4 with fail
 have xlW2 := Hx.out.lt; refine BC (fun W => Box W (w.heap.size) [.int .i64 m, .int .i64 e] ∧ Box W (W2.heap.size) [.bool false, .slice A2 (Ap m.natAbs).length c2, .int .i64 e] ∧ Below w.heap.size w W ∧ IntsAt W W.heap.size A2 c2 (Ap m.natAbs)) ⟨Hx.out.alloc _, Box.new [.bool false, .slice A2 (Ap m.natAbs).length c2, .int .i64 e] _ rfl, up HB.out (al1 _ _), (HJ.out.below (al1 _ _) (Nat.le_refl _)).more (al1 _ _).size⟩ ?_; clear xc0 xc1 xf0 xf1 xl; clear Hx HB HJ; rintro W3 ⟨Hx, Hp, HB, HJ⟩; replace Hx := Keep.mk Hx; replace Hp := Keep.mk Hp; replace HB := Keep.mk HB; replace HJ := Keep.mk HJ; obtain ⟨xc0, xf0, xc1, xf1, xl⟩ := Hx.out.q2l; obtain ⟨pc0, pf0, pc1, pf1, pc2, pf2, pl⟩ := Hp.out.q3l; generalize hds : Ap m.natAbs = ds at *; clear hds; obtain ⟨S, hS⟩ : ∃ S, AO ds = S := ⟨_, rfl⟩
 obtain ⟨Z, hZ⟩ : ∃ Z, BZ (-e - (ds.length : Int)).toNat = Z := ⟨_, rfl⟩
 have hSs : S.size ≤ 1000 := by rw [← hS, Bi]; omega
 have hZs : Z.size ≤ 1000 := by rw [← hZ, DT]; omega
 rw [hS, hZ] at HF; have HS := Keep.mk hS; have HZ := Keep.mk hZ; clear hS hZ; go_wp2_with fail
 refine Ay (by kernel_rfl) (by kernel_rfl) ?_; repeat (go_big_quiet_step (((first | (go_at_call 60; exact Be (Cc A2 c2 _ ds rfl HD.out (by omega) S HS.out _ (CN HJ.out _))) | (go_at_call 61; exact Be (FT _ (by omega) Z HZ.out _))))))
 refine wpQuiet_nil ?_; rintro _ ⟨x, rfl⟩; go_wp2
 go_ret2
 exact ⟨Bj (by rw [HF.out, HG.out]; simp), up HB.out x.property⟩
theorem OM (m e : Int) (hm : I64 m) (h : right m e = true) (_hm0 : m ≠ 0) (hn : m < 0) (he : 0 ≤ e) (hk : 21 < (nd m : Int) + e) (w : World) : Calls Tryz.prog 37 #[.agg #[.int .i64 m, .int .i64 e]] w fun r w' => r = .returned (Bl (AL m e, 0)) ∧ Below w.heap.size w w' := by
 have HE := Bz h; have hlen := BR m.natAbs (by have := hm.lo; have := hm.hi; omega); have HD := Keep.mk (BI m.natAbs); have HK := Keep.mk (show ((Ap m.natAbs).length : Nat) = nd m from BS _ (by omega)); have hkk : 1 ≤ (Ap m.natAbs).length := by rw [HK.out]; exact Ct m
 rw [← HK.out] at hk; have he0 : 0 < e := by omega
 have hlen2 := BR e.natAbs (by omega); have HD2 := Keep.mk (BI e.natAbs); have hIe : I64 e := ⟨by omega, by omega⟩; have HF := Keep.mk (show AL m e = sgn m ++ (AO (Ap m.natAbs)).data.toList ++ [101] ++ (AO (Ap e.natAbs)).data.toList by
   unfold AL; rw [if_neg (by have := HK.out; omega), if_neg (by omega), BU _ (by omega), BU _ (by omega)]; unfold Lib.itoa; rw [if_neg (by omega), show e.toNat = e.natAbs by omega])
 have HG := Keep.mk (show sgn m = [45] by unfold sgn; rw [if_pos hn]); obtain ⟨S, hS⟩ : ∃ S, AO (Ap m.natAbs) = S := ⟨_, rfl⟩
 obtain ⟨Z, hZ⟩ : ∃ Z, AO (Ap e.natAbs) = Z := ⟨_, rfl⟩
 have hSs : S.size ≤ 1000 := by rw [← hS, Bi]; omega
 have hZs : Z.size ≤ 1000 := by rw [← hZ, Bi]; omega
 rw [hS, hZ] at HF; have HS := Keep.mk hS; have HZ := Keep.mk hZ; clear hS hZ; go_enter Tryz.func37, Tryz.ntmps37
 go_wp2_with fail
 refine (B0 m e hm _).mono ?_; rw [h]; rintro r W1 ⟨rfl, hb⟩; have Hx := Keep.mk ((Box.new (w := w) (n := w.heap.size) [.int .i64 m, .int .i64 e] 23 (by first | rfl | simp)).below hb (by simp only [World.size_alloc]; omega)); have HB := Keep.mk (up (al1 w _) hb); obtain ⟨xc0, xf0, xc1, xf1, xl⟩ := Hx.out.q2l; go_wp2_with fail
 refine (D6 m e hm (by omega) _).mono ?_; rintro r W2 ⟨A2, c2, rfl, hI2, hb⟩; clear xc0 xc1 xf0 xf1 xl; replace Hx := Keep.mk (Hx.out.below hb Hx.out.lt); replace HB := Keep.mk (up HB.out hb); obtain ⟨xc0, xf0, xc1, xf1, xl⟩ := Hx.out.q2l; have HJ := Keep.mk hI2; clear hn; go_upto_region 4 with fail
 have xlW2 := Hx.out.lt; refine BC (fun W => Box W (w.heap.size) [.int .i64 m, .int .i64 e] ∧ Box W (W2.heap.size) [.bool true, .slice A2 (Ap m.natAbs).length c2, .int .i64 e] ∧ Below w.heap.size w W ∧ IntsAt W W.heap.size A2 c2 (Ap m.natAbs)) ⟨Hx.out.alloc _, Box.new [.bool true, .slice A2 (Ap m.natAbs).length c2, .int .i64 e] _ rfl, up HB.out (al1 _ _), (HJ.out.below (al1 _ _) (Nat.le_refl _)).more (al1 _ _).size⟩ ?_; clear xc0 xc1 xf0 xf1 xl; clear Hx HB HJ; rintro W3 ⟨Hx, Hp, HB, HJ⟩; replace Hx := Keep.mk Hx; replace Hp := Keep.mk Hp; replace HB := Keep.mk HB; replace HJ := Keep.mk HJ; obtain ⟨xc0, xf0, xc1, xf1, xl⟩ := Hx.out.q2l; obtain ⟨pc0, pf0, pc1, pf1, pc2, pf2, pl⟩ := Hp.out.q3l; go_wp2_with fail
 refine (Du e 0 hIe (by omega) _).mono ?_; rintro r W4 ⟨A3, c3, rfl, hI3, hb⟩; clear xc0 xc1 xf0 xf1 xl pc0 pc1 pc2 pf0 pf1 pf2 pl; replace Hx := Keep.mk (Hx.out.below hb Hx.out.lt); replace Hp := Keep.mk (Hp.out.below hb Hp.out.lt); replace HJ := Keep.mk ((HJ.out.below hb (Nat.le_refl _)).more hb.size); replace HB := Keep.mk (up HB.out hb); obtain ⟨xc0, xf0, xc1, xf1, xl⟩ := Hx.out.q2l; obtain ⟨pc0, pf0, pc1, pf1, pc2, pf2, pl⟩ := Hp.out.q3l; have HK2 := Keep.mk hI3; go_wp2_with fail
 have xlW4 := Hx.out.lt; have plW4 := Hp.out.lt; refine ER (fun W => Box W (w.heap.size) [.int .i64 m, .int .i64 e] ∧ Box W (W2.heap.size) [.bool true, .slice A2 (Ap m.natAbs).length c2, .int .i64 e] ∧ Box W (W4.heap.size) [.bool false, .slice A3 (Ap e.natAbs).length c3, .int .i64 0] ∧ Below w.heap.size w W ∧ IntsAt W W.heap.size A2 c2 (Ap m.natAbs) ∧ IntsAt W W.heap.size A3 c3 (Ap e.natAbs)) ⟨Hx.out.alloc _, Hp.out.alloc _, Box.new [.bool false, .slice A3 (Ap e.natAbs).length c3, .int .i64 0] _ rfl, up HB.out (al1 _ _), (HJ.out.below (al1 _ _) (Nat.le_refl _)).more (al1 _ _).size, (HK2.out.below (al1 _ _) (Nat.le_refl _)).more (al1 _ _).size⟩ ?_; clear xc0 xc1 xf0 xf1 xl pc0 pc1 pc2 pf0 pf1 pf2 pl; clear Hx Hp HB HJ HK2; rintro W5 ⟨Hx, Hp, Hf, HB, HJ, HK2⟩; replace Hx := Keep.mk Hx; replace Hp := Keep.mk Hp; replace Hf := Keep.mk Hf; replace HB := Keep.mk HB; replace HJ := Keep.mk HJ; replace HK2 := Keep.mk HK2; obtain ⟨xc0, xf0, xc1, xf1, xl⟩ := Hx.out.q2l; obtain ⟨pc0, pf0, pc1, pf1, pc2, pf2, pl⟩ := Hp.out.q3l; obtain ⟨fc0, ff0, fc1, ff1, fc2, ff2, fl⟩ := Hf.out.q3l; refine (Cc A2 c2 _ (Ap m.natAbs) rfl HD.out (by omega) S HS.out _ HJ.out).mono ?_; rintro r W6 ⟨rfl, hb⟩; clear xc0 xc1 xf0 xf1 xl pc0 pc1 pc2 pf0 pf1 pf2 pl fc0 fc1 fc2 ff0 ff1 ff2 fl; replace Hx := Keep.mk (Hx.out.below hb Hx.out.lt); replace Hp := Keep.mk (Hp.out.below hb Hp.out.lt); replace Hf := Keep.mk (Hf.out.below hb Hf.out.lt); replace HJ := Keep.mk ((HJ.out.below hb (Nat.le_refl _)).more hb.size)
 replace HK2 := Keep.mk ((HK2.out.below hb (Nat.le_refl _)).more hb.size); replace HB := Keep.mk (up HB.out hb); obtain ⟨xc0, xf0, xc1, xf1, xl⟩ := Hx.out.q2l; obtain ⟨pc0, pf0, pc1, pf1, pc2, pf2, pl⟩ := Hp.out.q3l; obtain ⟨fc0, ff0, fc1, ff1, fc2, ff2, fl⟩ := Hf.out.q3l; go_wp2_with fail
 refine (Cc A3 c3 _ (Ap e.natAbs) rfl HD2.out (by omega) Z HZ.out _ HK2.out).mono ?_; rintro r W7 ⟨rfl, hb⟩; clear xc0 xc1 xf0 xf1 xl pc0 pc1 pc2 pf0 pf1 pf2 pl fc0 fc1 fc2 ff0 ff1 ff2 fl; replace Hx := Keep.mk (Hx.out.below hb Hx.out.lt); replace Hp := Keep.mk (Hp.out.below hb Hp.out.lt); replace Hf := Keep.mk (Hf.out.below hb Hf.out.lt); replace HJ := Keep.mk ((HJ.out.below hb (Nat.le_refl _)).more hb.size); replace HK2 := Keep.mk ((HK2.out.below hb (Nat.le_refl _)).more hb.size); replace HB := Keep.mk (up HB.out hb); obtain ⟨xc0, xf0, xc1, xf1, xl⟩ := Hx.out.q2l; obtain ⟨pc0, pf0, pc1, pf1, pc2, pf2, pl⟩ := Hp.out.q3l; obtain ⟨fc0, ff0, fc1, ff1, fc2, ff2, fl⟩ := Hf.out.q3l; go_wp2
 go_ret2
 exact ⟨Bj (by rw [HF.out, HG.out]; simp), HB.out⟩
theorem Og (m e : Int) (hm : I64 m) (h : right m e = true) (_hm0 : m ≠ 0) (hn : m < 0) (he : e < -20) (w : World) : Calls Tryz.prog 37 #[.agg #[.int .i64 m, .int .i64 e]] w fun r w' => r = .returned (Bl (AL m e, 0)) ∧ Below w.heap.size w w' := by
 have HE := Bz h; have hlen := BR m.natAbs (by have := hm.lo; have := hm.hi; omega); have HD := Keep.mk (BI m.natAbs); have HK := Keep.mk (show ((Ap m.natAbs).length : Nat) = nd m from BS _ (by omega)); have hkk : 1 ≤ (Ap m.natAbs).length := by rw [HK.out]; exact Ct m
 have hlen2 := BR e.natAbs (by omega); have HD2 := Keep.mk (BI e.natAbs); have hIe : I64 e := ⟨by omega, by omega⟩; have HF := Keep.mk (show AL m e = sgn m ++ (AO (Ap m.natAbs)).data.toList ++ [101] ++ [45] ++ (AO (Ap e.natAbs)).data.toList by
   unfold AL; rw [if_neg (by have := HK.out; omega), if_neg (by omega), BU _ (by omega), BU _ (by omega)]; unfold Lib.itoa; rw [if_pos (by omega)]; simp)
 have HG := Keep.mk (show sgn m = [45] by unfold sgn; rw [if_pos hn]); obtain ⟨S, hS⟩ : ∃ S, AO (Ap m.natAbs) = S := ⟨_, rfl⟩
 obtain ⟨Z, hZ⟩ : ∃ Z, AO (Ap e.natAbs) = Z := ⟨_, rfl⟩
 have hSs : S.size ≤ 1000 := by rw [← hS, Bi]; omega
 have hZs : Z.size ≤ 1000 := by rw [← hZ, Bi]; omega
 rw [hS, hZ] at HF; have HS := Keep.mk hS; have HZ := Keep.mk hZ; clear hS hZ; go_enter Tryz.func37, Tryz.ntmps37
 go_wp2_with fail
 refine (B0 m e hm _).mono ?_; rw [h]; rintro r W1 ⟨rfl, hb⟩; have Hx := Keep.mk ((Box.new (w := w) (n := w.heap.size) [.int .i64 m, .int .i64 e] 23 (by first | rfl | simp)).below hb (by simp only [World.size_alloc]; omega)); have HB := Keep.mk (up (al1 w _) hb); obtain ⟨xc0, xf0, xc1, xf1, xl⟩ := Hx.out.q2l; go_wp2_with fail
 refine (D6 m e hm (by omega) _).mono ?_; rintro r W2 ⟨A2, c2, rfl, hI2, hb⟩; clear xc0 xc1 xf0 xf1 xl; replace Hx := Keep.mk (Hx.out.below hb Hx.out.lt); replace HB := Keep.mk (up HB.out hb); obtain ⟨xc0, xf0, xc1, xf1, xl⟩ := Hx.out.q2l; have HJ := Keep.mk hI2; clear hn; go_upto_region 4 with fail
 have xlW2 := Hx.out.lt; refine BC (fun W => Box W (w.heap.size) [.int .i64 m, .int .i64 e] ∧ Box W (W2.heap.size) [.bool true, .slice A2 (Ap m.natAbs).length c2, .int .i64 e] ∧ Below w.heap.size w W ∧ IntsAt W W.heap.size A2 c2 (Ap m.natAbs)) ⟨Hx.out.alloc _, Box.new [.bool true, .slice A2 (Ap m.natAbs).length c2, .int .i64 e] _ rfl, up HB.out (al1 _ _), (HJ.out.below (al1 _ _) (Nat.le_refl _)).more (al1 _ _).size⟩ ?_; clear xc0 xc1 xf0 xf1 xl; clear Hx HB HJ; rintro W3 ⟨Hx, Hp, HB, HJ⟩; replace Hx := Keep.mk Hx; replace Hp := Keep.mk Hp; replace HB := Keep.mk HB; replace HJ := Keep.mk HJ; obtain ⟨xc0, xf0, xc1, xf1, xl⟩ := Hx.out.q2l; obtain ⟨pc0, pf0, pc1, pf1, pc2, pf2, pl⟩ := Hp.out.q3l; go_wp2_with fail
 refine (D6 e 0 hIe (by omega) _).mono ?_; rintro r W4 ⟨A3, c3, rfl, hI3, hb⟩; clear xc0 xc1 xf0 xf1 xl pc0 pc1 pc2 pf0 pf1 pf2 pl; replace Hx := Keep.mk (Hx.out.below hb Hx.out.lt); replace Hp := Keep.mk (Hp.out.below hb Hp.out.lt); replace HJ := Keep.mk ((HJ.out.below hb (Nat.le_refl _)).more hb.size); replace HB := Keep.mk (up HB.out hb); obtain ⟨xc0, xf0, xc1, xf1, xl⟩ := Hx.out.q2l; obtain ⟨pc0, pf0, pc1, pf1, pc2, pf2, pl⟩ := Hp.out.q3l; have HK2 := Keep.mk hI3; go_wp2_with fail
 have xlW4 := Hx.out.lt; have plW4 := Hp.out.lt; refine ER (fun W => Box W (w.heap.size) [.int .i64 m, .int .i64 e] ∧ Box W (W2.heap.size) [.bool true, .slice A2 (Ap m.natAbs).length c2, .int .i64 e] ∧ Box W (W4.heap.size) [.bool true, .slice A3 (Ap e.natAbs).length c3, .int .i64 0] ∧ Below w.heap.size w W ∧ IntsAt W W.heap.size A2 c2 (Ap m.natAbs) ∧ IntsAt W W.heap.size A3 c3 (Ap e.natAbs)) ⟨Hx.out.alloc _, Hp.out.alloc _, Box.new [.bool true, .slice A3 (Ap e.natAbs).length c3, .int .i64 0] _ rfl, up HB.out (al1 _ _), (HJ.out.below (al1 _ _) (Nat.le_refl _)).more (al1 _ _).size, (HK2.out.below (al1 _ _) (Nat.le_refl _)).more (al1 _ _).size⟩ ?_; clear xc0 xc1 xf0 xf1 xl pc0 pc1 pc2 pf0 pf1 pf2 pl; clear Hx Hp HB HJ HK2; rintro W5 ⟨Hx, Hp, Hf, HB, HJ, HK2⟩; replace Hx := Keep.mk Hx; replace Hp := Keep.mk Hp; replace Hf := Keep.mk Hf; replace HB := Keep.mk HB; replace HJ := Keep.mk HJ; replace HK2 := Keep.mk HK2; obtain ⟨xc0, xf0, xc1, xf1, xl⟩ := Hx.out.q2l; obtain ⟨pc0, pf0, pc1, pf1, pc2, pf2, pl⟩ := Hp.out.q3l; obtain ⟨fc0, ff0, fc1, ff1, fc2, ff2, fl⟩ := Hf.out.q3l; refine (Cc A2 c2 _ (Ap m.natAbs) rfl HD.out (by omega) S HS.out _ HJ.out).mono ?_; rintro r W6 ⟨rfl, hb⟩; clear xc0 xc1 xf0 xf1 xl pc0 pc1 pc2 pf0 pf1 pf2 pl fc0 fc1 fc2 ff0 ff1 ff2 fl; replace Hx := Keep.mk (Hx.out.below hb Hx.out.lt); replace Hp := Keep.mk (Hp.out.below hb Hp.out.lt); replace Hf := Keep.mk (Hf.out.below hb Hf.out.lt); replace HJ := Keep.mk ((HJ.out.below hb (Nat.le_refl _)).more hb.size)
 replace HK2 := Keep.mk ((HK2.out.below hb (Nat.le_refl _)).more hb.size); replace HB := Keep.mk (up HB.out hb); obtain ⟨xc0, xf0, xc1, xf1, xl⟩ := Hx.out.q2l; obtain ⟨pc0, pf0, pc1, pf1, pc2, pf2, pl⟩ := Hp.out.q3l; obtain ⟨fc0, ff0, fc1, ff1, fc2, ff2, fl⟩ := Hf.out.q3l; go_wp2_with fail
 refine (Cc A3 c3 _ (Ap e.natAbs) rfl HD2.out (by omega) Z HZ.out _ HK2.out).mono ?_; rintro r W7 ⟨rfl, hb⟩; clear xc0 xc1 xf0 xf1 xl pc0 pc1 pc2 pf0 pf1 pf2 pl fc0 fc1 fc2 ff0 ff1 ff2 fl; replace Hx := Keep.mk (Hx.out.below hb Hx.out.lt); replace Hp := Keep.mk (Hp.out.below hb Hp.out.lt); replace Hf := Keep.mk (Hf.out.below hb Hf.out.lt); replace HJ := Keep.mk ((HJ.out.below hb (Nat.le_refl _)).more hb.size); replace HK2 := Keep.mk ((HK2.out.below hb (Nat.le_refl _)).more hb.size); replace HB := Keep.mk (up HB.out hb); obtain ⟨xc0, xf0, xc1, xf1, xl⟩ := Hx.out.q2l; obtain ⟨pc0, pf0, pc1, pf1, pc2, pf2, pl⟩ := Hp.out.q3l; obtain ⟨fc0, ff0, fc1, ff1, fc2, ff2, fl⟩ := Hf.out.q3l; go_wp2
 go_ret2
 exact ⟨Bj (by rw [HF.out, HG.out]; simp), HB.out⟩
theorem Oi (m e : Int) (hm : I64 m) (h : right m e = true) (hm0 : m ≠ 0) (hn : ¬ m < 0) (he : 0 ≤ e) (hk : 21 < (nd m : Int) + e) (w : World) : Calls Tryz.prog 37 #[.agg #[.int .i64 m, .int .i64 e]] w fun r w' => r = .returned (Bl (AL m e, 0)) ∧ Below w.heap.size w w' := by
 have HE := Bz h; have hlen := BR m.natAbs (by have := hm.lo; have := hm.hi; omega); have HD := Keep.mk (BI m.natAbs); have HK := Keep.mk (show ((Ap m.natAbs).length : Nat) = nd m from BS _ (by omega)); have hkk : 1 ≤ (Ap m.natAbs).length := by rw [HK.out]; exact Ct m
 rw [← HK.out] at hk; have he0 : 0 < e := by omega
 have hlen2 := BR e.natAbs (by omega); have HD2 := Keep.mk (BI e.natAbs); have hIe : I64 e := ⟨by omega, by omega⟩; have HF := Keep.mk (show AL m e = sgn m ++ (AO (Ap m.natAbs)).data.toList ++ [101] ++ (AO (Ap e.natAbs)).data.toList by
   unfold AL; rw [if_neg (by have := HK.out; omega), if_neg (by omega), BU _ (by omega), BU _ (by omega)]; unfold Lib.itoa; rw [if_neg (by omega), show e.toNat = e.natAbs by omega])
 have HG := Keep.mk (show sgn m = [] by unfold sgn; rw [if_neg hn]); obtain ⟨S, hS⟩ : ∃ S, AO (Ap m.natAbs) = S := ⟨_, rfl⟩
 obtain ⟨Z, hZ⟩ : ∃ Z, AO (Ap e.natAbs) = Z := ⟨_, rfl⟩
 have hSs : S.size ≤ 1000 := by rw [← hS, Bi]; omega
 have hZs : Z.size ≤ 1000 := by rw [← hZ, Bi]; omega
 rw [hS, hZ] at HF; have HS := Keep.mk hS; have HZ := Keep.mk hZ; clear hS hZ; go_enter Tryz.func37, Tryz.ntmps37
 go_wp2_with fail
 refine (B0 m e hm _).mono ?_; rw [h]; rintro r W1 ⟨rfl, hb⟩; have Hx := Keep.mk ((Box.new (w := w) (n := w.heap.size) [.int .i64 m, .int .i64 e] 23 (by first | rfl | simp)).below hb (by simp only [World.size_alloc]; omega)); have HB := Keep.mk (up (al1 w _) hb); obtain ⟨xc0, xf0, xc1, xf1, xl⟩ := Hx.out.q2l; go_wp2_with fail
 refine (Du m e hm (by omega) _).mono ?_; rintro r W2 ⟨A2, c2, rfl, hI2, hb⟩; clear xc0 xc1 xf0 xf1 xl; replace Hx := Keep.mk (Hx.out.below hb Hx.out.lt); replace HB := Keep.mk (up HB.out hb); obtain ⟨xc0, xf0, xc1, xf1, xl⟩ := Hx.out.q2l; have HJ := Keep.mk hI2; clear hn; go_upto_region 4 with fail
 have xlW2 := Hx.out.lt; refine BC (fun W => Box W (w.heap.size) [.int .i64 m, .int .i64 e] ∧ Box W (W2.heap.size) [.bool false, .slice A2 (Ap m.natAbs).length c2, .int .i64 e] ∧ Below w.heap.size w W ∧ IntsAt W W.heap.size A2 c2 (Ap m.natAbs)) ⟨Hx.out.alloc _, Box.new [.bool false, .slice A2 (Ap m.natAbs).length c2, .int .i64 e] _ rfl, up HB.out (al1 _ _), (HJ.out.below (al1 _ _) (Nat.le_refl _)).more (al1 _ _).size⟩ ?_; clear xc0 xc1 xf0 xf1 xl; clear Hx HB HJ; rintro W3 ⟨Hx, Hp, HB, HJ⟩; replace Hx := Keep.mk Hx; replace Hp := Keep.mk Hp; replace HB := Keep.mk HB; replace HJ := Keep.mk HJ; obtain ⟨xc0, xf0, xc1, xf1, xl⟩ := Hx.out.q2l; obtain ⟨pc0, pf0, pc1, pf1, pc2, pf2, pl⟩ := Hp.out.q3l; go_wp2_with fail
 refine (Du e 0 hIe (by omega) _).mono ?_; rintro r W4 ⟨A3, c3, rfl, hI3, hb⟩; clear xc0 xc1 xf0 xf1 xl pc0 pc1 pc2 pf0 pf1 pf2 pl; replace Hx := Keep.mk (Hx.out.below hb Hx.out.lt); replace Hp := Keep.mk (Hp.out.below hb Hp.out.lt); replace HJ := Keep.mk ((HJ.out.below hb (Nat.le_refl _)).more hb.size); replace HB := Keep.mk (up HB.out hb); obtain ⟨xc0, xf0, xc1, xf1, xl⟩ := Hx.out.q2l; obtain ⟨pc0, pf0, pc1, pf1, pc2, pf2, pl⟩ := Hp.out.q3l; have HK2 := Keep.mk hI3; go_wp2_with fail
 have xlW4 := Hx.out.lt; have plW4 := Hp.out.lt; refine ER (fun W => Box W (w.heap.size) [.int .i64 m, .int .i64 e] ∧ Box W (W2.heap.size) [.bool false, .slice A2 (Ap m.natAbs).length c2, .int .i64 e] ∧ Box W (W4.heap.size) [.bool false, .slice A3 (Ap e.natAbs).length c3, .int .i64 0] ∧ Below w.heap.size w W ∧ IntsAt W W.heap.size A2 c2 (Ap m.natAbs) ∧ IntsAt W W.heap.size A3 c3 (Ap e.natAbs)) ⟨Hx.out.alloc _, Hp.out.alloc _, Box.new [.bool false, .slice A3 (Ap e.natAbs).length c3, .int .i64 0] _ rfl, up HB.out (al1 _ _), (HJ.out.below (al1 _ _) (Nat.le_refl _)).more (al1 _ _).size, (HK2.out.below (al1 _ _) (Nat.le_refl _)).more (al1 _ _).size⟩ ?_; clear xc0 xc1 xf0 xf1 xl pc0 pc1 pc2 pf0 pf1 pf2 pl; clear Hx Hp HB HJ HK2; rintro W5 ⟨Hx, Hp, Hf, HB, HJ, HK2⟩; replace Hx := Keep.mk Hx; replace Hp := Keep.mk Hp; replace Hf := Keep.mk Hf; replace HB := Keep.mk HB; replace HJ := Keep.mk HJ; replace HK2 := Keep.mk HK2; obtain ⟨xc0, xf0, xc1, xf1, xl⟩ := Hx.out.q2l; obtain ⟨pc0, pf0, pc1, pf1, pc2, pf2, pl⟩ := Hp.out.q3l; obtain ⟨fc0, ff0, fc1, ff1, fc2, ff2, fl⟩ := Hf.out.q3l; refine (Cc A2 c2 _ (Ap m.natAbs) rfl HD.out (by omega) S HS.out _ HJ.out).mono ?_; rintro r W6 ⟨rfl, hb⟩; clear xc0 xc1 xf0 xf1 xl pc0 pc1 pc2 pf0 pf1 pf2 pl fc0 fc1 fc2 ff0 ff1 ff2 fl; replace Hx := Keep.mk (Hx.out.below hb Hx.out.lt); replace Hp := Keep.mk (Hp.out.below hb Hp.out.lt); replace Hf := Keep.mk (Hf.out.below hb Hf.out.lt); replace HJ := Keep.mk ((HJ.out.below hb (Nat.le_refl _)).more hb.size)
 replace HK2 := Keep.mk ((HK2.out.below hb (Nat.le_refl _)).more hb.size); replace HB := Keep.mk (up HB.out hb); obtain ⟨xc0, xf0, xc1, xf1, xl⟩ := Hx.out.q2l; obtain ⟨pc0, pf0, pc1, pf1, pc2, pf2, pl⟩ := Hp.out.q3l; obtain ⟨fc0, ff0, fc1, ff1, fc2, ff2, fl⟩ := Hf.out.q3l; go_wp2_with fail
 refine (Cc A3 c3 _ (Ap e.natAbs) rfl HD2.out (by omega) Z HZ.out _ HK2.out).mono ?_; rintro r W7 ⟨rfl, hb⟩; clear xc0 xc1 xf0 xf1 xl pc0 pc1 pc2 pf0 pf1 pf2 pl fc0 fc1 fc2 ff0 ff1 ff2 fl; replace Hx := Keep.mk (Hx.out.below hb Hx.out.lt); replace Hp := Keep.mk (Hp.out.below hb Hp.out.lt); replace Hf := Keep.mk (Hf.out.below hb Hf.out.lt); replace HJ := Keep.mk ((HJ.out.below hb (Nat.le_refl _)).more hb.size); replace HK2 := Keep.mk ((HK2.out.below hb (Nat.le_refl _)).more hb.size); replace HB := Keep.mk (up HB.out hb); obtain ⟨xc0, xf0, xc1, xf1, xl⟩ := Hx.out.q2l; obtain ⟨pc0, pf0, pc1, pf1, pc2, pf2, pl⟩ := Hp.out.q3l; obtain ⟨fc0, ff0, fc1, ff1, fc2, ff2, fl⟩ := Hf.out.q3l; go_wp2
 go_ret2
 exact ⟨Bj (by rw [HF.out, HG.out]; simp), HB.out⟩
theorem Oo (m e : Int) (hm : I64 m) (h : right m e = true) (hm0 : m ≠ 0) (hn : ¬ m < 0) (he : e < -20) (w : World) : Calls Tryz.prog 37 #[.agg #[.int .i64 m, .int .i64 e]] w fun r w' => r = .returned (Bl (AL m e, 0)) ∧ Below w.heap.size w w' := by
 have HE := Bz h; have hlen := BR m.natAbs (by have := hm.lo; have := hm.hi; omega); have HD := Keep.mk (BI m.natAbs); have HK := Keep.mk (show ((Ap m.natAbs).length : Nat) = nd m from BS _ (by omega)); have hkk : 1 ≤ (Ap m.natAbs).length := by rw [HK.out]; exact Ct m
 have hlen2 := BR e.natAbs (by omega); have HD2 := Keep.mk (BI e.natAbs); have hIe : I64 e := ⟨by omega, by omega⟩; have HF := Keep.mk (show AL m e = sgn m ++ (AO (Ap m.natAbs)).data.toList ++ [101] ++ [45] ++ (AO (Ap e.natAbs)).data.toList by
   unfold AL; rw [if_neg (by have := HK.out; omega), if_neg (by omega), BU _ (by omega), BU _ (by omega)]; unfold Lib.itoa; rw [if_pos (by omega)]; simp)
 have HG := Keep.mk (show sgn m = [] by unfold sgn; rw [if_neg hn]); obtain ⟨S, hS⟩ : ∃ S, AO (Ap m.natAbs) = S := ⟨_, rfl⟩
 obtain ⟨Z, hZ⟩ : ∃ Z, AO (Ap e.natAbs) = Z := ⟨_, rfl⟩
 have hSs : S.size ≤ 1000 := by rw [← hS, Bi]; omega
 have hZs : Z.size ≤ 1000 := by rw [← hZ, Bi]; omega
 rw [hS, hZ] at HF; have HS := Keep.mk hS; have HZ := Keep.mk hZ; clear hS hZ; go_enter Tryz.func37, Tryz.ntmps37
 go_wp2_with fail
 refine (B0 m e hm _).mono ?_; rw [h]; rintro r W1 ⟨rfl, hb⟩; have Hx := Keep.mk ((Box.new (w := w) (n := w.heap.size) [.int .i64 m, .int .i64 e] 23 (by first | rfl | simp)).below hb (by simp only [World.size_alloc]; omega)); have HB := Keep.mk (up (al1 w _) hb); obtain ⟨xc0, xf0, xc1, xf1, xl⟩ := Hx.out.q2l; go_wp2_with fail
 refine (Du m e hm (by omega) _).mono ?_; rintro r W2 ⟨A2, c2, rfl, hI2, hb⟩; clear xc0 xc1 xf0 xf1 xl; replace Hx := Keep.mk (Hx.out.below hb Hx.out.lt); replace HB := Keep.mk (up HB.out hb); obtain ⟨xc0, xf0, xc1, xf1, xl⟩ := Hx.out.q2l; have HJ := Keep.mk hI2; clear hn; go_upto_region 4 with fail
 have xlW2 := Hx.out.lt; refine BC (fun W => Box W (w.heap.size) [.int .i64 m, .int .i64 e] ∧ Box W (W2.heap.size) [.bool false, .slice A2 (Ap m.natAbs).length c2, .int .i64 e] ∧ Below w.heap.size w W ∧ IntsAt W W.heap.size A2 c2 (Ap m.natAbs)) ⟨Hx.out.alloc _, Box.new [.bool false, .slice A2 (Ap m.natAbs).length c2, .int .i64 e] _ rfl, up HB.out (al1 _ _), (HJ.out.below (al1 _ _) (Nat.le_refl _)).more (al1 _ _).size⟩ ?_; clear xc0 xc1 xf0 xf1 xl; clear Hx HB HJ; rintro W3 ⟨Hx, Hp, HB, HJ⟩; replace Hx := Keep.mk Hx; replace Hp := Keep.mk Hp; replace HB := Keep.mk HB; replace HJ := Keep.mk HJ; obtain ⟨xc0, xf0, xc1, xf1, xl⟩ := Hx.out.q2l; obtain ⟨pc0, pf0, pc1, pf1, pc2, pf2, pl⟩ := Hp.out.q3l; go_wp2_with fail
 refine (D6 e 0 hIe (by omega) _).mono ?_; rintro r W4 ⟨A3, c3, rfl, hI3, hb⟩; clear xc0 xc1 xf0 xf1 xl pc0 pc1 pc2 pf0 pf1 pf2 pl; replace Hx := Keep.mk (Hx.out.below hb Hx.out.lt); replace Hp := Keep.mk (Hp.out.below hb Hp.out.lt); replace HJ := Keep.mk ((HJ.out.below hb (Nat.le_refl _)).more hb.size); replace HB := Keep.mk (up HB.out hb); obtain ⟨xc0, xf0, xc1, xf1, xl⟩ := Hx.out.q2l; obtain ⟨pc0, pf0, pc1, pf1, pc2, pf2, pl⟩ := Hp.out.q3l; have HK2 := Keep.mk hI3; go_wp2_with fail
 have xlW4 := Hx.out.lt; have plW4 := Hp.out.lt; refine ER (fun W => Box W (w.heap.size) [.int .i64 m, .int .i64 e] ∧ Box W (W2.heap.size) [.bool false, .slice A2 (Ap m.natAbs).length c2, .int .i64 e] ∧ Box W (W4.heap.size) [.bool true, .slice A3 (Ap e.natAbs).length c3, .int .i64 0] ∧ Below w.heap.size w W ∧ IntsAt W W.heap.size A2 c2 (Ap m.natAbs) ∧ IntsAt W W.heap.size A3 c3 (Ap e.natAbs)) ⟨Hx.out.alloc _, Hp.out.alloc _, Box.new [.bool true, .slice A3 (Ap e.natAbs).length c3, .int .i64 0] _ rfl, up HB.out (al1 _ _), (HJ.out.below (al1 _ _) (Nat.le_refl _)).more (al1 _ _).size, (HK2.out.below (al1 _ _) (Nat.le_refl _)).more (al1 _ _).size⟩ ?_; clear xc0 xc1 xf0 xf1 xl pc0 pc1 pc2 pf0 pf1 pf2 pl; clear Hx Hp HB HJ HK2; rintro W5 ⟨Hx, Hp, Hf, HB, HJ, HK2⟩; replace Hx := Keep.mk Hx; replace Hp := Keep.mk Hp; replace Hf := Keep.mk Hf; replace HB := Keep.mk HB; replace HJ := Keep.mk HJ; replace HK2 := Keep.mk HK2; obtain ⟨xc0, xf0, xc1, xf1, xl⟩ := Hx.out.q2l; obtain ⟨pc0, pf0, pc1, pf1, pc2, pf2, pl⟩ := Hp.out.q3l; obtain ⟨fc0, ff0, fc1, ff1, fc2, ff2, fl⟩ := Hf.out.q3l; refine (Cc A2 c2 _ (Ap m.natAbs) rfl HD.out (by omega) S HS.out _ HJ.out).mono ?_; rintro r W6 ⟨rfl, hb⟩; clear xc0 xc1 xf0 xf1 xl pc0 pc1 pc2 pf0 pf1 pf2 pl fc0 fc1 fc2 ff0 ff1 ff2 fl; replace Hx := Keep.mk (Hx.out.below hb Hx.out.lt); replace Hp := Keep.mk (Hp.out.below hb Hp.out.lt); replace Hf := Keep.mk (Hf.out.below hb Hf.out.lt); replace HJ := Keep.mk ((HJ.out.below hb (Nat.le_refl _)).more hb.size)
 replace HK2 := Keep.mk ((HK2.out.below hb (Nat.le_refl _)).more hb.size); replace HB := Keep.mk (up HB.out hb); obtain ⟨xc0, xf0, xc1, xf1, xl⟩ := Hx.out.q2l; obtain ⟨pc0, pf0, pc1, pf1, pc2, pf2, pl⟩ := Hp.out.q3l; obtain ⟨fc0, ff0, fc1, ff1, fc2, ff2, fl⟩ := Hf.out.q3l; go_wp2_with fail
 refine (Cc A3 c3 _ (Ap e.natAbs) rfl HD2.out (by omega) Z HZ.out _ HK2.out).mono ?_; rintro r W7 ⟨rfl, hb⟩; clear xc0 xc1 xf0 xf1 xl pc0 pc1 pc2 pf0 pf1 pf2 pl fc0 fc1 fc2 ff0 ff1 ff2 fl; replace Hx := Keep.mk (Hx.out.below hb Hx.out.lt); replace Hp := Keep.mk (Hp.out.below hb Hp.out.lt); replace Hf := Keep.mk (Hf.out.below hb Hf.out.lt); replace HJ := Keep.mk ((HJ.out.below hb (Nat.le_refl _)).more hb.size); replace HK2 := Keep.mk ((HK2.out.below hb (Nat.le_refl _)).more hb.size); replace HB := Keep.mk (up HB.out hb); obtain ⟨xc0, xf0, xc1, xf1, xl⟩ := Hx.out.q2l; obtain ⟨pc0, pf0, pc1, pf1, pc2, pf2, pl⟩ := Hp.out.q3l; obtain ⟨fc0, ff0, fc1, ff1, fc2, ff2, fl⟩ := Hf.out.q3l; go_wp2
 go_ret2
 exact ⟨Bj (by rw [HF.out, HG.out]; simp), HB.out⟩
theorem Oe (w : World) : Calls Tryz.prog 37 #[.agg #[.int .i64 0, .int .i64 0]] w fun r w' => r = .returned (Bl (AL 0 0, 0)) ∧ Below w.heap.size w w' := by
 have hI0 : I64 0 := ⟨by omega, by omega⟩; have HZ := Keep.mk C6; have HT : Keep (AL 0 0 = [48]) := ⟨by rw [Ru]; unfold sgn PH nd; simp [Lib.nDigits, Lib.decDigits]⟩; go_enter Tryz.func37, Tryz.ntmps37
 go_wp2_with fail
 refine (B0 0 0 hI0 _).mono ?_; rw [show right 0 0 = true from rfl]; rintro r W1 ⟨rfl, hb⟩; have Hx := Keep.mk ((Box.new (w := w) (n := w.heap.size) [.int .i64 0, .int .i64 0] 23 (by first | rfl | simp)).below hb (by simp only [World.size_alloc]; omega)); have HB := Keep.mk (up (al1 w _) hb); obtain ⟨xc0, xf0, xc1, xf1, xl⟩ := Hx.out.q2l; go_wp2_with fail
 refine (Du 0 0 hI0 (by omega) _).mono ?_; rw [show (0 : Int).natAbs = 0 from rfl, HZ.out]; rintro r W2 ⟨A2, c2, rfl, hI2, hb⟩; clear xc0 xc1 xf0 xf1 xl; replace Hx := Keep.mk (Hx.out.below hb Hx.out.lt); replace HB := Keep.mk (up HB.out hb); obtain ⟨xc0, xf0, xc1, xf1, xl⟩ := Hx.out.q2l; go_upto_region 4 with fail
 have xlW2 := Hx.out.lt; refine BC (fun W => Box W (w.heap.size) [.int .i64 0, .int .i64 0] ∧ Box W (W2.heap.size) [.bool false, .slice A2 ([] : List Nat).length c2, .int .i64 0] ∧ Below w.heap.size w W) ⟨Hx.out.alloc _, Box.new [.bool false, .slice A2 ([] : List Nat).length c2, .int .i64 0] _ rfl, up HB.out (al1 _ _)⟩ ?_; clear xc0 xc1 xf0 xf1 xl; clear Hx HB; rintro W3 ⟨Hx, Hp, HB⟩; replace Hx := Keep.mk Hx; replace Hp := Keep.mk Hp; replace HB := Keep.mk HB; obtain ⟨xc0, xf0, xc1, xf1, xl⟩ := Hx.out.q2l; obtain ⟨pc0, pf0, pc1, pf1, pc2, pf2, pl⟩ := Hp.out.q3l; go_wp2
 go_ret2
 exact ⟨Bj (by rw [HT.out]), HB.out⟩
theorem Rf (m e : Int) (hm : I64 m) (w : World) : Calls Tryz.prog 37 #[.agg #[.int .i64 m, .int .i64 e]] w fun r w' => r = .returned (Bl (F3 m e)) ∧ Below w.heap.size w w' := by
 unfold F3; cases h : right m e
 ·exact Pp m e hm h w
 simp only [↓reduceIte]; by_cases hm0 : m = 0
 ·subst hm0
  have : e = 0 := by simpa [right] using h
  subst this; exact Oe w
 by_cases hn : m < 0
 all_goals
  by_cases he : 0 ≤ e
  ·by_cases hk : (nd m : Int) + e ≤ 21
   ·first | exact Qk m e hm h hm0 hn he hk w | exact P9 m e hm h hm0 hn he hk w
   first | exact OM m e hm h hm0 hn he (by omega) w | exact Oi m e hm h hm0 hn he (by omega) w
  by_cases he2 : -20 ≤ e
  ·by_cases hk : (nd m : Int) ≤ -e
   ·first | exact On m e hm h hm0 hn (by omega) he2 hk w | exact Ot m e hm h hm0 hn (by omega) he2 hk w
   first | exact Ox m e hm h hm0 hn (by omega) he2 (by omega) w | exact OC m e hm h hm0 hn (by omega) he2 (by omega) w
  first | exact Og m e hm h hm0 hn (by omega) w | exact Oo m e hm h hm0 hn (by omega) w
end Go.Proofs.YtakncilicoefdaaGreatDoor
