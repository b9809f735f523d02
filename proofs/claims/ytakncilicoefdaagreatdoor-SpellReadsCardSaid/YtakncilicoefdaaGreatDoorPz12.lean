/- Lemmas and contracts. Conditions: those that each lemma names. -/
import Derived.Test.YtakncilicoefdaaGreatDoorPz10
import Derived.Test.YtakncilicoefdaaGreatDoorPz11
import Derived.Test.YtakncilicoefdaaGreatDoorPz8
import Derived.Great.BuildSlice
set_option maxRecDepth 100000
set_option maxHeartbeats 4000000
namespace Go.Proofs.YtakncilicoefdaaGreatDoor
open Go Go.RowKit Go.Proofs Th
structure FI where
 off : Nat
 size : Nat
 agg : Bool
inductive TI where
 | flat (z : Value)
 | slice (e : TypeId) (esz : Nat)
 | struct (fs : List FI) (z : List Value)
def SR : TypeDesc → Bool
 | .struct _ => true
 | .array _ _ => true
 | _ => false
def OP (P : Program) (f : Field) : Option FI := match P.info? f.type, P.underlying f.type with
 | some i, some d => if 0 < i.size then some ⟨f.offset, i.size, SR d⟩ else none
 | _, _ => none
def Iz (P : Program) : List Field → Option (List FI)
 | [] => some []
 | f :: r => match OP P f, Iz P r with
  | some x, some y => some (x :: y)
  | _, _ => none
def Cg (P : Program) (t : TypeId) : Option TI := match P.underlying t, P.info? t with
 | some (.struct fields), some i => match i.zero, Iz P fields.toList with
  | some (.agg z), some fs => if i.size = z.size ∧ z.toList.all Value.oneCell' = true then some (.struct fs z.toList) else none
  | _, _ => none
 | some (.slice e), some i => match i.zero, P.info? e with
  | some (.slice none 0 0), some j => match j.zero with
   | some z => if i.size = 1 ∧ z.cells.size = j.size ∧ 0 < j.size ∧ j.bytes ≤ 140000 then some (.slice e j.size) else none
   | none => none
  | _, _ => none
 | some d, some i => match i.zero with
  | some z => if i.size = 1 ∧ z.oneCell' = true ∧ SR d = false then some (.flat z) else none
  | none => none
 | _, _ => none
theorem Ek {P : Program} {t : TypeId} {fs : List FI} {z : List Value} (h : Cg P t = some (.struct fs z)) :
  ∃ fields i, P.underlying t = some (.struct fields) ∧ P.info? t = some i ∧ i.zero = some (.agg z.toArray) ∧ i.size = z.length ∧ z.all Value.oneCell' = true ∧ Iz P fields.toList = some fs := by
 unfold Cg at h; split at h
 ·rename_i fields i hu hi
  split at h
  ·rename_i z' fs' hz hfs
   split at h
   ·rename_i hc
    injection h with h; injection h with h1 h2; subst h1 h2; exact ⟨fields, i, hu, hi, by rw [hz], by simpa using hc.1, hc.2, hfs⟩
   cases h
  cases h
 ·repeat' split at h
  all_goals cases h
 ·repeat' split at h
  all_goals cases h
 cases h
theorem FF {P : Program} {t e : TypeId} {esz : Nat} (h : Cg P t = some (.slice e esz)) :
  ∃ i j z, P.underlying t = some (.slice e) ∧ P.info? t = some i ∧ i.size = 1 ∧ i.zero = some (.slice none 0 0) ∧ P.info? e = some j ∧ j.zero = some z ∧ z.cells.size = esz ∧ j.size = esz ∧ 0 < esz ∧ j.bytes ≤ 140000 := by
 unfold Cg at h; split at h
 ·repeat' split at h
  all_goals cases h
 ·rename_i e' i hu hi
  split at h
  ·rename_i j hz hj
   split at h
   ·rename_i z hz2
    split at h
    ·rename_i hc
     injection h with h; injection h with h1 h2; subst h1 h2; exact ⟨i, j, z, hu, hi, hc.1, hz, hj, hz2, hc.2.1, rfl, hc.2.2⟩
    cases h
   cases h
  cases h
 ·repeat' split at h
  all_goals cases h
 cases h
theorem Rg {P : Program} {t : TypeId} {z : Value} (h : Cg P t = some (.flat z)) : ∃ d i, P.underlying t = some d ∧ P.info? t = some i ∧ i.size = 1 ∧ i.zero = some z ∧ z.oneCell' = true ∧ SR d = false := by
 unfold Cg at h; split at h
 ·repeat' split at h
  all_goals cases h
 ·repeat' split at h
  all_goals cases h
 ·rename_i d i _ _ hu hi
  split at h
  ·rename_i z' hz
   split at h
   ·rename_i hc
    injection h with h; injection h with h1; subst h1; exact ⟨d, i, hu, hi, hc.1, hz, hc.2⟩
   cases h
  cases h
 cases h
theorem U8 {P : Program} {t : TypeId} {ti : TI} (h : Cg P t = some ti) (hs : ∀ fs z, ti ≠ .struct fs z) : ∃ d i, P.underlying t = some d ∧ P.info? t = some i ∧ i.size = 1 ∧ SR d = false := by
 cases ti with
 | flat z => obtain ⟨d, i, h1, h2, h3, _, _, h6⟩ := Rg h; exact ⟨d, i, h1, h2, h3, h6⟩
 | slice e esz => obtain ⟨i, j, z, h1, h2, h3, _⟩ := FF h; exact ⟨_, i, h1, h2, h3, rfl⟩
 | struct fs z => exact absurd rfl (hs fs z)
theorem MO {P : Program} : ∀ {l : List Field} {fs : List FI}, Iz P l = some fs → ∀ (k : Nat) f, fs[k]? = some f → ∃ fd, l[k]? = some fd ∧ OP P fd = some f
 | [], _, h, k, f, hk => by
  injection h with h; subst h; simp at hk
 | d :: r, fs, h, k, f, hk => by
  simp only [Iz] at h; split at h
  ·rename_i x y hx hy
   injection h with h; subst h; cases k with
   | zero => simp at hk; subst hk; exact ⟨d, rfl, hx⟩
   | succ k => simp at hk; simpa using MO hy k f hk
  cases h
def Ke (P : Program) (t : TypeId) : Option (Nat × Nat × List Value) := match P.underlying t, P.info? t with
 | some (.array n e), some i => match i.zero, P.info? e with
  | some (.agg z), some j => if i.size = z.size ∧ z.toList.all Value.oneCell' = true ∧ z.size = n * j.size ∧ 0 < j.size then some (n, j.size, z.toList) else none
  | _, _ => none
 | _, _ => none
theorem LZ {P : Program} {t : TypeId} {n esz : Nat} {z : List Value} (h : Ke P t = some (n, esz, z)) :
  ∃ e i j, P.underlying t = some (.array n e) ∧ P.info? t = some i ∧ i.zero = some (.agg z.toArray) ∧ i.size = z.length ∧ z.all Value.oneCell' = true ∧ P.info? e = some j ∧ j.size = esz ∧ z.length = n * esz := by
 unfold Ke at h; split at h
 ·rename_i n' e i hu hi
  split at h
  ·rename_i z' j hz hj
   split at h
   ·rename_i hc
    injection h with h; injection h with h1 h2; injection h2 with h2 h3; subst h1 h2 h3; exact ⟨e, i, j, hu, hi, by rw [hz], by simpa using hc.1, hc.2.1, hj, rfl, by simpa using hc.2.2.1⟩
   cases h
  cases h
 cases h
def L4 (n esz : Nat) : List FI := (List.range n).map fun i => ⟨i * esz, esz, false⟩
/-! what operations do -/
def Aw (s : ASt) : Operand → FV
 | .tmp t => s.fr t
 | .const x => .im (lift x)
 | .func f => .im (.v (.func (.func f) #[] #[]))
 | .global _ => .junk
def DK (st : Nat → AObj) : FV → Option IV
 | .im x => some x
 | .own k n => match st k with
  | .row _ _ es => if es.length = n then some (.sl es false) else none
  | _ => none
 | _ => none
def Ev (st : Nat → AObj) : List FV → Option (List IV)
 | [] => some []
 | c :: r => match DK st c, Ev st r with
  | some x, some y => some (x :: y)
  | _, _ => none
def cellsOf : IV → List IV
 | .agg cs => cs
 | x => [x]
def CE {α : Type} (cs : List α) (o : Nat) (xs : List α) : List α := cs.take o ++ (xs ++ cs.drop (o + xs.length))
def FV.ok (st : Nat → AObj) : FV → Prop
 | .im x => x.one = true
 | .own k n => match st k with
  | .row _ _ es => es.length = n
  | _ => False
 | .ptr _ _ => True
 | .pin _ _ => False
 | .junk => False
def Fh : TI → List FV
 | .flat z => [.im (lift z)]
 | .slice _ _ => [.im (.sl [] true)]
 | .struct _ z => z.map fun x => .im (lift x)
def Ej (st : Nat → AObj) (ti : Option TI) (cs : List FV) (o : Nat) (K : FV → Prop) : Prop := match ti with
 | some (.struct _ z) => match Ev st ((cs.drop o).take z.length) with
  | some xs => xs.length = z.length ∧ K (.im (.agg xs))
  | none => False
 | some _ => match cs[o]? with
  | some c => K c
  | none => False
 | none => False
def F7 (k : IntKind) (n : Int) (K : Value → Prop) : Prop := if k = .i64 then (-9223372036854775808 ≤ n ∧ n ≤ 9223372036854775807) ∧ K (.int k n) else K (.int k (k.wrap n))
def JK (B : Prop) (op : BinOp) (a b : Value) (K : Value → Prop) : Prop := match a, b with
 | .int k x, .int k' y => k = k' ∧ (match op with
  | .add => F7 k (x + y) K
  | .sub => F7 k (x - y) K
  | .mul => F7 k (x * y) K
  | .eql => K (.bool (decide (x = y)))
  | .neq => K (.bool (!decide (x = y)))
  | .lss => K (.bool (decide (x < y)))
  | .leq => K (.bool (decide (x ≤ y)))
  | .rem => y ≠ 0 ∧ K (.int k (x.tmod y))
  | .gtr => K (.bool (decide (y < x)))
  | .geq => K (.bool (decide (y ≤ x)))
  | _ => False)
 | .string x, .string y => (match op with
  | .add => x.size + y.size ≤ 9223372036854775807 ∧ K (.string (x ++ y))
  | .eql => K (.bool (decide (x = y)))
  | .neq => K (.bool (!decide (x = y)))
  | _ => False)
 | .bool x, .bool y => B ∧ (match op with
  | .eql => K (.bool (decide (x = y)))
  | .neq => K (.bool (!decide (x = y)))
  | _ => False)
 | _, _ => False
def Od : Value → IV
 | .agg us => .agg (us.toList.map IV.v)
 | u => lift u
def ZE (P : Program) (t : TypeId) : Prop := ∀ (op : BinOp) (x y : Operand) (a b c d : Int) (W : World), (op = .eql ∨ op = .neq) → (eqGuard op t x y (.agg #[.int .i64 a, .int .i64 b]) (.agg #[.int .i64 c, .int .i64 d])).run P W = .ok () W ∧ (Op.equal t (.agg #[.int .i64 a, .int .i64 b]) (.agg #[.int .i64 c, .int .i64 d])).run P W = .ok (decide (a = c) && decide (b = d)) W
def EM (s : ASt) (fs : List FI) : List IV → List (Nat × Operand) → Option (List IV)
 | cells, [] => some cells
 | cells, (i, x) :: r => match fs[i]?, DK s.st (Aw s x) with
  | some f, some y => if (cellsOf y).length = f.size ∧ f.off + f.size ≤ cells.length ∧ (cellsOf y).all IV.one = true then EM s fs (CE cells f.off (cellsOf y)) r else none
  | _, _ => none
def EG (s : ASt) (esz : Nat) : Nat → List (Nat × Operand) → Option (List (List IV))
 | _, [] => some []
 | k, (i, x) :: r => match DK s.st (Aw s x), EG s esz (k + 1) r with
  | some y, some l => if i = k ∧ (cellsOf y).length = esz ∧ (cellsOf y).all IV.one = true then some ((cellsOf y).map IV.er1 :: l) else none
  | _, _ => none
def F9 (st : Nat → AObj) (c : FV) : Option (List (List IV)) := match DK st c with
 | some (.sl es _) => some es
 | _ => none
def Ie : List IV → Option (List Value)
 | [] => some []
 | .v x :: r => match Ie r with
  | some l => some (x :: l)
  | none => none
 | _ => none
def LN : FV → Option Value
 | .im (.v x) => some x
 | .im (.agg cs) => match Ie cs with
  | some l => some (.agg l.toArray)
  | none => none
 | _ => none
def Fu (s : ASt) (d : Nat) : Option Operand → (Int → Prop) → Prop
 | none, K => K d
 | some x, K => match Aw s x with
  | .im (.v (.int _ n)) => K n
  | _ => False
def Dm (P : Program) (b : Builtin) (xs : List Operand) (ts : List TypeId) (d : Option Nat) (s : ASt) (K : FV → (Nat → AObj) → Prop) : Prop := match b, xs, ts with
 | .len, [x], [t] => (match P.underlying t, Aw s x with
  | some .string, .im (.v (.string b)) => K (.im (.v (.int .i64 b.size))) s.st
  | some (.slice _), c => (match F9 s.st c with
   | some es => K (.im (.v (.int .i64 es.length))) s.st
   | none => False)
  | _, _ => False)
 | .append, [x, y], [t, t'] => t' = t ∧ (match Cg P t, F9 s.st (Aw s y), d with
  | some (.slice e esz), some new, some d => (match Aw s x with
   | .own k n => (match s.st k with
    | .row ty z es => (ty = e ∧ z = esz ∧ es.length = n ∧ 0 < new.length ∧ es.length + new.length ≤ 1000000000 ∧ ∀ e ∈ new, e.length = esz) ∧ K (.own k (es ++ new).length) (upd s.st k (.row e esz (es ++ new)))
    | _ => False)
   | .im (.sl es true) => (match s.st d with
    | .none => (0 < new.length ∧ es.length + new.length ≤ 1000000000 ∧ (∀ e ∈ new, e.length = esz) ∧ ∀ e ∈ es, e.length = esz) ∧ K (.own d (es ++ new).length) (upd s.st d (.row e esz (es ++ new)))
    | _ => False)
   | _ => False)
  | _, _, _ => False)
 | .min, [x, y], _ => (match Aw s x, Aw s y with
  | .im (.v (.int k a)), .im (.v (.int _ b)) => K (.im (.v (.int k (if b < a then b else a)))) s.st
  | _, _ => False)
 | _, _, _ => False
def AH (P : Program) (op : Op) (d : Option Nat) (s : ASt) (K : FV → (Nat → AObj) → Prop) : Prop := match op with
 | .move x => K (Aw s x) s.st
 | .assign x => K (Aw s x) s.st
 | .pick c a b => (match Aw s c with
  | .im (.v (.bool t)) => K (if t = true then Aw s a else Aw s b) s.st
  | _ => False)
 | .nilCheck x => (match Aw s x with
  | .ptr b o => K (.ptr b o) s.st
  | .im (.elt cs o) => K (.im (.elt cs o)) s.st
  | _ => False)
 | .alloc t => (match d with
  | some d => d ≠ 1000 ∧ (match s.st d, Cg P t with
   | .none, some ti => K (.ptr d 0) (upd s.st d (.box (Fh ti)))
   | .none, none => (match Ke P t with
    | some a => K (.ptr d 0) (upd s.st d (.box (a.2.2.map fun x => .im (lift x))))
    | none => False)
   | _, _ => False)
  | none => False)
 | .box _ x => (match d with
  | some d => d ≠ 1000 ∧ (match s.st d, Aw s x with
   | .none, .im (.agg cs) => cs.all IV.one = true ∧ K (.ptr d 0) (upd s.st d (.box (cs.map FV.im)))
   | .none, c => c.ok s.st ∧ K (.ptr d 0) (upd s.st d (.box [c]))
   | _, _ => False)
  | none => False)
 | .load t x => (match Aw s x with
  | .ptr b o => (match s.st b with
   | .box cs => Ej s.st (Cg P t) cs o fun c => K c s.st
   | _ => False)
  | .im (.elt cs o) => Ej s.st (Cg P t) (cs.map FV.im) o fun c => K c s.st
  | _ => False)
 | .store t x y => (match Aw s x with
  | .ptr b o => (match s.st b with
   | .box cs => (match Cg P t with
    | some (.struct _ z) => (match Aw s y with
     | .im (.agg xs) => (xs.length = z.length ∧ o + z.length ≤ cs.length ∧ xs.all IV.one = true) ∧ K .junk (upd s.st b (.box (CE cs o (xs.map FV.im))))
     | _ => False)
    | some _ => (o < cs.length ∧ (Aw s y).ok s.st) ∧ K .junk (upd s.st b (.box (cs.set o (Aw s y))))
    | none => (match Ke P t, Aw s y with
     | some a, .im (.agg xs) => (xs.length = a.2.2.length ∧ o + a.2.2.length ≤ cs.length ∧ xs.all IV.one = true) ∧ K .junk (upd s.st b (.box (CE cs o (xs.map FV.im))))
     | _, _ => False))
   | _ => False)
  | _ => False)
 | .build t parts => (match Cg P t with
  | some (.struct fs z) => (match EM s fs (z.map lift) parts.toList with
   | some cs => K (.im (.agg cs)) s.st
   | none => False)
  | none => (match Ke P t with
   | some a => (match EM s (L4 a.1 a.2.1) (a.2.2.map lift) parts.toList with
    | some cs => K (.im (.agg cs)) s.st
    | none => False)
   | none => False)
  | _ => False)
 | .buildSlice t n parts => (match Cg P t with
  | some (.slice _ esz) => (match EG s esz 0 parts.toList with
   | some es => (es.length = n ∧ 0 < n ∧ n * esz ≤ 16777216) ∧ K (.im (.sl es true)) s.st
   | none => False)
  | _ => False)
 | .fieldAddr t x f => (match Cg P t with
  | some (.struct fs _) => (match fs[f]?, Aw s x with
   | some fi, .ptr b o => K (.ptr b (o + fi.off)) s.st
   | some fi, .im (.elt cs o) => K (.im (.elt cs (o + fi.off))) s.st
   | _, _ => False)
  | _ => False)
 | .field t x f => (match Cg P t with
  | some (.struct fs _) => (match fs[f]?, Aw s x with
   | some fi, .im (.agg cs) => fi.agg = false ∧ (match cs[fi.off]? with
    | some y => K (.im y) s.st
    | none => False)
   | _, _ => False)
  | _ => False)
 | .indexAddr t x i => (match Cg P t with
  | some (.slice _ esz) => (match F9 s.st (Aw s x), Aw s i with
   | some es, .im (.v (.int _ n)) => 0 ≤ n ∧ ∃ e, es[n.toNat]? = some e ∧ e.length = esz ∧ K (.im (.elt e 0)) s.st
   | _, _ => False)
  | none => (match Ke P t, Aw s x, Aw s i with
   | some a, .ptr b o, .im (.v (.int _ n)) => (0 ≤ n ∧ n < (a.1 : Int)) ∧ K (.ptr b (o + n.toNat * a.2.1)) s.st
   | _, _, _ => False)
  | _ => False)
 | .index t x i => (match P.underlying t, Aw s x, Aw s i with
  | some .string, .im (.v (.string b)), .im (.v (.int _ n)) => 0 ≤ n ∧ ∃ c, b.data.toList[n.toNat]? = some c ∧ K (.im (.v (.int .u8 c.toNat))) s.st
  | _, _, _ => False)
 | .slice t x lo hi none => (match P.underlying t, Aw s x with
  | some .string, .im (.v (.string b)) => Fu s 0 lo fun l => Fu s b.size hi fun h => (0 ≤ l ∧ l ≤ h ∧ h ≤ b.size) ∧ K (.im (.v (.string (b.extract l.toNat h.toNat)))) s.st
  | some (.slice _), .im (.sl es _) => (match Cg P t with
   | some (.slice _ esz) => Fu s 0 lo fun l => Fu s es.length hi fun h => ((0 ≤ l ∧ l ≤ h ∧ h ≤ es.length) ∧ ∀ e ∈ es, e.length = esz) ∧ K (.im (.sl ((es.take h.toNat).drop l.toNat) false)) s.st
   | _ => False)
  | _, _ => False)
 | .binOp op t x y _ => (match Aw s x, Aw s y with
  | .im (.v a), .im (.v b) => JK (P.underlying t = some .bool) op a b fun u => K (.im (.v u)) s.st
  | .im (.agg [.v (.int .i64 a), .v (.int .i64 b)]), .im (.agg [.v (.int .i64 c), .v (.int .i64 d)]) => ZE P t ∧ (match op with
   | .eql => K (.im (.v (.bool (decide (a = c) && decide (b = d))))) s.st
   | .neq => K (.im (.v (.bool (!(decide (a = c) && decide (b = d)))))) s.st
   | _ => False)
  | _, _ => False)
 | .unOp .not _ x => (match Aw s x with
  | .im (.v (.bool b)) => K (.im (.v (.bool !b))) s.st
  | _ => False)
 | .convert src dst x => (match P.underlying src, P.underlying dst, Aw s x with
  | some _, some (.int k), .im (.v (.int _ n)) => K (.im (.v (.int k (k.wrap n)))) s.st
  | _, _, _ => False)
 | .extract t i => (match Aw s t with
  | .im (.tup vs) => (match vs[i]? with
   | some x => K (.im x) s.st
   | none => False)
  | _ => False)
 | .typeAssert x _ t true => (match Cg P t, Aw s x with
  | some (.struct _ _), .im (.v (.iface t' u)) => t' = t ∧ K (.im (.tup [Od u, .v (.bool true)])) s.st
  | _, _ => False)
 | .makeInterface t x => (match P.underlying t, LN (Aw s x) with
  | some (.interface _), _ => False
  | some _, some u => K (.im (.v (.iface t u))) s.st
  | _, _ => False)
 | .call c => (match c.callee with
  | .builtin b => Dm P b c.args.toList c.argTypes.toList d s K
  | _ => False)
 | _ => False
/-! that they do so -/
theorem Br {X : Ctx} {E : AEnv} {S : CS} {s : ASt} {a : Act} {W : World} (h : RelE X E S s a W) (x : Operand) : B4 W S E s.st (Aw s x) (a.eval x) := by
 cases x with
 | tmp t => exact h.fr t
 | const v => exact GG W S v
 | global g => trivial
 | func f => exact Rep.v _
theorem ER {X : Ctx} {E : AEnv} {S : CS} {s : ASt} {a : Act} {W : World} (h : RelE X E S s a W) {c : FV} {u : Value} {x : IV} (hc : B4 W S E s.st c u) (hx : DK s.st c = some x) : Rep W S x u := by
 cases c with
 | junk => cases hx
 | im y => injection hx with hx; subst hx; exact hc
 | ptr b o => cases hx
 | pin b p => cases hx
 | own k n =>
  obtain ⟨ty, esz, es, h1, h2, h3⟩ := hc; simp only [DK, h1] at hx; split at hx
  ·rename_i hn
   injection hx with hx; subst hx; rw [h3 hn]; have ho := h.ob k; rw [h1] at ho; obtain ⟨xs, ⟨hxl, hv⟩, h5, h6, h7, h8, h9⟩ := ho; rcases hv with ⟨hv, h0⟩ | ⟨g, cap, cur, hv, hg, hcur, hcap, hmax, hsz, htk⟩
   ·rw [hv]
    obtain rfl : es = [] := List.eq_nil_of_length_eq_zero h0; exact .sl (es := []) 0 (fun _ _ => undef) (Nat.le_refl _) (by simp) (by simp) (fun h => by cases h) (fun _ h => absurd h List.not_mem_nil) (fun h => absurd h (Nat.lt_irrefl _)) (fun j i e x h => by simp at h)
   rw [hv]; have hown : W.ownsRow X.W0.heap.size ty esz (.slice (some ⟨g, 0, none⟩) es.length cap) es.length xs := ⟨hxl, Or.inr ⟨g, cap, cur, rfl, hg, hcur, hcap, hmax, hsz, htk⟩⟩; refine .sl esz (fun j i => xs.getD (j * esz + i) undef) hcap (by unfold maxLen at hmax; omega) (by omega) (fun h => by cases h) h7 (fun _ => ⟨g, 0, rfl, fun j i hj hi => ?_⟩) (fun j i e x he hx => ?_)
   ·have hlt : j * esz + i < es.length * esz := by
     have := Nat.mul_le_mul_right esz (show j + 1 ≤ es.length from hj); rw [Nat.add_mul] at this; omega
    refine ⟨(h9 g (by rw [hv]; rfl) _).2 (by omega), ?_⟩; have hcl := World.ownsRow.cells hown (g := g) rfl (j * esz + i) (xs.getD (j * esz + i) undef) (by rw [List.getD_eq_getElem?_getD, List.getElem?_eq_getElem (by omega)]; rfl); rw [EF] at hcl; rw [← hcl]; congr 2; omega
   have hj := (List.getElem?_eq_some_iff.1 he).1; have hi := (List.getElem?_eq_some_iff.1 hx).1; rw [(h7 e (List.mem_of_getElem? he)).1] at hi; have hlt : j * esz + i < es.length * esz := by
    have := Nat.mul_le_mul_right esz (show j + 1 ≤ es.length from hj); rw [Nat.add_mul] at this; omega
   exact h8 j i e x _ he hx (by rw [List.getD_eq_getElem?_getD, List.getElem?_eq_getElem (by omega)]; rfl)
  cases hx
theorem JO {X : Ctx} {E : AEnv} {S : CS} {s : ASt} {a : Act} {W : World} (h : RelE X E S s a W) : ∀ {cs : List FV} {us : List Value} {xs : List IV}, us.length = cs.length → (∀ (i : Nat) c u, cs[i]? = some c → us[i]? = some u → B4 W S E s.st c u) → Ev s.st cs = some xs → RepL W S xs us
 | [], us, xs, hl, _, hx => by
  injection hx with hx; subst hx; obtain rfl : us = [] := List.eq_nil_of_length_eq_zero hl; exact RepL.nil W S
 | c :: r, us, xs, hl, hr, hx => by
  cases us with
  | nil => cases hl
  | cons u us =>
   simp only [Ev] at hx; split at hx
   ·rename_i x l h1 h2
    injection hx with hx; subst hx; exact RepL.cons (ER h (hr 0 c u rfl rfl) h1) (JO h (by simpa using hl) (fun i c' u' hc hu => hr (i + 1) c' u' hc hu) h2)
   cases hx
def Out (P : Program) (X : Ctx) (s : ASt) (a : Act) (W : World) (o : Oper) (K : FV → (Nat → AObj) → Prop) (Q : Exit → Act → World → Prop) : Prop :=
 o.wp P a W (fun a' W' => ∃ c st' E' S' u, K c st' ∧ a' = a.put o.dst u ∧ RelE X E' S' ⟨s.fr, st'⟩ a W' ∧ B4 W' S' E' st' c u) Q
theorem EV {P : Program} {X : Ctx} {s : ASt} {a : Act} {W : World} {o : Oper} {K : FV → (Nat → AObj) → Prop} {Q : Exit → Act → World → Prop} {c : FV} {st' : Nat → AObj} {E' : AEnv} {S' : CS} {u : Value} {W' : World}
  (hr : (execOp a.eval o).run P W = .ok (.value u) W') (hK : K c st') (hR : RelE X E' S' ⟨s.fr, st'⟩ a W') (hc : B4 W' S' E' st' c u) : Out P X s a W o K Q := by
 unfold Out Oper.wp; rw [hr]; exact ⟨c, st', E', S', u, hK, rfl, hR, hc⟩
theorem Oj {P : Program} {X : Ctx} {s : ASt} {a : Act} {W : World} {o : Oper} {K : FV → (Nat → AObj) → Prop} {Q : Exit → Act → World → Prop} {c : FV} {st' : Nat → AObj} {E' : AEnv} {S' : CS} {W' : World}
  (hr : (execOp a.eval o).run P W = .ok .skip W') (hK : K c st') (hR : RelE X E' S' ⟨s.fr, st'⟩ a W') (hc : B4 W' S' E' st' c undef) : Out P X s a W o K Q := by
 unfold Out Oper.wp; rw [hr]; exact ⟨c, st', E', S', undef, hK, rfl, hR, hc⟩
section
variable {P : Program} {X : Ctx} {E : AEnv} {S : CS} {s : ASt} {a : Act} {W : World} {o : Oper} {K : FV → (Nat → AObj) → Prop} {Q : Exit → Act → World → Prop}
theorem Bm (h : RelE X E S s a W) {c : FV} {u : Value} (hr : (execOp a.eval o).run P W = .ok (.value u) W) (hK : K c s.st) (hc : B4 W S E s.st c u) : Out P X s a W o K Q :=
 EV hr hK h hc
end
end Go.Proofs.YtakncilicoefdaaGreatDoor
namespace Th
open Go Go.Lib
def aE (t : Tf) : Nat := if Aj t = 2 then 2 else Aj t + 1
def aV (t : Tf) : Nat := if Aj t = 2 then 1 else if Aj t = 3 ∨ Aj t = 6 then Aj t - 1 else Aj t
def aG (E : Env) (k top i : Nat) : Prop := Aj (Aa E i) ≠ 0 ∧ k ≤ Aj (Aa E i) ∧ Aj (Aa E i) ≤ top
inductive Steps (E : Env) (k : Nat) : NJ → Nat → Nat → NJ → Nat → Nat → Prop
 | refl (n : NJ) (top i : Nat) : Steps E k n top i n top i
 | step {n : NJ} {top i : Nat} {m : NJ} {j : Nat} {n' : NJ} {top' i' : Nat} (hl : aG E k top i) (he : evP E (.binary (aE (Aa E i))) (i + 1) = some (.ok m j)) (h : Steps E k (B8 (Aa E i) n m) (aV (Aa E i)) j n' top' i') : Steps E k n top i n' top' i'
theorem Steps.trans {E : Env} {k : Nat} {a : NJ} {b c : Nat} {a1 : NJ} {b1 c1 : Nat} {a2 : NJ} {b2 c2 : Nat} (h : Steps E k a b c a1 b1 c1) (h2 : Steps E k a1 b1 c1 a2 b2 c2) : Steps E k a b c a2 b2 c2 := by
 induction h with
 | refl => exact h2
 | step hl he _ ih => exact .step hl he (ih h2)
/-! which signs bind how strongly -/
theorem Q7 {l : List ByteArray} {x : ByteArray} : inB l x = true ↔ x ∈ l := by
 unfold inB; rw [List.any_eq_true]; refine ⟨fun ⟨q, h1, h2⟩ => by rw [of_decide_eq_true h2] at h1; exact h1, fun h => ⟨x, h, decide_eq_true rfl⟩⟩
end Th
namespace Go.Proofs.YtakncilicoefdaaGreatDoor
open Go Go.RowKit Go.Proofs Th
attribute [local go_sem] Above.cell
theorem Ww (s : ByteArray) (hs : s.size ≤ 100000000) (a : Nat) (h : a ≤ s.size) (w : World) : Calls Tryz.prog 104 #[.string (s.extract a s.size)] w fun r w' => r = .returned (.int .i64 (Bq (s.data.toList.drop a) : Int)) ∧ w' = w := by
 have h1 := Rx (s.extract a s.size) (by rw [Iw s a h]; omega) w; rw [EK] at h1; exact h1
theorem ZM (s : ByteArray) (a : Nat) (b : Bool) (hb : decide (s.data.toList[a]? = some 46) = b) (w : World) : Calls Tryz.prog 84 #[.string (s.extract a s.size), .string ⟨#[46]⟩] w fun e w' => e = .returned (.bool b) ∧ w' = w := by
 have h := Tryz.strings_HasPrefix (s.extract a s.size) ⟨#[46]⟩ w; rw [EK, show (⟨#[46]⟩ : ByteArray).data.toList = [46] from rfl, Rl, hb] at h; exact h
theorem JS (s : ByteArray) (a : Nat) (h : a < s.size) : s.data.toList[a]? = some s[a] := by
 rw [List.getElem?_eq_getElem (by rw [Ai]; exact h)]; rfl
theorem MH (s : ByteArray) (a : Nat) (h : ¬ a < s.size) : s.data.toList[a]? = none := List.getElem?_eq_none (by rw [Ai]; omega)
theorem KQ (l : List UInt8) (a : Nat) (h : a ≤ l.length) : a + Bq (l.drop a) ≤ l.length := by
 have := GC (l.drop a); rw [List.length_drop] at this; omega
theorem LW (s : ByteArray) (hs : s.size ≤ 100000000) (w : World) : Calls Tryz.prog 76 #[.string s] w fun r w' => r = .returned (.int .i64 (Dc s.data.toList : Int)) ∧ w' = w := by
 have HL := Keep.mk (Ai s); have HR := Keep.mk (fun a h W => Ww s hs a h W); have HR0 := Keep.mk (Rx s hs w); obtain ⟨n0, hn0⟩ : ∃ n : Nat, Bq s.data.toList = n := ⟨_, rfl⟩
 have hle : n0 ≤ s.size := by rw [← hn0, ← Ai]; exact GC _
 rw [hn0] at HR0; by_cases h0 : n0 = 0
 ·subst h0
  have HN := Keep.mk (show Dc s.data.toList = 0 by unfold Dc; rw [if_pos hn0]); clear HR hn0 hle; go_enter Tryz.func76, Tryz.ntmps76
  go_wp2_with fail
  refine HR0.out.mono ?_; rintro r w1 ⟨rfl, rfl⟩; go_wp2
  go_ret
  exact ⟨by rw [HN.out]; rfl, rfl⟩
 have HN := Keep.mk (show Dc s.data.toList = EP s.data.toList (D4 s.data.toList n0) by rw [Uu _ (by rw [hn0]; exact h0), hn0]); have b0 : ((n0 : Int) == 0) = false := by rw [beq_eq_false_iff_ne]; omega
 clear hn0; go_enter Tryz.func76, Tryz.ntmps76
 go_wp2_with fail
 refine HR0.out.mono ?_; rintro r w1 ⟨rfl, rfl⟩; clear HR0; go_wp2_with fail
 obtain ⟨p, hp⟩ : ∃ p, decide (s.data.toList[n0]? = some 46) = p := ⟨_, rfl⟩
 refine (ZM s n0 p hp w1).mono ?_; rintro r w2 ⟨rfl, rfl⟩; go_upto_if 14 with fail
 go_cut [3] (fun v wx => ∃ n1 : Nat, v = .int .i64 n1 ∧ Keep (D4 s.data.toList n0 = n1 ∧ n1 ≤ s.size) ∧ w2 = wx)
 case first =>
  cases p
  ·have HD := Keep.mk (show D4 s.data.toList n0 = n0 by unfold D4; rw [if_neg (fun h => of_decide_eq_false hp h.1)])
   clear hp; go_wp2_with fail
   go_meet
   exact ⟨n0, rfl, ⟨HD.out, hle⟩, rfl⟩
  have hd := of_decide_eq_true hp; have hlt : n0 < s.size := by
   have := (List.getElem?_eq_some_iff.1 hd).1; rw [Ai] at this; exact this
  obtain ⟨k, hk⟩ : ∃ k, Bq (s.data.toList.drop (n0 + 1)) = k := ⟨_, rfl⟩
  have hkl := KQ s.data.toList (n0 + 1) (by rw [Ai]; omega); rw [hk, Ai] at hkl; have HRN := Keep.mk (HR.out (n0 + 1) (by omega) w2); rw [hk] at HRN; have HD := Keep.mk (show D4 s.data.toList n0 = if 0 < k then n0 + 1 + k else n0 by
   unfold D4; rw [hk]; by_cases h : 0 < k
   ·rw [if_pos ⟨hd, h⟩, if_pos h]
   rw [if_neg (fun h2 => h h2.2), if_neg h])
  clear hp hd hk; go_wp2_with fail
  refine HRN.out.mono ?_; rintro r w3 ⟨rfl, rfl⟩; by_cases hk0 : 0 < k
  ·have HD2 := Keep.mk (HD.out.trans (if_pos hk0))
   go_wp2_with fail
   go_meet
   exact ⟨n0 + 1 + k, by go_num, ⟨HD2.out, by omega⟩, rfl⟩
  have HD2 := Keep.mk (HD.out.trans (if_neg hk0)); go_wp2_with fail
  go_meet
  exact ⟨n0, rfl, ⟨HD2.out, by omega⟩, rfl⟩
 case rest =>
  obtain ⟨n1, rfl, HD, rfl⟩ := hcut; obtain ⟨hd1, hle1⟩ := HD.out; replace HN := Keep.mk (HN.out.trans (by rw [hd1])); clear HD hd1 hp b0 h0 hle; obtain ⟨b, hb⟩ : ∃ b, decide (s.data.toList[n1]? = some 101 ∨ s.data.toList[n1]? = some 69) = b := ⟨_, rfl⟩
  go_upto_region 8 with fail
  go_cut [41] (fun v wx => v = .bool b ∧ w2 = wx)
  case first =>
   by_cases hlt : n1 < s.size
   ·rw [JS s n1 hlt] at hb
    by_cases h1 : s[n1] = 101
    ·have hb1 := hb.symm.trans (decide_eq_true (Or.inl (congrArg some h1)))
     subst hb1; have f1 : (s[n1].toNat : Int) = 101 := by rw [h1]; rfl
     clear hb h1; go_wp2_with fail
     go_meet
     exact ⟨rfl, rfl⟩
    have f1 : ¬ (s[n1].toNat : Int) = 101 := fun h => h1 (UInt8.toNat_inj.1 (by show s[n1].toNat = 101; omega))
    have g1 : ((s[n1].toNat : Int) == 101) = false := by rw [beq_eq_false_iff_ne]; exact f1
    by_cases h2 : s[n1] = 69
    ·have hb1 := hb.symm.trans (decide_eq_true (Or.inr (congrArg some h2)))
     subst hb1; have f2 : (s[n1].toNat : Int) = 69 := by rw [h2]; rfl
     clear hb h1 h2 g1 f1; go_wp2_with fail
     go_meet
     exact ⟨rfl, rfl⟩
    have hb1 := hb.symm.trans (decide_eq_false (fun h => h.elim (fun h => h1 (Option.some.inj h)) (fun h => h2 (Option.some.inj h)))); subst hb1; have f2 : ¬ (s[n1].toNat : Int) = 69 := fun h => h2 (UInt8.toNat_inj.1 (by show s[n1].toNat = 69; omega))
    have g2 : ((s[n1].toNat : Int) == 69) = false := by rw [beq_eq_false_iff_ne]; exact f2
    clear hb h1 h2; go_wp2_with fail
    go_meet
    exact ⟨rfl, rfl⟩
   rw [MH s n1 hlt] at hb; have hb1 := hb.symm.trans (decide_eq_false (fun h => by rcases h with h | h <;> cases h)); subst hb1; clear hb; go_wp2_with fail
   go_meet
   exact ⟨rfl, rfl⟩
  case rest =>
   obtain ⟨rfl, rfl⟩ := hcut; cases b
   ·have HN2 := Keep.mk (show Dc s.data.toList = n1 by rw [HN.out]; unfold EP; rw [if_neg (fun h => of_decide_eq_false hb h.1)])
    clear hb HN HR; go_wp2
    go_ret
    exact ⟨by rw [HN2.out]; rfl, rfl⟩
   have he := of_decide_eq_true hb; have hlt : n1 < s.size := by
    rcases he with h | h <;> (have := (List.getElem?_eq_some_iff.1 h).1; rw [Ai] at this; exact this)
   clear hb; obtain ⟨b, hb⟩ : ∃ b, decide (s.data.toList[n1 + 1]? = some 43 ∨ s.data.toList[n1 + 1]? = some 45) = b := ⟨_, rfl⟩
   have HE := Keep.mk he; clear he; go_upto_region 10 with fail
   go_cut [59] (fun v wx => v = .bool b ∧ w2 = wx)
   case first =>
    by_cases hlt2 : n1 + 1 < s.size
    ·rw [JS s (n1 + 1) hlt2] at hb
     by_cases h1 : s[n1 + 1] = 43
     ·have hb1 := hb.symm.trans (decide_eq_true (Or.inl (congrArg some h1)))
      subst hb1; have f1 : (s[n1 + 1].toNat : Int) = 43 := by rw [h1]; rfl
      clear hb h1; go_wp2_with fail
      go_meet
      exact ⟨rfl, rfl⟩
     have f1 : ¬ (s[n1 + 1].toNat : Int) = 43 := fun h => h1 (UInt8.toNat_inj.1 (by show s[n1 + 1].toNat = 43; omega))
     have g1 : ((s[n1 + 1].toNat : Int) == 43) = false := by rw [beq_eq_false_iff_ne]; exact f1
     by_cases h2 : s[n1 + 1] = 45
     ·have hb1 := hb.symm.trans (decide_eq_true (Or.inr (congrArg some h2)))
      subst hb1; have f2 : (s[n1 + 1].toNat : Int) = 45 := by rw [h2]; rfl
      clear hb h1 h2 g1 f1; go_wp2_with fail
      go_meet
      exact ⟨rfl, rfl⟩
     have hb1 := hb.symm.trans (decide_eq_false (fun h => h.elim (fun h => h1 (Option.some.inj h)) (fun h => h2 (Option.some.inj h)))); subst hb1; have f2 : ¬ (s[n1 + 1].toNat : Int) = 45 := fun h => h2 (UInt8.toNat_inj.1 (by show s[n1 + 1].toNat = 45; omega))
     have g2 : ((s[n1 + 1].toNat : Int) == 45) = false := by rw [beq_eq_false_iff_ne]; exact f2
     clear hb h1 h2; go_wp2_with fail
     go_meet
     exact ⟨rfl, rfl⟩
    rw [MH s (n1 + 1) hlt2] at hb; have hb1 := hb.symm.trans (decide_eq_false (fun h => by rcases h with h | h <;> cases h)); subst hb1; clear hb; go_wp2_with fail
    go_meet
    exact ⟨rfl, rfl⟩
   case rest =>
    obtain ⟨rfl, rfl⟩ := hcut; cases b
    ·have ha : BW s.data.toList n1 = n1 + 1 := by unfold BW; rw [if_neg (of_decide_eq_false hb)]
     have hroom : n1 + 1 ≤ s.size := by omega
     obtain ⟨k, hk⟩ : ∃ k, Bq (s.data.toList.drop (n1 + 1)) = k := ⟨_, rfl⟩
     have HRN := Keep.mk (HR.out (n1 + 1) hroom w2); rw [hk] at HRN; have hkl := KQ s.data.toList (n1 + 1) (by rw [Ai]; exact hroom); rw [hk, Ai] at hkl; have HX := Keep.mk (show EP s.data.toList n1 = if 0 < k then n1 + 1 + k else n1 by
      unfold EP; rw [ha, hk]; by_cases h : 0 < k
      ·rw [if_pos ⟨HE.out, h⟩, if_pos h]
      rw [if_neg (fun h2 => h h2.2), if_neg h])
     clear hb hk ha HE HR; go_wp2_with fail
     refine HRN.out.mono ?_; rintro r w3 ⟨rfl, rfl⟩; by_cases hk0 : 0 < k
     ·have HX2 := Keep.mk (HN.out.trans (HX.out.trans (if_pos hk0)))
      go_wp2
      go_ret
      exact ⟨by rw [HX2.out]; go_num, rfl⟩
     have HX2 := Keep.mk (HN.out.trans (HX.out.trans (if_neg hk0))); go_wp2
     go_ret
     exact ⟨by rw [HX2.out]; rfl, rfl⟩
    have ha : BW s.data.toList n1 = n1 + 2 := by unfold BW; rw [if_pos (of_decide_eq_true hb)]
    have hroom : n1 + 2 ≤ s.size := by
     rcases of_decide_eq_true hb with h | h <;> (have := (List.getElem?_eq_some_iff.1 h).1; rw [Ai] at this; omega)
    obtain ⟨k, hk⟩ : ∃ k, Bq (s.data.toList.drop (n1 + 2)) = k := ⟨_, rfl⟩
    have HRN := Keep.mk (HR.out (n1 + 2) hroom w2); rw [hk] at HRN; have hkl := KQ s.data.toList (n1 + 2) (by rw [Ai]; exact hroom); rw [hk, Ai] at hkl; have HX := Keep.mk (show EP s.data.toList n1 = if 0 < k then n1 + 2 + k else n1 by
     unfold EP; rw [ha, hk]; by_cases h : 0 < k
     ·rw [if_pos ⟨HE.out, h⟩, if_pos h]
     rw [if_neg (fun h2 => h h2.2), if_neg h])
    clear hb hk ha HE HR; go_wp2_with fail
    refine HRN.out.mono ?_; rintro r w3 ⟨rfl, rfl⟩; by_cases hk0 : 0 < k
    ·have HX2 := Keep.mk (HN.out.trans (HX.out.trans (if_pos hk0)))
     go_wp2
     go_ret
     exact ⟨by rw [HX2.out]; go_num, rfl⟩
    have HX2 := Keep.mk (HN.out.trans (HX.out.trans (if_neg hk0))); go_wp2
    go_ret
    exact ⟨by rw [HX2.out]; rfl, rfl⟩
open Go Go.RowKit Go.Proofs Th
def bs (l : List UInt8) : ByteArray := ⟨l.toArray⟩
def C6 : List ByteArray := [⟨#[61, 61]⟩, ⟨#[33, 61]⟩, ⟨#[60]⟩, ⟨#[60, 61]⟩, ⟨#[62]⟩, ⟨#[62, 61]⟩, ⟨#[43]⟩, ⟨#[45]⟩, ⟨#[42]⟩, ⟨#[47]⟩, ⟨#[37]⟩]
def fromB : ByteArray := ⟨#[102, 114, 111, 109]⟩
def toB : ByteArray := ⟨#[116, 111]⟩
def Bf (s : ByteArray) : Bool := Bc s.data.toList
def B7 (s : ByteArray) : Bool := Bf s && !inB Ca s
def BO (s : ByteArray) : Bool := B7 s || (decide (s.data.toList.head? = some 36) && Bc s.data.toList.tail)
def Av : NJ → Int
 | .mk k _ _ _ _ _ => k
def nmJ : NJ → ByteArray
 | .mk _ s _ _ _ _ => s
def AE (k : Int) : Bool := decide (k = 3 ∨ k = 10 ∨ k = 19 ∨ k = 20 ∨ k = 21 ∨ k = 22 ∨ k = 23 ∨ k = 24 ∨ k = 25)
def AJ : NJ → Bool
 | .mk k s m e _ a => (AE k || decide (s = ⟨#[]⟩)) && (decide (k = 2) || decide (m = 0 ∧ e = 0)) && (decide (k = 6 ∨ k = 24) || a.isEmpty)
def BU : List NJ → Bool
 | [] => true
 | [x] => decide (Av x = 3)
 | x :: _ :: r => decide (Av x = 3) && BU r
def Ac : NJ → Bool
 | .mk k s m e l a =>
  if k = 1 ∨ k = 26 then decide (l.length = 0)
  else if k = 2 then decide (l.length = 0) && right m e && decide (0 ≤ m)
  else if k = 3 then decide (l.length = 0) && Lib.validD s.data.toList
  else if k = 4 then BU l && decide (3 ≤ l.length) && decide (l.length % 2 = 1)
  else if k = 5 ∨ k = 8 ∨ k = 9 ∨ k = 11 ∨ k = 12 ∨ k = 13 then decide (l.length = 2)
  else if k = 6 then decide (l.length = a.length + 1) && (decide (a = [fromB]) || decide (a = [toB]) || decide (a = [fromB, toB]))
  else if k = 7 ∨ k = 14 then decide (l.length = 1)
  else if k = 10 then decide (l.length = 2) && inB C6 s
  else if k = 15 then decide (l.length ≤ 1)
  else if k = 16 then decide (l.length % 2 = 0)
  else if k = 17 then decide (l.length = 3)
  else if k = 18 then decide (l.length = 1 ∨ l.length = 2)
  else if k = 19 then decide (l.length = 3) && Bf s
  else if k = 20 then decide (l.length = 4) && Bf s
  else if k = 21 then decide (l.length = 2) && Bf s
  else if k = 22 then decide (l.length = 0) && Bf s
  else if k = 23 then B7 s
  else if k = 24 then decide (l.length = 2) && B7 s && a.all BO
  else if k = 25 then decide (l.length = 2) && inB Ez s
  else false
def ES (n : NJ) : Bool := AJ n && Ac n
mutual
/-- may all that a node is be -/
def okJ : NJ → Bool
 | .mk k s m e l a => ES (.mk k s m e l a) && okL l
def okL : List NJ → Bool
 | [] => true
 | n :: r => okJ n && okL r
end
theorem DW : ∀ l : List NJ, okL l = l.all okJ
 | [] => by simp [okL]
 | n :: r => by rw [okL, DW r]; rfl
mutual
/-- may a node be, in so many others -/
def De : Nat → NJ → Bool
 | 0, _ => false
 | d + 1, .mk k s m e l a => ES (.mk k s m e l a) && OC d l
def OC : Nat → List NJ → Bool
 | _, [] => true
 | d, n :: r => De d n && OC d r
end
theorem La (d : Nat) : ∀ l : List NJ, OC d l = l.all (De d)
 | [] => by simp [OC]
 | n :: r => by rw [OC, La d r]; rfl
theorem Cz {k : Nat} : ∀ {l : List NJ}, Bt l ≤ k ↔ ∀ y ∈ l, AB y ≤ k
 | [] => by simp [Bt]
 | a :: r => by
  rw [Bt, Nat.max_le, Cz (l := r)]; simp
theorem Mb : ∀ (d : Nat) (n : NJ), De d n = (decide (AB n ≤ d) && okJ n)
 | 0, .mk k s m e l a => by
  rw [De, AB, decide_eq_false (by omega), Bool.false_and]
 | d + 1, .mk k s m e l a => by
  rw [De, AB, okJ, La, DW]; have h : l.all (De d) = (decide (Bt l ≤ d) && l.all okJ) := by
   rw [Bool.eq_iff_iff]; simp only [List.all_eq_true, Bool.and_eq_true, decide_eq_true_eq, Cz]; constructor
   ·intro h
    refine ⟨fun y hy => ?_, fun y hy => ?_⟩ <;>
     (have := h y hy; rw [Mb d y, Bool.and_eq_true, decide_eq_true_eq] at this)
    ·exact this.1
    exact this.2
   intro h y hy; rw [Mb d y, Bool.and_eq_true, decide_eq_true_eq]; exact ⟨h.1 y hy, h.2 y hy⟩
  rw [h, show decide (1 + Bt l ≤ d + 1) = decide (Bt l ≤ d) from decide_eq_decide.2 (by omega)]; cases ES (.mk k s m e l a) <;> cases decide (Bt l ≤ d) <;> cases l.all okJ <;> rfl
/-! texts -/
def LF (k : Int) : Bool := decide (k = 1 ∨ k = 5 ∨ k = 6 ∨ k = 7 ∨ k = 22 ∨ k = 23)
def BZ (k : Int) (s : ByteArray) : ByteArray := if k = 8 then ⟨#[124]⟩ else if k = 9 then ⟨#[44]⟩ else if k = 11 then ⟨#[97, 110, 100]⟩ else if k = 12 then ⟨#[111, 114]⟩ else if k = 13 then ⟨#[47, 47]⟩ else s
def Dw (s : ByteArray) : ByteArray := bs (D8 s.data.toList)
def EJ (s : ByteArray) : ByteArray := bs (Bk s.data.toList)
def DG (s : ByteArray) : ByteArray := ⟨#[40]⟩ ++ s ++ ⟨#[41]⟩
def Ba (gap : ByteArray) : List ByteArray → ByteArray
 | [] => ⟨#[]⟩
 | [x] => x
 | x :: r => x ++ gap ++ Ba gap r
mutual
def spJ : NJ → ByteArray
 | .mk k s m e l a =>
  if k = 1 then ⟨#[46]⟩ else if k = 26 then ⟨#[46, 46]⟩ else if k = 2 then bs (BF m e) else if k = 3 then Dw s
  else if k = 4 then ⟨#[34]⟩ ++ CQ true (l.map nmJ) (spL l) ++ ⟨#[34]⟩
  else if k = 5 then tgJ (l.map Av) (spL l) 0 ++ ⟨#[91]⟩ ++ (spL l).getD 1 ⟨#[]⟩ ++ ⟨#[93]⟩
  else if k = 6 then tgJ (l.map Av) (spL l) 0 ++ ⟨#[91]⟩ ++ (if a.head? = some fromB then (spL l).getD 1 ⟨#[]⟩ else ⟨#[]⟩) ++ ⟨#[58]⟩ ++ (if a.getLast? = some toB then (spL l).getD (l.length - 1) ⟨#[]⟩ else ⟨#[]⟩) ++ ⟨#[93]⟩
  else if k = 7 then tgJ (l.map Av) (spL l) 0 ++ ⟨#[91, 93]⟩
  else if k = 14 then ⟨#[40, 45]⟩ ++ (spL l).getD 0 ⟨#[]⟩ ++ ⟨#[41]⟩
  else if k = 15 then ⟨#[91]⟩ ++ (spL l).getD 0 ⟨#[]⟩ ++ ⟨#[93]⟩
  else if k = 16 then ⟨#[123]⟩ ++ Cs true (spL l) ++ ⟨#[125]⟩
  else if k = 17 then ⟨#[105, 102, 32]⟩ ++ (spL l).getD 0 ⟨#[]⟩ ++ ⟨#[32, 116, 104, 101, 110, 32]⟩ ++ (spL l).getD 1 ⟨#[]⟩ ++ ⟨#[32, 101, 108, 115, 101, 32]⟩ ++ (spL l).getD 2 ⟨#[]⟩ ++ ⟨#[32, 101, 110, 100]⟩
  else if k = 18 then ⟨#[40, 116, 114, 121, 32]⟩ ++ tgJ (l.map Av) (spL l) 0 ++ (if l.length = 2 then ⟨#[32, 99, 97, 116, 99, 104, 32]⟩ ++ tgJ (l.map Av) (spL l) 1 else ⟨#[]⟩) ++ ⟨#[41]⟩
  else if k = 19 ∨ k = 20 then (if k = 19 then ⟨#[114, 101, 100, 117, 99, 101, 32]⟩ else ⟨#[102, 111, 114, 101, 97, 99, 104, 32]⟩) ++ tgJ (l.map Av) (spL l) 0 ++ ⟨#[32, 97, 115, 32, 36]⟩ ++ s ++ ⟨#[32, 40]⟩ ++ Ba ⟨#[59, 32]⟩ (spL l).tail ++ ⟨#[41]⟩
  else if k = 21 then ⟨#[40]⟩ ++ tgJ (l.map Av) (spL l) 0 ++ ⟨#[32, 97, 115, 32, 36]⟩ ++ s ++ ⟨#[32, 124, 32]⟩ ++ (spL l).getD 1 ⟨#[]⟩ ++ ⟨#[41]⟩
  else if k = 22 then ⟨#[36]⟩ ++ s
  else if k = 23 then (if l.length = 0 then s else s ++ ⟨#[40]⟩ ++ Ba ⟨#[59, 32]⟩ (spL l) ++ ⟨#[41]⟩)
  else if k = 24 then ⟨#[40, 100, 101, 102, 32]⟩ ++ s ++ (if a.length = 0 then ⟨#[]⟩ else ⟨#[40]⟩ ++ Ba ⟨#[59, 32]⟩ a ++ ⟨#[41]⟩) ++ ⟨#[58, 32]⟩ ++ (spL l).getD 0 ⟨#[]⟩ ++ ⟨#[59, 32]⟩ ++ (spL l).getD 1 ⟨#[]⟩ ++ ⟨#[41]⟩
  else ⟨#[40]⟩ ++ (spL l).getD 0 ⟨#[]⟩ ++ ⟨#[32]⟩ ++ BZ k s ++ ⟨#[32]⟩ ++ (spL l).getD 1 ⟨#[]⟩ ++ ⟨#[41]⟩
def spL : List NJ → List ByteArray
 | [] => []
 | n :: r => spJ n :: spL r
/-- a kid's text that can not be taken apart -/
def tgJ (ks : List Int) (ts : List ByteArray) (i : Nat) : ByteArray := if LF (ks.getD i 0) = true then ts.getD i ⟨#[]⟩ else DG (ts.getD i ⟨#[]⟩)
/-- texts and filters, by turns -/
def CQ : Bool → List ByteArray → List ByteArray → ByteArray
 | true, n :: ns, _ :: ts => EJ n ++ CQ false ns ts
 | false, _ :: ns, t :: ts => ⟨#[92, 40]⟩ ++ t ++ ⟨#[41]⟩ ++ CQ true ns ts
 | _, _, _ => ⟨#[]⟩
/-- keys and values -/
def Cs : Bool → List ByteArray → ByteArray
 | first, k :: v :: r => (if first = true then ⟨#[]⟩ else ⟨#[44, 32]⟩) ++ DG k ++ ⟨#[58, 32]⟩ ++ v ++ Cs false r
 | _, _ => ⟨#[]⟩
end
theorem FA : ∀ l : List NJ, spL l = l.map spJ
 | [] => by simp [spL]
 | n :: r => by rw [spL, FA r]; rfl
-- are two nodes the same
mutual
def C9 : NJ → NJ → Bool
 | .mk k s m e l a, .mk k' s' m' e' l' a' => decide (k = k') && decide (s = s') && decide (m = m' ∧ e = e') && decide (a = a') && CF l l'
def CF : List NJ → List NJ → Bool
 | [], [] => true
 | x :: l, y :: r => C9 x y && CF l r
 | _, _ => false
end
open Go Go.RowKit Go.Proofs Th
open Go Go.RowKit Go.Proofs Th
def V (m e : Int) : Int := m * (10 ^ (e + 64).toNat : Nat)
open Go Go.RowKit Go.Proofs Th
end Go.Proofs.YtakncilicoefdaaGreatDoor
namespace Th
open Go Go.Lib
theorem NR {u : List UInt8} : ∀ (b : Bool) (l : List UInt8), Ci b l < l.length → Ci b (l ++ u) = Ci b l
 | _, [], h => absurd h (Nat.lt_irrefl _)
 | b, c :: l, h => by
  simp only [List.cons_append, Ci, List.length_cons] at h ⊢; split
  ·rename_i hc
   rw [if_pos hc] at h; rw [NR _ l (by omega)]
  rfl
theorem Oq {L : List UInt8} {q : Nat → Nat × Nat} {b : Nat} (h : L.length ≤ b) : BG L q b = (noTf, b, 0) := by
 unfold BG; rw [List.drop_eq_nil_of_le h]
theorem Hf {L : List UInt8} {d a b : Nat} (h : AL L a = AL L b) : AF L d a = AF L d b := by rw [B9, B9, h]
def tk (t : Tf) : Nat × ByteArray := (t.kind, t.text)
end Th
namespace Th
open Go Go.Lib
def TotP {α : Type} (E : Env) (b : Nat) (o : Option (PR α)) : Prop := ∃ r, o = some r ∧ ∀ n j, r = .ok n j → wtE E j ≤ b
theorem TotP.fail {α : Type} {E : Env} {b i e : Nat} : TotP (α := α) E b (Da E i e) := ⟨_, rfl, fun _ _ h => by cases h⟩
theorem TotP.ok {α : Type} {E : Env} {b k : Nat} {n : α} (h : wtE E k ≤ b) : TotP E b (okP n k) := ⟨_, rfl, fun _ _ e => by cases e; exact h⟩
theorem TotP.up {α : Type} {E : Env} {b c : Nat} {o : Option (PR α)} (h : TotP E c o) (hc : c ≤ b) : TotP E b o := by
 obtain ⟨r, h1, h2⟩ := h; exact ⟨r, h1, fun n j e => Nat.le_trans (h2 n j e) hc⟩
theorem TotP.bind {α β : Type} {E : Env} {b c : Nat} {x : Option (PR α)} {k : α → Nat → Option (PR β)} (h : TotP E c x) (hk : ∀ n j, wtE E j ≤ c → TotP E b (k n j)) : TotP E b (A3 x k) := by
 obtain ⟨r, rfl, h2⟩ := h; cases r with
 | bad a e => exact ⟨_, rfl, fun _ _ h => by cases h⟩
 | ok n j => exact hk n j (h2 n j rfl)
theorem F4 {E : Env} (hE : DQ E) {p : Nat} (h : (Aa E p).kind ≠ 0) : wtE E (p + 1) + 1 ≤ wtE E p := by
 obtain ⟨h1, h2⟩ := Dt hE h; omega
theorem TotP.isT {β : Type} {E : Env} (hE : DQ E) {b p k : Nat} {s : ByteArray} {x y : Option (PR β)} (hk : k ≠ 0) (h : wtE E (p + 1) + 1 ≤ wtE E p → TotP E b x) (h2 : TotP E b y) : TotP E b (if Th.isT E p k s then x else y) := by
 split
 ·rename_i hT; exact h (F4 hE (by rw [hT.1]; exact hk))
 exact h2
theorem TotP.tok {β : Type} {E : Env} (hE : DQ E) {b p k : Nat} {x y : Option (PR β)} (hk : k ≠ 0) (h : (Aa E p).kind = k → wtE E (p + 1) + 1 ≤ wtE E p → TotP E b x) (h2 : TotP E b y) : TotP E b (if (Aa E p).kind = k then x else y) := by
 split
 ·rename_i hT; exact h hT (F4 hE (by rw [hT]; exact hk))
 exact h2
theorem TotP.want {β : Type} {E : Env} (hE : DQ E) {b p k : Nat} {s : ByteArray} {f : Nat → Option (PR β)} (hk : k ≠ 0) (h : wtE E (p + 1) + 1 ≤ wtE E p → TotP E b (f (p + 1))) : TotP E b (A8 E p k s f) := by
 unfold A8; exact TotP.isT hE hk h TotP.fail
theorem TotP.kind {β : Type} {E : Env} (hE : DQ E) {b p k : Nat} {f : ByteArray → Nat → Option (PR β)} (hk : k ≠ 0) (h : ∀ s, wtE E (p + 1) + 1 ≤ wtE E p → TotP E b (f s (p + 1))) : TotP E b (CX E p k f) := by
 unfold CX; split
 ·exact TotP.fail
 rename_i hT
 exact h _ (F4 hE fun h0 => hT (Or.inl (by rw [h0]; exact Ne.symm hk)))
theorem Ud {β : Type} {E : Env} (hE : DQ E) {b c : Nat} {k : List ByteArray → Nat → Option (PR β)} (hk : ∀ a j, wtE E j ≤ c → TotP E b (k a j)) : ∀ (n : Nat) (acc : List ByteArray) (i : Nat), wtE E i ≤ c → E.l.length - i < n → TotP E b (Db E k n acc i) := by
 intro n; induction n with
 | zero => intro acc i _ h; omega
 | succ n ih =>
  intro acc i hc hn; have q2 : wtE E (i + 2) ≤ wtE E (i + 1) := Ib E (i + 1); have q3 : wtE E (i + 1) + 1 ≤ wtE E i → i < E.l.length := fun h => Nat.lt_of_not_le fun h2 => by rw [ZU E h2] at h; omega
  simp only [Db]; exact TotP.tok hE (by decide) (fun _ h => TotP.isT hE (by decide) (fun h2 => ih _ _ (by omega) (by have := q3 h; omega)) (hk _ _ (by omega))) (TotP.kind hE (by decide) fun s h => TotP.isT hE (by decide) (fun h2 => ih _ _ (by omega) (by have := q3 h; omega)) (hk _ _ (by omega)))
def Ot : Job → Nat
 | .object => 32
 | .objLoop _ | .callLoop _ _ | .branch | .loop _ | .whole => 31
 | .filter => 30
 | .binary _ => 25
 | .binLoop _ _ _ => 24
 | .minus => 21
 | .term => 20
 | .first => 19
 | .entry => 11
 | .quoted => 10
 | .termLoop _ => 3
 | .index _ => 2
 | _ => 1
def Ip (E : Env) (job : Job) (i : Nat) : Nat := match job with
 | .parts t f _ _ => 40 * CL f + 40 + t.length
 | job => 40 * wtE E i + Ot job
def V0 (E : Env) (i : Nat) : Job → Prop
 | .sign _ | .word _ => (Aa E i).kind ≠ 0
 | _ => True
def Jt (E : Env) (job : Job) (i : Nat) : Nat := match job with
 | .index _ => wtE E (i + 1)
 | _ => wtE E i
theorem aT : ∀ (f : Nat) (E : Env), DQ E → ∀ (job : Job) (i : Nat), V0 E i job → Ip E job i < f → TotP E (Jt E job i) (AY f E job i) := by
 intro f; induction f with
 | zero => intro E hE job i _ h; omega
 | succ f ih =>
  intro E hE job i hj hf; have run : ∀ (job : Job) (i : Nat), V0 E i job → Ip E job i < f → TotP E (Jt E job i) (AY f E job i) := ih E hE
  have q1 := Ib E i; have q2 : wtE E (i + 2) ≤ wtE E (i + 1) := Ib E (i + 1); show TotP E (Jt E job i) (Ak (AY f) E job i)
  cases job <;> simp only [Jt]
  case parts t fs p kids =>
   cases t with
   | nil => exact TotP.ok q1
   | cons t0 t =>
    simp only [Ak]; split
    ·exact TotP.fail
    cases fs with
    | nil =>
     have e0 : CL [] = 0 := rfl; exact run (.parts _ _ _ _) i trivial (by simp only [Ip, e0, List.length_cons] at hf ⊢; omega)
    | cons g fs =>
     have hf : 40 * CL (g :: fs) + 40 + (t0 :: t).length < f + 1 := hf; have e1 : CL (g :: fs) = g.length + CL fs := by simp [CL]
     rw [e1, List.length_cons] at hf; obtain ⟨h1, h2⟩ := Fq g (E.base + (Aa E i).at_ + p.headD 0); obtain ⟨r, h3, _⟩ := ih _ h1 .whole 0 trivial (by show 40 * wtE _ 0 + 31 < f; omega); dsimp only; rw [h3]; cases r with
     | bad a e => exact ⟨_, rfl, fun _ _ h => by cases h⟩
     | ok n j => exact run (.parts _ _ _ _) i trivial (by show 40 * CL fs + 40 + t.length < f; omega)
  case quoted =>
   simp only [Ak]; split
   ·exact TotP.fail
   rename_i h5
   have h5 : (Aa E i).kind = 5 := Decidable.of_not_not h5; have hz := X0 hE i (by omega); obtain ⟨hz1, hz2⟩ := Dt hE (i := i) (by omega); have hq := Ly (Aa E i).text.data.toList; have hpl : (BS (Aa E i).text.data.toList).1.texts.length = 0 → CL (BS (Aa E i).text.data.toList).1.filters = 0 := fun h0 => by
    rcases Nf (Aa E i).text.data.toList with ⟨_, h⟩ | h
    ·rw [h]; rfl
    omega
   have hsz : (Aa E i).text.data.toList.length = (Aa E i).text.size := Array.length_toList; have hf : 40 * wtE E i + 10 < f + 1 := hf; exact run (.parts _ _ _ _) i trivial (by show 40 * CL _ + 40 + List.length _ < f; omega)
  case binLoop least top n =>
   simp only [Ak]; by_cases h0 : Aj (Aa E i) < least ∨ top < Aj (Aa E i) ∨ Aj (Aa E i) = 0
   ·rw [if_pos h0]; exact TotP.ok (Nat.le_refl _)
   rw [if_neg h0]; have hd := F4 hE (p := i) (fun h => h0 (Or.inr (Or.inr (by unfold Aj; rw [if_neg (by omega), if_pos (by omega)])))); simp only [Ip, Ot] at hf; repeat' split
   all_goals
    refine TotP.bind (run (.binary _) _ trivial ?_) fun n j h => TotP.up (run (.binLoop _ _ _) _ trivial ?_) ?_
    all_goals (try simp only [Jt] at h); first | (simp only [Ip, Ot]; omega) | (simp only [Jt]; omega)
  all_goals
   simp only [Ip, Ot] at hf; try (have hd := F4 hE hj)
   simp only [Ak]; repeat' first
    | with_reducible exact TotP.fail
    | with_reducible exact TotP.ok (by omega)
    | (with_reducible refine TotP.want hE (by decide) fun _ => ?_)
    | (with_reducible refine TotP.kind hE (by decide) fun _ _ => ?_)
    | (with_reducible refine TotP.isT hE (by decide) (fun _ => ?_) ?_)
    | (with_reducible refine TotP.tok hE (by decide) (fun _ _ => ?_) ?_)
    | (with_reducible refine TotP.bind (run _ _ ?_ ?_) fun _ _ hb => ?_) <;> (try simp only [Jt] at hb)
    | (with_reducible refine Ud hE (c := wtE E i) (fun _ _ _ => ?_) _ _ _ (by omega) ?_)
    | (with_reducible refine TotP.up (run _ _ ?_ ?_) ?_)
    | (simp only [Ip, Ot]; omega)
    | (simp only [V0]; first | done | omega)
    | (simp only [Jt]; omega)
    | omega
    | split
    | (have := YU hE (i + 2); omega)
end Th
namespace Th
open Go Go.Lib
def Pl {α : Type} (E : Env) (o : Option (PR α)) : Prop := ∀ a e, o = some (.bad a e) → a ≤ E.base + E.end_ ∧ e ≠ 0
def EBP (E : Env) : Prop := ∀ t ∈ E.l, t.at_ + t.text.size ≤ E.end_
theorem Uo {E : Env} (hE : EBP E) (i : Nat) : Eb E i ≤ E.base + E.end_ := by
 unfold Eb; cases h : E.l[i]? with
 | none => exact Nat.le_refl _
 | some t => have := hE t (List.mem_of_getElem? h); dsimp only; omega
theorem Zv {E : Env} (hE : EBP E) (i : Nat) : (Aa E i).at_ + (Aa E i).text.size ≤ E.end_ := by
 unfold Aa; rw [List.getD_eq_getElem?_getD]; cases h : E.l[i]? with
 | none => exact Nat.zero_le _
 | some t => exact hE t (List.mem_of_getElem? h)
theorem Pl.fail {α : Type} {E : Env} (hE : EBP E) {i e : Nat} (he : e ≠ 0) : Pl (α := α) E (Da E i e) := fun a e' h => by cases h; exact ⟨Uo hE i, he⟩
theorem Pl.ok {α : Type} {E : Env} {k : Nat} {n : α} : Pl E (okP n k) := fun a e h => by cases h
theorem Pl.bind {α β : Type} {E : Env} {x : Option (PR α)} {f : α → Nat → Option (PR β)} (h : Pl E x) (hf : ∀ a j, Pl E (f a j)) : Pl E (A3 x f) := by
 cases x with
 | none => intro a e h; cases h
 | some y =>
  cases y with
  | bad a e => intro a' e' h'; cases h'; exact h a e rfl
  | ok n j => exact hf n j
theorem Pl.ite {α : Type} {E : Env} {c : Prop} [Decidable c] {x y : Option (PR α)} (h1 : Pl E x) (h2 : Pl E y) : Pl E (if c then x else y) := by
 split
 ·exact h1
 exact h2
theorem Pl.want {β : Type} {E : Env} (hE : EBP E) {p k : Nat} {s : ByteArray} {f : Nat → Option (PR β)} (h : Pl E (f (p + 1))) : Pl E (A8 E p k s f) := by
 unfold A8; exact Pl.ite h (Pl.fail hE (by decide))
theorem Pl.kind {β : Type} {E : Env} (hE : EBP E) {p k : Nat} {f : ByteArray → Nat → Option (PR β)} (h : ∀ s, Pl E (f s (p + 1))) : Pl E (CX E p k f) := by
 unfold CX; exact Pl.ite (Pl.fail hE (by decide)) (h _)
theorem XE {β : Type} {E : Env} (hE : EBP E) {k : List ByteArray → Nat → Option (PR β)} (hk : ∀ a j, Pl E (k a j)) : ∀ (n : Nat) (acc : List ByteArray) (i : Nat), Pl E (Db E k n acc i) := by
 intro n; induction n with
 | zero => intro acc i a e h; cases h
 | succ n ih =>
  intro acc i; simp only [Db]; exact Pl.ite (Pl.ite (ih _ _) (hk _ _)) (Pl.kind hE fun s => Pl.ite (ih _ _) (hk _ _))
def Xw (E : Env) (i : Nat) : Job → Prop
 | .parts _ f p _ => p.length = f.length ∧ ∀ q ∈ p.zip f, q.1 + q.2.length ≤ (Aa E i).text.size
 | _ => True
theorem OA (g : List UInt8) (b : Nat) : EBP (B5 g b) := PV g
theorem Yy : ∀ (f : Nat) (E : Env), EBP E → ∀ (job : Job) (i : Nat), Xw E i job → Pl E (AY f E job i) := by
 intro f; induction f with
 | zero => intro E _ job i _ a e h; cases h
 | succ f ih =>
  intro E hE job i hj; have run : ∀ (job : Job) (i : Nat), Xw E i job → Pl E (AY f E job i) := ih E hE
  show Pl E (Ak (AY f) E job i)
  cases job
  case parts t fs p kids =>
   cases t with
   | nil => exact Pl.ok
   | cons t0 t =>
    simp only [Ak]; refine Pl.ite (Pl.fail hE (by decide)) ?_; cases fs with
    | nil => exact run (.parts _ _ _ _) i ⟨hj.1, by intro q hq; rw [List.zip_nil_right] at hq; cases hq⟩
    | cons g fs =>
     obtain ⟨h1, h2⟩ := hj; cases p with
     | nil => cases h1
     | cons p0 p =>
      have h3 : p0 + g.length ≤ (Aa E i).text.size := h2 (p0, g) (by rw [List.zip_cons_cons]; exact List.mem_cons_self); have h4 := Zv hE i; refine Pl.bind (fun a e h => ?_) fun a j => run (.parts _ _ _ _) i ⟨by simpa using h1, fun q hq => h2 q (by rw [List.zip_cons_cons]; exact List.mem_cons_of_mem _ hq)⟩
      have h5 := ih _ (OA g _) .whole 0 trivial a e h; refine ⟨?_, h5.2⟩; have h6 : a ≤ E.base + (Aa E i).at_ + p0 + g.length := h5.1; omega
  case quoted =>
   simp only [Ak]; have h := ND (Aa E i).text.data.toList; refine Pl.ite (Pl.fail hE (by decide)) (run (.parts _ _ _ _) i ⟨h.len, fun q hq => ?_⟩); have := h.pl q hq; rwa [show (Aa E i).text.data.toList.length = (Aa E i).text.size from Array.length_toList] at this
  case binLoop least top n =>
   simp only [Ak]; repeat' first | exact Pl.ok | refine Pl.ite ?_ ?_ | exact Pl.bind (run _ _ trivial) fun _ _ => run _ _ trivial
  case first =>
   simp only [Ak]; repeat' first
    | exact Pl.ok
    | exact Pl.fail hE (by decide)
    | exact run _ _ trivial
    | split
   exact Pl.fail hE (U7 _ ‹_›)
  all_goals
   simp only [Ak]; repeat' first
    | with_reducible exact Pl.ok
    | with_reducible exact Pl.fail hE (by decide)
    | (with_reducible refine Pl.want hE ?_)
    | (with_reducible refine Pl.kind hE fun _ => ?_)
    | (with_reducible refine Pl.ite ?_ ?_)
    | (with_reducible refine Pl.bind (run _ _ ?_) fun _ _ => ?_)
    | (with_reducible refine XE hE (fun _ _ => ?_) _ _ _)
    | (with_reducible refine run _ _ ?_)
    | exact trivial
end Th
namespace Th
open Go Go.Lib
def Gf (c : UInt8) : Nat := if c.toNat = 34 ∨ c.toNat = 92 then 2 else if c.toNat = 8 ∨ c.toNat = 9 ∨ c.toNat = 10 ∨ c.toNat = 12 ∨ c.toNat = 13 then 2 else if c.toNat < 32 then 6 else 1
def D0 (l : List UInt8) : Nat := (l.map Gf).sum
theorem K9 (a b : List UInt8) : D0 (a ++ b) = D0 a + D0 b := by unfold D0; rw [List.map_append, List.sum_append]
theorem XT (l : List UInt8) : l.length ≤ D0 l := by
 induction l with
 | nil => exact Nat.zero_le _
 | cons c l ih =>
  have : 1 ≤ Gf c := by unfold Gf; (repeat' split) <;> omega
  unfold D0 at *; rw [List.map_cons, List.sum_cons, List.length_cons]; omega
theorem PF {l : List UInt8} (h : ∀ x ∈ l, 32 ≤ x.toNat ∧ x.toNat ≠ 34 ∧ x.toNat ≠ 92) : D0 l = l.length := by
 induction l with
 | nil => rfl
 | cons c l ih =>
  have h1 := h c List.mem_cons_self; have : Gf c = 1 := by unfold Gf; rw [if_neg (by omega), if_neg (by omega), if_neg (by omega)]
  have := ih fun x hx => h x (List.mem_cons_of_mem _ hx)
  unfold D0 at *; rw [List.map_cons, List.sum_cons, List.length_cons]; omega
theorem Mx (x : Nat) (h : x < 128) : encodeRune (x : Int) = [UInt8.ofNat x] := by
 unfold encodeRune; rw [encodeRuneZ_one (by omega) (by omega)]; rfl
theorem Ep (x : Nat) (h : x < 128) : D0 (encodeRune (x : Int)) = Gf (UInt8.ofNat x) := by
 rw [Mx x h]; simp [D0]
theorem Nz (x : Nat) (h : x < 128) : (UInt8.ofNat x).toNat = x := by simp; omega
theorem VY (x : Nat) : (CA x).length ≤ D0 (encodeRune (x : Int)) := by
 by_cases h : x < 128
 ·rw [Ep x h]
  unfold Gf; rw [Nz x h]; unfold CA; by_cases h1 : x = 34 ∨ x = 92
  ·rw [if_pos h1, if_pos h1]; simp
  rw [if_neg h1, if_neg h1]; by_cases h2 : x = 8 ∨ x = 9 ∨ x = 10 ∨ x = 12 ∨ x = 13
  ·rw [if_pos h2]
   rcases h2 with rfl | rfl | rfl | rfl | rfl <;> simp
  rw [if_neg h2, if_neg (by omega), if_neg (by omega), if_neg (by omega), if_neg (by omega), if_neg (by omega)]; by_cases h3 : x < 32
  ·rw [if_pos h3, if_pos h3]; simp
  rw [if_neg h3, if_neg h3, Mx x h]; simp
 unfold CA; rw [if_neg (by omega), if_neg (by omega), if_neg (by omega), if_neg (by omega), if_neg (by omega), if_neg (by omega), if_neg (by omega)]; exact XT _
theorem Tl : ∀ (n : Nat) (l : List UInt8), l.length ≤ n → validD l = true → (Bk l).length ≤ D0 l := by
 intro n; induction n with
 | zero => intro l h _; obtain rfl : l = [] := List.eq_nil_of_length_eq_zero (by omega); exact Nat.le_refl _
 | succ n ih =>
  intro l h hv; by_cases hne : l = []
  ·subst hne; exact Nat.le_refl _
  rw [CM l hne] at hv; by_cases hb : CV l
  ·rw [if_pos hb] at hv; cases hv
  rw [if_neg hb] at hv; have hw := decodeL_width l; have hl : 0 < l.length := List.length_pos_iff.2 hne; have h1 := ih (l.drop (decodeL l).2) (by rw [List.length_drop]; omega) hv; have h2 := VY (decodeL l).1; have he : encodeRune ((decodeL l).1 : Int) = l.take (decodeL l).2 := encode_decode l hne hb; rw [he] at h2; have h3 := K9 (l.take (decodeL l).2) (l.drop (decodeL l).2); rw [List.take_append_drop] at h3; rw [Fo l hne, List.length_append]; omega
theorem XQ {l : List UInt8} {x n : Nat} (h : DJ l = some (x, n)) : 4 ≤ n := by
 unfold DJ at h; cases ha : CY l with
 | none => rw [ha] at h; cases h
 | some a =>
  simp only [ha] at h; split at h
  ·cases h
  split at h
  ·injection h with h; injection h with h1 h2; omega
  split at h
  ·cases hb : CY (l.drop 6) with
   | none => rw [hb] at h; cases h
   | some b =>
    simp only [hb] at h; split at h
    ·cases h
    injection h with h; injection h with h1 h2; omega
  cases h
theorem TV {r : List UInt8} {x n : Nat} (h : CK r = some (x, n)) : D0 (encodeRune (x : Int)) ≤ n + 1 := by
 cases r with
 | nil => cases h
 | cons c r =>
  simp only [CK] at h; by_cases c1 : c = 34 ∨ c = 92 ∨ c = 47
  ·rw [if_pos c1] at h
   injection h with h; injection h with h1 h2; subst h1 h2; rcases c1 with rfl | rfl | rfl <;> (rw [Ep _ (by decide)]; decide)
  rw [if_neg c1] at h; by_cases c2 : c = 98
  ·rw [if_pos c2] at h; cases h; rw [Ep _ (by decide)]; decide
  rw [if_neg c2] at h; by_cases c3 : c = 102
  ·rw [if_pos c3] at h; cases h; rw [Ep _ (by decide)]; decide
  rw [if_neg c3] at h; by_cases c4 : c = 110
  ·rw [if_pos c4] at h; cases h; rw [Ep _ (by decide)]; decide
  rw [if_neg c4] at h; by_cases c5 : c = 114
  ·rw [if_pos c5] at h; cases h; rw [Ep _ (by decide)]; decide
  rw [if_neg c5] at h; by_cases c6 : c = 116
  ·rw [if_pos c6] at h; cases h; rw [Ep _ (by decide)]; decide
  rw [if_neg c6] at h; by_cases c7 : c = 117
  ·rw [if_pos c7] at h
   cases hu : DJ r with
   | none => rw [hu] at h; cases h
   | some p =>
    obtain ⟨y, k⟩ := p; rw [hu] at h; injection h with h; injection h with h1 h2; have hk := XQ hu; subst h1 h2; by_cases hy : y < 128
    ·rw [Ep y hy]
     have : Gf (UInt8.ofNat y) ≤ 6 := by unfold Gf; (repeat' split) <;> omega
     omega
    rw [PF (J0 y (by omega) (by omega) (by omega))]; have := F8 (y : Int); omega
  rw [if_neg c7] at h; cases h
theorem R5 : ∀ (f : Nat) (l : List UInt8), l.length ≤ f → ∀ t k, CB l = some (t, k) → D0 t + 1 ≤ k := by
 intro f; induction f with
 | zero => intro l h t k hb; obtain rfl : l = [] := List.eq_nil_of_length_eq_zero (by omega); cases hb
 | succ f ih =>
  intro l hl t k hb; cases l with
  | nil => cases hb
  | cons c r =>
   have hw := decodeL_width (c :: r); rw [DF] at hb; rw [List.length_cons] at hl; split at hb
   ·injection hb with hb; injection hb with h1 h2; subst h1 h2; exact Nat.le_refl _
   rename_i c34
   split at hb
   ·cases hb
   rename_i c32
   split at hb
   ·cases he : CK r with
    | none => rw [he] at hb; cases hb
    | some p =>
     obtain ⟨x, n⟩ := p; rw [he] at hb; simp only at hb; cases hq : CB (r.drop n) with
     | none => rw [hq] at hb; cases hb
     | some q =>
      obtain ⟨t', k'⟩ := q; rw [hq] at hb; injection hb with hb; injection hb with h1 h2; subst h1 h2; have h3 := ih (r.drop n) (by rw [List.length_drop]; omega) t' k' hq; have h4 := TV he; dsimp only at h3 ⊢; rw [K9]; omega
   rename_i c92
   split at hb
   ·cases hb
   rename_i hbad
   cases hq : CB ((c :: r).drop (decodeL (c :: r)).2) with
   | none => rw [hq] at hb; cases hb
   | some q =>
    obtain ⟨t', k'⟩ := q; rw [hq] at hb; injection hb with hb; injection hb with h1 h2; subst h1 h2; have h3 := ih ((c :: r).drop (decodeL (c :: r)).2) (by rw [List.length_drop, List.length_cons]; omega) t' k' hq; have he : encodeRune ((decodeL (c :: r)).1 : Int) = (c :: r).take (decodeL (c :: r)).2 := encode_decode (c :: r) (by simp) hbad; have h5 : D0 ((c :: r).take (decodeL (c :: r)).2) ≤ (decodeL (c :: r)).2 := by
     have hx : 32 ≤ (decodeL (c :: r)).1 ∧ (decodeL (c :: r)).1 ≠ 34 ∧ (decodeL (c :: r)).1 ≠ 92 := by
      by_cases h128 : (decodeL (c :: r)).1 < 128
      ·obtain ⟨w, hw2⟩ : ∃ w, (decodeL (c :: r)).2 = w + 1 := ⟨(decodeL (c :: r)).2 - 1, by omega⟩
       rw [Mx _ h128, hw2, List.take_succ_cons] at he; injection he with he _; have hn := congrArg UInt8.toNat he; rw [Nz _ h128] at hn; refine ⟨by omega, fun h => c34 ?_, fun h => c92 ?_⟩
       ·rw [← he, h]; rfl
       rw [← he, h]; rfl
      omega
     rw [← he, PF (J0 _ hx.1 hx.2.1 hx.2.2), he, List.length_take]; omega
    dsimp only at h3 ⊢; rw [K9]; omega
theorem Sz {b : List UInt8} (h1 : (BA (DN b)).2.2 = 0) (h2 : (BA (DN b)).2.1 = b.length + 2) : validD (BA (DN b)).1 = true ∧ (Bk (BA (DN b)).1).length ≤ b.length := by
 have hv := Qm _ h1; refine ⟨hv, Nat.le_trans (Tl _ _ (Nat.le_refl _) hv) ?_⟩; unfold DN at h1 h2 ⊢; simp only [BA] at h1 h2 ⊢; rw [if_pos True.intro] at h1 h2; rw [if_pos True.intro]; cases hb : CB (b ++ [34]) with
 | none => rw [hb] at h1; simp at h1
 | some p =>
  obtain ⟨t, k⟩ := p; rw [hb] at h2; have := R5 _ _ (Nat.le_refl _) t k hb; dsimp only at h2 ⊢; omega
theorem Pp (L : List UInt8) (one : Nat → Tf × Nat × Nat) (hone : ∀ a, a ≤ L.length → OneOk L a (one a)) : ∀ (n f a : Nat) (r : PartsR), PathQ L one a → f ≤ a → CL r.filters + CL r.texts + 3 * r.filters.length + 1 ≤ f → CL (Bn L one n f a r).filters + CL (Bn L one n f a r).texts + 3 * (Bn L one n f a r).filters.length + 2 ≤ L.length := by
 intro n; induction n with
 | zero =>
  intro f a r h1 hf h2; have := (h1.end_ hone).1; simp only [Bn]; rw [F3, List.length_drop, List.length_take]; omega
 | succ n ih =>
  intro f a r h1 hf h2; obtain ⟨h3, h4⟩ := h1.end_ hone; simp only [Bn]; by_cases h5 : L.length - 1 ≤ a
  ·rw [if_pos h5]
   dsimp only; rw [F3, List.length_drop, List.length_take]; omega
  rw [if_neg h5]; have hn34 : L[a]? ≠ some 34 := fun hh => by have := h4.2 hh; omega
  by_cases h6 : L[a]? ≠ some 92
  ·rw [if_pos h6]
   obtain ⟨c, hc, _⟩ := h1.lt; exact ih _ _ _ (h1.char hc (fun h => hn34 (by rw [hc, h])) (fun h => h6 (by rw [hc, h]))) (by omega) h2
  rw [if_neg h6]; have h92 : L[a]? = some 92 := Decidable.of_not_not h6; by_cases h7 : L[a + 1]? ≠ some 40
  ·rw [if_pos h7]; exact ih _ _ _ (h1.esc h92 h7) (by omega) h2
  rw [if_neg h7]; obtain ⟨h8, h9, h10⟩ := h1.sub hone h92 (Decidable.of_not_not h7); refine ih _ _ _ h8 (Nat.le_refl _) ?_; dsimp only; rw [F3, F3, List.length_append, List.length_singleton, List.length_drop, List.length_take, List.length_drop, List.length_take]; omega
theorem Qq (q : List UInt8) (h : (BS q).1.texts ≠ []) : CL (BS q).1.filters + CL (BS q).1.texts + 3 * (BS q).1.filters.length + 2 ≤ q.length := by
 unfold BS at h ⊢; split
 ·rename_i hq
  obtain ⟨_, _, h3⟩ := KO hq; exact Pp q _ (CR q 47) _ 1 1 _ h3 (Nat.le_refl _) (by simp [CL])
 rename_i hq
 rw [if_neg hq] at h; exact absurd rfl h
end Th
