/- Lemmas and contracts. Conditions: those that each lemma names. -/
import Derived.Test.YtakncilicoefdaaGreatDoorPc11
import Derived.Test.YtakncilicoefdaaGreatDoorPc10
import Derived.Laws.IdiomCopy
import Derived.Great.BuildSlice
import Derived.Deep.RegionLawGrows
set_option maxRecDepth 100000
set_option maxHeartbeats 4000000
namespace Go.Proofs.YtakncilicoefdaaGreatDoor
open Go Go.RowKit Go.Proofs Th
structure FI where
 off : Nat
 size : Nat
 agg : Bool
inductive TI where
 | flat (z : Value)
 | slice (e : TypeId) (esz : Nat)
 | struct (fs : List FI) (z : List Value)
def aggD : TypeDesc → Bool
 | .struct _ => true
 | .array _ _ => true
 | _ => false
def fiOf (P : Program) (f : Field) : Option FI := match P.info? f.type, P.underlying f.type with
 | some i, some d => if 0 < i.size then some ⟨f.offset, i.size, aggD d⟩ else none
 | _, _ => none
def fisOf (P : Program) : List Field → Option (List FI)
 | [] => some []
 | f :: r => match fiOf P f, fisOf P r with
  | some x, some y => some (x :: y)
  | _, _ => none
def tiOf (P : Program) (t : TypeId) : Option TI := match P.underlying t, P.info? t with
 | some (.struct fields), some i => match i.zero, fisOf P fields.toList with
  | some (.agg z), some fs => if i.size = z.size ∧ z.toList.all Value.oneCell' = true then some (.struct fs z.toList) else none
  | _, _ => none
 | some (.slice e), some i => match i.zero, P.info? e with
  | some (.slice none 0 0), some j => match j.zero with
   | some z => if i.size = 1 ∧ z.cells.size = j.size ∧ 0 < j.size ∧ j.bytes ≤ 140000 then some (.slice e j.size) else none
   | none => none
  | _, _ => none
 | some d, some i => match i.zero with
  | some z => if i.size = 1 ∧ z.oneCell' = true ∧ aggD d = false then some (.flat z) else none
  | none => none
 | _, _ => none
theorem ti_struct {P : Program} {t : TypeId} {fs : List FI} {z : List Value} (h : tiOf P t = some (.struct fs z)) :
  ∃ fields i, P.underlying t = some (.struct fields) ∧ P.info? t = some i ∧ i.zero = some (.agg z.toArray) ∧ i.size = z.length ∧ z.all Value.oneCell' = true ∧ fisOf P fields.toList = some fs := by
 unfold tiOf at h; split at h
 ·rename_i fields i hu hi
  split at h
  ·rename_i z' fs' hz hfs
   split at h
   ·rename_i hc
    injection h with h; injection h with h1 h2; subst h1 h2; exact ⟨fields, i, hu, hi, by rw [hz], by simpa using hc.1, hc.2, hfs⟩
   cases h
  cases h
 ·repeat' split at h
  all_goals cases h
 ·repeat' split at h
  all_goals cases h
 cases h
theorem ti_slice {P : Program} {t e : TypeId} {esz : Nat} (h : tiOf P t = some (.slice e esz)) :
  ∃ i j z, P.underlying t = some (.slice e) ∧ P.info? t = some i ∧ i.size = 1 ∧ i.zero = some (.slice none 0 0) ∧ P.info? e = some j ∧ j.zero = some z ∧ z.cells.size = esz ∧ j.size = esz ∧ 0 < esz ∧ j.bytes ≤ 140000 := by
 unfold tiOf at h; split at h
 ·repeat' split at h
  all_goals cases h
 ·rename_i e' i hu hi
  split at h
  ·rename_i j hz hj
   split at h
   ·rename_i z hz2
    split at h
    ·rename_i hc
     injection h with h; injection h with h1 h2; subst h1 h2; exact ⟨i, j, z, hu, hi, hc.1, hz, hj, hz2, hc.2.1, rfl, hc.2.2⟩
    cases h
   cases h
  cases h
 ·repeat' split at h
  all_goals cases h
 cases h
theorem ti_flat {P : Program} {t : TypeId} {z : Value} (h : tiOf P t = some (.flat z)) : ∃ d i, P.underlying t = some d ∧ P.info? t = some i ∧ i.size = 1 ∧ i.zero = some z ∧ z.oneCell' = true ∧ aggD d = false := by
 unfold tiOf at h; split at h
 ·repeat' split at h
  all_goals cases h
 ·repeat' split at h
  all_goals cases h
 ·rename_i d i _ _ hu hi
  split at h
  ·rename_i z' hz
   split at h
   ·rename_i hc
    injection h with h; injection h with h1; subst h1; exact ⟨d, i, hu, hi, hc.1, hz, hc.2⟩
   cases h
  cases h
 cases h
theorem ti_one {P : Program} {t : TypeId} {ti : TI} (h : tiOf P t = some ti) (hs : ∀ fs z, ti ≠ .struct fs z) : ∃ d i, P.underlying t = some d ∧ P.info? t = some i ∧ i.size = 1 ∧ aggD d = false := by
 cases ti with
 | flat z => obtain ⟨d, i, h1, h2, h3, _, _, h6⟩ := ti_flat h; exact ⟨d, i, h1, h2, h3, h6⟩
 | slice e esz => obtain ⟨i, j, z, h1, h2, h3, _⟩ := ti_slice h; exact ⟨_, i, h1, h2, h3, rfl⟩
 | struct fs z => exact absurd rfl (hs fs z)
theorem fis_get {P : Program} : ∀ {l : List Field} {fs : List FI}, fisOf P l = some fs → ∀ (k : Nat) f, fs[k]? = some f → ∃ fd, l[k]? = some fd ∧ fiOf P fd = some f
 | [], _, h, k, f, hk => by
  injection h with h; subst h; simp at hk
 | d :: r, fs, h, k, f, hk => by
  simp only [fisOf] at h; split at h
  ·rename_i x y hx hy
   injection h with h; subst h; cases k with
   | zero => simp at hk; subst hk; exact ⟨d, rfl, hx⟩
   | succ k => simp at hk; simpa using fis_get hy k f hk
  cases h
def arrOf (P : Program) (t : TypeId) : Option (Nat × Nat × List Value) := match P.underlying t, P.info? t with
 | some (.array n e), some i => match i.zero, P.info? e with
  | some (.agg z), some j => if i.size = z.size ∧ z.toList.all Value.oneCell' = true ∧ z.size = n * j.size ∧ 0 < j.size then some (n, j.size, z.toList) else none
  | _, _ => none
 | _, _ => none
theorem arr_of {P : Program} {t : TypeId} {n esz : Nat} {z : List Value} (h : arrOf P t = some (n, esz, z)) :
  ∃ e i j, P.underlying t = some (.array n e) ∧ P.info? t = some i ∧ i.zero = some (.agg z.toArray) ∧ i.size = z.length ∧ z.all Value.oneCell' = true ∧ P.info? e = some j ∧ j.size = esz ∧ z.length = n * esz := by
 unfold arrOf at h; split at h
 ·rename_i n' e i hu hi
  split at h
  ·rename_i z' j hz hj
   split at h
   ·rename_i hc
    injection h with h; injection h with h1 h2; injection h2 with h2 h3; subst h1 h2 h3; exact ⟨e, i, j, hu, hi, by rw [hz], by simpa using hc.1, hc.2.1, hj, rfl, by simpa using hc.2.2.1⟩
   cases h
  cases h
 cases h
def arrFI (n esz : Nat) : List FI := (List.range n).map fun i => ⟨i * esz, esz, false⟩
/-! what operations do -/
def valOf (s : ASt) : Operand → FV
 | .tmp t => s.fr t
 | .const x => .im (lift x)
 | .func f => .im (.v (.func (.func f) #[] #[]))
 | .global _ => .junk
def toIV (st : Nat → AObj) : FV → Option IV
 | .im x => some x
 | .own k n => match st k with
  | .row _ _ es => if es.length = n then some (.sl es false) else none
  | _ => none
 | _ => none
def allIV (st : Nat → AObj) : List FV → Option (List IV)
 | [] => some []
 | c :: r => match toIV st c, allIV st r with
  | some x, some y => some (x :: y)
  | _, _ => none
def cellsOf : IV → List IV
 | .agg cs => cs
 | x => [x]
def setSeg {α : Type} (cs : List α) (o : Nat) (xs : List α) : List α := cs.take o ++ (xs ++ cs.drop (o + xs.length))
def FV.ok (st : Nat → AObj) : FV → Prop
 | .im x => x.one = true
 | .own k n => match st k with
  | .row _ _ es => es.length = n
  | _ => False
 | .ptr _ _ => True
 | .pin _ _ => False
 | .junk => False
def zeroFV : TI → List FV
 | .flat z => [.im (lift z)]
 | .slice _ _ => [.im (.sl [] true)]
 | .struct _ z => z.map fun x => .im (lift x)
def aload (st : Nat → AObj) (ti : Option TI) (cs : List FV) (o : Nat) (K : FV → Prop) : Prop := match ti with
 | some (.struct _ z) => match allIV st ((cs.drop o).take z.length) with
  | some xs => xs.length = z.length ∧ K (.im (.agg xs))
  | none => False
 | some _ => match cs[o]? with
  | some c => K c
  | none => False
 | none => False
def ainR (k : IntKind) (n : Int) (K : Value → Prop) : Prop := if k = .i64 then (-9223372036854775808 ≤ n ∧ n ≤ 9223372036854775807) ∧ K (.int k n) else K (.int k (k.wrap n))
def abin (B : Prop) (op : BinOp) (a b : Value) (K : Value → Prop) : Prop := match a, b with
 | .int k x, .int k' y => k = k' ∧ (match op with
  | .add => ainR k (x + y) K
  | .sub => ainR k (x - y) K
  | .mul => ainR k (x * y) K
  | .eql => K (.bool (decide (x = y)))
  | .neq => K (.bool (!decide (x = y)))
  | .lss => K (.bool (decide (x < y)))
  | .leq => K (.bool (decide (x ≤ y)))
  | .rem => y ≠ 0 ∧ K (.int k (x.tmod y))
  | .gtr => K (.bool (decide (y < x)))
  | .geq => K (.bool (decide (y ≤ x)))
  | _ => False)
 | .string x, .string y => (match op with
  | .add => x.size + y.size ≤ 9223372036854775807 ∧ K (.string (x ++ y))
  | .eql => K (.bool (decide (x = y)))
  | .neq => K (.bool (!decide (x = y)))
  | _ => False)
 | .bool x, .bool y => B ∧ (match op with
  | .eql => K (.bool (decide (x = y)))
  | .neq => K (.bool (!decide (x = y)))
  | _ => False)
 | _, _ => False
def liftA : Value → IV
 | .agg us => .agg (us.toList.map IV.v)
 | u => lift u
def EqTy (P : Program) (t : TypeId) : Prop := ∀ (op : BinOp) (x y : Operand) (a b c d : Int) (W : World), (op = .eql ∨ op = .neq) → (eqGuard op t x y (.agg #[.int .i64 a, .int .i64 b]) (.agg #[.int .i64 c, .int .i64 d])).run P W = .ok () W ∧ (Op.equal t (.agg #[.int .i64 a, .int .i64 b]) (.agg #[.int .i64 c, .int .i64 d])).run P W = .ok (decide (a = c) && decide (b = d)) W
def afill (s : ASt) (fs : List FI) : List IV → List (Nat × Operand) → Option (List IV)
 | cells, [] => some cells
 | cells, (i, x) :: r => match fs[i]?, toIV s.st (valOf s x) with
  | some f, some y => if (cellsOf y).length = f.size ∧ f.off + f.size ≤ cells.length ∧ (cellsOf y).all IV.one = true then afill s fs (setSeg cells f.off (cellsOf y)) r else none
  | _, _ => none
def aelems (s : ASt) (esz : Nat) : Nat → List (Nat × Operand) → Option (List (List IV))
 | _, [] => some []
 | k, (i, x) :: r => match toIV s.st (valOf s x), aelems s esz (k + 1) r with
  | some y, some l => if i = k ∧ (cellsOf y).length = esz ∧ (cellsOf y).all IV.one = true then some ((cellsOf y).map IV.er1 :: l) else none
  | _, _ => none
def toSl (st : Nat → AObj) (c : FV) : Option (List (List IV)) := match toIV st c with
 | some (.sl es _) => some es
 | _ => none
def valsOf : List IV → Option (List Value)
 | [] => some []
 | .v x :: r => match valsOf r with
  | some l => some (x :: l)
  | none => none
 | _ => none
def toVal : FV → Option Value
 | .im (.v x) => some x
 | .im (.agg cs) => match valsOf cs with
  | some l => some (.agg l.toArray)
  | none => none
 | _ => none
def aidx (s : ASt) (d : Nat) : Option Operand → (Int → Prop) → Prop
 | none, K => K d
 | some x, K => match valOf s x with
  | .im (.v (.int _ n)) => K n
  | _ => False
def abuil (P : Program) (b : Builtin) (xs : List Operand) (ts : List TypeId) (d : Option Nat) (s : ASt) (K : FV → (Nat → AObj) → Prop) : Prop := match b, xs, ts with
 | .len, [x], [t] => (match P.underlying t, valOf s x with
  | some .string, .im (.v (.string b)) => K (.im (.v (.int .i64 b.size))) s.st
  | some (.slice _), c => (match toSl s.st c with
   | some es => K (.im (.v (.int .i64 es.length))) s.st
   | none => False)
  | _, _ => False)
 | .append, [x, y], [t, t'] => t' = t ∧ (match tiOf P t, toSl s.st (valOf s y), d with
  | some (.slice e esz), some new, some d => (match valOf s x with
   | .own k n => (match s.st k with
    | .row ty z es => (ty = e ∧ z = esz ∧ es.length = n ∧ 0 < new.length ∧ es.length + new.length ≤ 1000000000 ∧ ∀ e ∈ new, e.length = esz) ∧ K (.own k (es ++ new).length) (upd s.st k (.row e esz (es ++ new)))
    | _ => False)
   | .im (.sl es true) => (match s.st d with
    | .none => (0 < new.length ∧ es.length + new.length ≤ 1000000000 ∧ (∀ e ∈ new, e.length = esz) ∧ ∀ e ∈ es, e.length = esz) ∧ K (.own d (es ++ new).length) (upd s.st d (.row e esz (es ++ new)))
    | _ => False)
   | _ => False)
  | _, _, _ => False)
 | .min, [x, y], _ => (match valOf s x, valOf s y with
  | .im (.v (.int k a)), .im (.v (.int _ b)) => K (.im (.v (.int k (if b < a then b else a)))) s.st
  | _, _ => False)
 | _, _, _ => False
def aval (P : Program) (op : Op) (d : Option Nat) (s : ASt) (K : FV → (Nat → AObj) → Prop) : Prop := match op with
 | .move x => K (valOf s x) s.st
 | .assign x => K (valOf s x) s.st
 | .pick c a b => (match valOf s c with
  | .im (.v (.bool t)) => K (if t = true then valOf s a else valOf s b) s.st
  | _ => False)
 | .nilCheck x => (match valOf s x with
  | .ptr b o => K (.ptr b o) s.st
  | .im (.elt cs o) => K (.im (.elt cs o)) s.st
  | _ => False)
 | .alloc t => (match d with
  | some d => d ≠ 1000 ∧ (match s.st d, tiOf P t with
   | .none, some ti => K (.ptr d 0) (upd s.st d (.box (zeroFV ti)))
   | .none, none => (match arrOf P t with
    | some a => K (.ptr d 0) (upd s.st d (.box (a.2.2.map fun x => .im (lift x))))
    | none => False)
   | _, _ => False)
  | none => False)
 | .box _ x => (match d with
  | some d => d ≠ 1000 ∧ (match s.st d, valOf s x with
   | .none, .im (.agg cs) => cs.all IV.one = true ∧ K (.ptr d 0) (upd s.st d (.box (cs.map FV.im)))
   | .none, c => c.ok s.st ∧ K (.ptr d 0) (upd s.st d (.box [c]))
   | _, _ => False)
  | none => False)
 | .load t x => (match valOf s x with
  | .ptr b o => (match s.st b with
   | .box cs => aload s.st (tiOf P t) cs o fun c => K c s.st
   | _ => False)
  | .im (.elt cs o) => aload s.st (tiOf P t) (cs.map FV.im) o fun c => K c s.st
  | _ => False)
 | .store t x y => (match valOf s x with
  | .ptr b o => (match s.st b with
   | .box cs => (match tiOf P t with
    | some (.struct _ z) => (match valOf s y with
     | .im (.agg xs) => (xs.length = z.length ∧ o + z.length ≤ cs.length ∧ xs.all IV.one = true) ∧ K .junk (upd s.st b (.box (setSeg cs o (xs.map FV.im))))
     | _ => False)
    | some _ => (o < cs.length ∧ (valOf s y).ok s.st) ∧ K .junk (upd s.st b (.box (cs.set o (valOf s y))))
    | none => (match arrOf P t, valOf s y with
     | some a, .im (.agg xs) => (xs.length = a.2.2.length ∧ o + a.2.2.length ≤ cs.length ∧ xs.all IV.one = true) ∧ K .junk (upd s.st b (.box (setSeg cs o (xs.map FV.im))))
     | _, _ => False))
   | _ => False)
  | _ => False)
 | .build t parts => (match tiOf P t with
  | some (.struct fs z) => (match afill s fs (z.map lift) parts.toList with
   | some cs => K (.im (.agg cs)) s.st
   | none => False)
  | none => (match arrOf P t with
   | some a => (match afill s (arrFI a.1 a.2.1) (a.2.2.map lift) parts.toList with
    | some cs => K (.im (.agg cs)) s.st
    | none => False)
   | none => False)
  | _ => False)
 | .buildSlice t n parts => (match tiOf P t with
  | some (.slice _ esz) => (match aelems s esz 0 parts.toList with
   | some es => (es.length = n ∧ 0 < n ∧ n * esz ≤ 16777216) ∧ K (.im (.sl es true)) s.st
   | none => False)
  | _ => False)
 | .fieldAddr t x f => (match tiOf P t with
  | some (.struct fs _) => (match fs[f]?, valOf s x with
   | some fi, .ptr b o => K (.ptr b (o + fi.off)) s.st
   | some fi, .im (.elt cs o) => K (.im (.elt cs (o + fi.off))) s.st
   | _, _ => False)
  | _ => False)
 | .field t x f => (match tiOf P t with
  | some (.struct fs _) => (match fs[f]?, valOf s x with
   | some fi, .im (.agg cs) => fi.agg = false ∧ (match cs[fi.off]? with
    | some y => K (.im y) s.st
    | none => False)
   | _, _ => False)
  | _ => False)
 | .indexAddr t x i => (match tiOf P t with
  | some (.slice _ esz) => (match toSl s.st (valOf s x), valOf s i with
   | some es, .im (.v (.int _ n)) => 0 ≤ n ∧ ∃ e, es[n.toNat]? = some e ∧ e.length = esz ∧ K (.im (.elt e 0)) s.st
   | _, _ => False)
  | none => (match arrOf P t, valOf s x, valOf s i with
   | some a, .ptr b o, .im (.v (.int _ n)) => (0 ≤ n ∧ n < (a.1 : Int)) ∧ K (.ptr b (o + n.toNat * a.2.1)) s.st
   | _, _, _ => False)
  | _ => False)
 | .index t x i => (match P.underlying t, valOf s x, valOf s i with
  | some .string, .im (.v (.string b)), .im (.v (.int _ n)) => 0 ≤ n ∧ ∃ c, b.data.toList[n.toNat]? = some c ∧ K (.im (.v (.int .u8 c.toNat))) s.st
  | _, _, _ => False)
 | .slice t x lo hi none => (match P.underlying t, valOf s x with
  | some .string, .im (.v (.string b)) => aidx s 0 lo fun l => aidx s b.size hi fun h => (0 ≤ l ∧ l ≤ h ∧ h ≤ b.size) ∧ K (.im (.v (.string (b.extract l.toNat h.toNat)))) s.st
  | some (.slice _), .im (.sl es _) => (match tiOf P t with
   | some (.slice _ esz) => aidx s 0 lo fun l => aidx s es.length hi fun h => ((0 ≤ l ∧ l ≤ h ∧ h ≤ es.length) ∧ ∀ e ∈ es, e.length = esz) ∧ K (.im (.sl ((es.take h.toNat).drop l.toNat) false)) s.st
   | _ => False)
  | _, _ => False)
 | .binOp op t x y _ => (match valOf s x, valOf s y with
  | .im (.v a), .im (.v b) => abin (P.underlying t = some .bool) op a b fun u => K (.im (.v u)) s.st
  | .im (.agg [.v (.int .i64 a), .v (.int .i64 b)]), .im (.agg [.v (.int .i64 c), .v (.int .i64 d)]) => EqTy P t ∧ (match op with
   | .eql => K (.im (.v (.bool (decide (a = c) && decide (b = d))))) s.st
   | .neq => K (.im (.v (.bool (!(decide (a = c) && decide (b = d)))))) s.st
   | _ => False)
  | _, _ => False)
 | .unOp .not _ x => (match valOf s x with
  | .im (.v (.bool b)) => K (.im (.v (.bool !b))) s.st
  | _ => False)
 | .convert src dst x => (match P.underlying src, P.underlying dst, valOf s x with
  | some _, some (.int k), .im (.v (.int _ n)) => K (.im (.v (.int k (k.wrap n)))) s.st
  | _, _, _ => False)
 | .extract t i => (match valOf s t with
  | .im (.tup vs) => (match vs[i]? with
   | some x => K (.im x) s.st
   | none => False)
  | _ => False)
 | .typeAssert x _ t true => (match tiOf P t, valOf s x with
  | some (.struct _ _), .im (.v (.iface t' u)) => t' = t ∧ K (.im (.tup [liftA u, .v (.bool true)])) s.st
  | _, _ => False)
 | .makeInterface t x => (match P.underlying t, toVal (valOf s x) with
  | some (.interface _), _ => False
  | some _, some u => K (.im (.v (.iface t u))) s.st
  | _, _ => False)
 | .call c => (match c.callee with
  | .builtin b => abuil P b c.args.toList c.argTypes.toList d s K
  | _ => False)
 | _ => False
/-! that they do so -/
theorem eval_rep {X : Ctx} {E : AEnv} {S : CS} {s : ASt} {a : Act} {W : World} (h : RelE X E S s a W) (x : Operand) : RepF W S E s.st (valOf s x) (a.eval x) := by
 cases x with
 | tmp t => exact h.fr t
 | const v => exact Rep.lift W S v
 | global g => trivial
 | func f => exact Rep.v _
theorem toIV_rep {X : Ctx} {E : AEnv} {S : CS} {s : ASt} {a : Act} {W : World} (h : RelE X E S s a W) {c : FV} {u : Value} {x : IV} (hc : RepF W S E s.st c u) (hx : toIV s.st c = some x) : Rep W S x u := by
 cases c with
 | junk => cases hx
 | im y => injection hx with hx; subst hx; exact hc
 | ptr b o => cases hx
 | pin b p => cases hx
 | own k n =>
  obtain ⟨ty, esz, es, h1, h2, h3⟩ := hc; simp only [toIV, h1] at hx; split at hx
  ·rename_i hn
   injection hx with hx; subst hx; rw [h3 hn]; have ho := h.ob k; rw [h1] at ho; obtain ⟨xs, ⟨hxl, hv⟩, h5, h6, h7, h8, h9⟩ := ho; rcases hv with ⟨hv, h0⟩ | ⟨g, cap, cur, hv, hg, hcur, hcap, hmax, hsz, htk⟩
   ·rw [hv]
    obtain rfl : es = [] := List.eq_nil_of_length_eq_zero h0; exact .sl (es := []) 0 (fun _ _ => undef) (Nat.le_refl _) (by simp) (by simp) (fun h => by cases h) (fun _ h => absurd h List.not_mem_nil) (fun h => absurd h (Nat.lt_irrefl _)) (fun j i e x h => by simp at h)
   rw [hv]; have hown : W.ownsRow X.W0.heap.size ty esz (.slice (some ⟨g, 0, none⟩) es.length cap) es.length xs := ⟨hxl, Or.inr ⟨g, cap, cur, rfl, hg, hcur, hcap, hmax, hsz, htk⟩⟩; refine .sl esz (fun j i => xs.getD (j * esz + i) undef) hcap (by unfold maxLen at hmax; omega) (by omega) (fun h => by cases h) h7 (fun _ => ⟨g, 0, rfl, fun j i hj hi => ?_⟩) (fun j i e x he hx => ?_)
   ·have hlt : j * esz + i < es.length * esz := by
     have := Nat.mul_le_mul_right esz (show j + 1 ≤ es.length from hj); rw [Nat.add_mul] at this; omega
    refine ⟨(h9 g (by rw [hv]; rfl) _).2 (by omega), ?_⟩; have hcl := World.ownsRow.cells hown (g := g) rfl (j * esz + i) (xs.getD (j * esz + i) undef) (by rw [List.getD_eq_getElem?_getD, List.getElem?_eq_getElem (by omega)]; rfl); rw [add_at] at hcl; rw [← hcl]; congr 2; omega
   have hj := (List.getElem?_eq_some_iff.1 he).1; have hi := (List.getElem?_eq_some_iff.1 hx).1; rw [(h7 e (List.mem_of_getElem? he)).1] at hi; have hlt : j * esz + i < es.length * esz := by
    have := Nat.mul_le_mul_right esz (show j + 1 ≤ es.length from hj); rw [Nat.add_mul] at this; omega
   exact h8 j i e x _ he hx (by rw [List.getD_eq_getElem?_getD, List.getElem?_eq_getElem (by omega)]; rfl)
  cases hx
theorem allIV_rep {X : Ctx} {E : AEnv} {S : CS} {s : ASt} {a : Act} {W : World} (h : RelE X E S s a W) : ∀ {cs : List FV} {us : List Value} {xs : List IV}, us.length = cs.length → (∀ (i : Nat) c u, cs[i]? = some c → us[i]? = some u → RepF W S E s.st c u) → allIV s.st cs = some xs → RepL W S xs us
 | [], us, xs, hl, _, hx => by
  injection hx with hx; subst hx; obtain rfl : us = [] := List.eq_nil_of_length_eq_zero hl; exact RepL.nil W S
 | c :: r, us, xs, hl, hr, hx => by
  cases us with
  | nil => cases hl
  | cons u us =>
   simp only [allIV] at hx; split at hx
   ·rename_i x l h1 h2
    injection hx with hx; subst hx; exact RepL.cons (toIV_rep h (hr 0 c u rfl rfl) h1) (allIV_rep h (by simpa using hl) (fun i c' u' hc hu => hr (i + 1) c' u' hc hu) h2)
   cases hx
def Out (P : Program) (X : Ctx) (s : ASt) (a : Act) (W : World) (o : Oper) (K : FV → (Nat → AObj) → Prop) (Q : Exit → Act → World → Prop) : Prop :=
 o.wp P a W (fun a' W' => ∃ c st' E' S' u, K c st' ∧ a' = a.put o.dst u ∧ RelE X E' S' ⟨s.fr, st'⟩ a W' ∧ RepF W' S' E' st' c u) Q
theorem out_run {P : Program} {X : Ctx} {s : ASt} {a : Act} {W : World} {o : Oper} {K : FV → (Nat → AObj) → Prop} {Q : Exit → Act → World → Prop} {c : FV} {st' : Nat → AObj} {E' : AEnv} {S' : CS} {u : Value} {W' : World}
  (hr : (execOp a.eval o).run P W = .ok (.value u) W') (hK : K c st') (hR : RelE X E' S' ⟨s.fr, st'⟩ a W') (hc : RepF W' S' E' st' c u) : Out P X s a W o K Q := by
 unfold Out Oper.wp; rw [hr]; exact ⟨c, st', E', S', u, hK, rfl, hR, hc⟩
theorem out_skip {P : Program} {X : Ctx} {s : ASt} {a : Act} {W : World} {o : Oper} {K : FV → (Nat → AObj) → Prop} {Q : Exit → Act → World → Prop} {c : FV} {st' : Nat → AObj} {E' : AEnv} {S' : CS} {W' : World}
  (hr : (execOp a.eval o).run P W = .ok .skip W') (hK : K c st') (hR : RelE X E' S' ⟨s.fr, st'⟩ a W') (hc : RepF W' S' E' st' c undef) : Out P X s a W o K Q := by
 unfold Out Oper.wp; rw [hr]; exact ⟨c, st', E', S', undef, hK, rfl, hR, hc⟩
section
variable {P : Program} {X : Ctx} {E : AEnv} {S : CS} {s : ASt} {a : Act} {W : World} {o : Oper} {K : FV → (Nat → AObj) → Prop} {Q : Exit → Act → World → Prop}
theorem out_same (h : RelE X E S s a W) {c : FV} {u : Value} (hr : (execOp a.eval o).run P W = .ok (.value u) W) (hK : K c s.st) (hc : RepF W S E s.st c u) : Out P X s a W o K Q :=
 out_run hr hK h hc
end
end Go.Proofs.YtakncilicoefdaaGreatDoor
namespace Th
open Go Go.Lib
theorem bindP_ok {α β : Type} {a : α} {i : Nat} {f : α → Nat → Option (PR β)} : bindP (okP a i) f = f a i := rfl
end Th
namespace Th
open Go Go.Lib
theorem skip_cons (L : List UInt8) (j : Nat) (c : UInt8) (h : L[j]? = some c) : skipA L j = j + (if blankC c = true ∨ c = 35 then 1 + skipN (decide (c = 35)) (L.drop (j + 1)) else 0) := by
 obtain ⟨hl, he⟩ := List.getElem?_eq_some_iff.1 h; unfold skipA; rw [List.drop_eq_getElem_cons hl, he]; simp only [skipN]; congr 1
 by_cases h2 : blankC c = true ∨ c = 35
 ·rw [if_pos (by rcases h2 with h2 | h2 <;> simp [h2]), if_pos h2]
  congr 2
  by_cases h3 : c = 35
  ·subst h3; rfl
  simp [h3]
 rw [if_neg (fun h => h2 (by rcases h with h | h; cases h; exact h)), if_neg h2]
theorem skip_blank {L : List UInt8} {j : Nat} {c : UInt8} (h : L[j]? = some c) (hb : blankC c = true) : skipA L j = skipA L (j + 1) := by
 have h35 : ¬ c = 35 := by rintro rfl; cases hb
 rw [skip_cons L j c h, if_pos (Or.inl hb), decide_eq_false h35]; unfold skipA; omega
theorem skip_stop {L : List UInt8} {j : Nat} {c : UInt8} (h : L[j]? = some c) (hb : blankC c = false) (h35 : c ≠ 35) : skipA L j = j := by
 rw [skip_cons L j c h, if_neg (by rw [hb]; exact fun h => h.elim (fun h => by cases h) h35)]; omega
theorem skip_end {L : List UInt8} {j : Nat} (h : j = L.length) : skipA L j = j := by
 unfold skipA; rw [h, List.drop_length]; rfl
theorem note_none : ∀ l : List UInt8, indexByte l 10 < 0 → skipN true l = l.length
 | [], _ => rfl
 | c :: r, h => by
  by_cases hc : c = 10
  ·subst hc; simp [indexByte] at h
  have h2 : indexByte r 10 < 0 := by
   simp only [indexByte] at h; rw [if_neg (by simpa using hc)] at h; split at h
   ·rename_i hh; rw [beq_iff_eq] at hh; omega
   omega
  simp only [skipN, true_or, if_true, List.length_cons]; rw [decide_eq_true ⟨trivial, hc⟩, note_none r h2]; omega
theorem note_some : ∀ (l : List UInt8) (n : Nat), indexByte l 10 = n → skipN true l = n + skipN false (l.drop n) ∧ n < l.length
 | [], n, h => by simp [indexByte] at h
 | c :: r, n, h => by
  by_cases hc : c = 10
  ·subst hc
   have hn : n = 0 := by simp [indexByte] at h; omega
   subst hn; simp [skipN, blankC]
  simp only [indexByte] at h; rw [if_neg (by simpa using hc)] at h; split at h
  ·omega
  rename_i hh
  rw [beq_iff_eq] at hh; have hge := indexByte_ge r 10; obtain ⟨m, rfl⟩ : ∃ m, n = m + 1 := ⟨n - 1, by omega⟩
  obtain ⟨h1, h2⟩ := note_some r m (by omega); simp only [skipN, true_or, if_true, List.length_cons, List.drop_succ_cons]; rw [decide_eq_true ⟨trivial, hc⟩, h1]; omega
end Th
namespace Go.Proofs.YtakncilicoefdaaGreatDoor
open Go Go.RowKit Go.Proofs Th
attribute [local go_sem] Above.cell
theorem newl_byte (s : ByteArray) (j : Nat) (_hj : j ≤ s.size) (w : World) : Calls Tryz.prog 102 #[.string (s.extract j s.size), .int .u8 10] w fun r w' => r = .returned (.int .i64 (Lib.indexByte (s.data.toList.drop j) 10)) ∧ w' = w := by
 have h := Tryz.strings_IndexByte (s.extract j s.size) 10 w; rw [bx_to] at h; exact h
theorem blank_cases {c : UInt8} (h : blankC c = true) : (c.toNat : Int) = 32 ∨ (c.toNat : Int) = 9 ∨ (c.toNat : Int) = 10 ∨ (c.toNat : Int) = 13 := by
 unfold blankC at h; simp only [Bool.or_eq_true, decide_eq_true_eq] at h; omega
theorem blank_not {c : UInt8} (h : blankC c = false) : ¬ (c.toNat : Int) = 32 ∧ ¬ (c.toNat : Int) = 9 ∧ ¬ (c.toNat : Int) = 10 ∧ ¬ (c.toNat : Int) = 13 := by
 unfold blankC at h; simp only [Bool.or_eq_false_iff, decide_eq_false_iff_not] at h; omega
structure ScP (W0 W : World) (p : Nat) (s : ByteArray) (j : Nat) : Prop where
 b : Box W p [.string s, .int .i64 j]
 u : Upd p W0 W
theorem ScP.above {W0 W W2 : World} {p : Nat} {s : ByteArray} {j : Nat} (h : ScP W0 W p s j) (hb : Below W.heap.size W W2) : ScP W0 W2 p s j := ⟨h.b.below hb h.b.lt, h.u.trans (Upd.of hb)⟩
theorem ScP.set {W0 W : World} {p : Nat} {s : ByteArray} {j : Nat} (h : ScP W0 W p s j) (k : Nat) (z : Int) (hz : z = k) : ScP W0 (W.setCell ⟨p, 1, none⟩ (.int .i64 z)) p s k := by
 subst hz; exact ⟨h.b.set (i := 1) (by simp) (.int .i64 k), h.u.trans (Upd.set p 1 W _)⟩
theorem tok_skip (p : Nat) (s : ByteArray) (a : Nat) (hs : s.size ≤ 1000000) (ha : a ≤ s.size) (w : World) (hB : Box w p [.string s, .int .i64 a]) :
  Calls Tryz.prog 71 #[.pointer (some ⟨p, 0, none⟩)] w fun r w' => r = .returned (.tuple #[]) ∧ ScP w w' p s (skipA s.data.toList a) := by
 have HL := Keep.mk (size_listU s); have HA := Keep.mk (fun j h => at_some s j h); go_enter Tryz.func71, Tryz.ntmps71
 go_wp2_with fail
 go_loopg [] (s.size - a) (fun gk wr => ∃ j : Nat, j + gk = s.size ∧ Keep (ScP w wr p s j) ∧ Keep (skipA s.data.toList j = skipA s.data.toList a))
 case atStart => exact ⟨a, by omega, ⟨⟨hB, Upd.refl p w⟩⟩, ⟨rfl⟩⟩
 case round =>
  clear hB ha; obtain ⟨j, hj, HS, HK⟩ := hrel; obtain ⟨p0, p1⟩ := HS.out.b.p2; have pf := HS.out.b.froz 1; have pl := HS.out.b.lt; by_cases hlt : j < s.size
  ·have hgk : gk ≠ 0 := by omega
   have hat := HA.out j hlt; go_wp2_with fail
   refine wp_region_above (by kernel_rfl) (by kernel_rfl) ?_; repeat (go_big_quiet_step (fail))
   refine wpQuiet_nil ?_; rintro W2 ⟨z, hz⟩; replace HS := Keep.mk (hz ▸ HS.out.above z.property); clear p0 p1 pf pl; clear hz z; obtain ⟨p0, p1⟩ := HS.out.b.p2; have pf := HS.out.b.froz 1; have pl := HS.out.b.lt; go_wp2_with fail
   refine wp_region_above (by kernel_rfl) (by kernel_rfl) ?_; repeat (go_big_quiet_step (fail))
   refine wpQuiet_nil ?_; rintro W2 ⟨z, hz⟩; replace HS := Keep.mk (hz ▸ HS.out.above z.property); clear p0 p1 pf pl; clear hz z; obtain ⟨p0, p1⟩ := HS.out.b.p2; have pf := HS.out.b.froz 1; have pl := HS.out.b.lt; cases hb : blankC s[j]
   ·obtain ⟨f1, f2, f3, f4⟩ := blank_not hb
    by_cases h35 : s[j] = 35
    ·have f5 : (s[j].toNat : Int) = 35 := by rw [h35]; rfl
     have hidx : ∃ zi : Int, Lib.indexByte (s.data.toList.drop j) 10 = zi := ⟨_, rfl⟩
     obtain ⟨zi, hzi⟩ := hidx; have HC := Keep.mk (fun (z : Above W2) => calls_same (newl_byte s j (by omega) z.val)); rw [hzi] at HC; have hge := Lib.indexByte_ge (s.data.toList.drop j) 10; rw [hzi] at hge; have hsk := skip_cons s.data.toList j s[j] hat; rw [h35, if_pos (Or.inr rfl), decide_eq_true rfl] at hsk; have hdr : s.data.toList.drop j = s[j] :: s.data.toList.drop (j + 1) := by
      obtain ⟨hl, he⟩ := List.getElem?_eq_some_iff.1 hat; rw [List.drop_eq_getElem_cons hl, he]
     have hix : Lib.indexByte (s.data.toList.drop j) 10 = if Lib.indexByte (s.data.toList.drop (j + 1)) 10 == -1 then -1 else Lib.indexByte (s.data.toList.drop (j + 1)) 10 + 1 := by
      rw [hdr, h35]; rfl
     have hge1 := Lib.indexByte_ge (s.data.toList.drop (j + 1)) 10; go_wp2_with fail
     refine wp_region_above (by kernel_rfl) (by kernel_rfl) ?_; repeat (go_big_quiet_step ((go_at_call 102; exact calls_above (HC.out _))))
     refine wpQuiet_nil ?_; rintro W2 ⟨z, hz⟩; replace HS := Keep.mk (hz ▸ HS.out.above z.property); clear p0 p1 pf pl; clear hz z; obtain ⟨p0, p1⟩ := HS.out.b.p2; have pf := HS.out.b.froz 1; have pl := HS.out.b.lt; by_cases hz0 : zi < 0
     ·have HE := Keep.mk (show skipA s.data.toList s.size = skipA s.data.toList a by
       have h1 : Lib.indexByte (s.data.toList.drop (j + 1)) 10 < 0 := by
        rw [hzi] at hix; split at hix
        ·rename_i h; rw [beq_iff_eq] at h; omega
        omega
       have h2 := note_none _ h1; rw [h2, List.length_drop, HL.out] at hsk; rw [skip_end HL.out.symm, ← HK.out, hsk]; omega)
      clear hzi hge hsk hdr hix hge1 hat hb h35 HC; go_wp2_with fail
      refine wp_region_above (by kernel_rfl) (by kernel_rfl) ?_; repeat (go_big_quiet_step (fail))
      refine wpQuiet_nil ?_; rintro W2 ⟨z, hz⟩; replace HS := Keep.mk (hz ▸ HS.out.above z.property); clear p0 p1 pf pl; clear hz z; obtain ⟨p0, p1⟩ := HS.out.b.p2; have pf := HS.out.b.froz 1; have pl := HS.out.b.lt; go_wp2
      go_roundg 0
      case rel => exact ⟨s.size, by omega, ⟨HS.out.set s.size _ (by omega)⟩, HE⟩
      case measure => omega
     obtain ⟨n, rfl⟩ : ∃ n : Nat, zi = n := ⟨zi.toNat, by omega⟩
     have h1 : Lib.indexByte (s.data.toList.drop (j + 1)) 10 = ((n - 1 : Nat) : Int) ∧ 1 ≤ n := by
      rw [hzi] at hix; split at hix
      ·omega
      rename_i h; rw [beq_iff_eq] at h; omega
     obtain ⟨h2, h3⟩ := note_some _ _ h1.1; rw [List.length_drop, HL.out] at h3; have h4 := h1.2; have HE := Keep.mk (show skipA s.data.toList (j + n) = skipA s.data.toList a by
      rw [← HK.out, hsk, h2, List.drop_drop]; unfold skipA; rw [show j + 1 + (n - 1) = j + n from by omega]; omega)
     clear hzi hge hsk hdr hix hge1 hat hb h35 HC h1 h2; go_wp2
     go_roundg (gk - n)
     case rel => exact ⟨j + n, by omega, ⟨HS.out.set (j + n) _ (by omega)⟩, HE⟩
     case measure => omega
    have f5 : ¬ (s[j].toNat : Int) = 35 := fun h => h35 (UInt8.toNat_inj.1 (by show s[j].toNat = 35; omega))
    have HE := Keep.mk (HK.out.symm.trans (skip_stop hat hb h35)); clear hb hat h35; go_wp2
    refine bodyPost_ret (results_none rfl _ _ _) rfl ⟨rfl, ?_⟩; rw [HE.out]; exact HS.out
   have HE := Keep.mk ((skip_blank hat hb).symm.trans HK.out); clear hat; rcases blank_cases hb with f1 | f1 | f1 | f1
   all_goals (
    clear hb; go_wp2
    go_roundg (gk - 1)
    case rel => exact ⟨j + 1, by omega, ⟨HS.out.set (j + 1) _ (by omega)⟩, HE⟩
    case measure => omega)
  have HE := Keep.mk (HK.out.symm.trans (skip_end (by rw [HL.out]; omega))); go_wp2_with fail
  refine wp_region_above (by kernel_rfl) (by kernel_rfl) ?_; repeat (go_big_quiet_step (fail))
  refine wpQuiet_nil ?_; rintro W2 ⟨z, hz⟩; replace HS := Keep.mk (hz ▸ HS.out.above z.property); clear p0 p1 pf pl; clear hz z; obtain ⟨p0, p1⟩ := HS.out.b.p2; have pf := HS.out.b.froz 1; have pl := HS.out.b.lt; go_wp2
  go_end0
  exact ⟨rfl, by rw [HE.out]; exact HS.out⟩
open Go Go.RowKit Go.Proofs Th
def catB : List ByteArray → ByteArray
 | [] => ⟨#[]⟩
 | x :: r => x ++ catB r
def tgB (k : Int) (t : ByteArray) : ByteArray := if tightK k = true then t else paren t
def betB (gap : ByteArray) : ByteArray → List ByteArray → ByteArray
 | out, [] => out
 | out, t :: r => betB gap ((if out = ⟨#[]⟩ then out else out ++ gap) ++ t) r
mutual
/-- nodes and bytes -/
def wtJ : NJ → Nat
 | .mk _ s _ _ l a => 1 + s.size + (a.map fun x => 1 + x.size).sum + wtL l
def wtL : List NJ → Nat
 | [] => 0
 | n :: r => wtJ n + wtL r
end
theorem wtL_mem {x : NJ} : ∀ {l : List NJ}, x ∈ l → wtJ x ≤ wtL l
 | a :: r, h => by
  rw [wtL]; rcases List.mem_cons.1 h with rfl | h
  ·omega
  have := wtL_mem h; omega
theorem itoa_len3 (e : Int) (h0 : -64 ≤ e) (h1 : e ≤ 64) : (Lib.itoa e).length ≤ 3 := by
 have key : ∀ u : Nat, u ≤ 64 → (Lib.decDigits u).length ≤ 2 := by
  intro u hu; rw [Lib.decDigits_length]; by_cases h : u < 10
  ·rw [Lib.nDigits_small h]; omega
  rw [Lib.nDigits_big h, Lib.nDigits_small (by omega)]; omega
 unfold Lib.itoa; split
 ·have := key e.natAbs (by omega); simp; omega
 have := key e.toNat (by omega); omega
theorem bsz (l : List UInt8) : ByteArray.size ⟨l.toArray⟩ = l.length := by simp [ByteArray.size]
theorem bs_size (l : List UInt8) : (bs l).size = l.length := by unfold bs; exact bsz l
theorem text_pos (m e : Int) : 0 < (textN m e).length := by
 have hd : 0 < (Lib.decDigits m.natAbs).length := by
  rw [Lib.decDigits_length]; by_cases h : m.natAbs < 10
  ·rw [Lib.nDigits_small h]; omega
  rw [Lib.nDigits_big h]; omega
 unfold textN; split
 ·simp only [List.length_append]; omega
 split
 ·simp only [List.length_append, List.length_cons]; omega
 simp only [List.length_append, List.length_cons]; omega
def sumZ (c : Nat) (ts : List ByteArray) : Nat := (ts.map fun x => c + x.size).sum
theorem sumZ_cons (c : Nat) (x : ByteArray) (r : List ByteArray) : sumZ c (x :: r) = c + x.size + sumZ c r := by simp [sumZ]
theorem sep_size (gap : ByteArray) (c : Nat) (hc : gap.size ≤ c) : ∀ ts : List ByteArray, (sepB gap ts).size ≤ sumZ c ts
 | [] => by simp [sepB, bsz]
 | [x] => by rw [sumZ_cons, sepB]; omega
 | x :: y :: r => by
  have := sep_size gap c hc (y :: r); rw [sumZ_cons]; show (x ++ gap ++ sepB gap (y :: r)).size ≤ _
  rw [ByteArray.size_append, ByteArray.size_append]; omega
theorem obj_size : ∀ (f : Bool) (ts : List ByteArray), (objT f ts).size ≤ sumZ 6 ts
 | _, [] => by simp [objT, bsz]
 | _, [x] => by simp [objT, bsz]
 | f, x :: y :: r => by
  have := obj_size false r; rw [sumZ_cons, sumZ_cons]; unfold objT; have hb : (if f = true then (⟨#[]⟩ : ByteArray) else ⟨#[44, 32]⟩).size ≤ 2 := by cases f <;> decide
  have hp : (paren x).size = x.size + 2 := by unfold paren; simp only [ByteArray.size_append, bsz, List.length_cons, List.length_nil]; omega
  simp only [ByteArray.size_append, bsz, List.length_cons, List.length_nil, hp]; omega
theorem body_size (s : ByteArray) : (bodyB s).size ≤ 6 * s.size := by
 unfold bodyB; rw [bs_size]; have := bodyD_le s.data.toList; rw [size_listU] at this; exact this
theorem nm_wt : ∀ x : NJ, (nmJ x).size ≤ wtJ x
 | .mk _ s _ _ l a => by show s.size ≤ _; rw [wtJ]; omega
theorem paren_size (s : ByteArray) : (paren s).size = s.size + 2 := by unfold paren; simp only [ByteArray.size_append, bsz, List.length_cons, List.length_nil]; omega
theorem tg_size (ks : List Int) (ts : List ByteArray) (i : Nat) : (tgJ ks ts i).size ≤ (ts.getD i ⟨#[]⟩).size + 2 := by
 unfold tgJ; split
 ·omega
 rw [paren_size]; omega
theorem sumZ_le {c d : Nat} (h : c ≤ d) : ∀ ts : List ByteArray, sumZ c ts ≤ sumZ d ts
 | [] => Nat.le_refl _
 | x :: r => by rw [sumZ_cons, sumZ_cons]; have := sumZ_le h r; omega
theorem sumZ_two : ∀ ts : List ByteArray, sumZ 2 ts ≤ 2 * sumZ 1 ts
 | [] => Nat.le_refl _
 | x :: r => by rw [sumZ_cons, sumZ_cons]; have := sumZ_two r; omega
theorem get3 (ts : List ByteArray) : (ts.getD 0 ⟨#[]⟩).size + (ts.getD 1 ⟨#[]⟩).size + (ts.getD 2 ⟨#[]⟩).size ≤ sumZ 0 ts := by
 have h0 : ByteArray.size ⟨#[]⟩ = 0 := rfl; match ts with
 | [] => simp [h0]
 | [x] => simp [h0, sumZ]
 | [x, y] => simp [h0, sumZ]
 | x :: y :: z :: r => simp [sumZ]; omega
theorem get_tail (gap : ByteArray) (hg : gap.size ≤ 2) (ts : List ByteArray) : (ts.getD 0 ⟨#[]⟩).size + (sepB gap ts.tail).size ≤ sumZ 2 ts := by
 have h0 : ByteArray.size ⟨#[]⟩ = 0 := rfl; match ts with
 | [] => simp [h0, sepB]
 | x :: r => have := sep_size gap 2 hg r; rw [sumZ_cons]; simp; omega
theorem sign_size (k : Int) (s : ByteArray) : (signB k s).size ≤ 3 + s.size := by
 unfold signB; repeat' split
 all_goals try simp only [bsz, List.length_cons, List.length_nil]
 all_goals omega
theorem bareA {k : Int} {s : ByteArray} {m e : Int} {l : List NJ} {a : List ByteArray} (h : fitJ (.mk k s m e l a) = true) (h6 : k = 6) : l.length = a.length + 1 ∧ (a = [fromB] ∨ a = [toB] ∨ a = [fromB, toB]) := by
 subst h6; simp [fitJ] at h; simpa [or_assoc] using h
theorem spL_len (l : List NJ) : (spL l).length = l.length := by rw [spL_map, List.length_map]
theorem free_pos {s : ByteArray} (h : freeB s = true) : 0 < s.size := by
 unfold freeB nameB at h; rw [Bool.and_eq_true] at h; have h := h.1; rw [← size_listU]; cases hs : s.data.toList with
 | nil => rw [hs] at h; cases h
 | cons c r => simp
theorem sp_pos : ∀ (n : NJ), okJ n = true → 0 < (spJ n).size
 | .mk k s m e l a, h => by
  rw [okJ, Bool.and_eq_true] at h; obtain ⟨h1, hk⟩ := h; have hfit : fitJ (.mk k s m e l a) = true := by unfold oneJ at h1; rw [Bool.and_eq_true] at h1; exact h1.2
  rw [spJ]; by_cases q1 : k = 1
  ·rw [if_pos q1]
   simp only [bsz, List.length_cons, List.length_nil]; omega
  rw [if_neg q1]; by_cases q26 : k = 26
  ·rw [if_pos q26]
   simp only [bsz, List.length_cons, List.length_nil]; omega
  rw [if_neg q26]; by_cases q2 : k = 2
  ·rw [if_pos q2]
   rw [bs_size]; exact text_pos m e
  rw [if_neg q2]; by_cases q3 : k = 3
  ·rw [if_pos q3]
   unfold quoteB quoteD; rw [bs_size]; simp
  rw [if_neg q3]; by_cases q4 : k = 4
  ·rw [if_pos q4]
   simp only [ByteArray.size_append, bsz, List.length_cons, List.length_nil]; omega
  rw [if_neg q4]; by_cases q5 : k = 5
  ·rw [if_pos q5]
   simp only [ByteArray.size_append, bsz, List.length_cons, List.length_nil]; omega
  rw [if_neg q5]; by_cases q6 : k = 6
  ·rw [if_pos q6]
   simp only [ByteArray.size_append, bsz, List.length_cons, List.length_nil]; omega
  rw [if_neg q6]; by_cases q7 : k = 7
  ·rw [if_pos q7]
   simp only [ByteArray.size_append, bsz, List.length_cons, List.length_nil]; omega
  rw [if_neg q7]; by_cases q14 : k = 14
  ·rw [if_pos q14]
   simp only [ByteArray.size_append, bsz, List.length_cons, List.length_nil]; omega
  rw [if_neg q14]; by_cases q15 : k = 15
  ·rw [if_pos q15]
   simp only [ByteArray.size_append, bsz, List.length_cons, List.length_nil]; omega
  rw [if_neg q15]; by_cases q16 : k = 16
  ·rw [if_pos q16]
   simp only [ByteArray.size_append, bsz, List.length_cons, List.length_nil]; omega
  rw [if_neg q16]; by_cases q17 : k = 17
  ·rw [if_pos q17]
   simp only [ByteArray.size_append, bsz, List.length_cons, List.length_nil]; omega
  rw [if_neg q17]; by_cases q18 : k = 18
  ·rw [if_pos q18]
   simp only [ByteArray.size_append, bsz, List.length_cons, List.length_nil]; omega
  rw [if_neg q18]; by_cases q19 : k = 19 ∨ k = 20
  ·rw [if_pos q19]
   simp only [ByteArray.size_append, bsz, List.length_cons, List.length_nil]; omega
  rw [if_neg q19]; by_cases q21 : k = 21
  ·rw [if_pos q21]
   simp only [ByteArray.size_append, bsz, List.length_cons, List.length_nil]; omega
  rw [if_neg q21]; by_cases q22 : k = 22
  ·rw [if_pos q22]
   simp only [ByteArray.size_append, bsz, List.length_cons, List.length_nil]; omega
  rw [if_neg q22]; by_cases q23 : k = 23
  ·rw [if_pos q23]
   by_cases hl : l.length = 0
   ·rw [if_pos hl]; exact free_pos (by subst q23; simpa [fitJ] using hfit)
   rw [if_neg hl]; simp only [ByteArray.size_append, bsz, List.length_cons, List.length_nil]; omega
  rw [if_neg q23]; by_cases q24 : k = 24
  ·rw [if_pos q24]
   simp only [ByteArray.size_append, bsz, List.length_cons, List.length_nil]; omega
  rw [if_neg q24]; simp only [ByteArray.size_append, bsz, List.length_cons, List.length_nil]; omega
theorem bet_sep (gap : ByteArray) : ∀ (ts : List ByteArray) (out : ByteArray), out ≠ ⟨#[]⟩ → (∀ t ∈ ts, 0 < t.size) → betB gap out ts = (if ts = [] then out else out ++ gap ++ sepB gap ts)
 | [], out, _, _ => rfl
 | [t], out, ho, _ => by
  show (if out = ⟨#[]⟩ then out else out ++ gap) ++ t = _
  rw [if_neg ho, if_neg (by simp)]; rfl
 | t :: u :: r, out, ho, ht => by
  have hne : out ++ gap ++ t ≠ ⟨#[]⟩ := fun h => by
   have h1 : (out ++ gap ++ t).size = 0 := by rw [h]; rfl
   have h2 := ht t List.mem_cons_self; rw [ByteArray.size_append] at h1; omega
  have := bet_sep gap (u :: r) (out ++ gap ++ t) hne (fun y hy => ht y (List.mem_cons_of_mem _ hy)); show betB gap ((if out = ⟨#[]⟩ then out else out ++ gap) ++ t) (u :: r) = _
  rw [if_neg ho, this, if_neg (by simp), if_neg (by simp)]; show out ++ gap ++ t ++ gap ++ sepB gap (u :: r) = out ++ gap ++ (t ++ gap ++ sepB gap (u :: r))
  simp [ByteArray.append_assoc]
theorem bet_zero (gap : ByteArray) (ts : List ByteArray) (ht : ∀ t ∈ ts, 0 < t.size) : betB gap ⟨#[]⟩ ts = sepB gap ts := by
 cases ts with
 | nil => rfl
 | cons t r =>
  have hne : t ≠ ⟨#[]⟩ := fun h => by
   have := ht t List.mem_cons_self; rw [h] at this; exact absurd this (by decide)
  show betB gap ((if (⟨#[]⟩ : ByteArray) = ⟨#[]⟩ then _ else _) ++ t) r = _
  rw [if_pos rfl, show (⟨#[]⟩ : ByteArray) ++ t = t from ByteArray.empty_append, bet_sep gap r t hne fun y hy => ht y (List.mem_cons_of_mem _ hy)]; cases r with
  | nil => rw [if_pos rfl]; rfl
  | cons u r => rw [if_neg (by simp)]; rfl
end Go.Proofs.YtakncilicoefdaaGreatDoor
namespace Th
open Go Go.Lib
theorem isT_tk {E : Env} {i k : Nat} {s : ByteArray} : isT E i k s ↔ tk (tokAt E i) = (k, s) := by
 unfold isT tk; exact ⟨fun h => Prod.ext h.1 h.2, fun h => ⟨congrArg Prod.fst h, congrArg Prod.snd h⟩⟩
theorem kind_tk (t : Tf) : t.kind = (tk t).1 := rfl
theorem text_tk (t : Tf) : t.text = (tk t).2 := rfl
theorem tok_end {E : Env} {i : Nat} (h : E.l.length ≤ i) : tokAt E i = noTf := by
 unfold tokAt; rw [List.getD_eq_getElem?_getD, List.getElem?_eq_none h]; rfl
def Bar (q : Nat × ByteArray) : Prop := q.1 = 0 ∨ (q.1 = 6 ∧ q.2 ≠ ⟨#[45]⟩ ∧ q.2 ≠ ⟨#[46]⟩ ∧ q.2 ≠ ⟨#[46, 46]⟩ ∧ q.2 ≠ ⟨#[40]⟩ ∧ q.2 ≠ ⟨#[91]⟩ ∧ q.2 ≠ ⟨#[123]⟩)
instance (q : Nat × ByteArray) : Decidable (Bar q) := by unfold Bar; exact inferInstance
theorem bar_dead {E : Env} {i : Nat} (h : Bar (tk (tokAt E i))) : evP E .filter i = failP E i 60 := by
 have hk : (tokAt E i).kind = 0 ∨ (tokAt E i).kind = 6 := h.imp id And.left; have hn : ∀ k, k ≠ 0 → k ≠ 6 → (tokAt E i).kind ≠ k := fun k h0 h6 h => by omega
 have h1 : evP E .first i = failP E i 60 := by
  rw [evP_step]; simp only [stepP]; rw [if_neg (hn 3 (by decide) (by decide)), if_neg (hn 2 (by decide) (by decide)), if_neg (hn 5 (by decide) (by decide)), if_neg (hn 4 (by decide) (by decide)), if_neg (hn 1 (by decide) (by decide))]; split
  ·rename_i h6
   rcases h with h | ⟨_, h⟩
   ·exact absurd (show (tokAt E i).kind = 0 from h) (by omega)
   obtain ⟨ha, hb, hc, hd, he, hf⟩ := h; rw [evP_step]; simp only [stepP]; rw [if_neg (show ¬ (tokAt E i).text = _ from hb), if_neg (show ¬ (tokAt E i).text = _ from hc), if_neg (show ¬ (tokAt E i).text = _ from hd), if_neg (show ¬ (tokAt E i).text = _ from he), if_neg (show ¬ (tokAt E i).text = _ from hf)]
  rfl
 have h2 : evP E .minus i = failP E i 60 := by
  rw [evP_step]; simp only [stepP]; rw [if_neg, evP_step E .term]
  ·simp only [stepP]
   rw [h1]; rfl
  rintro ⟨h6, h7⟩; rcases h with h | ⟨_, h, _⟩
  ·exact absurd (show (tokAt E i).kind = 0 from h) (by omega)
  exact h h7
 rw [evP_step]; simp only [stepP]; rw [if_neg (fun h => hn 1 (by decide) (by decide) h.1), evP_step E (.binary 1)]; simp only [stepP]; rw [h2]; rfl
theorem strength_tk {t t' : Tf} (h : tk t = tk t') : strength t = strength t' := by
 unfold strength; rw [kind_tk, text_tk, h]; rfl
theorem joined_tk {t t' : Tf} (h : tk t = tk t') (a b : NJ) : joinedJ t a b = joinedJ t' a b := by
 unfold joinedJ; rw [strength_tk h, text_tk, h]; rfl
end Th
