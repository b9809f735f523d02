/- Lemmas and contracts for the laws SyntaxBrackets, SyntaxJoins, SyntaxSides, part 12 of 44: AbB, SynLay, TokC. Conditions: those that each lemma names. -/
import Derived.Test.YtnhnpahoppbniaaDoorPb10
import Derived.Test.YtnhnpahoppbniaaDoorPb9
import Derived.Test.YtnhnpahoppbniaaDoorPb11
import Derived.Laws.IdiomCopy
import Derived.Great.BuildSlice
import Derived.Deep.RegionLawGrows
namespace Go.Proofs.YtnhnpahoppbniaaDoor
open Go Go.RowKit Go.Proofs Th
structure FI where
  off : Nat
  size : Nat
  agg : Bool
inductive TI where
  | flat (z : Value)
  | slice (e : TypeId) (esz : Nat)
  | struct (fs : List FI) (z : List Value)
def aggD : TypeDesc → Bool
  | .struct _ => true
  | .array _ _ => true
  | _ => false
def fiOf (P : Program) (f : Field) : Option FI := match P.info? f.type, P.underlying f.type with
  | some i, some d => if 0 < i.size then some ⟨f.offset, i.size, aggD d⟩ else none
  | _, _ => none
def fisOf (P : Program) : List Field → Option (List FI)
  | [] => some []
  | f :: r => match fiOf P f, fisOf P r with
    | some x, some y => some (x :: y)
    | _, _ => none
def tiOf (P : Program) (t : TypeId) : Option TI := match P.underlying t, P.info? t with
  | some (.struct fields), some i => match i.zero, fisOf P fields.toList with
    | some (.agg z), some fs => if i.size = z.size ∧ z.toList.all Value.oneCell' = true then some (.struct fs z.toList) else none
    | _, _ => none
  | some (.slice e), some i => match i.zero, P.info? e with
    | some (.slice none 0 0), some j => match j.zero with
      | some z => if i.size = 1 ∧ z.cells.size = j.size ∧ 0 < j.size ∧ j.bytes ≤ 140000 then some (.slice e j.size) else none
      | none => none
    | _, _ => none
  | some d, some i => match i.zero with
    | some z => if i.size = 1 ∧ z.oneCell' = true ∧ aggD d = false then some (.flat z) else none
    | none => none
  | _, _ => none
theorem ti_struct {P : Program} {t : TypeId} {fs : List FI} {z : List Value} (h : tiOf P t = some (.struct fs z)) :
    ∃ fields i, P.underlying t = some (.struct fields) ∧ P.info? t = some i ∧ i.zero = some (.agg z.toArray) ∧ i.size = z.length ∧ z.all Value.oneCell' = true ∧ fisOf P fields.toList = some fs := by
  unfold tiOf at h
  split at h
  · rename_i fields i hu hi
    split at h
    · rename_i z' fs' hz hfs
      split at h
      · rename_i hc
        injection h with h; injection h with h1 h2
        subst h1 h2
        exact ⟨fields, i, hu, hi, by rw [hz], by simpa using hc.1, hc.2, hfs⟩
      · cases h
    · cases h
  · repeat' split at h
    all_goals cases h
  · repeat' split at h
    all_goals cases h
  · cases h
theorem ti_slice {P : Program} {t e : TypeId} {esz : Nat} (h : tiOf P t = some (.slice e esz)) :
    ∃ i j z, P.underlying t = some (.slice e) ∧ P.info? t = some i ∧ i.size = 1 ∧ i.zero = some (.slice none 0 0) ∧ P.info? e = some j ∧ j.zero = some z ∧ z.cells.size = esz ∧ j.size = esz ∧ 0 < esz ∧ j.bytes ≤ 140000 := by
  unfold tiOf at h
  split at h
  · repeat' split at h
    all_goals cases h
  · rename_i e' i hu hi
    split at h
    · rename_i j hz hj
      split at h
      · rename_i z hz2
        split at h
        · rename_i hc
          injection h with h; injection h with h1 h2
          subst h1 h2
          exact ⟨i, j, z, hu, hi, hc.1, hz, hj, hz2, hc.2.1, rfl, hc.2.2⟩
        · cases h
      · cases h
    · cases h
  · repeat' split at h
    all_goals cases h
  · cases h
theorem ti_flat {P : Program} {t : TypeId} {z : Value} (h : tiOf P t = some (.flat z)) : ∃ d i, P.underlying t = some d ∧ P.info? t = some i ∧ i.size = 1 ∧ i.zero = some z ∧ z.oneCell' = true ∧ aggD d = false := by
  unfold tiOf at h
  split at h
  · repeat' split at h
    all_goals cases h
  · repeat' split at h
    all_goals cases h
  · rename_i d i _ _ hu hi
    split at h
    · rename_i z' hz
      split at h
      · rename_i hc
        injection h with h; injection h with h1
        subst h1
        exact ⟨d, i, hu, hi, hc.1, hz, hc.2⟩
      · cases h
    · cases h
  · cases h
theorem ti_one {P : Program} {t : TypeId} {ti : TI} (h : tiOf P t = some ti) (hs : ∀ fs z, ti ≠ .struct fs z) : ∃ d i, P.underlying t = some d ∧ P.info? t = some i ∧ i.size = 1 ∧ aggD d = false := by
  cases ti with
  | flat z => obtain ⟨d, i, h1, h2, h3, _, _, h6⟩ := ti_flat h; exact ⟨d, i, h1, h2, h3, h6⟩
  | slice e esz => obtain ⟨i, j, z, h1, h2, h3, _⟩ := ti_slice h; exact ⟨_, i, h1, h2, h3, rfl⟩
  | struct fs z => exact absurd rfl (hs fs z)
theorem fis_get {P : Program} : ∀ {l : List Field} {fs : List FI}, fisOf P l = some fs → ∀ (k : Nat) f, fs[k]? = some f → ∃ fd, l[k]? = some fd ∧ fiOf P fd = some f
  | [], _, h, k, f, hk => by
    injection h with h; subst h; simp at hk
  | d :: r, fs, h, k, f, hk => by
    simp only [fisOf] at h
    split at h
    · rename_i x y hx hy
      injection h with h; subst h
      cases k with
      | zero => simp at hk; subst hk; exact ⟨d, rfl, hx⟩
      | succ k => simp at hk; simpa using fis_get hy k f hk
    · cases h
def arrOf (P : Program) (t : TypeId) : Option (Nat × Nat × List Value) := match P.underlying t, P.info? t with
  | some (.array n e), some i => match i.zero, P.info? e with
    | some (.agg z), some j => if i.size = z.size ∧ z.toList.all Value.oneCell' = true ∧ z.size = n * j.size ∧ 0 < j.size then some (n, j.size, z.toList) else none
    | _, _ => none
  | _, _ => none
theorem arr_of {P : Program} {t : TypeId} {n esz : Nat} {z : List Value} (h : arrOf P t = some (n, esz, z)) :
    ∃ e i j, P.underlying t = some (.array n e) ∧ P.info? t = some i ∧ i.zero = some (.agg z.toArray) ∧ i.size = z.length ∧ z.all Value.oneCell' = true ∧ P.info? e = some j ∧ j.size = esz ∧ z.length = n * esz := by
  unfold arrOf at h
  split at h
  · rename_i n' e i hu hi
    split at h
    · rename_i z' j hz hj
      split at h
      · rename_i hc
        injection h with h; injection h with h1 h2; injection h2 with h2 h3
        subst h1 h2 h3
        exact ⟨e, i, j, hu, hi, by rw [hz], by simpa using hc.1, hc.2.1, hj, rfl, by simpa using hc.2.2.1⟩
      · cases h
    · cases h
  · cases h
def arrFI (n esz : Nat) : List FI := (List.range n).map fun i => ⟨i * esz, esz, false⟩
/-! what operations do -/
def valOf (s : ASt) : Operand → FV
  | .tmp t => s.fr t
  | .const x => .im (lift x)
  | .func f => .im (.v (.func (.func f) #[] #[]))
  | .global _ => .junk
def toIV (st : Nat → AObj) : FV → Option IV
  | .im x => some x
  | .own k n => match st k with
    | .row _ _ es => if es.length = n then some (.sl es false) else none
    | _ => none
  | _ => none
def allIV (st : Nat → AObj) : List FV → Option (List IV)
  | [] => some []
  | c :: r => match toIV st c, allIV st r with
    | some x, some y => some (x :: y)
    | _, _ => none
def cellsOf : IV → List IV
  | .agg cs => cs
  | x => [x]
def setSeg {α : Type} (cs : List α) (o : Nat) (xs : List α) : List α := cs.take o ++ (xs ++ cs.drop (o + xs.length))
def FV.ok (st : Nat → AObj) : FV → Prop
  | .im x => x.one = true
  | .own k n => match st k with
    | .row _ _ es => es.length = n
    | _ => False
  | .ptr _ _ => True
  | .pin _ _ => False
  | .junk => False
def zeroFV : TI → List FV
  | .flat z => [.im (lift z)]
  | .slice _ _ => [.im (.sl [] true)]
  | .struct _ z => z.map fun x => .im (lift x)
def aload (st : Nat → AObj) (ti : Option TI) (cs : List FV) (o : Nat) (K : FV → Prop) : Prop := match ti with
  | some (.struct _ z) => match allIV st ((cs.drop o).take z.length) with
    | some xs => xs.length = z.length ∧ K (.im (.agg xs))
    | none => False
  | some _ => match cs[o]? with
    | some c => K c
    | none => False
  | none => False
def ainR (k : IntKind) (n : Int) (K : Value → Prop) : Prop := if k = .i64 then (-9223372036854775808 ≤ n ∧ n ≤ 9223372036854775807) ∧ K (.int k n) else K (.int k (k.wrap n))
def abin (op : BinOp) (a b : Value) (K : Value → Prop) : Prop := match a, b with
  | .int k x, .int k' y => k = k' ∧ (match op with
    | .add => ainR k (x + y) K
    | .sub => ainR k (x - y) K
    | .mul => ainR k (x * y) K
    | .eql => K (.bool (decide (x = y)))
    | .neq => K (.bool (!decide (x = y)))
    | .lss => K (.bool (decide (x < y)))
    | .leq => K (.bool (decide (x ≤ y)))
    | .rem => y ≠ 0 ∧ K (.int k (x.tmod y))
    | .gtr => K (.bool (decide (y < x)))
    | .geq => K (.bool (decide (y ≤ x)))
    | _ => False)
  | .string x, .string y => (match op with
    | .add => x.size + y.size ≤ 9223372036854775807 ∧ K (.string (x ++ y))
    | .eql => K (.bool (decide (x = y)))
    | .neq => K (.bool (!decide (x = y)))
    | _ => False)
  | _, _ => False
def liftA : Value → IV
  | .agg us => .agg (us.toList.map IV.v)
  | u => lift u
def EqTy (P : Program) (t : TypeId) : Prop := ∀ (op : BinOp) (x y : Operand) (a b c d : Int) (W : World), (op = .eql ∨ op = .neq) → (eqGuard op t x y (.agg #[.int .i64 a, .int .i64 b]) (.agg #[.int .i64 c, .int .i64 d])).run P W = .ok () W ∧ (Op.equal t (.agg #[.int .i64 a, .int .i64 b]) (.agg #[.int .i64 c, .int .i64 d])).run P W = .ok (decide (a = c) && decide (b = d)) W
def afill (s : ASt) (fs : List FI) : List IV → List (Nat × Operand) → Option (List IV)
  | cells, [] => some cells
  | cells, (i, x) :: r => match fs[i]?, toIV s.st (valOf s x) with
    | some f, some y => if (cellsOf y).length = f.size ∧ f.off + f.size ≤ cells.length ∧ (cellsOf y).all IV.one = true then afill s fs (setSeg cells f.off (cellsOf y)) r else none
    | _, _ => none
def aelems (s : ASt) (esz : Nat) : Nat → List (Nat × Operand) → Option (List (List IV))
  | _, [] => some []
  | k, (i, x) :: r => match toIV s.st (valOf s x), aelems s esz (k + 1) r with
    | some y, some l => if i = k ∧ (cellsOf y).length = esz ∧ (cellsOf y).all IV.one = true then some ((cellsOf y).map IV.er1 :: l) else none
    | _, _ => none
def toSl (st : Nat → AObj) (c : FV) : Option (List (List IV)) := match toIV st c with
  | some (.sl es _) => some es
  | _ => none
def valsOf : List IV → Option (List Value)
  | [] => some []
  | .v x :: r => match valsOf r with
    | some l => some (x :: l)
    | none => none
  | _ => none
def toVal : FV → Option Value
  | .im (.v x) => some x
  | .im (.agg cs) => match valsOf cs with
    | some l => some (.agg l.toArray)
    | none => none
  | _ => none
def aidx (s : ASt) (d : Nat) : Option Operand → (Int → Prop) → Prop
  | none, K => K d
  | some x, K => match valOf s x with
    | .im (.v (.int _ n)) => K n
    | _ => False
def abuil (P : Program) (b : Builtin) (xs : List Operand) (ts : List TypeId) (d : Option Nat) (s : ASt) (K : FV → (Nat → AObj) → Prop) : Prop := match b, xs, ts with
  | .len, [x], [t] => (match P.underlying t, valOf s x with
    | some .string, .im (.v (.string b)) => K (.im (.v (.int .i64 b.size))) s.st
    | some (.slice _), c => (match toSl s.st c with
      | some es => K (.im (.v (.int .i64 es.length))) s.st
      | none => False)
    | _, _ => False)
  | .append, [x, y], [t, t'] => t' = t ∧ (match tiOf P t, toSl s.st (valOf s y), d with
    | some (.slice e esz), some new, some d => (match valOf s x with
      | .own k n => (match s.st k with
        | .row ty z es => (ty = e ∧ z = esz ∧ es.length = n ∧ 0 < new.length ∧ es.length + new.length ≤ 1000000000 ∧ ∀ e ∈ new, e.length = esz) ∧ K (.own k (es ++ new).length) (upd s.st k (.row e esz (es ++ new)))
        | _ => False)
      | .im (.sl es true) => (match s.st d with
        | .none => (0 < new.length ∧ es.length + new.length ≤ 1000000000 ∧ (∀ e ∈ new, e.length = esz) ∧ ∀ e ∈ es, e.length = esz) ∧ K (.own d (es ++ new).length) (upd s.st d (.row e esz (es ++ new)))
        | _ => False)
      | _ => False)
    | _, _, _ => False)
  | .min, [x, y], _ => (match valOf s x, valOf s y with
    | .im (.v (.int k a)), .im (.v (.int _ b)) => K (.im (.v (.int k (if b < a then b else a)))) s.st
    | _, _ => False)
  | _, _, _ => False
def aval (P : Program) (op : Op) (d : Option Nat) (s : ASt) (K : FV → (Nat → AObj) → Prop) : Prop := match op with
  | .move x => K (valOf s x) s.st
  | .assign x => K (valOf s x) s.st
  | .pick c a b => (match valOf s c with
    | .im (.v (.bool t)) => K (if t = true then valOf s a else valOf s b) s.st
    | _ => False)
  | .nilCheck x => (match valOf s x with
    | .ptr b o => K (.ptr b o) s.st
    | .im (.elt cs o) => K (.im (.elt cs o)) s.st
    | _ => False)
  | .alloc t => (match d with
    | some d => d ≠ 1000 ∧ (match s.st d, tiOf P t with
      | .none, some ti => K (.ptr d 0) (upd s.st d (.box (zeroFV ti)))
      | .none, none => (match arrOf P t with
        | some a => K (.ptr d 0) (upd s.st d (.box (a.2.2.map fun x => .im (lift x))))
        | none => False)
      | _, _ => False)
    | none => False)
  | .box _ x => (match d with
    | some d => d ≠ 1000 ∧ (match s.st d, valOf s x with
      | .none, .im (.agg cs) => cs.all IV.one = true ∧ K (.ptr d 0) (upd s.st d (.box (cs.map FV.im)))
      | .none, c => c.ok s.st ∧ K (.ptr d 0) (upd s.st d (.box [c]))
      | _, _ => False)
    | none => False)
  | .load t x => (match valOf s x with
    | .ptr b o => (match s.st b with
      | .box cs => aload s.st (tiOf P t) cs o fun c => K c s.st
      | _ => False)
    | .im (.elt cs o) => aload s.st (tiOf P t) (cs.map FV.im) o fun c => K c s.st
    | _ => False)
  | .store t x y => (match valOf s x with
    | .ptr b o => (match s.st b with
      | .box cs => (match tiOf P t with
        | some (.struct _ z) => (match valOf s y with
          | .im (.agg xs) => (xs.length = z.length ∧ o + z.length ≤ cs.length ∧ xs.all IV.one = true) ∧ K .junk (upd s.st b (.box (setSeg cs o (xs.map FV.im))))
          | _ => False)
        | some _ => (o < cs.length ∧ (valOf s y).ok s.st) ∧ K .junk (upd s.st b (.box (cs.set o (valOf s y))))
        | none => (match arrOf P t, valOf s y with
          | some a, .im (.agg xs) => (xs.length = a.2.2.length ∧ o + a.2.2.length ≤ cs.length ∧ xs.all IV.one = true) ∧ K .junk (upd s.st b (.box (setSeg cs o (xs.map FV.im))))
          | _, _ => False))
      | _ => False)
    | _ => False)
  | .build t parts => (match tiOf P t with
    | some (.struct fs z) => (match afill s fs (z.map lift) parts.toList with
      | some cs => K (.im (.agg cs)) s.st
      | none => False)
    | none => (match arrOf P t with
      | some a => (match afill s (arrFI a.1 a.2.1) (a.2.2.map lift) parts.toList with
        | some cs => K (.im (.agg cs)) s.st
        | none => False)
      | none => False)
    | _ => False)
  | .buildSlice t n parts => (match tiOf P t with
    | some (.slice _ esz) => (match aelems s esz 0 parts.toList with
      | some es => (es.length = n ∧ 0 < n ∧ n * esz ≤ 16777216) ∧ K (.im (.sl es true)) s.st
      | none => False)
    | _ => False)
  | .fieldAddr t x f => (match tiOf P t with
    | some (.struct fs _) => (match fs[f]?, valOf s x with
      | some fi, .ptr b o => K (.ptr b (o + fi.off)) s.st
      | some fi, .im (.elt cs o) => K (.im (.elt cs (o + fi.off))) s.st
      | _, _ => False)
    | _ => False)
  | .field t x f => (match tiOf P t with
    | some (.struct fs _) => (match fs[f]?, valOf s x with
      | some fi, .im (.agg cs) => fi.agg = false ∧ (match cs[fi.off]? with
        | some y => K (.im y) s.st
        | none => False)
      | _, _ => False)
    | _ => False)
  | .indexAddr t x i => (match tiOf P t with
    | some (.slice _ esz) => (match toSl s.st (valOf s x), valOf s i with
      | some es, .im (.v (.int _ n)) => 0 ≤ n ∧ ∃ e, es[n.toNat]? = some e ∧ e.length = esz ∧ K (.im (.elt e 0)) s.st
      | _, _ => False)
    | none => (match arrOf P t, valOf s x, valOf s i with
      | some a, .ptr b o, .im (.v (.int _ n)) => (0 ≤ n ∧ n < (a.1 : Int)) ∧ K (.ptr b (o + n.toNat * a.2.1)) s.st
      | _, _, _ => False)
    | _ => False)
  | .index t x i => (match P.underlying t, valOf s x, valOf s i with
    | some .string, .im (.v (.string b)), .im (.v (.int _ n)) => 0 ≤ n ∧ ∃ c, b.data.toList[n.toNat]? = some c ∧ K (.im (.v (.int .u8 c.toNat))) s.st
    | _, _, _ => False)
  | .slice t x lo hi none => (match P.underlying t, valOf s x with
    | some .string, .im (.v (.string b)) => aidx s 0 lo fun l => aidx s b.size hi fun h => (0 ≤ l ∧ l ≤ h ∧ h ≤ b.size) ∧ K (.im (.v (.string (b.extract l.toNat h.toNat)))) s.st
    | _, _ => False)
  | .binOp op t x y _ => (match valOf s x, valOf s y with
    | .im (.v a), .im (.v b) => abin op a b fun u => K (.im (.v u)) s.st
    | .im (.agg [.v (.int .i64 a), .v (.int .i64 b)]), .im (.agg [.v (.int .i64 c), .v (.int .i64 d)]) => EqTy P t ∧ (match op with
      | .eql => K (.im (.v (.bool (decide (a = c) && decide (b = d))))) s.st
      | .neq => K (.im (.v (.bool (!(decide (a = c) && decide (b = d)))))) s.st
      | _ => False)
    | _, _ => False)
  | .unOp .not _ x => (match valOf s x with
    | .im (.v (.bool b)) => K (.im (.v (.bool !b))) s.st
    | _ => False)
  | .convert src dst x => (match P.underlying src, P.underlying dst, valOf s x with
    | some _, some (.int k), .im (.v (.int _ n)) => K (.im (.v (.int k (k.wrap n)))) s.st
    | _, _, _ => False)
  | .extract t i => (match valOf s t with
    | .im (.tup vs) => (match vs[i]? with
      | some x => K (.im x) s.st
      | none => False)
    | _ => False)
  | .typeAssert x _ t true => (match tiOf P t, valOf s x with
    | some (.struct _ _), .im (.v (.iface t' u)) => t' = t ∧ K (.im (.tup [liftA u, .v (.bool true)])) s.st
    | _, _ => False)
  | .makeInterface t x => (match P.underlying t, toVal (valOf s x) with
    | some (.interface _), _ => False
    | some _, some u => K (.im (.v (.iface t u))) s.st
    | _, _ => False)
  | .call c => (match c.callee with
    | .builtin b => abuil P b c.args.toList c.argTypes.toList d s K
    | _ => False)
  | _ => False
/-! that they do so -/
theorem eval_rep {X : Ctx} {E : AEnv} {S : CS} {s : ASt} {a : Act} {W : World} (h : RelE X E S s a W) (x : Operand) : RepF W S E s.st (valOf s x) (a.eval x) := by
  cases x with
  | tmp t => exact h.fr t
  | const v => exact Rep.lift W S v
  | global g => trivial
  | func f => exact Rep.v _
theorem toIV_rep {X : Ctx} {E : AEnv} {S : CS} {s : ASt} {a : Act} {W : World} (h : RelE X E S s a W) {c : FV} {u : Value} {x : IV} (hc : RepF W S E s.st c u) (hx : toIV s.st c = some x) : Rep W S x u := by
  cases c with
  | junk => cases hx
  | im y => injection hx with hx; subst hx; exact hc
  | ptr b o => cases hx
  | pin b p => cases hx
  | own k n =>
    obtain ⟨ty, esz, es, h1, h2, h3⟩ := hc
    simp only [toIV, h1] at hx
    split at hx
    · rename_i hn
      injection hx with hx
      subst hx
      rw [h3 hn]
      have ho := h.ob k
      rw [h1] at ho
      obtain ⟨xs, ⟨hxl, hv⟩, h5, h6, h7, h8, h9⟩ := ho
      rcases hv with ⟨hv, h0⟩ | ⟨g, cap, cur, hv, hg, hcur, hcap, hmax, hsz, htk⟩
      · rw [hv]
        obtain rfl : es = [] := List.eq_nil_of_length_eq_zero h0
        exact .sl (es := []) 0 (fun _ _ => undef) (Nat.le_refl _) (by simp) (by simp) (fun h => by cases h) (fun _ h => absurd h List.not_mem_nil) (fun h => absurd h (Nat.lt_irrefl _)) (fun j i e x h => by simp at h)
      · rw [hv]
        have hown : W.ownsRow X.W0.heap.size ty esz (.slice (some ⟨g, 0, none⟩) es.length cap) es.length xs := ⟨hxl, Or.inr ⟨g, cap, cur, rfl, hg, hcur, hcap, hmax, hsz, htk⟩⟩
        refine .sl esz (fun j i => xs.getD (j * esz + i) undef) hcap (by unfold maxLen at hmax; omega) (by omega) (fun h => by cases h) h7 (fun _ => ⟨g, 0, rfl, fun j i hj hi => ?_⟩) (fun j i e x he hx => ?_)
        · have hlt : j * esz + i < es.length * esz := by
            have := Nat.mul_le_mul_right esz (show j + 1 ≤ es.length from hj)
            rw [Nat.add_mul] at this; omega
          refine ⟨(h9 g (by rw [hv]; rfl) _).2 (by omega), ?_⟩
          have hcl := World.ownsRow.cells hown (g := g) rfl (j * esz + i) (xs.getD (j * esz + i) undef) (by rw [List.getD_eq_getElem?_getD, List.getElem?_eq_getElem (by omega)]; rfl)
          rw [add_at] at hcl
          rw [← hcl]; congr 2; omega
        · have hj := (List.getElem?_eq_some_iff.1 he).1
          have hi := (List.getElem?_eq_some_iff.1 hx).1
          rw [(h7 e (List.mem_of_getElem? he)).1] at hi
          have hlt : j * esz + i < es.length * esz := by
            have := Nat.mul_le_mul_right esz (show j + 1 ≤ es.length from hj)
            rw [Nat.add_mul] at this; omega
          exact h8 j i e x _ he hx (by rw [List.getD_eq_getElem?_getD, List.getElem?_eq_getElem (by omega)]; rfl)
    · cases hx
theorem allIV_rep {X : Ctx} {E : AEnv} {S : CS} {s : ASt} {a : Act} {W : World} (h : RelE X E S s a W) : ∀ {cs : List FV} {us : List Value} {xs : List IV}, us.length = cs.length → (∀ (i : Nat) c u, cs[i]? = some c → us[i]? = some u → RepF W S E s.st c u) → allIV s.st cs = some xs → RepL W S xs us
  | [], us, xs, hl, _, hx => by
    injection hx with hx; subst hx
    obtain rfl : us = [] := List.eq_nil_of_length_eq_zero hl
    exact RepL.nil W S
  | c :: r, us, xs, hl, hr, hx => by
    cases us with
    | nil => cases hl
    | cons u us =>
      simp only [allIV] at hx
      split at hx
      · rename_i x l h1 h2
        injection hx with hx; subst hx
        exact RepL.cons (toIV_rep h (hr 0 c u rfl rfl) h1) (allIV_rep h (by simpa using hl) (fun i c' u' hc hu => hr (i + 1) c' u' hc hu) h2)
      · cases hx
def Out (P : Program) (X : Ctx) (s : ASt) (a : Act) (W : World) (o : Oper) (K : FV → (Nat → AObj) → Prop) (Q : Exit → Act → World → Prop) : Prop :=
  o.wp P a W (fun a' W' => ∃ c st' E' S' u, K c st' ∧ a' = a.put o.dst u ∧ RelE X E' S' ⟨s.fr, st'⟩ a W' ∧ RepF W' S' E' st' c u) Q
theorem out_run {P : Program} {X : Ctx} {s : ASt} {a : Act} {W : World} {o : Oper} {K : FV → (Nat → AObj) → Prop} {Q : Exit → Act → World → Prop} {c : FV} {st' : Nat → AObj} {E' : AEnv} {S' : CS} {u : Value} {W' : World}
    (hr : (execOp a.eval o).run P W = .ok (.value u) W') (hK : K c st') (hR : RelE X E' S' ⟨s.fr, st'⟩ a W') (hc : RepF W' S' E' st' c u) : Out P X s a W o K Q := by
  unfold Out Oper.wp
  rw [hr]
  exact ⟨c, st', E', S', u, hK, rfl, hR, hc⟩
theorem out_skip {P : Program} {X : Ctx} {s : ASt} {a : Act} {W : World} {o : Oper} {K : FV → (Nat → AObj) → Prop} {Q : Exit → Act → World → Prop} {c : FV} {st' : Nat → AObj} {E' : AEnv} {S' : CS} {W' : World}
    (hr : (execOp a.eval o).run P W = .ok .skip W') (hK : K c st') (hR : RelE X E' S' ⟨s.fr, st'⟩ a W') (hc : RepF W' S' E' st' c undef) : Out P X s a W o K Q := by
  unfold Out Oper.wp
  rw [hr]
  exact ⟨c, st', E', S', undef, hK, rfl, hR, hc⟩
section
variable {P : Program} {X : Ctx} {E : AEnv} {S : CS} {s : ASt} {a : Act} {W : World} {o : Oper} {K : FV → (Nat → AObj) → Prop} {Q : Exit → Act → World → Prop}
theorem out_same (h : RelE X E S s a W) {c : FV} {u : Value} (hr : (execOp a.eval o).run P W = .ok (.value u) W) (hK : K c s.st) (hc : RepF W S E s.st c u) : Out P X s a W o K Q :=
  out_run hr hK h hc
end
end Go.Proofs.YtnhnpahoppbniaaDoor
namespace Th
open Go Go.Lib
def argS (t : Tf) : Nat := if strength t = 2 then 2 else strength t + 1
def topS (t : Tf) : Nat := if strength t = 2 then 1 else if strength t = 3 ∨ strength t = 6 then strength t - 1 else strength t
def live (E : Env) (k top i : Nat) : Prop := strength (tokAt E i) ≠ 0 ∧ k ≤ strength (tokAt E i) ∧ strength (tokAt E i) ≤ top
inductive Steps (E : Env) (k : Nat) : NJ → Nat → Nat → NJ → Nat → Nat → Prop
  | refl (n : NJ) (top i : Nat) : Steps E k n top i n top i
  | step {n : NJ} {top i : Nat} {m : NJ} {j : Nat} {n' : NJ} {top' i' : Nat} (hl : live E k top i) (he : evP E (.binary (argS (tokAt E i))) (i + 1) = some (.ok m j)) (h : Steps E k (joinedJ (tokAt E i) n m) (topS (tokAt E i)) j n' top' i') : Steps E k n top i n' top' i'
theorem Steps.trans {E : Env} {k : Nat} {a : NJ} {b c : Nat} {a1 : NJ} {b1 c1 : Nat} {a2 : NJ} {b2 c2 : Nat} (h : Steps E k a b c a1 b1 c1) (h2 : Steps E k a1 b1 c1 a2 b2 c2) : Steps E k a b c a2 b2 c2 := by
  induction h with
  | refl => exact h2
  | step hl he _ ih => exact .step hl he (ih h2)
theorem strength_le (t : Tf) : strength t ≤ 8 := by
  unfold strength
  repeat' split
  all_goals omega
/-! which signs bind how strongly -/
end Th
namespace Go.Proofs.YtnhnpahoppbniaaDoor
open Go Go.RowKit Go.Proofs Th
attribute [local go_sem] Above.cell
theorem run_from (s : ByteArray) (hs : s.size ≤ 100000000) (a : Nat) (h : a ≤ s.size) (w : World) : Calls Tryd.prog 31 #[.string (s.extract a s.size)] w fun r w' => r = .returned (.int .i64 (digN (s.data.toList.drop a) : Int)) ∧ w' = w := by
  have h1 := tok_run (s.extract a s.size) (by rw [ext_size s a h]; omega) w
  rw [bx_to] at h1
  exact h1
theorem pre_at (s : ByteArray) (a : Nat) (b : Bool) (hb : decide (s.data.toList[a]? = some 46) = b) (w : World) : Calls Tryd.prog 29 #[.string (s.extract a s.size), .string ⟨#[46]⟩] w fun e w' => e = .returned (.bool b) ∧ w' = w := by
  have h := Tryd.strings_HasPrefix (s.extract a s.size) ⟨#[46]⟩ w
  rw [bx_to, show (⟨#[46]⟩ : ByteArray).data.toList = [46] from rfl, pre_one, hb] at h
  exact h
theorem at_some (s : ByteArray) (a : Nat) (h : a < s.size) : s.data.toList[a]? = some s[a] := by
  rw [List.getElem?_eq_getElem (by rw [size_listU]; exact h)]; rfl
theorem at_none (s : ByteArray) (a : Nat) (h : ¬ a < s.size) : s.data.toList[a]? = none := List.getElem?_eq_none (by rw [size_listU]; omega)
theorem dig_room (l : List UInt8) (a : Nat) (h : a ≤ l.length) : a + digN (l.drop a) ≤ l.length := by
  have := digN_le (l.drop a)
  rw [List.length_drop] at this
  omega
set_option maxRecDepth 100000 in
set_option maxHeartbeats 4000000 in
theorem tok_number (s : ByteArray) (hs : s.size ≤ 100000000) (w : World) : Calls Tryd.prog 23 #[.string s] w fun r w' => r = .returned (.int .i64 (numN s.data.toList : Int)) ∧ w' = w := by
  have HL := Keep.mk (size_listU s)
  have HR := Keep.mk (fun a h W => run_from s hs a h W)
  have HR0 := Keep.mk (tok_run s hs w)
  obtain ⟨n0, hn0⟩ : ∃ n : Nat, digN s.data.toList = n := ⟨_, rfl⟩
  have hle : n0 ≤ s.size := by rw [← hn0, ← size_listU]; exact digN_le _
  rw [hn0] at HR0
  by_cases h0 : n0 = 0
  · subst h0
    have HN := Keep.mk (show numN s.data.toList = 0 by unfold numN; rw [if_pos hn0])
    clear HR hn0 hle
    go_enter Tryd.func23, Tryd.ntmps23
    go_wp2_with fail
    refine HR0.out.mono ?_
    rintro r w1 ⟨rfl, rfl⟩
    go_wp2
    go_ret
    exact ⟨by rw [HN.out]; rfl, rfl⟩
  · have HN := Keep.mk (show numN s.data.toList = expN s.data.toList (dotN s.data.toList n0) by rw [num_parts _ (by rw [hn0]; exact h0), hn0])
    have b0 : ((n0 : Int) == 0) = false := by rw [beq_eq_false_iff_ne]; omega
    clear hn0
    go_enter Tryd.func23, Tryd.ntmps23
    go_wp2_with fail
    refine HR0.out.mono ?_
    rintro r w1 ⟨rfl, rfl⟩
    clear HR0
    go_wp2_with fail
    obtain ⟨p, hp⟩ : ∃ p, decide (s.data.toList[n0]? = some 46) = p := ⟨_, rfl⟩
    refine (pre_at s n0 p hp w1).mono ?_
    rintro r w2 ⟨rfl, rfl⟩
    go_upto_if 14 with fail
    go_cut [3] (fun v wx => ∃ n1 : Nat, v = .int .i64 n1 ∧ Keep (dotN s.data.toList n0 = n1 ∧ n1 ≤ s.size) ∧ w2 = wx)
    case first =>
      cases p
      · have HD := Keep.mk (show dotN s.data.toList n0 = n0 by unfold dotN; rw [if_neg (fun h => of_decide_eq_false hp h.1)])
        clear hp
        go_wp2_with fail
        go_meet
        exact ⟨n0, rfl, ⟨HD.out, hle⟩, rfl⟩
      · have hd := of_decide_eq_true hp
        have hlt : n0 < s.size := by
          have := (List.getElem?_eq_some_iff.1 hd).1
          rw [size_listU] at this; exact this
        obtain ⟨k, hk⟩ : ∃ k, digN (s.data.toList.drop (n0 + 1)) = k := ⟨_, rfl⟩
        have hkl := dig_room s.data.toList (n0 + 1) (by rw [size_listU]; omega)
        rw [hk, size_listU] at hkl
        have HRN := Keep.mk (HR.out (n0 + 1) (by omega) w2)
        rw [hk] at HRN
        have HD := Keep.mk (show dotN s.data.toList n0 = if 0 < k then n0 + 1 + k else n0 by
          unfold dotN
          rw [hk]
          by_cases h : 0 < k
          · rw [if_pos ⟨hd, h⟩, if_pos h]
          · rw [if_neg (fun h2 => h h2.2), if_neg h])
        clear hp hd hk
        go_wp2_with fail
        refine HRN.out.mono ?_
        rintro r w3 ⟨rfl, rfl⟩
        by_cases hk0 : 0 < k
        · have HD2 := Keep.mk (HD.out.trans (if_pos hk0))
          go_wp2_with fail
          go_meet
          exact ⟨n0 + 1 + k, by go_num, ⟨HD2.out, by omega⟩, rfl⟩
        · have HD2 := Keep.mk (HD.out.trans (if_neg hk0))
          go_wp2_with fail
          go_meet
          exact ⟨n0, rfl, ⟨HD2.out, by omega⟩, rfl⟩
    case rest =>
      obtain ⟨n1, rfl, HD, rfl⟩ := hcut
      obtain ⟨hd1, hle1⟩ := HD.out
      replace HN := Keep.mk (HN.out.trans (by rw [hd1]))
      clear HD hd1 hp b0 h0 hle
      obtain ⟨b, hb⟩ : ∃ b, decide (s.data.toList[n1]? = some 101 ∨ s.data.toList[n1]? = some 69) = b := ⟨_, rfl⟩
      go_upto_region 8 with fail
      go_cut [41] (fun v wx => v = .bool b ∧ w2 = wx)
      case first =>
        by_cases hlt : n1 < s.size
        · rw [at_some s n1 hlt] at hb
          by_cases h1 : s[n1] = 101
          · have hb1 := hb.symm.trans (decide_eq_true (Or.inl (congrArg some h1)))
            subst hb1
            have f1 : (s[n1].toNat : Int) = 101 := by rw [h1]; rfl
            clear hb h1
            go_wp2_with fail
            go_meet
            exact ⟨rfl, rfl⟩
          · have f1 : ¬ (s[n1].toNat : Int) = 101 := fun h => h1 (UInt8.toNat_inj.1 (by show s[n1].toNat = 101; omega))
            have g1 : ((s[n1].toNat : Int) == 101) = false := by rw [beq_eq_false_iff_ne]; exact f1
            by_cases h2 : s[n1] = 69
            · have hb1 := hb.symm.trans (decide_eq_true (Or.inr (congrArg some h2)))
              subst hb1
              have f2 : (s[n1].toNat : Int) = 69 := by rw [h2]; rfl
              clear hb h1 h2 g1 f1
              go_wp2_with fail
              go_meet
              exact ⟨rfl, rfl⟩
            · have hb1 := hb.symm.trans (decide_eq_false (fun h => h.elim (fun h => h1 (Option.some.inj h)) (fun h => h2 (Option.some.inj h))))
              subst hb1
              have f2 : ¬ (s[n1].toNat : Int) = 69 := fun h => h2 (UInt8.toNat_inj.1 (by show s[n1].toNat = 69; omega))
              have g2 : ((s[n1].toNat : Int) == 69) = false := by rw [beq_eq_false_iff_ne]; exact f2
              clear hb h1 h2
              go_wp2_with fail
              go_meet
              exact ⟨rfl, rfl⟩
        · rw [at_none s n1 hlt] at hb
          have hb1 := hb.symm.trans (decide_eq_false (fun h => by rcases h with h | h <;> cases h))
          subst hb1
          clear hb
          go_wp2_with fail
          go_meet
          exact ⟨rfl, rfl⟩
      case rest =>
        obtain ⟨rfl, rfl⟩ := hcut
        cases b
        · have HN2 := Keep.mk (show numN s.data.toList = n1 by rw [HN.out]; unfold expN; rw [if_neg (fun h => of_decide_eq_false hb h.1)])
          clear hb HN HR
          go_wp2
          go_ret
          exact ⟨by rw [HN2.out]; rfl, rfl⟩
        · have he := of_decide_eq_true hb
          have hlt : n1 < s.size := by
            rcases he with h | h <;> (have := (List.getElem?_eq_some_iff.1 h).1; rw [size_listU] at this; exact this)
          clear hb
          obtain ⟨b, hb⟩ : ∃ b, decide (s.data.toList[n1 + 1]? = some 43 ∨ s.data.toList[n1 + 1]? = some 45) = b := ⟨_, rfl⟩
          have HE := Keep.mk he
          clear he
          go_upto_region 10 with fail
          go_cut [59] (fun v wx => v = .bool b ∧ w2 = wx)
          case first =>
            by_cases hlt2 : n1 + 1 < s.size
            · rw [at_some s (n1 + 1) hlt2] at hb
              by_cases h1 : s[n1 + 1] = 43
              · have hb1 := hb.symm.trans (decide_eq_true (Or.inl (congrArg some h1)))
                subst hb1
                have f1 : (s[n1 + 1].toNat : Int) = 43 := by rw [h1]; rfl
                clear hb h1
                go_wp2_with fail
                go_meet
                exact ⟨rfl, rfl⟩
              · have f1 : ¬ (s[n1 + 1].toNat : Int) = 43 := fun h => h1 (UInt8.toNat_inj.1 (by show s[n1 + 1].toNat = 43; omega))
                have g1 : ((s[n1 + 1].toNat : Int) == 43) = false := by rw [beq_eq_false_iff_ne]; exact f1
                by_cases h2 : s[n1 + 1] = 45
                · have hb1 := hb.symm.trans (decide_eq_true (Or.inr (congrArg some h2)))
                  subst hb1
                  have f2 : (s[n1 + 1].toNat : Int) = 45 := by rw [h2]; rfl
                  clear hb h1 h2 g1 f1
                  go_wp2_with fail
                  go_meet
                  exact ⟨rfl, rfl⟩
                · have hb1 := hb.symm.trans (decide_eq_false (fun h => h.elim (fun h => h1 (Option.some.inj h)) (fun h => h2 (Option.some.inj h))))
                  subst hb1
                  have f2 : ¬ (s[n1 + 1].toNat : Int) = 45 := fun h => h2 (UInt8.toNat_inj.1 (by show s[n1 + 1].toNat = 45; omega))
                  have g2 : ((s[n1 + 1].toNat : Int) == 45) = false := by rw [beq_eq_false_iff_ne]; exact f2
                  clear hb h1 h2
                  go_wp2_with fail
                  go_meet
                  exact ⟨rfl, rfl⟩
            · rw [at_none s (n1 + 1) hlt2] at hb
              have hb1 := hb.symm.trans (decide_eq_false (fun h => by rcases h with h | h <;> cases h))
              subst hb1
              clear hb
              go_wp2_with fail
              go_meet
              exact ⟨rfl, rfl⟩
          case rest =>
            obtain ⟨rfl, rfl⟩ := hcut
            cases b
            · have ha : expAt s.data.toList n1 = n1 + 1 := by unfold expAt; rw [if_neg (of_decide_eq_false hb)]
              have hroom : n1 + 1 ≤ s.size := by omega
              obtain ⟨k, hk⟩ : ∃ k, digN (s.data.toList.drop (n1 + 1)) = k := ⟨_, rfl⟩
              have HRN := Keep.mk (HR.out (n1 + 1) hroom w2)
              rw [hk] at HRN
              have hkl := dig_room s.data.toList (n1 + 1) (by rw [size_listU]; exact hroom)
              rw [hk, size_listU] at hkl
              have HX := Keep.mk (show expN s.data.toList n1 = if 0 < k then n1 + 1 + k else n1 by
                unfold expN
                rw [ha, hk]
                by_cases h : 0 < k
                · rw [if_pos ⟨HE.out, h⟩, if_pos h]
                · rw [if_neg (fun h2 => h h2.2), if_neg h])
              clear hb hk ha HE HR
              go_wp2_with fail
              refine HRN.out.mono ?_
              rintro r w3 ⟨rfl, rfl⟩
              by_cases hk0 : 0 < k
              · have HX2 := Keep.mk (HN.out.trans (HX.out.trans (if_pos hk0)))
                go_wp2
                go_ret
                exact ⟨by rw [HX2.out]; go_num, rfl⟩
              · have HX2 := Keep.mk (HN.out.trans (HX.out.trans (if_neg hk0)))
                go_wp2
                go_ret
                exact ⟨by rw [HX2.out]; rfl, rfl⟩
            · have ha : expAt s.data.toList n1 = n1 + 2 := by unfold expAt; rw [if_pos (of_decide_eq_true hb)]
              have hroom : n1 + 2 ≤ s.size := by
                rcases of_decide_eq_true hb with h | h <;> (have := (List.getElem?_eq_some_iff.1 h).1; rw [size_listU] at this; omega)
              obtain ⟨k, hk⟩ : ∃ k, digN (s.data.toList.drop (n1 + 2)) = k := ⟨_, rfl⟩
              have HRN := Keep.mk (HR.out (n1 + 2) hroom w2)
              rw [hk] at HRN
              have hkl := dig_room s.data.toList (n1 + 2) (by rw [size_listU]; exact hroom)
              rw [hk, size_listU] at hkl
              have HX := Keep.mk (show expN s.data.toList n1 = if 0 < k then n1 + 2 + k else n1 by
                unfold expN
                rw [ha, hk]
                by_cases h : 0 < k
                · rw [if_pos ⟨HE.out, h⟩, if_pos h]
                · rw [if_neg (fun h2 => h h2.2), if_neg h])
              clear hb hk ha HE HR
              go_wp2_with fail
              refine HRN.out.mono ?_
              rintro r w3 ⟨rfl, rfl⟩
              by_cases hk0 : 0 < k
              · have HX2 := Keep.mk (HN.out.trans (HX.out.trans (if_pos hk0)))
                go_wp2
                go_ret
                exact ⟨by rw [HX2.out]; go_num, rfl⟩
              · have HX2 := Keep.mk (HN.out.trans (HX.out.trans (if_neg hk0)))
                go_wp2
                go_ret
                exact ⟨by rw [HX2.out]; rfl, rfl⟩
end Go.Proofs.YtnhnpahoppbniaaDoor
