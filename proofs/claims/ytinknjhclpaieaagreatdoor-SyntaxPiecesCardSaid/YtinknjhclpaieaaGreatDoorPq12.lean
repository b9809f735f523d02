/- Lemmas and contracts for the laws SyntaxPieces, part 12 of 48: RefLong, SynRMath, R9A, SynVal, SynMono, SynP, TokB. Conditions: those that each lemma names. -/
import Derived.Test.YtinknjhclpaieaaGreatDoorPq8
import Derived.Test.YtinknjhclpaieaaGreatDoorPq2
import Derived.Test.YtinknjhclpaieaaGreatDoorPq10
import Derived.Deep.CutBlock
import Derived.Deep.DeepCutAuto
set_option maxRecDepth 100000
set_option maxHeartbeats 4000000
namespace Go.Proofs.YtinknjhclpaieaaGreatDoor
open Go Go.RowKit Go.Proofs Th
structure Two (w wr : World) (neg : Bool) (A : Option Addr) (c : Nat) (ds : List Nat) (e : Int) : Prop where
  x : Box wr w.heap.size [.bool neg, .slice A ds.length c, .int .i64 e]
  r : Box wr (w.heap.size + 1) [.int .i64 0, .int .i64 0]
  ints : IntsAt wr w.heap.size A c ds
  old : Below w.heap.size w wr
theorem Two.start (neg : Bool) (A : Option Addr) (c : Nat) (ds : List Nat) (e : Int) (w : World) (hI : IntsAt w w.heap.size A c ds) (t t' : TypeId) :
    Two w ((w.alloc (.cells #[.bool neg, .slice A ds.length c, .int .i64 e] t)).alloc (.cells #[.int .i64 0, .int .i64 0] t')) neg A c ds e :=
  ⟨(Box.new [.bool neg, .slice A ds.length c, .int .i64 e] _ rfl).alloc _, Box.new [.int .i64 0, .int .i64 0] _ (by simp), hI.below (al2 w _ _) (Nat.le_refl _), al2 w _ _⟩
theorem Two.tail {w wr : World} {neg : Bool} {g o c : Nat} {d : Nat} {ds : List Nat} {e : Int} (h : Two w wr neg (some ⟨g, o, none⟩) c (d :: ds) e) :
    Two w (wr.setCell ⟨w.heap.size, 1, none⟩ (.slice (if c = 1 then some ⟨g, o, none⟩ else some ⟨g, o + 1, none⟩) ds.length (c - 1))) neg (if c = 1 then some ⟨g, o, none⟩ else some ⟨g, o + 1, none⟩) (c - 1) ds e :=
  ⟨h.x.set (by simp) _, h.r.other (by omega) _, h.ints.tail.set (Nat.le_refl _) _, st1 h.old _ _ _ (Nat.le_refl _)⟩
theorem Two.init {w wr : World} {neg : Bool} {A : Option Addr} {c : Nat} {rest : List Nat} {x : Nat} {e : Int} (h : Two w wr neg A c (rest ++ [x]) e) :
    Two w ((wr.setCell ⟨w.heap.size, 1, none⟩ (.slice A rest.length c)).setCell ⟨w.heap.size, 2, none⟩ (.int .i64 (e + 1))) neg A c rest (e + 1) := by
  have hi := h.ints.init rest.length (by simp); rw [List.take_left] at hi; exact ⟨(h.x.set (by simp) _).set (by simp) _, (h.r.other (by omega) _).other (by omega) _, (hi.set (Nat.le_refl _) _).set (Nat.le_refl _) _, st1 (st1 h.old _ _ _ (Nat.le_refl _)) _ _ _ (Nat.le_refl _)⟩
structure Lead (w wr : World) (neg : Bool) (ds : List Nat) (e : Int) (A' : Option Addr) (c' : Nat) (ds' : List Nat) : Prop where
  two : Two w wr neg A' c' ds' e
  dig : Digs ds'
  len : ds'.length ≤ 1000000
  same : val ds' = val ds
structure Trail (w wr : World) (neg : Bool) (ds : List Nat) (e : Int) (A' : Option Addr) (c' : Nat) (ds' : List Nat) (e' : Int) : Prop where
  two : Two w wr neg A' c' ds' e'
  dig : Digs ds'
  len : ds'.length ≤ 1000000
  head : ds'.head? ≠ some 0
  e0 : -1000000000 ≤ e'
  e1 : e' + ds'.length ≤ 1001000000
  same : norm neg (val ds') e' = norm neg (val ds) e
theorem snoc_of {ds : List Nat} (h : ds ≠ []) : ∃ t x, ds = t ++ [x] := ⟨ds.dropLast, ds.getLast h, (List.dropLast_concat_getLast h).symm⟩
theorem ref_short (neg : Bool) (A : Option Addr) (c : Nat) (ds : List Nat) (e : Int) (hd : Digs ds) (hl : ds.length ≤ 1000000) (e0 : -1000000000 ≤ e) (e1 : e ≤ 1000000000) (w : World) (hI : IntsAt w w.heap.size A c ds) :
    Calls Tryz.prog 141 #[.agg #[.bool neg, .slice A ds.length c, .int .i64 e]] w fun r w' => r = .returned (numRes (norm neg (val ds) e)) ∧ Below w.heap.size w w' := by
  have HS := Keep.mk (Two.start neg A c ds e w hI 152 24); clear hI; go_enter Tryz.func141, Tryz.ntmps141
  go_upto_block 0 with fail
  go_cut [] (fun wx => ∃ (A' : Option Addr) (c' : Nat) (ds' : List Nat), Keep (Lead w wx neg ds e A' c' ds') ∧ Keep (ds'.head? ≠ some 0))
  case first =>
    go_wp2_with fail
    go_loopg [] ds.length (fun gk wr => ∃ (A' : Option Addr) (c' : Nat) (ds' : List Nat), Keep (ds'.length = gk) ∧ Keep (Lead w wr neg ds e A' c' ds'))
    case atStart => exact ⟨A, c, ds, ⟨rfl⟩, ⟨HS.out, hd, hl, rfl⟩⟩
    case round =>
      obtain ⟨A', c', ds', HK, HL⟩ := hrel; have T := HL.out.two; have x1 := T.x.cell 1 _ rfl; have f1 := T.x.froz 1; have lt0 := T.x.lt; cases ds' with
      | nil =>
        clear T; go_wp2_with fail
        go_meet
        exact ⟨A', c', [], HL, ⟨by simp⟩⟩
      | cons d t =>
        obtain ⟨g, o, rfl, hg, hc⟩ := T.ints.at_ (by simp); have hc0 := hc 0 (by simp); have hg2 := Nat.lt_of_lt_of_le hg T.old.size; have hcap := T.ints.le; have hcm := T.ints.cap; unfold maxLen at hcm; simp only [List.getElem_cons_zero, Nat.add_zero] at hc0; simp only [List.length_cons] at x1 hcap; clear hc; obtain rfl : t.length + 1 = gk := HK.out; clear HK; have hl6 := HL.out.len; simp only [List.length_cons] at hl6; by_cases hd0 : d = 0
        · subst hd0
          have T2 := T.tail; have HV := Keep.mk (show val t = val ds by rw [← HL.out.same, val_zero_cons]); have HD := Keep.mk HL.out.dig.tail; clear T; by_cases hc1 : c' = 1
          · rw [if_pos hc1] at T2
            have HT2 := Keep.mk T2; clear T2; subst hc1; have ht : t = [] := List.eq_nil_of_length_eq_zero (by omega); subst ht; go_wp2_with fail
            go_roundg 0
            case rel => exact ⟨_, _, [], ⟨rfl⟩, ⟨HT2.out, HD.out, by simp, HV.out⟩⟩
            case measure => simp
          rw [if_neg hc1] at T2; have HT2 := Keep.mk T2; clear T2; go_wp2_with fail
          go_roundg t.length
          case rel => exact ⟨_, _, t, ⟨rfl⟩, ⟨HT2.out, HD.out, by omega, HV.out⟩⟩
          case measure => omega
        have hdb : ((d : Int) == 0) = false := by simpa using hd0
        clear T; have HD0 := Keep.mk hd0; clear hd0; go_wp2_with fail
        go_meet
        exact ⟨_, _, d :: t, HL, ⟨by simpa using HD0.out⟩⟩
  case rest =>
    obtain ⟨A1, c1, ds1, HL1, HH1⟩ := hcut; go_upto_block 2 with fail
    go_cut [] (fun wx => ∃ (A' : Option Addr) (c' : Nat) (ds' : List Nat) (e' : Int), Keep (Trail w wx neg ds e A' c' ds' e') ∧ Keep (ds' ≠ [] → val ds' % 10 ≠ 0))
    case first =>
      go_wp2_with fail
      go_loopg [] ds1.length (fun gk wr => ∃ (A' : Option Addr) (c' : Nat) (ds' : List Nat) (e' : Int), Keep (ds'.length = gk) ∧ Keep (Trail w wr neg ds e A' c' ds' e'))
      case atStart =>
        have L := HL1.out; exact ⟨A1, c1, ds1, e, ⟨rfl⟩, ⟨L.two, L.dig, L.len, HH1.out, e0, by have := L.len; omega, by rw [L.same]⟩⟩
      case round =>
        obtain ⟨A', c', ds', e', HK, HL⟩ := hrel; have T := HL.out.two; have x1 := T.x.cell 1 _ rfl; have x2 := T.x.cell 2 _ rfl; have f1 := T.x.froz 1; have f2 := T.x.froz 2; have lt0 := T.x.lt; have g0 := HL.out.e0; have g1 := HL.out.e1; by_cases hn : ds' = []
        · subst hn
          clear T; go_wp2_with fail
          go_meet
          exact ⟨A', c', [], e', HL, ⟨fun h => absurd rfl h⟩⟩
        obtain ⟨t, x, rfl⟩ := snoc_of hn; clear hn; obtain ⟨g, o, rfl, hg, hc⟩ := T.ints.at_ (by simp); have hc0 := hc t.length (by simp); have hg2 := Nat.lt_of_lt_of_le hg T.old.size; have hcap := T.ints.le; have hcm := T.ints.cap; unfold maxLen at hcm; simp only [List.getElem_concat_length] at hc0; simp only [List.length_append, List.length_cons, List.length_nil, Nat.zero_add] at x1 hcap g1; clear hc; obtain rfl : t.length + 1 = gk := by have := HK.out; simpa using this
        clear HK; have hl6 := HL.out.len; simp only [List.length_append, List.length_cons, List.length_nil, Nat.zero_add] at hl6; by_cases hx0 : x = 0
        · subst hx0
          have HT2 := Keep.mk T.init; have HV := Keep.mk (show norm neg (val t) (e' + 1) = norm neg (val ds) e by
            rw [← HL.out.same, val_snoc, ← norm_step]; simp)
          have HD := Keep.mk (show Digs t from fun d hd => HL.out.dig d (by simp [hd])); have HH := Keep.mk (show t.head? ≠ some 0 from fun h => HL.out.head (by cases t with | nil => cases h | cons a b => simpa using h)); clear T; go_wp2_with fail
          go_roundg t.length
          case rel => exact ⟨_, _, t, _, ⟨rfl⟩, ⟨HT2.out, HD.out, by omega, HH.out, by omega, by omega, HV.out⟩⟩
          case measure => omega
        have hdb : ((x : Int) == 0) = false := by simpa using hx0
        have HE := Keep.mk (show val (t ++ [x]) % 10 ≠ 0 by
          have := HL.out.dig x (by simp); rw [val_snoc]; omega)
        clear T hx0; go_wp2_with fail
        go_meet
        exact ⟨_, _, t ++ [x], e', HL, ⟨fun _ => HE.out⟩⟩
    case rest =>
      obtain ⟨A2, c2, ds2, e2, HL, HE⟩ := hcut; have T := HL.out.two; obtain ⟨x0, x1, x2⟩ := T.x.p3; obtain ⟨s0, r0, s1, r1⟩ := T.r.q2; have lt0 := T.x.lt; have lt1 := T.r.lt; have B := T.old; cases ds2 with
      | nil =>
        have HR := Keep.mk (show norm neg (val ds) e = ((0, 0), 0) by rw [← HL.out.same]; rfl); clear T HL; go_wp2_with fail
        refine bodyPost_ret (v := numRes ((0, 0), 0)) ?_ rfl ⟨num_res HR.out.symm, st1 (st1 B _ _ _ (by omega)) _ _ _ (by omega)⟩; simp [numRes, results, Tryz.results141, go_sem, s0, s1]
      | cons d t =>
        have hcap := T.ints.le; have hcm := T.ints.cap; unfold maxLen at hcm; have hd0 : d ≠ 0 := fun h => HL.out.head (by simp [h])
        have hsame := HL.out.same; rcases short_cases neg (d :: t) e2 HL.out.dig d t rfl hd0 (HE.out (by simp)) with ⟨hlen, hr⟩ | ⟨hlen, hx, hr⟩ | ⟨hlen, h0, h1, hv, hr⟩
        · have HR := Keep.mk (hsame.symm.trans hr)
          have hlb : decide (18 < ((d :: t).length : Int)) = true := by simp only [decide_eq_true_eq]; omega
          clear hr hsame T HL hd0 HE; generalize (d :: t).length = N at *; go_wp2_with fail
          refine bodyPost_ret (v := numRes ((0, 0), 11)) ?_ rfl ⟨num_res HR.out.symm, st1 (st1 B _ _ _ (by omega)) _ _ _ (by omega)⟩; simp [numRes, results, Tryz.results141, go_sem, s0, s1]
        · have HR := Keep.mk (hsame.symm.trans hr)
          clear hr hsame T HL HE; have hlb : decide (18 < ((d :: t).length : Int)) = false := by simp only [decide_eq_false_iff_not]; omega
          have hn1 : ((d :: t).length : Int) ≤ 18 := by omega
          have hn0 : 1 ≤ ((d :: t).length : Int) := by simp only [List.length_cons]; omega
          generalize (d :: t).length = N at *; rcases hx with hx | hx
          all_goals
            go_wp2_with fail
            refine bodyPost_ret (v := numRes ((0, 0), 11)) ?_ rfl ⟨num_res HR.out.symm, st1 (st1 B _ _ _ (by omega)) _ _ _ (by omega)⟩; simp [numRes, results, Tryz.results141, go_sem, s0, s1]
        have HR := Keep.mk (hsame.symm.trans hr); have hlb : decide (18 < ((d :: t).length : Int)) = false := by simp only [decide_eq_false_iff_not]; omega
        have hn1 : ((d :: t).length : Int) ≤ 18 := by omega
        have hn0 : 1 ≤ ((d :: t).length : Int) := by simp only [List.length_cons]; omega
        obtain ⟨g, o, rfl, hg, hc⟩ := T.ints.at_ (by simp); have hg2 := Nat.lt_of_lt_of_le hg T.old.size; have HC := Keep.mk hc; have HD := Keep.mk HL.out.dig; clear hr hsame T HL hd0 HE hc; generalize hds : d :: t = xs at *; clear hds; go_wp2_with fail
        go_loop [4, 5] (fun m i => ∃ k : Nat, k ≤ xs.length ∧ i = .int .i64 k ∧ m = .int .i64 (val (xs.take k))) (fun _ i => xs.length - (intOf i).toNat)
        case atStart => exact ⟨0, Nat.zero_le _, rfl, rfl⟩
        case round =>
          obtain ⟨k, hk, rfl, rfl⟩ := hrel; have HB := Keep.mk (show val (xs.take k) < 1000000000000000000 by
            have h := val_lt _ (HD.out.take k); rw [List.length_take] at h; have h2 : (10 : Nat) ^ (min k xs.length) ≤ 10 ^ 18 := Nat.pow_le_pow_right (by omega) (by omega); omega)
          by_cases hlt : k < xs.length
          · have hck := HC.out k hlt
            have HV := Keep.mk (show val (xs.take (k + 1)) = val (xs.take k) * 10 + xs[k] by rw [List.take_succ_eq_append_getElem hlt, val_snoc]); have h9 := HD.out _ (List.getElem_mem hlt); have HW := Keep.mk (show val (xs.take k) < 100000000000000000 by
              have h := val_lt _ (HD.out.take k); rw [List.length_take] at h; have h2 : (10 : Nat) ^ (min k xs.length) ≤ 10 ^ 17 := Nat.pow_le_pow_right (by omega) (by omega); omega)
            generalize xs[k] = y at *; have hw := HW.out; generalize val (xs.take k) = q at *; go_wp2
            go_round
            case rel => exact ⟨k + 1, by omega, by go_num, by rw [HV.out]; go_num⟩
            case measure => simp [intOf]; omega
          have HE := Keep.mk (show val (xs.take k) = val xs by rw [List.take_of_length_le (by omega)]); have hb := HB.out; generalize val (xs.take k) = q at *; have hq := HE.out; rw [← hq] at HR; clear hq; cases neg
          · have HR2 := Keep.mk (show norm false (val ds) e = (((q : Int), e2), 0) by have h := HR.out; rw [if_neg (by decide)] at h; exact h)
            clear HR; go_wp2
            refine bodyPost_ret (v := numRes ((q, e2), 0)) ?_ rfl ⟨num_res HR2.out.symm, st1 (st1 B _ _ _ (by omega)) _ _ _ (by omega)⟩; simp [numRes, results, Tryz.results141, go_sem, s0, s1]
          have HR2 := Keep.mk (show norm true (val ds) e = ((-(q : Int), e2), 0) by have h := HR.out; rw [if_pos rfl] at h; exact h); clear HR; go_wp2
          refine bodyPost_ret (v := numRes ((-q, e2), 0)) ?_ rfl ⟨num_res HR2.out.symm, st1 (st1 B _ _ _ (by omega)) _ _ _ (by omega)⟩; simp [numRes, results, Tryz.results141, go_sem, s0, s1]
open Go Go.RowKit Go.Proofs Th
end Go.Proofs.YtinknjhclpaieaaGreatDoor
namespace Th
open Go Go.Lib
structure St where
  i : Nat
  err : Nat
  at_ : Nat
def bindR {α : Type} (x : Option (NJ × St)) (f : NJ → St → Option α) : Option α := match x with
  | none => none
  | some (n, s) => f n s
def bindA {α : Type} (x : Option (List ByteArray × St)) (f : List ByteArray → St → Option α) : Option α := match x with
  | none => none
  | some (a, s) => f a s
def failR (E : Env) (s : St) (e : Nat) : St := if s.err = 0 then ⟨E.l.length, e, failAt E s.i⟩ else ⟨E.l.length, s.err, s.at_⟩
def isR (E : Env) (s : St) (x : ByteArray) : Prop := ((tokAt E s.i).kind = 1 ∨ (tokAt E s.i).kind = 6) ∧ (tokAt E s.i).text = x
instance (E : Env) (s : St) (x : ByteArray) : Decidable (isR E s x) := by unfold isR; exact inferInstance
def hasR (E : Env) (s : St) (x : ByteArray) : Prop := s.err = 0 ∧ isR E s x
instance (E : Env) (s : St) (x : ByteArray) : Decidable (hasR E s x) := by unfold hasR; exact inferInstance
def St.next (s : St) : St := ⟨s.i + 1, s.err, s.at_⟩
def wantR (E : Env) (s : St) (x : ByteArray) : St := if hasR E s x then s.next else failR E s 60
def namedR (E : Env) (s : St) (k : Nat) : ByteArray × St :=
  if s.err ≠ 0 ∨ (tokAt E s.i).kind ≠ k ∨ (k = 1 ∧ inB words13 (tokAt E s.i).text = true) then (⟨#[]⟩, failR E s 60) else ((tokAt E s.i).text, s.next)
def anyR (E : Env) (s : St) (l : List ByteArray) : Prop := s.err = 0 ∧ ((tokAt E s.i).kind = 1 ∨ (tokAt E s.i).kind = 6) ∧ inB l (tokAt E s.i).text = true
instance (E : Env) (s : St) (l : List ByteArray) : Decidable (anyR E s l) := by unfold anyR; exact inferInstance
def argsR (E : Env) : Nat → List ByteArray → St → Option (List ByteArray × St)
  | 0, _, _ => none
  | n + 1, acc, s =>
    let a : ByteArray := if (tokAt E s.i).kind = 2 then ⟨#[36]⟩ ++ (namedR E s 2).1 else (namedR E s 1).1
    let s2 := if (tokAt E s.i).kind = 2 then (namedR E s 2).2 else (namedR E s 1).2
    if hasR E s2 ⟨#[59]⟩ then argsR E n (acc ++ [a]) s2.next else some (acc ++ [a], s2)
inductive RJob where
  | filter | list | listLoop (n : NJ) | other | set | either | eitherLoop (n : NJ) | both | bothLoop (n : NJ) | test | sum | sumLoop (n : NJ) | product | productLoop (n : NJ)
  | minus | term | termLoop (n : NJ) | index (x : NJ) | text | parts (texts filters : List (List UInt8)) (places : List Nat) (kids : List NJ)
  | whole | first | object | objLoop (kids : List NJ) | word | callLoop (name : ByteArray) (kids : List NJ) | branch
def stepR (run : Env → RJob → St → Option (NJ × St)) (E : Env) (job : RJob) (s : St) : Option (NJ × St) := match job with
    | .filter => if s.err ≠ 0 then some (noNJ, s) else
        if hasR E s ⟨#[100, 101, 102]⟩ then
          let rest := fun (name : ByteArray) (args : List ByteArray) (s : St) => bindR (run E .filter (wantR E s ⟨#[58]⟩)) fun a s => bindR (run E .filter (wantR E s ⟨#[59]⟩)) fun b s => some (.mk 24 name 0 0 [a, b] args, s)
          if hasR E (namedR E s.next 1).2 ⟨#[40]⟩ then bindA (argsR E (E.l.length + 1) [] (namedR E s.next 1).2.next) fun args s2 => rest (namedR E s.next 1).1 args (wantR E s2 ⟨#[41]⟩)
          else rest (namedR E s.next 1).1 [] (namedR E s.next 1).2
        else bindR (run E .list s) fun n s => if hasR E s ⟨#[124]⟩ then bindR (run E .filter s.next) fun m s => some (nodeJ 8 ⟨#[]⟩ n m, s) else some (n, s)
    | .list => bindR (run E .other s) fun n s => run E (.listLoop n) s
    | .listLoop n => if hasR E s ⟨#[44]⟩ then bindR (run E .other s.next) fun m s => run E (.listLoop (nodeJ 9 ⟨#[]⟩ n m)) s else some (n, s)
    | .other => bindR (run E .set s) fun n s => if hasR E s ⟨#[47, 47]⟩ then bindR (run E .other s.next) fun m s => some (nodeJ 13 ⟨#[]⟩ n m, s) else some (n, s)
    | .set => bindR (run E .either s) fun n s => if anyR E s sets7 then bindR (run E .either s.next) fun m s2 => some (nodeJ 25 (tokAt E s.i).text n m, s2) else some (n, s)
    | .either => bindR (run E .both s) fun n s => run E (.eitherLoop n) s
    | .eitherLoop n => if hasR E s ⟨#[111, 114]⟩ then bindR (run E .both s.next) fun m s => run E (.eitherLoop (nodeJ 12 ⟨#[]⟩ n m)) s else some (n, s)
    | .both => bindR (run E .test s) fun n s => run E (.bothLoop n) s
    | .bothLoop n => if hasR E s ⟨#[97, 110, 100]⟩ then bindR (run E .test s.next) fun m s => run E (.bothLoop (nodeJ 11 ⟨#[]⟩ n m)) s else some (n, s)
    | .test => bindR (run E .sum s) fun n s => if anyR E s tests6 then bindR (run E .sum s.next) fun m s2 => some (nodeJ 10 (tokAt E s.i).text n m, s2) else some (n, s)
    | .sum => bindR (run E .product s) fun n s => run E (.sumLoop n) s
    | .sumLoop n => if anyR E s sums2 then bindR (run E .product s.next) fun m s2 => run E (.sumLoop (nodeJ 10 (tokAt E s.i).text n m)) s2 else some (n, s)
    | .product => bindR (run E .minus s) fun n s => run E (.productLoop n) s
    | .productLoop n => if anyR E s products3 then bindR (run E .minus s.next) fun m s2 => run E (.productLoop (nodeJ 10 (tokAt E s.i).text n m)) s2 else some (n, s)
    | .minus => if s.err ≠ 0 then some (noNJ, s) else if hasR E s ⟨#[45]⟩ then bindR (run E .minus s.next) fun n s => some (kidsJ 14 [n], s) else
        bindR (run E .term s) fun n s => if hasR E s ⟨#[97, 115]⟩ then bindR (run E .filter (wantR E (namedR E s.next 2).2 ⟨#[124]⟩)) fun m s2 => some (nodeJ 21 (namedR E s.next 2).1 n m, s2) else some (n, s)
    | .term => bindR (run E .first s) fun n s => run E (.termLoop n) s
    | .termLoop n => if s.err ≠ 0 then some (n, s) else if (tokAt E s.i).kind = 3 then run E (.termLoop (nodeJ 5 ⟨#[]⟩ n (strJ (tokAt E s.i).text))) s.next
        else if hasR E s ⟨#[63]⟩ then run E (.termLoop (kidsJ 18 [n])) s.next
        else if hasR E s ⟨#[46]⟩ then (if (tokAt E s.next.i).kind = 5 then bindR (run E .text s.next) fun m s => run E (.termLoop (nodeJ 5 ⟨#[]⟩ n m)) s
          else if hasR E s.next ⟨#[91]⟩ then bindR (run E (.index n) s.next.next) fun m s => run E (.termLoop m) s else some (n, failR E s.next 60))
        else if hasR E s ⟨#[91]⟩ then bindR (run E (.index n) s.next) fun m s => run E (.termLoop m) s else some (n, s)
    | .index x => if hasR E s ⟨#[93]⟩ then some (kidsJ 7 [x], s.next) else
        let last := fun (kids : List NJ) (args : List ByteArray) (s : St) => if args.length = 0 ∨ ¬ isR E s ⟨#[93]⟩ then bindR (run E .filter s) fun m s => some (.mk 6 ⟨#[]⟩ 0 0 (kids ++ [m]) (args ++ [⟨#[116, 111]⟩]), wantR E s ⟨#[93]⟩)
          else some (.mk 6 ⟨#[]⟩ 0 0 kids args, wantR E s ⟨#[93]⟩)
        if isR E s ⟨#[58]⟩ then last [x] [] (wantR E s ⟨#[58]⟩) else bindR (run E .filter s) fun m s => if hasR E s ⟨#[93]⟩ then some (nodeJ 5 ⟨#[]⟩ x m, s.next) else last [x, m] [⟨#[102, 114, 111, 109]⟩] (wantR E s ⟨#[58]⟩)
    | .text => run E (.parts (partsF (tokAt E s.i).text.data.toList).1.texts (partsF (tokAt E s.i).text.data.toList).1.filters (partsF (tokAt E s.i).text.data.toList).1.places []) s
    | .parts texts filters places kids => match texts with
      | [] => some (joinQ kids, s.next)
      | t :: texts => if (readQ (textQ t)).2.2 ≠ 0 ∨ (readQ (textQ t)).2.1 ≠ t.length + 2 then some (noNJ, failR E s 20) else match filters with
        | [] => some (joinQ (kids ++ [strJ ⟨(readQ (textQ t)).1.toArray⟩]), s.next)
        | g :: filters => bindR (run (envOf g (E.base + (tokAt E s.i).at_ + places.headD 0)) .whole ⟨0, 0, 0⟩) fun m own => if own.err ≠ 0 then some (noNJ, ⟨E.l.length, (failR E s own.err).err, own.at_⟩)
            else run E (.parts texts filters places.tail (kids ++ [strJ ⟨(readQ (textQ t)).1.toArray⟩, m])) s
    | .whole => bindR (run E .filter s) fun n s => if s.err = 0 ∧ s.i < E.l.length then some (n, failR E s 60) else some (n, s)
    | .first => if s.err ≠ 0 then some (noNJ, s) else if (tokAt E s.i).kind = 1 then run E .word s else if (tokAt E s.i).kind = 2 then some (knownJ (namedR E s 2).1, (namedR E s 2).2)
        else if (tokAt E s.i).kind = 3 then some (nodeJ 5 ⟨#[]⟩ selfJ (strJ (tokAt E s.i).text), s.next)
        else if (tokAt E s.i).kind = 4 then (if (parseN (tokAt E s.i).text.data.toList).2 = 10 then some (noNJ, failR E s 60) else if (parseN (tokAt E s.i).text.data.toList).2 ≠ 0 then some (noNJ, failR E s (parseN (tokAt E s.i).text.data.toList).2.toNat)
          else some (.mk 2 ⟨#[]⟩ (parseN (tokAt E s.i).text.data.toList).1.1 (parseN (tokAt E s.i).text.data.toList).1.2 [] [], s.next))
        else if (tokAt E s.i).kind = 5 then run E .text s
        else if hasR E s ⟨#[46]⟩ then (if (tokAt E s.next.i).kind = 5 then bindR (run E .text s.next) fun m s => some (nodeJ 5 ⟨#[]⟩ selfJ m, s) else some (selfJ, s.next))
        else if hasR E s ⟨#[46, 46]⟩ then some (kidsJ 26 [], s.next)
        else if hasR E s ⟨#[40]⟩ then bindR (run E .filter s.next) fun n s => some (n, wantR E s ⟨#[41]⟩)
        else if hasR E s ⟨#[91]⟩ then (if hasR E s.next ⟨#[93]⟩ then some (kidsJ 15 [], s.next.next) else bindR (run E .filter s.next) fun n s => some (kidsJ 15 [n], wantR E s ⟨#[93]⟩))
        else if hasR E s ⟨#[123]⟩ then run E .object s.next else some (noNJ, failR E s 60)
    | .object => if hasR E s ⟨#[125]⟩ then some (kidsJ 16 [], s.next) else run E (.objLoop []) s
    | .objLoop kids => if s.err ≠ 0 then some (kidsJ 16 kids, wantR E s ⟨#[125]⟩) else
        let go := fun (k v : NJ) (s : St) => if hasR E s ⟨#[44]⟩ then run E (.objLoop (kids ++ [k, v])) s.next else some (kidsJ 16 (kids ++ [k, v]), wantR E s ⟨#[125]⟩)
        if (tokAt E s.i).kind = 2 then go (strJ (namedR E s 2).1) (knownJ (namedR E s 2).1) (namedR E s 2).2
        else if (tokAt E s.i).kind = 1 then (if s.err = 0 ∧ ¬ isR E s.next ⟨#[58]⟩ then go (strJ (tokAt E s.i).text) (nodeJ 5 ⟨#[]⟩ selfJ (strJ (tokAt E s.i).text)) s.next
          else bindR (run E .other (wantR E s.next ⟨#[58]⟩)) fun v s2 => go (strJ (tokAt E s.i).text) v s2)
        else if (tokAt E s.i).kind = 5 then bindR (run E .text s) fun key s => if s.err = 0 ∧ ¬ isR E s ⟨#[58]⟩ then go key (nodeJ 5 ⟨#[]⟩ selfJ key) s else bindR (run E .other (wantR E s ⟨#[58]⟩)) fun v s2 => go key v s2
        else bindR (run E .filter (wantR E s ⟨#[40]⟩)) fun key s => bindR (run E .other (wantR E (wantR E s ⟨#[41]⟩) ⟨#[58]⟩)) fun v s2 => go key v s2
    | .word => if hasR E s ⟨#[105, 102]⟩ then run E .branch s.next
        else if hasR E s ⟨#[116, 114, 121]⟩ then bindR (run E .term s.next) fun n s => if hasR E s ⟨#[99, 97, 116, 99, 104]⟩ then bindR (run E .term s.next) fun m s => some (kidsJ 18 [n, m], s) else some (kidsJ 18 [n], s)
        else if isR E s ⟨#[114, 101, 100, 117, 99, 101]⟩ ∨ isR E s ⟨#[102, 111, 114, 101, 97, 99, 104]⟩ then
          let kind : Int := if isR E s ⟨#[114, 101, 100, 117, 99, 101]⟩ then 19 else 20
          bindR (run E .term s.next) fun x s => bindR (run E .filter (wantR E (namedR E (wantR E s ⟨#[97, 115]⟩) 2).2 ⟨#[40]⟩)) fun y s2 => bindR (run E .filter (wantR E s2 ⟨#[59]⟩)) fun z s3 =>
          if kind = 20 then (if hasR E s3 ⟨#[59]⟩ then bindR (run E .filter s3.next) fun u s4 => some (.mk kind (namedR E (wantR E s ⟨#[97, 115]⟩) 2).1 0 0 [x, y, z, u] [], wantR E s4 ⟨#[41]⟩)
            else some (.mk kind (namedR E (wantR E s ⟨#[97, 115]⟩) 2).1 0 0 [x, y, z, selfJ] [], wantR E s3 ⟨#[41]⟩))
          else some (.mk kind (namedR E (wantR E s ⟨#[97, 115]⟩) 2).1 0 0 [x, y, z] [], wantR E s3 ⟨#[41]⟩)
        else if hasR E (namedR E s 1).2 ⟨#[40]⟩ then run E (.callLoop (namedR E s 1).1 []) (namedR E s 1).2.next else some (.mk 23 (namedR E s 1).1 0 0 [] [], (namedR E s 1).2)
    | .callLoop name kids => if s.err ≠ 0 then some (.mk 23 name 0 0 kids [], wantR E s ⟨#[41]⟩) else
        bindR (run E .filter s) fun n s => if hasR E s ⟨#[59]⟩ then run E (.callLoop name (kids ++ [n])) s.next else some (.mk 23 name 0 0 (kids ++ [n]) [], wantR E s ⟨#[41]⟩)
    | .branch => if s.err ≠ 0 then some (noNJ, s) else bindR (run E .filter s) fun a s => bindR (run E .filter (wantR E s ⟨#[116, 104, 101, 110]⟩)) fun b s =>
        if hasR E s ⟨#[101, 108, 105, 102]⟩ then bindR (run E .branch s.next) fun c s => some (kidsJ 17 [a, b, c], s)
        else if hasR E s ⟨#[101, 108, 115, 101]⟩ then bindR (run E .filter s.next) fun c s => some (kidsJ 17 [a, b, c], wantR E s ⟨#[101, 110, 100]⟩)
        else some (kidsJ 17 [a, b, selfJ], wantR E s ⟨#[101, 110, 100]⟩)
def runR : Nat → Env → RJob → St → Option (NJ × St)
  | 0, _, _, _ => none
  | f + 1, E, job, s => stepR (runR f) E job s
end Th
namespace Go.Proofs.YtinknjhclpaieaaGreatDoor
open Go Go.RowKit Go.Proofs Th
attribute [local go_sem] Above.cell
theorem digs_end (s : ByteArray) (h : ∀ i (h : i < s.data.toList.length), i < s.size → isDg s.data.toList[i] = true) : decide (0 < s.size) = isDigs s.data.toList := by
  have hall : s.data.toList.all isDg = true := by
    rw [List.all_eq_true]; intro c hc; obtain ⟨i, hi, rfl⟩ := List.mem_iff_getElem.1 hc; exact h i hi (by rw [size_listU] at hi; exact hi)
  have hl := size_listU s; by_cases h0 : s.size = 0
  · have : s.data.toList = [] := List.eq_nil_of_length_eq_zero (by omega)
    rw [this, h0]; rfl
  rw [decide_eq_true (by omega), ((isDigs_iff _).2 ⟨by omega, hall⟩)]
theorem digs_no (s : ByteArray) (j : Nat) (hj : j < s.size) (h : isDg s[j] = false) : false = isDigs s.data.toList := by
  cases hd : isDigs s.data.toList with
  | false => rfl
  | true =>
    have := List.all_eq_true.1 ((isDigs_iff _).1 hd).2 s.data.toList[j] (List.getElem_mem (by rw [size_listU]; exact hj)); have h2 : isDg s.data.toList[j] = false := h; rw [h2] at this; cases this
theorem r9_digits (s : ByteArray) (hs : s.size ≤ 100000000) (w : World) : Calls Tryz.prog 68 #[.string s] w fun r w' => r = .returned (.bool (isDigs s.data.toList)) ∧ w' = w := by
  have HE := Keep.mk (digs_end s); have HN := Keep.mk (fun j hj h => digs_no s j hj h); go_enter Tryz.func68, Tryz.ntmps68
  go_wp2_with fail
  go_loopg [3] s.size (fun gk i wr => ∃ j : Nat, j + gk = s.size ∧ i = .int .i64 j ∧ Keep (∀ i (h : i < s.data.toList.length), i < j → isDg s.data.toList[i] = true) ∧ w = wr)
  case atStart => exact ⟨0, by omega, rfl, ⟨fun _ _ h => absurd h (by omega)⟩, rfl⟩
  case round =>
    obtain ⟨j, hj, rfl, HD, rfl⟩ := hrel; by_cases hlt : j < s.size
    · have hgk : gk ≠ 0 := by omega
      have HC := Keep.mk (r9_digit s[j] w); cases hd : isDg s[j]
      · rw [hd] at HC
        have HR := Keep.mk (HN.out j hlt hd); clear hd HD HE HN; go_wp2_with fail
        refine HC.out.mono ?_; rintro r w1 ⟨rfl, rfl⟩; go_wp2
        go_ret
        exact ⟨retb HR.out, rfl⟩
      rw [hd] at HC; have HM := Keep.mk (tk_more hlt HD.out hd); clear hd HD; go_wp2_with fail
      refine HC.out.mono ?_; rintro r w1 ⟨rfl, rfl⟩; go_wp2
      go_roundg (gk - 1)
      case rel => exact ⟨j + 1, by omega, by go_num, HM, rfl⟩
      case measure => omega
    have hjs : j = s.size := by omega
    have HR := Keep.mk (HE.out (by rw [← hjs]; exact HD.out)); clear HD HE HN; go_wp2
    go_ret
    exact ⟨retb HR.out, rfl⟩
theorem name_iff (s : ByteArray) : isName s.data.toList = true ↔ 0 < s.size ∧ ∀ i (h : i < s.size), (if i = 0 then letF s[i] else nameC s[i]) = true := by
  by_cases h0 : s.size = 0
  · have : s.data.toList = [] := List.eq_nil_of_length_eq_zero (by rw [size_listU]; exact h0)
    rw [this]; exact ⟨fun h => (by cases h), fun h => (by omega)⟩
  obtain ⟨r, hr⟩ := head_at (s := s) (by omega); have hg : ∀ i (h : i < s.size), s[i] = s.data.toList[i]'(by rw [size_listU]; exact h) := fun _ _ => rfl
  have hl := size_listU s; rw [hr, List.length_cons] at hl; rw [hr]; simp only [isName, Bool.and_eq_true, List.all_eq_true]; refine ⟨fun ⟨h1, h2⟩ => ⟨by omega, fun i hi => ?_⟩, fun ⟨h1, h2⟩ => ⟨?_, fun c hc => ?_⟩⟩
  · by_cases hi0 : i = 0
    · subst hi0; exact h1
    rw [if_neg hi0, hg i hi]; obtain ⟨k, rfl⟩ : ∃ k, i = k + 1 := ⟨i - 1, by omega⟩
    have : s.data.toList[k + 1]'(by rw [size_listU]; exact hi) = r[k]'(by omega) := by simp [hr]
    rw [this]; exact h2 _ (List.getElem_mem _)
  · have := h2 0 h1
    simpa using this
  obtain ⟨k, hk, rfl⟩ := List.mem_iff_getElem.1 hc; have := h2 (k + 1) (by omega); rw [if_neg (by omega), hg (k + 1) (by omega)] at this; have e : s.data.toList[k + 1]'(by rw [size_listU]; omega) = r[k] := by simp [hr]
  rw [e] at this; exact this
theorem r9_Name (s : ByteArray) (hs : s.size ≤ 100000000) (w : World) : Calls Tryz.prog 56 #[.string s] w fun r w' => r = .returned (.bool (isName s.data.toList)) ∧ w' = w := by
  have HE := Keep.mk (fun (h : ∀ i (h : i < s.size), (if i = 0 then letF s[i] else nameC s[i]) = true) => show decide (0 < s.size) = isName s.data.toList by
    by_cases h0 : 0 < s.size
    · rw [decide_eq_true (by omega), (name_iff s).2 ⟨h0, h⟩]
    rw [decide_eq_false (by omega)]; cases hn : isName s.data.toList with
    | false => rfl
    | true => exact absurd ((name_iff s).1 hn).1 h0)
  have HN := Keep.mk (fun j (hj : j < s.size) (h : (if j = 0 then letF s[j] else nameC s[j]) = false) => show false = isName s.data.toList by
    cases hn : isName s.data.toList with
    | false => rfl
    | true => rw [((name_iff s).1 hn).2 j hj] at h; cases h)
  go_enter Tryz.func56, Tryz.ntmps56
  go_wp2_with fail
  go_loopg [3] s.size (fun gk i wr => ∃ j : Nat, j + gk = s.size ∧ i = .int .i64 j ∧ Keep (∀ i (h : i < s.size), i < j → (if i = 0 then letF s[i] else nameC s[i]) = true) ∧ w = wr)
  case atStart => exact ⟨0, by omega, rfl, ⟨fun _ _ h => absurd h (by omega)⟩, rfl⟩
  case round =>
    obtain ⟨j, hj, rfl, HD, rfl⟩ := hrel; by_cases hlt : j < s.size
    · have hgk : gk ≠ 0 := by omega
      have HC := Keep.mk (r9_letter s[j] w); have HC2 := Keep.mk (r9_digit s[j] w); have HM := Keep.mk (fun (h : (if j = 0 then letF s[j] else nameC s[j]) = true) i (hi : i < s.size) (hij : i < j + 1) => show (if i = 0 then letF s[i] else nameC s[i]) = true by
        by_cases h2 : i < j
        · exact HD.out i hi h2
        obtain rfl : i = j := by omega
        exact h)
      cases hl : letF s[j]
      · rw [hl] at HC
        by_cases hj0 : j = 0
        · have HR := Keep.mk (HN.out j hlt (by rw [if_pos hj0, hl]))
          subst hj0; clear hl HD HM HE HN HC2; go_wp2_with fail
          refine HC.out.mono ?_; rintro r w1 ⟨rfl, rfl⟩; go_wp2
          go_ret
          exact ⟨retb HR.out, rfl⟩
        have hjz : ¬ (j : Int) = 0 := by omega
        have hjb : ((j : Int) == 0) = false := by rw [beq_eq_false_iff_ne]; exact hjz
        cases hd : isDg s[j]
        · rw [hd] at HC2
          have HR := Keep.mk (HN.out j hlt (by rw [if_neg hj0]; unfold nameC; rw [hl, hd]; rfl)); clear hl hd HD HM HE HN hj0; go_wp2_with fail
          refine HC.out.mono ?_; rintro r w1 ⟨rfl, rfl⟩; go_wp2_with fail
          refine HC2.out.mono ?_; rintro r w2 ⟨rfl, rfl⟩; go_wp2
          go_ret
          exact ⟨retb HR.out, rfl⟩
        rw [hd] at HC2; have HM2 := Keep.mk (HM.out (by rw [if_neg hj0]; unfold nameC; rw [hl, hd]; rfl)); clear hl hd HD HM hj0; go_wp2_with fail
        refine HC.out.mono ?_; rintro r w1 ⟨rfl, rfl⟩; go_wp2_with fail
        refine HC2.out.mono ?_; rintro r w2 ⟨rfl, rfl⟩; go_wp2
        go_roundg (gk - 1)
        case rel => exact ⟨j + 1, by omega, by go_num, HM2, rfl⟩
        case measure => omega
      rw [hl] at HC; have HM2 := Keep.mk (HM.out (by by_cases h : j = 0; rw [if_pos h, hl]; rw [if_neg h]; unfold nameC; rw [hl]; rfl)); clear hl HD HM; go_wp2_with fail
      refine HC.out.mono ?_; rintro r w1 ⟨rfl, rfl⟩; go_wp2
      go_roundg (gk - 1)
      case rel => exact ⟨j + 1, by omega, by go_num, HM2, rfl⟩
      case measure => omega
    have hjs : j = s.size := by omega
    have HR := Keep.mk (HE.out (fun i hi => HD.out i hi (by omega))); clear HD HE HN; go_wp2
    go_ret
    exact ⟨retb HR.out, rfl⟩
theorem skip_go (L : List UInt8) (j : Nat) (nb : Bool) (c : UInt8) (h : L[j]? = some c) : skipN nb (L.drop j) = if nb = true ∨ blankC c = true ∨ c = 35 then 1 + skipN (decide ((nb = true ∨ c = 35) ∧ c ≠ 10)) (L.drop (j + 1)) else 0 := by
  obtain ⟨hl, he⟩ := List.getElem?_eq_some_iff.1 h; rw [List.drop_eq_getElem_cons hl, he]; rfl
theorem at_r9 (s : ByteArray) (a : Nat) (h : a < s.size) : s.data.toList[a]? = some s[a] := by
  rw [List.getElem?_eq_getElem (by rw [size_listU]; exact h)]; rfl
theorem r9_skip (s : ByteArray) (hs : s.size ≤ 100000000) (a : Nat) (ha : a ≤ s.size) (w : World) : Calls Tryz.prog 32 #[.string s, .int .i64 (a : Int)] w fun r w' => r = .returned (.int .i64 (skipA s.data.toList a : Int)) ∧ w' = w := by
  have HL := Keep.mk (size_listU s); have HA := Keep.mk (fun j h => at_r9 s j h); go_enter Tryz.func32, Tryz.ntmps32
  go_wp2_with fail
  go_loopg [1, 5] (s.size - a) (fun gk v1 v5 wr => ∃ (j : Nat) (nb : Bool), j + gk = s.size ∧ v1 = .int .i64 j ∧ v5 = .bool nb ∧ Keep (j + skipN nb (s.data.toList.drop j) = skipA s.data.toList a) ∧ w = wr)
  case atStart => exact ⟨a, false, by omega, rfl, rfl, ⟨rfl⟩, rfl⟩
  case round =>
    obtain ⟨j, nb, hj, rfl, rfl, HK, rfl⟩ := hrel; by_cases hlt : j < s.size
    · have hgk : gk ≠ 0 := by omega
      have hk := HK.out; rw [skip_go _ j nb s[j] (HA.out j hlt)] at hk; have stop : nb = false → blankC s[j] = false → ¬ s[j] = 35 → Keep (skipA s.data.toList a = j) := fun h1 h2 h3 => by
        rw [if_neg (by rw [h1, h2]; exact fun h => by rcases h with h | h | h; cases h; cases h; exact h3 h)] at hk; exact ⟨by omega⟩
      have more : (nb = true ∨ blankC s[j] = true ∨ s[j] = 35) → ∀ b, decide ((nb = true ∨ s[j] = 35) ∧ s[j] ≠ 10) = b → Keep (j + 1 + skipN b (s.data.toList.drop (j + 1)) = skipA s.data.toList a) := fun h b hb => by
        rw [if_pos h, hb] at hk; exact ⟨by omega⟩
      clear hk HK; by_cases h10 : s[j] = 10
      · have HM := more (Or.inr (Or.inl (by rw [h10]; rfl))) false (by simp [h10])
        have f10 : (s[j].toNat : Int) = 10 := by rw [h10]; rfl
        clear stop more h10; cases nb
        all_goals (
          go_wp2
          go_roundg (gk - 1)
          case rel => exact ⟨j + 1, false, by omega, by go_num, rfl, HM, rfl⟩
          case measure => omega)
      have f10 : ¬ (s[j].toNat : Int) = 10 := fun h => h10 (UInt8.toNat_inj.1 (by show s[j].toNat = 10; omega))
      have g10 : ((s[j].toNat : Int) == 10) = false := by rw [beq_eq_false_iff_ne]; exact f10
      by_cases h35 : s[j] = 35
      · have HM := more (Or.inr (Or.inr h35)) true (by simp [h35])
        have f35 : (s[j].toNat : Int) = 35 := by rw [h35]; rfl
        clear stop more h10 h35 f10 g10; cases nb
        all_goals (
          go_wp2
          go_roundg (gk - 1)
          case rel => exact ⟨j + 1, true, by omega, by go_num, rfl, HM, rfl⟩
          case measure => omega)
      have f35 : ¬ (s[j].toNat : Int) = 35 := fun h => h35 (UInt8.toNat_inj.1 (by show s[j].toNat = 35; omega))
      have g35 : ((s[j].toNat : Int) == 35) = false := by rw [beq_eq_false_iff_ne]; exact f35
      cases nb
      · cases hb : blankC s[j]
        · have HE := stop rfl hb h35
          have hnb : ¬ (s[j].toNat : Int) = 32 ∧ ¬ (s[j].toNat : Int) = 9 ∧ ¬ (s[j].toNat : Int) = 13 := by
            unfold blankC at hb; simp only [Bool.or_eq_false_iff, decide_eq_false_iff_not] at hb; omega
          obtain ⟨e1, e2, e3⟩ := hnb; have d1 : ((s[j].toNat : Int) == 32) = false := by rw [beq_eq_false_iff_ne]; exact e1
          have d2 : ((s[j].toNat : Int) == 9) = false := by rw [beq_eq_false_iff_ne]; exact e2
          have d3 : ((s[j].toNat : Int) == 13) = false := by rw [beq_eq_false_iff_ne]; exact e3
          clear stop more hb h10 h35; go_wp2
          go_ret
          exact ⟨by rw [HE.out]; rfl, rfl⟩
        have HM := more (Or.inr (Or.inl hb)) false (by simp [h35]); have hbb : (s[j].toNat : Int) = 32 ∨ (s[j].toNat : Int) = 9 ∨ (s[j].toNat : Int) = 13 := by
          unfold blankC at hb; simp only [Bool.or_eq_true, decide_eq_true_eq] at hb; omega
        clear stop more hb h10 h35 f10 f35 g10 g35; rcases hbb with e1 | e1 | e1
        all_goals (
          go_wp2
          go_roundg (gk - 1)
          case rel => exact ⟨j + 1, false, by omega, by go_num, rfl, HM, rfl⟩
          case measure => omega)
      have HM := more (Or.inl rfl) true (by simp [h10]); clear stop more h10 h35; go_wp2
      go_roundg (gk - 1)
      case rel => exact ⟨j + 1, true, by omega, by go_num, rfl, HM, rfl⟩
      case measure => omega
    have HE := Keep.mk (show skipA s.data.toList a = j by
      have := HK.out; rw [List.drop_eq_nil_of_le (by rw [HL.out]; omega)] at this; simp only [skipN] at this; omega)
    clear HK; go_wp2
    go_ret
    exact ⟨by rw [HE.out]; rfl, rfl⟩
end Go.Proofs.YtinknjhclpaieaaGreatDoor
namespace Th
open Go Go.Lib
def Cv {α : Type} (a : Nat → Option α) (b : Option α) : Prop := ∀ x, b = some x → ∃ f0, ∀ f, f0 ≤ f → a f = some x
theorem Cv.const {α : Type} (b : Option α) : Cv (fun _ => b) b := fun _ h => ⟨0, fun _ _ => h⟩
theorem Cv.ite {α : Type} {c : Prop} [Decidable c] {a a' : Nat → Option α} {b b' : Option α} (h1 : Cv a b) (h2 : Cv a' b') : Cv (fun f => if c then a f else a' f) (if c then b else b') := by
  by_cases hc : c
  · simp only [if_pos hc]; exact h1
  simp only [if_neg hc]; exact h2
theorem Cv.bind {α β : Type} {a : Nat → Option (PR α)} {b : Option (PR α)} {k : Nat → α → Nat → Option (PR β)} {k' : α → Nat → Option (PR β)} (h : Cv a b) (hk : ∀ n j, Cv (fun f => k f n j) (k' n j)) :
    Cv (fun f => bindP (a f) (k f)) (bindP b k') := by
  intro x hx; cases b with
  | none => cases hx
  | some p =>
    obtain ⟨f0, h0⟩ := h p rfl; cases p with
    | bad u v => exact ⟨f0, fun f hf => by simp only [h0 f hf]; exact hx⟩
    | ok n j =>
      obtain ⟨f1, h1⟩ := hk n j x hx; exact ⟨max f0 f1, fun f hf => by simp only [h0 f (by omega)]; exact h1 f (by omega)⟩
theorem Cv.want {β : Type} {E : Env} {i t : Nat} {s : ByteArray} {k : Nat → Nat → Option (PR β)} {k' : Nat → Option (PR β)} (hk : ∀ j, Cv (fun f => k f j) (k' j)) : Cv (fun f => wantP E i t s (k f)) (wantP E i t s k') := by
  unfold wantP; exact Cv.ite (hk _) (Cv.const _)
theorem Cv.kind {β : Type} {E : Env} {i t : Nat} {k : Nat → ByteArray → Nat → Option (PR β)} {k' : ByteArray → Nat → Option (PR β)} (hk : ∀ n j, Cv (fun f => k f n j) (k' n j)) : Cv (fun f => kindP E i t (k f)) (kindP E i t k') := by
  unfold kindP; exact Cv.ite (Cv.const _) (hk _ _)
theorem Cv.args {β : Type} {E : Env} {k : Nat → List ByteArray → Nat → Option (PR β)} {k' : List ByteArray → Nat → Option (PR β)} (hk : ∀ n j, Cv (fun f => k f n j) (k' n j)) : ∀ (n : Nat) (acc : List ByteArray) (i : Nat), Cv (fun f => argsP E (k f) n acc i) (argsP E k' n acc i) := by
  intro n; induction n with
  | zero => intro acc i; exact Cv.const _
  | succ n ih =>
    intro acc i; simp only [argsP]; exact Cv.ite (Cv.ite (ih _ _) (hk _ _)) (Cv.kind fun s j => Cv.ite (ih _ _) (hk _ _))
theorem step_Cv (r : Nat → Env → Job → Nat → Option (PR NJ)) (v : Env → Job → Nat → Option (PR NJ)) (h : ∀ E job i, Cv (fun f => r f E job i) (v E job i)) (E : Env) (job : Job) (i : Nat) : Cv (fun f => stepP (r f) E job i) (stepP v E job i) := by
  cases job with
  | parts texts filters places kids =>
    cases texts with
    | nil => exact Cv.const _
    | cons s texts =>
      cases filters with
      | nil => exact Cv.ite (Cv.const _) (h _ _ _)
      | cons g filters => exact Cv.ite (Cv.const _) (Cv.bind (h _ _ _) fun _ _ => h _ _ _)
  | _ =>
    simp only [stepP]; repeat' (first | exact Cv.const _ | exact h _ _ _ | refine Cv.bind ?_ ?_ | refine Cv.want ?_ | refine Cv.kind ?_ | refine Cv.args ?_ _ _ _ | refine Cv.ite ?_ ?_ | intro _)
theorem run_mono : ∀ (f : Nat) (E : Env) (job : Job) (i : Nat) (x : PR NJ), runP f E job i = some x → runP (f + 1) E job i = some x := by
  intro f; induction f with
  | zero => intro E job i x h; cases h
  | succ f ih =>
    intro E job i x h; -- a family that is runP f at first, runP (f + 1) from then on
    have key := step_Cv (fun _ => runP (f + 1)) (runP f) (fun E job i x hx => ⟨0, fun _ _ => ih E job i x hx⟩) E job i x h; obtain ⟨f0, h0⟩ := key; exact h0 f0 (Nat.le_refl _)
theorem run_le {f g : Nat} (h : f ≤ g) {E : Env} {job : Job} {i : Nat} {x : PR NJ} (hx : runP f E job i = some x) : runP g E job i = some x := by
  obtain ⟨k, rfl⟩ := Nat.exists_eq_add_of_le h; induction k with
  | zero => exact hx
  | succ k ih => exact run_mono _ _ _ _ _ (ih (by omega))
open Classical in
/-- what the parser tells with enough fuel -/
noncomputable def evP (E : Env) (job : Job) (i : Nat) : Option (PR NJ) := if h : ∃ x f, runP f E job i = some x then some h.choose else none
theorem evP_of {f : Nat} {E : Env} {job : Job} {i : Nat} {x : PR NJ} (h : runP f E job i = some x) : evP E job i = some x := by
  have he : ∃ x f, runP f E job i = some x := ⟨x, f, h⟩
  unfold evP; rw [dif_pos he]; obtain ⟨g, hg⟩ := he.choose_spec; have h1 := run_le (Nat.le_max_left f g) h; have h2 := run_le (Nat.le_max_right f g) hg; rw [h1] at h2; exact h2.symm
theorem of_evP {E : Env} {job : Job} {i : Nat} {x : PR NJ} (h : evP E job i = some x) : ∃ f, runP f E job i = some x := by
  unfold evP at h; split at h
  · rename_i he
    injection h with h; subst h; exact he.choose_spec
  cases h
theorem evP_Cv (E : Env) (job : Job) (i : Nat) : Cv (fun f => runP f E job i) (evP E job i) := fun _ h => by
  obtain ⟨f, hf⟩ := of_evP h; exact ⟨f, fun g hg => run_le hg hf⟩
theorem evP_step (E : Env) (job : Job) (i : Nat) : evP E job i = stepP evP E job i := by
  cases h : stepP evP E job i with
  | some x =>
    obtain ⟨f0, h0⟩ := step_Cv (fun f => runP f) evP evP_Cv E job i x h; exact evP_of (f := f0 + 1) (h0 f0 (Nat.le_refl _))
  | none =>
    cases h2 : evP E job i with
    | none => rfl
    | some x =>
      obtain ⟨f, hf⟩ := of_evP h2; cases f with
      | zero => cases hf
      | succ f =>
        have key := step_Cv (fun _ => evP) (runP f) (fun E job i x hx => ⟨0, fun _ _ => evP_of hx⟩) E job i x hf; obtain ⟨f0, h0⟩ := key; have := h0 f0 (Nat.le_refl _); rw [h] at this; cases this
end Th
namespace Th
open Go Go.Lib
def Bd {α : Type} (E : Env) (i : Nat) (o : Option (PR α)) : Prop := ∀ a j, o = some (.ok a j) → i ≤ j ∧ j ≤ E.l.length
theorem Bd.fail {α : Type} {E : Env} {i k e : Nat} : Bd (α := α) E i (failP E k e) := fun a j h => by cases h
theorem Bd.ok {α : Type} {E : Env} {i k : Nat} {n : α} (h1 : i ≤ k) (h2 : k ≤ E.l.length) : Bd E i (okP n k) := fun a j h => by cases h; exact ⟨h1, h2⟩
theorem Bd.up {α : Type} {E : Env} {i k : Nat} {o : Option (PR α)} (h1 : i ≤ k) (h : Bd E k o) : Bd E i o := fun a j hj => ⟨Nat.le_trans h1 (h a j hj).1, (h a j hj).2⟩
theorem Bd.bind {α β : Type} {E : Env} {i : Nat} {x : Option (PR α)} {f : α → Nat → Option (PR β)} (h : Bd E i x) (hf : ∀ a j, i ≤ j → j ≤ E.l.length → Bd E j (f a j)) : Bd E i (bindP x f) := by
  cases x with
  | none => intro a j h; cases h
  | some y =>
    cases y with
    | bad a e => intro a j h; cases h
    | ok n j => exact (hf n j (h n j rfl).1 (h n j rfl).2).up (h n j rfl).1
theorem tok_in {E : Env} {i : Nat} (h : (tokAt E i).kind ≠ 0) : i < E.l.length := by
  rcases Nat.lt_or_ge i E.l.length with h1 | h1
  · exact h1
  unfold tokAt at h; rw [List.getD_eq_getElem?_getD, List.getElem?_eq_none h1] at h; exact absurd rfl h
theorem isT_in {E : Env} {i k : Nat} {s : ByteArray} (hk : k ≠ 0) (h : isT E i k s) : i < E.l.length := tok_in (by rw [h.1]; exact hk)
theorem Bd.bindK {α β : Type} {E : Env} {i : Nat} {x : Option (PR α)} {f : α → Nat → Option (PR β)} (h : Bd E i x) (hf : ∀ a j, i ≤ j → j ≤ E.l.length → Bd E i (f a j)) : Bd E i (bindP x f) := by
  cases x with
  | none => intro a j h; cases h
  | some y =>
    cases y with
    | bad a e => intro a j h; cases h
    | ok n j => exact hf n j (h n j rfl).1 (h n j rfl).2
theorem Bd.want {β : Type} {E : Env} {i p k : Nat} {s : ByteArray} {f : Nat → Option (PR β)} (hk : k ≠ 0) (h : p + 1 ≤ E.l.length → Bd E i (f (p + 1))) : Bd E i (wantP E p k s f) := by
  unfold wantP; split
  · rename_i hT; exact h (isT_in hk hT)
  exact Bd.fail
theorem Bd.kind {β : Type} {E : Env} {i p k : Nat} {f : ByteArray → Nat → Option (PR β)} (hk : k ≠ 0) (h : ∀ s, p + 1 ≤ E.l.length → Bd E i (f s (p + 1))) : Bd E i (kindP E p k f) := by
  unfold kindP; split
  · exact Bd.fail
  rename_i hT
  exact h _ (tok_in (fun h0 => hT (Or.inl (by rw [h0]; exact Ne.symm hk))))
theorem Bd.isT {β : Type} {E : Env} {i p k : Nat} {s : ByteArray} {x y : Option (PR β)} (hk : k ≠ 0) (h : p + 1 ≤ E.l.length → Bd E i x) (h2 : Bd E i y) : Bd E i (if Th.isT E p k s then x else y) := by
  split
  · rename_i hT; exact h (isT_in hk hT)
  exact h2
theorem Bd.tok {β : Type} {E : Env} {i p k : Nat} {x y : Option (PR β)} (hk : k ≠ 0) (h : p + 1 ≤ E.l.length → Bd E i x) (h2 : Bd E i y) : Bd E i (if (tokAt E p).kind = k then x else y) := by
  split
  · rename_i hT; exact h (tok_in (by rw [hT]; exact hk))
  exact h2
theorem strength_in {E : Env} {i : Nat} (h : strength (tokAt E i) ≠ 0) : i < E.l.length := tok_in fun h0 => h (by unfold strength; rw [if_neg (by omega), if_pos (by omega)])
def JobIn (E : Env) (i : Nat) : Job → Prop
  | .sign _ => i < E.l.length
  | .word _ => i < E.l.length
  | .parts _ _ _ _ => i < E.l.length
  | _ => i ≤ E.l.length
theorem args_bd {β : Type} (E : Env) (b : Nat) (k : List ByteArray → Nat → Option (PR β)) (hk : ∀ a j, b ≤ j → j ≤ E.l.length → Bd E b (k a j)) : ∀ (n : Nat) (acc : List ByteArray) (i : Nat), b ≤ i → i ≤ E.l.length → Bd E b (argsP E k n acc i) := by
  intro n; induction n with
  | zero => intro acc i _ _ a j h; cases h
  | succ n ih =>
    intro acc i hb hi; simp only [argsP]; refine Bd.tok (by decide) (fun h => Bd.isT (by decide) (fun h2 => ih _ _ (by omega) h2) (hk _ _ (by omega) h)) (Bd.kind (by decide) fun s h => Bd.isT (by decide) (fun h2 => ih _ _ (by omega) h2) (hk _ _ (by omega) h))
theorem bd_all : ∀ (f : Nat) (E : Env) (job : Job) (i : Nat), JobIn E i job → Bd E i (runP f E job i) := by
  intro f; induction f with
  | zero => intro E job i _ a j h; cases h
  | succ f ih =>
    intro E job i hi; have run : ∀ job i, JobIn E i job → Bd E i (runP f E job i) := ih E
    cases job <;> simp only [JobIn] at hi <;> simp only [runP, stepP]
    case parts texts filters places kids =>
      cases texts with
      | nil => exact Bd.ok (Nat.le_succ i) hi
      | cons t texts =>
        simp only; split
        · exact Bd.fail
        cases filters with
        | nil => exact run (.parts _ _ _ _) _ hi
        | cons g filters =>
          simp only; intro a j h; cases hx : runP f (envOf g (E.base + (tokAt E i).at_ + places.headD 0)) .whole 0 with
          | none => rw [hx] at h; cases h
          | some y =>
            rw [hx] at h; cases y with
            | bad a e => cases h
            | ok n j2 => exact run (.parts _ _ _ _) _ hi a j h
    case binLoop least top n =>
      by_cases h0 : strength (tokAt E i) < least ∨ top < strength (tokAt E i) ∨ strength (tokAt E i) = 0
      · rw [if_pos h0]; exact Bd.ok (Nat.le_refl i) hi
      rw [if_neg h0]; have hlt := strength_in (E := E) (i := i) (fun h => h0 (Or.inr (Or.inr h))); refine Bd.up (Nat.le_succ i) ?_; repeat' split
      all_goals exact Bd.bind (run _ _ hlt) fun a j _ h => run _ _ h
    case quoted =>
      split
      · exact Bd.fail
      rename_i hq; exact run (.parts _ _ _ _) _ (tok_in fun h0 => hq (by rw [h0]; decide))
    all_goals (repeat' first
      | with_reducible exact Bd.fail
      | (with_reducible refine Bd.ok ?_ ?_ <;> omega)
      | (with_reducible refine Bd.want (by decide) fun _ => ?_)
      | (with_reducible refine Bd.kind (by decide) fun _ _ => ?_)
      | (with_reducible refine Bd.isT (by decide) (fun _ => ?_) ?_)
      | (with_reducible refine Bd.tok (by decide) (fun _ => ?_) ?_)
      | (with_reducible refine Bd.bindK ?_ fun _ _ _ _ => ?_)
      | (with_reducible refine args_bd _ _ _ (fun _ _ _ _ => ?_) _ _ _ ?_ ?_ <;> try omega)
      | (with_reducible refine Bd.up ?_ (run _ _ ?_) <;> (try simp only [JobIn]) <;> omega)
      | split)
end Th
namespace Th
open Go Go.Lib
theorem oneG_at (L : List UInt8) (quote : Nat → Nat × Nat) (a : Nat) (ha : a ≤ L.length) : (oneG L quote a).1.at_ + (oneG L quote a).1.text.size ≤ L.length := by
  unfold oneG; cases hd : L.drop a with
  | nil => exact Nat.zero_le _
  | cons c r =>
    have hlen : (c :: r).length = L.length - a := by rw [← hd, List.length_drop]
    dsimp only; split
    · split
      · exact Nat.zero_le _
      show a + ByteArray.size _ ≤ _
      rw [bytes_size, List.length_take]; omega
    split
    · exact Nat.zero_le _
    show a + ByteArray.size _ ≤ _
    rw [bytes_size, List.length_drop, List.length_take]; omega
theorem oneF_at (L : List UInt8) (d a : Nat) (ha : a ≤ L.length) : (oneF L d a).1.at_ + (oneF L d a).1.text.size ≤ L.length := by
  rw [oneF_eq]; exact oneG_at _ _ _ (skipA_le L a ha).2
theorem scanGo_at (L : List UInt8) : ∀ (n a : Nat) (acc : List Tf), a ≤ L.length → (∀ t ∈ acc, t.at_ + t.text.size ≤ L.length) → ∀ t ∈ (scanGo L n a acc).1, t.at_ + t.text.size ≤ L.length := by
  intro n; induction n with
  | zero => intro a acc _ h; exact h
  | succ n ih =>
    intro a acc ha h; simp only [scanGo]; split
    · intro t ht; cases ht
    split
    · exact h
    refine ih _ _ (oneF_ok L 48 a ha).le fun t ht => ?_
    rcases List.mem_append.1 ht with ht | ht
    · exact h t ht
    rw [List.mem_singleton.1 ht]; exact oneF_at L 48 a ha
theorem scanF_at (L : List UInt8) : ∀ t ∈ (scanF L).1, t.at_ + t.text.size ≤ L.length := by
  unfold scanF; split
  · intro t ht; cases ht
  exact scanGo_at L _ _ _ (Nat.zero_le _) (fun t ht => by cases ht)
theorem count_sum : ∀ (l : List Tf), (∀ t ∈ l, 1 ≤ t.text.size) → l.length ≤ sumT l
  | [], _ => Nat.zero_le _
  | t :: r, h => by
    have h1 := h t List.mem_cons_self; have h2 := count_sum r fun x hx => h x (List.mem_cons_of_mem _ hx)
    have h3 : sumT (t :: r) = t.text.size + sumT r := by unfold sumT; rw [List.map_cons, List.sum_cons]
    rw [List.length_cons, h3]; omega
theorem scanF_len (L : List UInt8) : (scanF L).1.length ≤ L.length := Nat.le_trans (count_sum _ (scanF_sum L).2) (scanF_sum L).1
structure PrtOk (n : Nat) (r : PartsR) : Prop where
  len : r.places.length = r.filters.length
  tx : ∀ t ∈ r.texts, t.length ≤ n
  pl : ∀ p ∈ r.places.zip r.filters, p.1 + p.2.length ≤ n
theorem partsGo_ok (L : List UInt8) (one : Nat → Tf × Nat × Nat) : ∀ (n f a : Nat) (r : PartsR), PrtOk L.length r → PrtOk L.length (partsGo L one n f a r) := by
  have hl : ∀ (r : PartsR) (x y : Nat), PrtOk L.length r → ∀ t ∈ r.texts ++ [(L.take x).drop y], t.length ≤ L.length := by
    intro r x y h t ht; rcases List.mem_append.1 ht with ht | ht
    · exact h.tx t ht
    rw [List.mem_singleton.1 ht, List.length_drop, List.length_take]; omega
  intro n; induction n with
  | zero => intro f a r h; exact ⟨h.len, hl r _ _ h, h.pl⟩
  | succ n ih =>
    intro f a r h; simp only [partsGo]; split
    · exact ⟨h.len, hl r _ _ h, h.pl⟩
    split
    · exact ih _ _ _ h
    split
    · exact ih _ _ _ h
    rename_i h1 h2 h3
    refine ih _ _ _ ⟨?_, hl r _ _ h, ?_⟩
    · rw [List.length_append, List.length_append, h.len]; rfl
    intro p hp; have h40 : L[a + 1]? = some 40 := Decidable.of_not_not h3; have hlt := (List.getElem?_eq_some_iff.1 h40).1; rw [List.zip_append h.len] at hp; rcases List.mem_append.1 hp with hp | hp
    · exact h.pl p hp
    rw [List.zip_cons_cons, List.zip_nil_left, List.mem_singleton] at hp; rw [hp]; show a + 2 + List.length _ ≤ _
    rw [List.length_drop, List.length_take]; omega
theorem partsF_ok (q : List UInt8) : PrtOk q.length (partsF q).1 := by
  unfold partsF; split
  · exact partsGo_ok q _ _ _ _ _ ⟨rfl, fun t ht => (by cases ht), fun p hp => (by cases hp)⟩
  exact ⟨rfl, fun t ht => (by cases ht), fun p hp => (by cases hp)⟩
theorem PrtOk.at_ {n : Nat} {r : PartsR} (h : PrtOk n r) {k : Nat} (hf : k < r.filters.length) : ∃ hp : k < r.places.length, r.places[k] + r.filters[k].length ≤ n := by
  have hp : k < r.places.length := by rw [h.len]; exact hf
  refine ⟨hp, ?_⟩; have := h.pl (r.places[k], r.filters[k]) (by
    have hz : k < (r.places.zip r.filters).length := by rw [List.length_zip]; omega
    have := List.getElem_mem hz; rwa [List.getElem_zip] at this)
  exact this
end Th
namespace Go.Proofs.YtinknjhclpaieaaGreatDoor
open Go Go.RowKit Go.Proofs Th
attribute [local go_sem] Above.cell
def signsK : List UInt8 := [32, 124, 61, 32, 43, 61, 32, 45, 61, 32, 42, 61, 32, 47, 61, 32, 61, 61, 32, 33, 61, 32, 60, 61, 32, 62, 61, 32, 47, 47, 32, 46, 46, 32]
theorem signs_has : ∀ l ∈ twoL, Lib.contains signsK (32 :: l ++ [32]) = true := by decide +kernel
def four (l : List UInt8) : Bool := match l with
  | a :: b :: c :: d :: _ => decide (a = 32 ∧ d = 32 ∧ b ≠ 32 ∧ c ≠ 32 → [b, c] ∈ twoL)
  | _ => true
theorem signs_only : ∀ i, i < 35 → four (signsK.drop i) = true := by decide +kernel
theorem signs_iff (b c : UInt8) (hb : b ≠ 32) (hc : c ≠ 32) : Lib.contains signsK [32, b, c, 32] = decide ([b, c] ∈ twoL) := by
  by_cases h : [b, c] ∈ twoL
  · rw [decide_eq_true h]; exact signs_has _ h
  rw [decide_eq_false h]; unfold Lib.contains; rw [decide_eq_false_iff_not]; intro h0; rcases Lib.index_spec signsK [32, b, c, 32] with ⟨h1, _⟩ | ⟨i, h1, h2, h3, _⟩
  · rw [h1] at h0; exact absurd h0 (by decide)
  have h4 := signs_only i (by have : signsK.length = 34 := rfl; omega); unfold Lib.occAt at h3; have h5 := List.isPrefixOf_iff_prefix.1 h3; obtain ⟨t, ht⟩ := h5; rw [← ht] at h4; exact h (of_decide_eq_true h4 ⟨rfl, rfl, hb, hc⟩)
theorem one_index (c : UInt8) : decide (0 ≤ Lib.indexByte oneL c) = decide (c ∈ oneL) := by
  have : ∀ n, n < 256 → decide (0 ≤ Lib.indexByte oneL (UInt8.ofNat n)) = decide (UInt8.ofNat n ∈ oneL) := by decide +kernel
  have h := this c.toNat c.toNat_lt; simpa using h
theorem sign_three (l : List UInt8) (h : Lib.hasPrefix l [47, 47, 61] = true) : signN l = 3 := by
  obtain ⟨t, ht⟩ := List.isPrefixOf_iff_prefix.1 h; unfold signN; rw [if_pos (by rw [← ht]; rfl)]
theorem sign_less (l : List UInt8) (h : Lib.hasPrefix l [47, 47, 61] = false) : ¬ l.take 3 = [47, 47, 61] := by
  intro h2; have : Lib.hasPrefix l [47, 47, 61] = true := List.isPrefixOf_iff_prefix.2 ⟨l.drop 3, by rw [← h2, List.take_append_drop]⟩; rw [h] at this; cases this
theorem sign_two {l : List UInt8} (h3 : ¬ l.take 3 = [47, 47, 61]) (h : l.take 2 ∈ twoL) : signN l = 2 := by unfold signN; rw [if_neg h3, if_pos h]
theorem sign_one {c : UInt8} {r : List UInt8} (h3 : ¬ (c :: r).take 3 = [47, 47, 61]) (h : ¬ (c :: r).take 2 ∈ twoL) : signN (c :: r) = if c ∈ oneL then 1 else 0 := by unfold signN; rw [if_neg h3, if_neg h]
theorem two_no32 : ∀ l ∈ twoL, ∀ c ∈ l, c ≠ 32 := by decide
theorem head_two {s : ByteArray} (h : 1 < s.size) : ∃ r, s.data.toList = s[0] :: s[1] :: r := by
  obtain ⟨r, hr⟩ := head_at (s := s) (by omega); have hl := size_listU s; rw [hr, List.length_cons] at hl; cases hr2 : r with
  | nil => rw [hr2] at hl; simp at hl; omega
  | cons d x =>
    refine ⟨x, ?_⟩; have : s[1] = s.data.toList[1]'(by rw [size_listU]; exact h) := rfl; rw [hr, hr2, this]; congr 2
    simp [hr, hr2]
theorem idx_byte (c : UInt8) (w : World) : Calls Tryz.prog 42 #[.string ⟨#[124, 44, 46, 91, 93, 40, 41, 123, 125, 58, 59, 61, 60, 62, 43, 45, 42, 47, 37, 63]⟩, .int .u8 c.toNat] w fun r w' => ∃ z : Int, r = .returned (.int .i64 z) ∧ w' = w ∧ (0 ≤ z ↔ c ∈ oneL) := by
  refine (Tryz.strings_IndexByte ⟨#[124, 44, 46, 91, 93, 40, 41, 123, 125, 58, 59, 61, 60, 62, 43, 45, 42, 47, 37, 63]⟩ (c.toNat : Int) w).mono ?_; rintro r w' ⟨rfl, rfl⟩; refine ⟨_, rfl, rfl, ?_⟩; have h := one_index c; have e : ((c.toNat : Int)).toNat.toUInt8 = c := by simp
  rw [e]; show 0 ≤ Lib.indexByte oneL c ↔ _
  rw [decide_eq_decide] at h; exact h
theorem cat_two {s : ByteArray} (h1 : 1 < s.size) : (⟨#[32]⟩ ++ s.extract 0 2 ++ ⟨#[32]⟩ : ByteArray).data.toList = ([32, s[0], s[1], 32] : List UInt8) := by
  obtain ⟨r1, hr1⟩ := head_two h1; rw [ba_append, ba_append, bx_from, hr1]; rfl
def sgB : ByteArray := ⟨#[32, 124, 61, 32, 43, 61, 32, 45, 61, 32, 42, 61, 32, 47, 61, 32, 61, 61, 32, 33, 61, 32, 60, 61, 32, 62, 61, 32, 47, 47, 32, 46, 46, 32]⟩
theorem sgB_size : sgB.size = 34 := rfl
theorem sgB_list : sgB.data.toList = signsK := rfl
theorem has_two {s : ByteArray} (h1 : 1 < s.size) (w : World) (m : Int) (hm : w.cell? ⟨0, 0, none⟩ = some (.int .i64 m)) :
    Calls Tryz.prog 46 #[.string sgB, .string (⟨#[32]⟩ ++ s.extract 0 2 ++ ⟨#[32]⟩)] w fun e w' => e = .returned (.bool (Lib.contains signsK ([32, s[0], s[1], 32] : List UInt8))) ∧ w' = w := by
  have hz : sgB.size < 4294967281 := by rw [sgB_size]; decide
  have hl := sgB_list; have hc := cat_two h1; generalize sgB = z at *; generalize (⟨#[32]⟩ ++ s.extract 0 2 ++ ⟨#[32]⟩ : ByteArray) = y at *; have h := Tryz.strings_Contains z y m w hz hm; rw [hl, hc] at h; exact h
theorem pre_three (s : ByteArray) (b : Bool) (hp : Lib.hasPrefix s.data.toList [47, 47, 61] = b) (w : World) : Calls Tryz.prog 43 #[.string s, .string ⟨#[47, 47, 61]⟩] w fun e w' => e = .returned (.bool b) ∧ w' = w := by
  refine (Tryz.strings_HasPrefix s ⟨#[47, 47, 61]⟩ w).mono ?_; rintro r w' ⟨rfl, rfl⟩; exact ⟨congrArg (fun x => Ending.returned (.bool x)) hp, rfl⟩
theorem ne32 {c : UInt8} (h : c ≠ 32) : ¬ (c.toNat : Int) = 32 := by
  intro h2; apply h; apply UInt8.toNat_inj.1; show c.toNat = 32; omega
theorem sign_slash (s : ByteArray) (w : World) (hp : Lib.hasPrefix s.data.toList [47, 47, 61] = true) : Calls Tryz.prog 28 #[.string s] w fun r w' => r = .returned (.int .i64 (signN s.data.toList : Int)) ∧ w' = w := by
  have HP2 := Keep.mk (pre_three s true hp w); have HN := Keep.mk (sign_three _ hp); clear hp; go_enter Tryz.func28, Tryz.ntmps28
  go_wp2_with fail
  refine HP2.out.mono ?_; rintro r w1 ⟨rfl, rfl⟩; go_wp2
  go_ret
  exact ⟨by rw [HN.out]; rfl, rfl⟩
theorem sign_short (s : ByteArray) (h0 : 0 < s.size) (w : World) (h1 : ¬ 1 < s.size) (hp : Lib.hasPrefix s.data.toList [47, 47, 61] = false)
    (hN : signN s.data.toList = if s[0] ∈ oneL then 1 else 0) : Calls Tryz.prog 28 #[.string s] w fun r w' => r = .returned (.int .i64 (signN s.data.toList : Int)) ∧ w' = w := by
  have HP2 := Keep.mk (pre_three s false hp w); have HI := Keep.mk (idx_byte s[0] w); by_cases ho : s[0] ∈ oneL
  · have HN2 := Keep.mk (show signN s.data.toList = 1 by rw [hN, if_pos ho])
    have HI2 := Keep.mk (show Calls Tryz.prog 42 #[.string ⟨#[124, 44, 46, 91, 93, 40, 41, 123, 125, 58, 59, 61, 60, 62, 43, 45, 42, 47, 37, 63]⟩, .int .u8 s[0].toNat] w fun r w' => ∃ z : Int, r = .returned (.int .i64 z) ∧ 0 ≤ z ∧ w' = w from HI.out.mono fun r w' ⟨z, h1, h2, h3⟩ => ⟨z, h1, h3.2 ho, h2⟩); clear HI ho hN hp; go_enter Tryz.func28, Tryz.ntmps28
    go_wp2_with fail
    refine HP2.out.mono ?_; rintro r w1 ⟨rfl, rfl⟩; go_wp2_with fail
    refine HI2.out.mono ?_; rintro r w2 ⟨z, rfl, hz, rfl⟩; go_wp2
    go_ret
    exact ⟨by rw [HN2.out]; rfl, rfl⟩
  have HN2 := Keep.mk (show signN s.data.toList = 0 by rw [hN, if_neg ho]); have HI2 := Keep.mk (show Calls Tryz.prog 42 #[.string ⟨#[124, 44, 46, 91, 93, 40, 41, 123, 125, 58, 59, 61, 60, 62, 43, 45, 42, 47, 37, 63]⟩, .int .u8 s[0].toNat] w fun r w' => ∃ z : Int, r = .returned (.int .i64 z) ∧ z < 0 ∧ w' = w from HI.out.mono fun r w' ⟨z, h1, h2, h3⟩ => ⟨z, h1, by rcases Int.lt_or_le z 0 with h | h; exact h; exact absurd (h3.1 h) ho, h2⟩); clear HI ho hN hp; go_enter Tryz.func28, Tryz.ntmps28
  go_wp2_with fail
  refine HP2.out.mono ?_; rintro r w1 ⟨rfl, rfl⟩; go_wp2_with fail
  refine HI2.out.mono ?_; rintro r w2 ⟨z, rfl, hz, rfl⟩; go_wp2
  go_ret
  exact ⟨by rw [HN2.out]; rfl, rfl⟩
theorem sign_miss (s : ByteArray) (h1 : 1 < s.size) (w : World) (m : Int) (hm : w.cell? ⟨0, 0, none⟩ = some (.int .i64 m)) (hb : Lib.contains signsK ([32, s[0], s[1], 32] : List UInt8) = false) (hp : Lib.hasPrefix s.data.toList [47, 47, 61] = false)
    (hN : signN s.data.toList = if s[0] ∈ oneL then 1 else 0) : Calls Tryz.prog 28 #[.string s] w fun r w' => r = .returned (.int .i64 (signN s.data.toList : Int)) ∧ w' = w := by
  have HP2 := Keep.mk (pre_three s false hp w); have HI := Keep.mk (idx_byte s[0] w); have HC := Keep.mk (has_two h1 w m hm); rw [hb] at HC; by_cases ho : s[0] ∈ oneL
  · have HN2 := Keep.mk (show signN s.data.toList = 1 by rw [hN, if_pos ho])
    have HI2 := Keep.mk (show Calls Tryz.prog 42 #[.string ⟨#[124, 44, 46, 91, 93, 40, 41, 123, 125, 58, 59, 61, 60, 62, 43, 45, 42, 47, 37, 63]⟩, .int .u8 s[0].toNat] w fun r w' => ∃ z : Int, r = .returned (.int .i64 z) ∧ 0 ≤ z ∧ w' = w from HI.out.mono fun r w' ⟨z, h1, h2, h3⟩ => ⟨z, h1, h3.2 ho, h2⟩); clear HI ho hN hp hb hm; go_enter Tryz.func28, Tryz.ntmps28
    go_wp2_with fail
    refine HP2.out.mono ?_; rintro r w1 ⟨rfl, rfl⟩; go_wp2_with fail
    refine HC.out.mono ?_; rintro r w3 ⟨rfl, rfl⟩; go_wp2_with fail
    refine HI2.out.mono ?_; rintro r w2 ⟨z, rfl, hz, rfl⟩; go_wp2
    go_ret
    exact ⟨by rw [HN2.out]; rfl, rfl⟩
  have HN2 := Keep.mk (show signN s.data.toList = 0 by rw [hN, if_neg ho]); have HI2 := Keep.mk (show Calls Tryz.prog 42 #[.string ⟨#[124, 44, 46, 91, 93, 40, 41, 123, 125, 58, 59, 61, 60, 62, 43, 45, 42, 47, 37, 63]⟩, .int .u8 s[0].toNat] w fun r w' => ∃ z : Int, r = .returned (.int .i64 z) ∧ z < 0 ∧ w' = w from HI.out.mono fun r w' ⟨z, h1, h2, h3⟩ => ⟨z, h1, by rcases Int.lt_or_le z 0 with h | h; exact h; exact absurd (h3.1 h) ho, h2⟩); clear HI ho hN hp hb hm; go_enter Tryz.func28, Tryz.ntmps28
  go_wp2_with fail
  refine HP2.out.mono ?_; rintro r w1 ⟨rfl, rfl⟩; go_wp2_with fail
  refine HC.out.mono ?_; rintro r w3 ⟨rfl, rfl⟩; go_wp2_with fail
  refine HI2.out.mono ?_; rintro r w2 ⟨z, rfl, hz, rfl⟩; go_wp2
  go_ret
  exact ⟨by rw [HN2.out]; rfl, rfl⟩
theorem sign_blank (s : ByteArray) (h1 : 1 < s.size) (w : World) (m : Int) (hm : w.cell? ⟨0, 0, none⟩ = some (.int .i64 m)) (hb : Lib.contains signsK ([32, s[0], s[1], 32] : List UInt8) = true) (h32 : s[0] ≠ 32) (h132 : s[1] = 32) (hp : Lib.hasPrefix s.data.toList [47, 47, 61] = false)
    (hN : signN s.data.toList = if s[0] ∈ oneL then 1 else 0) : Calls Tryz.prog 28 #[.string s] w fun r w' => r = .returned (.int .i64 (signN s.data.toList : Int)) ∧ w' = w := by
  have HP2 := Keep.mk (pre_three s false hp w); have HI := Keep.mk (idx_byte s[0] w); have HC := Keep.mk (has_two h1 w m hm); rw [hb] at HC; have b032 := ne32 h32; have b132 : (s[1].toNat : Int) = 32 := by rw [h132]; rfl
  by_cases ho : s[0] ∈ oneL
  · have HN2 := Keep.mk (show signN s.data.toList = 1 by rw [hN, if_pos ho])
    have HI2 := Keep.mk (show Calls Tryz.prog 42 #[.string ⟨#[124, 44, 46, 91, 93, 40, 41, 123, 125, 58, 59, 61, 60, 62, 43, 45, 42, 47, 37, 63]⟩, .int .u8 s[0].toNat] w fun r w' => ∃ z : Int, r = .returned (.int .i64 z) ∧ 0 ≤ z ∧ w' = w from HI.out.mono fun r w' ⟨z, h1, h2, h3⟩ => ⟨z, h1, h3.2 ho, h2⟩); clear HI ho hN hp hb hm h32 h132; go_enter Tryz.func28, Tryz.ntmps28
    go_wp2_with fail
    refine HP2.out.mono ?_; rintro r w1 ⟨rfl, rfl⟩; go_wp2_with fail
    refine HC.out.mono ?_; rintro r w3 ⟨rfl, rfl⟩; go_wp2_with fail
    refine HI2.out.mono ?_; rintro r w2 ⟨z, rfl, hz, rfl⟩; go_wp2
    go_ret
    exact ⟨by rw [HN2.out]; rfl, rfl⟩
  have HN2 := Keep.mk (show signN s.data.toList = 0 by rw [hN, if_neg ho]); have HI2 := Keep.mk (show Calls Tryz.prog 42 #[.string ⟨#[124, 44, 46, 91, 93, 40, 41, 123, 125, 58, 59, 61, 60, 62, 43, 45, 42, 47, 37, 63]⟩, .int .u8 s[0].toNat] w fun r w' => ∃ z : Int, r = .returned (.int .i64 z) ∧ z < 0 ∧ w' = w from HI.out.mono fun r w' ⟨z, h1, h2, h3⟩ => ⟨z, h1, by rcases Int.lt_or_le z 0 with h | h; exact h; exact absurd (h3.1 h) ho, h2⟩); clear HI ho hN hp hb hm h32 h132; go_enter Tryz.func28, Tryz.ntmps28
  go_wp2_with fail
  refine HP2.out.mono ?_; rintro r w1 ⟨rfl, rfl⟩; go_wp2_with fail
  refine HC.out.mono ?_; rintro r w3 ⟨rfl, rfl⟩; go_wp2_with fail
  refine HI2.out.mono ?_; rintro r w2 ⟨z, rfl, hz, rfl⟩; go_wp2
  go_ret
  exact ⟨by rw [HN2.out]; rfl, rfl⟩
theorem sign_both (s : ByteArray) (h1 : 1 < s.size) (w : World) (m : Int) (hm : w.cell? ⟨0, 0, none⟩ = some (.int .i64 m)) (hb : Lib.contains signsK ([32, s[0], s[1], 32] : List UInt8) = true) (h32 : s[0] ≠ 32) (h132 : s[1] ≠ 32) (hp : Lib.hasPrefix s.data.toList [47, 47, 61] = false)
    (hN : signN s.data.toList = 2) : Calls Tryz.prog 28 #[.string s] w fun r w' => r = .returned (.int .i64 (signN s.data.toList : Int)) ∧ w' = w := by
  have HP2 := Keep.mk (pre_three s false hp w); have HC := Keep.mk (has_two h1 w m hm); rw [hb] at HC; have b032 := ne32 h32; have b132 := ne32 h132; have c032 : ((s[0].toNat : Int) != 32) = true := by rw [bne_iff_ne]; exact b032
  have c132 : ((s[1].toNat : Int) != 32) = true := by rw [bne_iff_ne]; exact b132
  have HN := Keep.mk hN; clear hb hm h32 h132 hp hN; go_enter Tryz.func28, Tryz.ntmps28
  go_wp2_with fail
  refine HP2.out.mono ?_; rintro r w1 ⟨rfl, rfl⟩; go_wp2_with fail
  refine HC.out.mono ?_; rintro r w3 ⟨rfl, rfl⟩; go_wp2
  go_ret
  exact ⟨by rw [HN.out]; rfl, rfl⟩
theorem tok_sign (s : ByteArray) (h0 : 0 < s.size) (h32 : s[0] ≠ 32) (w : World) (m : Int) (hm : w.cell? ⟨0, 0, none⟩ = some (.int .i64 m)) : Calls Tryz.prog 28 #[.string s] w fun r w' => r = .returned (.int .i64 (signN s.data.toList : Int)) ∧ w' = w := by
  cases hp : Lib.hasPrefix s.data.toList [47, 47, 61]
  · have h3 := sign_less _ hp
    obtain ⟨r0, hr0⟩ := head_at h0; have H1 : ¬ s.data.toList.take 2 ∈ twoL → signN s.data.toList = if s[0] ∈ oneL then 1 else 0 := fun h2 => by rw [hr0] at h3 h2 ⊢; exact sign_one h3 h2
    by_cases h1 : 1 < s.size
    · obtain ⟨r1, hr1⟩ := head_two h1
      have htk : s.data.toList.take 2 = [s[0], s[1]] := by rw [hr1]; rfl
      cases hb : Lib.contains signsK ([32, s[0], s[1], 32] : List UInt8)
      · refine sign_miss s h1 w m hm hb hp (H1 fun h => ?_)
        rw [htk] at h; have := signs_has _ h; have this : Lib.contains signsK ([32, s[0], s[1], 32] : List UInt8) = true := this; rw [hb] at this; cases this
      by_cases h132 : s[1] = 32
      · exact sign_blank s h1 w m hm hb h32 h132 hp (H1 fun h => by rw [htk] at h; exact two_no32 _ h s[1] (by simp) h132)
      refine sign_both s h1 w m hm hb h32 h132 hp (sign_two h3 ?_); rw [htk]; rw [signs_iff _ _ h32 h132] at hb; exact of_decide_eq_true hb
    exact sign_short s h0 w h1 hp (H1 fun h => by
      have := (two_head _ h).1; rw [List.length_take, size_listU] at this; omega)
  exact sign_slash s w hp
end Go.Proofs.YtinknjhclpaieaaGreatDoor
