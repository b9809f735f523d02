/- Lemmas and contracts for the laws SyntaxBrackets, SyntaxJoins, SyntaxSides, part 20 of 44: SynSg. Conditions: those that each lemma names. -/
import Derived.Test.YtnhnpahoppbniaaDoorPb18
namespace Th
open Go Go.Lib
theorem PS.of_bad {L : List UInt8} {n : NJ} {a e a' e' : Nat} {l : List Tf} (h : PS L n a e) (hs : scanF L = (l, 0, 0)) (hb : evP (envOf L 0) .whole 0 = some (.bad a' e')) : e = e' := by
  have no : ∀ n, ¬ Flt L n := fun n hn => by obtain ⟨j, hj⟩ := whole_flt hn; rw [hj] at hb; cases hb
  cases h with
  | ok h _ => exact absurd h (no _)
  | deep h _ => exact absurd h (no _)
  | bad _ _ _ hf => exact hf l a' e' hs hb
theorem par_len (P : List UInt8) : (par P).length = P.length + 3 := by unfold par; rw [List.length_cons, List.length_append]; rfl
section
variable {a b c s r : List UInt8} {x y z : NJ} {q t : Nat × ByteArray}
structure Chain (E : Env) (x y z : NJ) (q t : Nat × ByteArray) (j l e : Nat) : Prop where
  X : Atom E 0 x j
  Q : tk (tokAt E j) = q
  Y : Atom E (j + 1) y l
  T : tk (tokAt E l) = t
  Z : Atom E (l + 1) z e
  en : tk (tokAt E e) = (0, ⟨#[]⟩)
  n : e = E.l.length
  lt : l < E.l.length
theorem chain_of (ha : Flt a x) (hb : Flt b y) (hc : Flt c z) (hs : SgOk s q) (hr : SgOk r t) (hla : a.length ≤ 2000) (hlb : b.length ≤ 2000) (hlc : c.length ≤ 2000) : ∃ m j l, scanF (par a ++ (s ++ (par b ++ (r ++ par c)))) = (m, 0, 0) ∧ Chain (envOf (par a ++ (s ++ (par b ++ (r ++ par c)))) 0) x y z q t j l m.length := by
  obtain ⟨la, a1, a2⟩ := ha
  obtain ⟨lb, b1, b2⟩ := hb
  obtain ⟨lc, c1, c2⟩ := hc
  have hle := hs.e
  have hle2 := hr.e
  have hR := (rsc_par a1 ((s ++ (par b ++ (r ++ par c))) ++ [])).app ((hs.r ((b ++ [10, 41]) ++ (r ++ par c) ++ [])).app ((rsc_par b1 (r ++ par c ++ [])).app ((hr.r ((c ++ [10, 41]) ++ [])).app (rsc_par c1 []))))
  obtain ⟨m, h3, h4⟩ := scan_rsc hR (by simp only [List.length_append, par_len]; omega)
  have hE := h4
  rw [← envOf_l h3 0] at hE
  have hm : m.length = la.length + lb.length + lc.length + 8 := by have := congrArg List.length h4; simp at this; omega
  have hm2 : (envOf (par a ++ (s ++ (par b ++ (r ++ par c)))) 0).l.length = m.length := by rw [envOf_l h3]
  refine ⟨m, la.length + 2, la.length + lb.length + 5, h3, ?_, ?_, ?_, ?_, ?_, ?_, hm2.symm, by omega⟩
  · exact atom_in a1 a2 (A := []) (C := q :: ((6, ⟨#[40]⟩) :: (lb.map tk ++ (6, ⟨#[41]⟩) :: t :: ((6, ⟨#[40]⟩) :: (lc.map tk ++ [(6, ⟨#[41]⟩)]))))) (by rw [hE]; simp) hs.n rfl (by omega)
  · exact tk_at (A := (6, ⟨#[40]⟩) :: (la.map tk ++ [(6, ⟨#[41]⟩)])) (B := ((6, ⟨#[40]⟩) :: (lb.map tk ++ (6, ⟨#[41]⟩) :: t :: ((6, ⟨#[40]⟩) :: (lc.map tk ++ [(6, ⟨#[41]⟩)]))))) (by rw [hE]; simp) (by simp)
  · exact atom_in b1 b2 (A := (6, ⟨#[40]⟩) :: (la.map tk ++ [(6, ⟨#[41]⟩), q])) (C := t :: ((6, ⟨#[40]⟩) :: (lc.map tk ++ [(6, ⟨#[41]⟩)]))) (by rw [hE]; simp) hr.n (by simp) (by omega)
  · exact tk_at (A := (6, ⟨#[40]⟩) :: (la.map tk ++ (6, ⟨#[41]⟩) :: q :: (6, ⟨#[40]⟩) :: (lb.map tk ++ [(6, ⟨#[41]⟩)]))) (B := (6, ⟨#[40]⟩) :: (lc.map tk ++ [(6, ⟨#[41]⟩)])) (by rw [hE]; simp) (by simp; omega)
  · exact atom_in c1 c2 (A := (6, ⟨#[40]⟩) :: (la.map tk ++ (6, ⟨#[41]⟩) :: q :: (6, ⟨#[40]⟩) :: (lb.map tk ++ [(6, ⟨#[41]⟩), t]))) (C := []) (by rw [hE]; simp) (by decide) (by simp; omega) (by omega)
  · exact tk_end (A := (envOf (par a ++ (s ++ (par b ++ (r ++ par c)))) 0).l.map tk) rfl (by rw [List.length_map, hm2])
theorem flt_right (ha : Flt a x) (hb : Flt b y) (hc : Flt c z) (hs : SgOk s q) (hr : SgOk r t) (hla : a.length ≤ 2000) (hlb : b.length ≤ 2000) (hlc : c.length ≤ 2000)
    (h : q = (6, ⟨#[124]⟩) ∨ strK q < strK t ∨ strK q = 2 ∧ strK t = 2) : Flt (par a ++ (s ++ (par b ++ (r ++ par c)))) (joinK q x (joinK t y z)) := by
  obtain ⟨m, j, l, h1, C⟩ := chain_of ha hb hc hs hr hla hlb hlc
  exact ⟨m, h1, ev_right C.X C.Q hs.s C.Y C.T hr.s C.Z (by rw [C.en]; decide) h⟩
theorem flt_left (ha : Flt a x) (hb : Flt b y) (hc : Flt c z) (hs : SgOk s q) (hr : SgOk r t) (hla : a.length ≤ 2000) (hlb : b.length ≤ 2000) (hlc : c.length ≤ 2000)
    (h0 : q ≠ (6, ⟨#[124]⟩)) (h : strK t < strK q ∨ strK q = strK t ∧ strK q ≠ 2 ∧ strK q ≠ 3 ∧ strK q ≠ 6) : Flt (par a ++ (s ++ (par b ++ (r ++ par c)))) (joinK t (joinK q x y) z) := by
  obtain ⟨m, j, l, h1, C⟩ := chain_of ha hb hc hs hr hla hlb hlc
  exact ⟨m, h1, ev_left C.X C.Q ⟨h0, hs.s.resolve_left h0⟩ C.Y C.T hr.s C.Z (by rw [C.en]; decide) h⟩
theorem flt_form (ha : Flt a x) (hb : Flt b y) (hc : Flt c z) (hs : SgOk s q) (hr : SgOk r t) (hla : a.length ≤ 2000) (hlb : b.length ≤ 2000) (hlc : c.length ≤ 2000) (h : strK q = 6 ∧ strK t = 6) :
    ∃ m l, scanF (par a ++ (s ++ (par b ++ (r ++ par c)))) = (m, 0, 0) ∧ evP (envOf (par a ++ (s ++ (par b ++ (r ++ par c)))) 0) .whole 0 = some (.bad l 60) := by
  obtain ⟨m, j, l, h1, C⟩ := chain_of ha hb hc hs hr hla hlb hlc
  obtain ⟨n, hn⟩ := ev_form C.X C.Q C.Y C.T h
  refine ⟨m, failAt (envOf (par a ++ (s ++ (par b ++ (r ++ par c)))) 0) l, h1, ?_⟩
  rw [ev_whole, hn]
  show (if l < _ then _ else _) = _
  rw [if_pos C.lt]; rfl
theorem flt_lefts (ha : Flt a x) (hb : Flt b y) (hc : Flt c z) (hs : SgOk s q) (hr : SgOk r t) (hla : a.length ≤ 2000) (hlb : b.length ≤ 2000) (hlc : c.length ≤ 2000) :
    Flt (40 :: (par a ++ (s ++ (par b ++ (41 :: (r ++ par c)))))) (joinK t (joinK q x y) z) := by
  obtain ⟨la, a1, a2⟩ := ha
  obtain ⟨lb, b1, b2⟩ := hb
  obtain ⟨lc, c1, c2⟩ := hc
  have hle := hs.e
  have hle2 := hr.e
  have hR : RSc (40 :: (par a ++ (s ++ (par b ++ (41 :: (r ++ par c)))))) ((6, ⟨#[40]⟩) :: (((6, ⟨#[40]⟩) :: (la.map tk ++ [(6, ⟨#[41]⟩)])) ++ ([q] ++ (((6, ⟨#[40]⟩) :: (lb.map tk ++ [(6, ⟨#[41]⟩)])) ++ ((6, ⟨#[41]⟩) :: ([t] ++ ((6, ⟨#[40]⟩) :: (lc.map tk ++ [(6, ⟨#[41]⟩)])))))))) [] :=
    (rsc_open _).app (P2 := (par a ++ (s ++ (par b ++ (41 :: (r ++ par c)))))) ((rsc_par a1 _).app (P2 := (s ++ (par b ++ (41 :: (r ++ par c))))) ((hs.r ((b ++ [10, 41]) ++ (41 :: (r ++ par c)) ++ [])).app (P2 := (par b ++ (41 :: (r ++ par c)))) ((rsc_par b1 _).app (P2 := (41 :: (r ++ par c))) ((rsc_close _).app (P2 := r ++ par c) ((hr.r ((c ++ [10, 41]) ++ [])).app (P2 := par c) (rsc_par c1 []))))))
  obtain ⟨m, h3, h4⟩ := scan_rsc hR (by simp only [List.length_append, List.length_cons, par_len]; omega)
  have hE := h4
  rw [← envOf_l h3 0] at hE
  have hm : m.length = la.length + lb.length + lc.length + 10 := by have := congrArg List.length h4; simp at this; omega
  refine ⟨m, h3, ?_⟩
  have A1 : Atom (envOf (40 :: (par a ++ (s ++ (par b ++ (41 :: (r ++ par c)))))) 0) 1 x (la.length + 3) := atom_in a1 a2 (A := [(6, ⟨#[40]⟩)]) (C := q :: ((6, ⟨#[40]⟩) :: (lb.map tk ++ (6, ⟨#[41]⟩) :: (6, ⟨#[41]⟩) :: t :: ((6, ⟨#[40]⟩) :: (lc.map tk ++ [(6, ⟨#[41]⟩)]))))) (by rw [hE]; simp) hs.n rfl (by omega)
  have T1 := tk_at (i := la.length + 3) (E := envOf (40 :: (par a ++ (s ++ (par b ++ (41 :: (r ++ par c)))))) 0) (A := (6, ⟨#[40]⟩) :: (6, ⟨#[40]⟩) :: (la.map tk ++ [(6, ⟨#[41]⟩)])) (q := q) (B := ((6, ⟨#[40]⟩) :: (lb.map tk ++ (6, ⟨#[41]⟩) :: (6, ⟨#[41]⟩) :: t :: ((6, ⟨#[40]⟩) :: (lc.map tk ++ [(6, ⟨#[41]⟩)]))))) (by rw [hE]; simp) (by simp)
  have A2 : Atom (envOf (40 :: (par a ++ (s ++ (par b ++ (41 :: (r ++ par c)))))) 0) (la.length + 3 + 1) y (la.length + lb.length + 6) := atom_in b1 b2 (A := (6, ⟨#[40]⟩) :: (6, ⟨#[40]⟩) :: (la.map tk ++ [(6, ⟨#[41]⟩), q])) (C := (6, ⟨#[41]⟩) :: t :: ((6, ⟨#[40]⟩) :: (lc.map tk ++ [(6, ⟨#[41]⟩)]))) (by rw [hE]; simp) (show Nxt (6, ⟨#[41]⟩) by decide) (by simp) (by omega)
  have T2 := tk_at (i := la.length + lb.length + 6) (E := envOf (40 :: (par a ++ (s ++ (par b ++ (41 :: (r ++ par c)))))) 0) (A := (6, ⟨#[40]⟩) :: (6, ⟨#[40]⟩) :: (la.map tk ++ (6, ⟨#[41]⟩) :: q :: (6, ⟨#[40]⟩) :: (lb.map tk ++ [(6, ⟨#[41]⟩)]))) (q := (6, ⟨#[41]⟩)) (B := t :: ((6, ⟨#[40]⟩) :: (lc.map tk ++ [(6, ⟨#[41]⟩)]))) (by rw [hE]; simp) (by simp; omega)
  have T3 := tk_at (i := la.length + lb.length + 7) (E := envOf (40 :: (par a ++ (s ++ (par b ++ (41 :: (r ++ par c)))))) 0) (A := (6, ⟨#[40]⟩) :: (6, ⟨#[40]⟩) :: (la.map tk ++ (6, ⟨#[41]⟩) :: q :: (6, ⟨#[40]⟩) :: (lb.map tk ++ [(6, ⟨#[41]⟩), (6, ⟨#[41]⟩)]))) (q := t) (B := ((6, ⟨#[40]⟩) :: (lc.map tk ++ [(6, ⟨#[41]⟩)]))) (by rw [hE]; simp) (by simp; omega)
  have A3 : Atom (envOf (40 :: (par a ++ (s ++ (par b ++ (41 :: (r ++ par c)))))) 0) (la.length + lb.length + 7 + 1) z m.length := atom_in c1 c2 (A := (6, ⟨#[40]⟩) :: (6, ⟨#[40]⟩) :: (la.map tk ++ (6, ⟨#[41]⟩) :: q :: (6, ⟨#[40]⟩) :: (lb.map tk ++ [(6, ⟨#[41]⟩), (6, ⟨#[41]⟩), t]))) (C := []) (by rw [hE]; simp) (by decide) (by simp; omega) (by omega)
  have hin := ev_two A1 T1 hs.s A2 (by rw [T2]; decide)
  have A0 := ev_atom (tk_at (A := []) hE rfl) hin T2 (by rw [T3]; exact hr.n)
  exact ev_two A0 T3 hr.s A3 (by rw [tk_end hE (by rw [← h4, List.length_map])]; decide)
theorem flt_rights (ha : Flt a x) (hb : Flt b y) (hc : Flt c z) (hs : SgOk s q) (hr : SgOk r t) (hla : a.length ≤ 2000) (hlb : b.length ≤ 2000) (hlc : c.length ≤ 2000) :
    Flt (par a ++ (s ++ 40 :: (par b ++ (r ++ (par c ++ [41]))))) (joinK q x (joinK t y z)) := by
  obtain ⟨la, a1, a2⟩ := ha
  obtain ⟨lb, b1, b2⟩ := hb
  obtain ⟨lc, c1, c2⟩ := hc
  have hle := hs.e
  have hle2 := hr.e
  have hR : RSc (par a ++ (s ++ 40 :: (par b ++ (r ++ (par c ++ [41]))))) (((6, ⟨#[40]⟩) :: (la.map tk ++ [(6, ⟨#[41]⟩)])) ++ ([q] ++ ((6, ⟨#[40]⟩) :: (((6, ⟨#[40]⟩) :: (lb.map tk ++ [(6, ⟨#[41]⟩)])) ++ ([t] ++ (((6, ⟨#[40]⟩) :: (lc.map tk ++ [(6, ⟨#[41]⟩)])) ++ [(6, ⟨#[41]⟩)])))))) [] :=
    (rsc_par a1 _).app (P2 := (s ++ 40 :: (par b ++ (r ++ (par c ++ [41]))))) ((hs.r ((par b ++ (r ++ (par c ++ [41]))) ++ [])).app (P2 := (40 :: (par b ++ (r ++ (par c ++ [41]))))) ((rsc_open _).app (P2 := (par b ++ (r ++ (par c ++ [41])))) ((rsc_par b1 _).app (P2 := (r ++ (par c ++ [41]))) ((hr.r ((c ++ [10, 41]) ++ [41] ++ [])).app (P2 := par c ++ [41]) ((rsc_par c1 _).app (rsc_close []))))))
  obtain ⟨m, h3, h4⟩ := scan_rsc hR (by simp only [List.length_append, List.length_cons, par_len, List.length_nil]; omega)
  have hE := h4
  rw [← envOf_l h3 0] at hE
  have hm : m.length = la.length + lb.length + lc.length + 10 := by have := congrArg List.length h4; simp at this; omega
  refine ⟨m, h3, ?_⟩
  have A1 : Atom (envOf (par a ++ (s ++ 40 :: (par b ++ (r ++ (par c ++ [41]))))) 0) 0 x (la.length + 2) := atom_in a1 a2 (A := []) (C := q :: (6, ⟨#[40]⟩) :: ((6, ⟨#[40]⟩) :: (lb.map tk ++ (6, ⟨#[41]⟩) :: t :: ((6, ⟨#[40]⟩) :: (lc.map tk ++ [(6, ⟨#[41]⟩), (6, ⟨#[41]⟩)]))))) (by rw [hE]; simp) hs.n rfl (by omega)
  have T1 := tk_at (i := la.length + 2) (E := envOf (par a ++ (s ++ 40 :: (par b ++ (r ++ (par c ++ [41]))))) 0) (A := (6, ⟨#[40]⟩) :: (la.map tk ++ [(6, ⟨#[41]⟩)])) (q := q) (B := (6, ⟨#[40]⟩) :: ((6, ⟨#[40]⟩) :: (lb.map tk ++ (6, ⟨#[41]⟩) :: t :: ((6, ⟨#[40]⟩) :: (lc.map tk ++ [(6, ⟨#[41]⟩), (6, ⟨#[41]⟩)]))))) (by rw [hE]; simp) (by simp)
  have T2 := tk_at (i := la.length + 3) (E := envOf (par a ++ (s ++ 40 :: (par b ++ (r ++ (par c ++ [41]))))) 0) (A := (6, ⟨#[40]⟩) :: (la.map tk ++ [(6, ⟨#[41]⟩), q])) (q := (6, ⟨#[40]⟩)) (B := ((6, ⟨#[40]⟩) :: (lb.map tk ++ (6, ⟨#[41]⟩) :: t :: ((6, ⟨#[40]⟩) :: (lc.map tk ++ [(6, ⟨#[41]⟩), (6, ⟨#[41]⟩)]))))) (by rw [hE]; simp) (by simp)
  have A2 : Atom (envOf (par a ++ (s ++ 40 :: (par b ++ (r ++ (par c ++ [41]))))) 0) (la.length + 3 + 1) y (la.length + lb.length + 6) := atom_in b1 b2 (A := (6, ⟨#[40]⟩) :: (la.map tk ++ [(6, ⟨#[41]⟩), q, (6, ⟨#[40]⟩)])) (C := t :: ((6, ⟨#[40]⟩) :: (lc.map tk ++ [(6, ⟨#[41]⟩), (6, ⟨#[41]⟩)]))) (by rw [hE]; simp) hr.n (by simp) (by omega)
  have T3 := tk_at (i := la.length + lb.length + 6) (E := envOf (par a ++ (s ++ 40 :: (par b ++ (r ++ (par c ++ [41]))))) 0) (A := (6, ⟨#[40]⟩) :: (la.map tk ++ (6, ⟨#[41]⟩) :: q :: (6, ⟨#[40]⟩) :: (6, ⟨#[40]⟩) :: (lb.map tk ++ [(6, ⟨#[41]⟩)]))) (q := t) (B := ((6, ⟨#[40]⟩) :: (lc.map tk ++ [(6, ⟨#[41]⟩), (6, ⟨#[41]⟩)]))) (by rw [hE]; simp) (by simp; omega)
  have A3 : Atom (envOf (par a ++ (s ++ 40 :: (par b ++ (r ++ (par c ++ [41]))))) 0) (la.length + lb.length + 6 + 1) z (la.length + lb.length + lc.length + 9) := atom_in c1 c2 (A := (6, ⟨#[40]⟩) :: (la.map tk ++ (6, ⟨#[41]⟩) :: q :: (6, ⟨#[40]⟩) :: (6, ⟨#[40]⟩) :: (lb.map tk ++ [(6, ⟨#[41]⟩), t]))) (C := [(6, ⟨#[41]⟩)]) (by rw [hE]; simp) (by decide) (by simp; omega) (by omega)
  have T4 := tk_at (i := la.length + lb.length + lc.length + 9) (E := envOf (par a ++ (s ++ 40 :: (par b ++ (r ++ (par c ++ [41]))))) 0) (A := (6, ⟨#[40]⟩) :: (la.map tk ++ (6, ⟨#[41]⟩) :: q :: (6, ⟨#[40]⟩) :: (6, ⟨#[40]⟩) :: (lb.map tk ++ (6, ⟨#[41]⟩) :: t :: (6, ⟨#[40]⟩) :: (lc.map tk ++ [(6, ⟨#[41]⟩)])))) (q := (6, ⟨#[41]⟩)) (B := []) (by rw [hE]; simp) (by simp; omega)
  have T5 : tk (tokAt (envOf (par a ++ (s ++ 40 :: (par b ++ (r ++ (par c ++ [41]))))) 0) m.length) = (0, ⟨#[]⟩) := tk_end hE (by rw [← h4, List.length_map])
  have hin := ev_two A2 T3 hr.s A3 (by rw [T4]; decide)
  have A0 := ev_atom T2 hin T4 (by rw [show la.length + lb.length + lc.length + 9 + 1 = m.length by omega, T5]; decide)
  rw [show m.length = la.length + lb.length + lc.length + 9 + 1 by omega] at T5 ⊢
  exact ev_two A1 T1 hs.s A0 (by rw [T5]; decide)
end
theorem sg_ok {P r : List UInt8} {c : UInt8} {k : Nat} (hP : P = c :: r) (hb : blankC c = false ∧ c ≠ 35 ∧ c ≠ 34) (hk : k ≠ 0) (ht : ∀ R, tokP (c :: (r ++ 40 :: R)) = (k, 0, P.length)) (hn : Nxt (k, ⟨P.toArray⟩)) (hs : (k, (⟨P.toArray⟩ : ByteArray)) = (6, ⟨#[124]⟩) ∨ strK (k, ⟨P.toArray⟩) ≠ 0) (hl : P.length ≤ 10) : SgOk P (k, ⟨P.toArray⟩) :=
  ⟨fun R => rsc_tok (c := c) (r := r ++ 40 :: R) (by rw [hP]; rfl) (by simp [skipN, hb.1, hb.2.1]) hb.2.2 (ht R) hk rfl, hn, hs, hl⟩
theorem sg_word {P r : List UInt8} {c : UInt8} (hP : P = c :: r) (hb : blankC c = false ∧ c ≠ 35 ∧ c ≠ 34) (ht : ∀ R, tokP (c :: (r ++ 32 :: R)) = (1, 0, P.length)) (hn : Nxt (1, ⟨P.toArray⟩)) (hs : strK (1, ⟨P.toArray⟩) ≠ 0) (hl : P.length ≤ 8) : SgOk (32 :: (P ++ [32])) (1, ⟨P.toArray⟩) := by
  refine ⟨fun R => ?_, hn, .inr hs, by rw [List.length_cons, List.length_append]; show P.length + 1 + 1 ≤ _; omega⟩
  have h := (rsc_blank (c := 32) (.inr rfl) (P ++ [32] ++ 40 :: R)).app ((rsc_tok (P := P) (R := [32] ++ 40 :: R) (c := c) (r := r ++ 32 :: 40 :: R) (k := 1) (m := 0) (by rw [hP]; rfl) (by simp [skipN, hb.1, hb.2.1]) hb.2.2 (ht (40 :: R)) (by decide) rfl).app (rsc_blank (c := 32) (.inr rfl) (40 :: R)))
  exact h
theorem sg_pipe : SgOk [124] (6, ⟨#[124]⟩) := sg_ok rfl (by decide) (by decide) (fun R => by simp [tokP, letF, isDg, signN, twoL, oneL]) (by decide) (by decide) (by decide)
theorem sg_comma : SgOk [44] (6, ⟨#[44]⟩) := sg_ok rfl (by decide) (by decide) (fun R => by simp [tokP, letF, isDg, signN, twoL, oneL]) (by decide) (by decide) (by decide)
theorem sg_else : SgOk [47, 47] (6, ⟨#[47, 47]⟩) := sg_ok rfl (by decide) (by decide) (fun R => by simp [tokP, letF, isDg, signN, twoL]) (by decide) (by decide) (by decide)
theorem sg_set : SgOk [61] (6, ⟨#[61]⟩) := sg_ok rfl (by decide) (by decide) (fun R => by simp [tokP, letF, isDg, signN, twoL, oneL]) (by decide) (by decide) (by decide)
theorem sg_upd : SgOk [124, 61] (6, ⟨#[124, 61]⟩) := sg_ok rfl (by decide) (by decide) (fun R => by simp [tokP, letF, isDg, signN, twoL]) (by decide) (by decide) (by decide)
theorem sg_plusis : SgOk [43, 61] (6, ⟨#[43, 61]⟩) := sg_ok rfl (by decide) (by decide) (fun R => by simp [tokP, letF, isDg, signN, twoL]) (by decide) (by decide) (by decide)
theorem sg_or : SgOk [111, 114] (1, ⟨#[111, 114]⟩) := sg_ok rfl (by decide) (by decide) (fun R => by simp [tokP, letF, isDg, nameN, nameC, runB]) (by decide) (by decide) (by decide)
theorem sg_and : SgOk [97, 110, 100] (1, ⟨#[97, 110, 100]⟩) := sg_ok rfl (by decide) (by decide) (fun R => by simp [tokP, letF, isDg, nameN, nameC, runB]) (by decide) (by decide) (by decide)
theorem sg_eq : SgOk [61, 61] (6, ⟨#[61, 61]⟩) := sg_ok rfl (by decide) (by decide) (fun R => by simp [tokP, letF, isDg, signN, twoL]) (by decide) (by decide) (by decide)
theorem sg_less : SgOk [60] (6, ⟨#[60]⟩) := sg_ok rfl (by decide) (by decide) (fun R => by simp [tokP, letF, isDg, signN, twoL, oneL]) (by decide) (by decide) (by decide)
theorem sg_plus : SgOk [43] (6, ⟨#[43]⟩) := sg_ok rfl (by decide) (by decide) (fun R => by simp [tokP, letF, isDg, signN, twoL, oneL]) (by decide) (by decide) (by decide)
theorem sg_minus : SgOk [45] (6, ⟨#[45]⟩) := sg_ok rfl (by decide) (by decide) (fun R => by simp [tokP, letF, isDg, signN, twoL, oneL]) (by decide) (by decide) (by decide)
theorem sg_times : SgOk [42] (6, ⟨#[42]⟩) := sg_ok rfl (by decide) (by decide) (fun R => by simp [tokP, letF, isDg, signN, twoL, oneL]) (by decide) (by decide) (by decide)
theorem sg_mod : SgOk [37] (6, ⟨#[37]⟩) := sg_ok rfl (by decide) (by decide) (fun R => by simp [tokP, letF, isDg, signN, twoL, oneL]) (by decide) (by decide) (by decide)
theorem sg_or2 : SgOk [32, 111, 114, 32] (1, ⟨#[111, 114]⟩) := sg_word (P := [111, 114]) rfl (by decide) (fun R => by simp [tokP, letF, isDg, nameN, nameC, runB]) (by decide) (by decide) (by decide)
theorem sg_and2 : SgOk [32, 97, 110, 100, 32] (1, ⟨#[97, 110, 100]⟩) := sg_word (P := [97, 110, 100]) rfl (by decide) (fun R => by simp [tokP, letF, isDg, nameN, nameC, runB]) (by decide) (by decide) (by decide)
end Th
