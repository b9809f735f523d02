/- Lemmas and contracts for the laws CalcWith, part 14 of 50: Val. Conditions: those that each lemma names. -/
import Derived.Test.YtnkokhpadcgfbaaGreatDoorPw13
import Derived.Test.YtnkokhpadcgfbaaGreatDoorPw4
import Derived.Test.YtnkokhpadcgfbaaGreatDoorPw12
namespace Go.Proofs.YtnkokhpadcgfbaaGreatDoor
open Go Go.RowKit Go.Proofs Th
structure StrsAt (W : World) (B : Nat) (A : Option Addr) (c : Nat) (ks : List ByteArray) : Prop where
  le : ks.length ≤ c
  cap : ks.length ≤ 140737488351232
  top : c ≤ 9223372036854775807
  small : ∀ k ∈ ks, k.size ≤ 140737488351232
  at_ : 0 < ks.length → ∃ g o, A = some ⟨g, o, none⟩ ∧ g < B ∧ ∀ j (h : j < ks.length), W.cell? ⟨g, o + j, none⟩ = some (.string ks[j])
theorem StrsAt.below {w w' : World} {B B' : Nat} {A : Option Addr} {c : Nat} {ks : List ByteArray} (h : StrsAt w B A c ks) (hb : Below B' w w') (hB : B ≤ B') : StrsAt w' B A c ks :=
  ⟨h.le, h.cap, h.top, h.small, fun hn => by
    obtain ⟨g, o, e, hg, hc⟩ := h.at_ hn
    exact ⟨g, o, e, hg, fun j hj => (hb.cell (p := ⟨g, o + j, none⟩) (Nat.lt_of_lt_of_le hg hB)).trans (hc j hj)⟩⟩
theorem StrsAt.more {w : World} {B B' : Nat} {A : Option Addr} {c : Nat} {ks : List ByteArray} (h : StrsAt w B A c ks) (hB : B ≤ B') : StrsAt w B' A c ks :=
  ⟨h.le, h.cap, h.top, h.small, fun hn => by
    obtain ⟨g, o, e, hg, hc⟩ := h.at_ hn
    exact ⟨g, o, e, Nat.lt_of_lt_of_le hg hB, hc⟩⟩
def cells6 (k m e : Int) (s : ByteArray) (A : Option Addr) (n c : Nat) (A' : Option Addr) (n' c' : Nat) : List Value :=
  [.int .i64 k, .int .i64 m, .int .i64 e, .string s, .slice A n c, .slice A' n' c']
inductive JAt (W : World) (B : Nat) : JV → List Value → Prop
  | mk {k m e : Int} {s : ByteArray} {l : List JV} {ks : List ByteArray} {A : Option Addr} {c : Nat} {A' : Option Addr} {c' : Nat} (f : Nat → List Value)
    (hk : I64 k) (hm : I64 m) (he : I64 e) (hs : s.size ≤ 140737488351232) (hl : l.length ≤ c) (hc : l.length ≤ 140737488351232) (hcc : c ≤ 9223372036854775807) (hK : StrsAt W B A' c' ks)
    (hL : 0 < l.length → ∃ g o, A = some ⟨g, o, none⟩ ∧ g < B ∧ ∀ j, j < l.length → ∀ i v, (f j)[i]? = some v → W.cell? ⟨g, o + j * 6 + i, none⟩ = some v)
    (hT : ∀ j (h : j < l.length), JAt W B l[j] (f j)) :
    JAt W B (.mk k m e s l ks) (cells6 k m e s A l.length c A' ks.length c')
theorem JAt.keep {W W' : World} {B B' : Nat} {t : JV} {cs : List Value} (h : JAt W B t cs) (hb : Below B' W W') (hB : B ≤ B') : JAt W' B t cs := by
  induction h with
  | mk f hk hm he hs hl hc hcc hK hL hT ih =>
    refine .mk f hk hm he hs hl hc hcc (hK.below hb hB) (fun hn => ?_) (fun j hj => ih j hj)
    obtain ⟨g, o, e, hg, h⟩ := hL hn
    exact ⟨g, o, e, hg, fun j hj i v hv => (hb.cell (p := ⟨g, o + j * 6 + i, none⟩) (Nat.lt_of_lt_of_le hg hB)).trans (h j hj i v hv)⟩
theorem JAt.more {W : World} {B B' : Nat} {t : JV} {cs : List Value} (h : JAt W B t cs) (hB : B ≤ B') : JAt W B' t cs := by
  induction h with
  | mk f hk hm he hs hl hc hcc hK hL hT ih =>
    refine .mk f hk hm he hs hl hc hcc (hK.more hB) (fun hn => ?_) (fun j hj => ih j hj)
    obtain ⟨g, o, e, hg, h⟩ := hL hn
    exact ⟨g, o, e, Nat.lt_of_lt_of_le hg hB, h⟩
structure ValsAt (W : World) (B : Nat) (A : Option Addr) (c : Nat) (l : List JV) : Prop where
  le : l.length ≤ c
  cap : l.length ≤ 140737488351232
  top : c ≤ 9223372036854775807
  at_ : ∀ j (h : j < l.length), ∃ g o cs, A = some ⟨g, o, none⟩ ∧ g < B ∧ (∀ i v, cs[i]? = some v → W.cell? ⟨g, o + j * 6 + i, none⟩ = some v) ∧ JAt W B l[j] cs
theorem ValsAt.below {w w' : World} {B B' : Nat} {A : Option Addr} {c : Nat} {l : List JV} (h : ValsAt w B A c l) (hb : Below B' w w') (hB : B ≤ B') : ValsAt w' B A c l :=
  ⟨h.le, h.cap, h.top, fun j hj => by
    obtain ⟨g, o, cs, e, hg, hc, hJ⟩ := h.at_ j hj
    exact ⟨g, o, cs, e, hg, fun i v hv => (hb.cell (p := ⟨g, o + j * 6 + i, none⟩) (Nat.lt_of_lt_of_le hg hB)).trans (hc i v hv), hJ.keep hb hB⟩⟩
theorem ValsAt.more {w : World} {B B' : Nat} {A : Option Addr} {c : Nat} {l : List JV} (h : ValsAt w B A c l) (hB : B ≤ B') : ValsAt w B' A c l :=
  ⟨h.le, h.cap, h.top, fun j hj => by
    obtain ⟨g, o, cs, e, hg, hc, hJ⟩ := h.at_ j hj
    exact ⟨g, o, cs, e, Nat.lt_of_lt_of_le hg hB, hc, hJ.more hB⟩⟩
theorem JAt.open {W : World} {B : Nat} {k m e : Int} {s : ByteArray} {l : List JV} {ks : List ByteArray} {cs : List Value} (h : JAt W B (.mk k m e s l ks) cs) :
    ∃ A c A' c', cs = cells6 k m e s A l.length c A' ks.length c' ∧ I64 k ∧ I64 m ∧ I64 e ∧ s.size ≤ 140737488351232 ∧ StrsAt W B A' c' ks ∧ ValsAt W B A c l := by
  cases h with
  | mk f hk hm he hs hl hc hcc hK hL hT =>
    refine ⟨_, _, _, _, rfl, hk, hm, he, hs, hK, hl, hc, hcc, fun j hj => ?_⟩
    obtain ⟨g, o, e, hg, h⟩ := hL (by omega)
    exact ⟨g, o, f j, e, hg, h j hj, hT j hj⟩
theorem JAt.shut {W : World} {B : Nat} {k m e : Int} {s : ByteArray} {l : List JV} {ks : List ByteArray} {A : Option Addr} {c : Nat} {A' : Option Addr} {c' : Nat}
    (hk : I64 k) (hm : I64 m) (he : I64 e) (hs : s.size ≤ 140737488351232) (hK : StrsAt W B A' c' ks) (hV : ValsAt W B A c l) : JAt W B (.mk k m e s l ks) (cells6 k m e s A l.length c A' ks.length c') := by
  classical
  have h : ∀ j : Nat, ∃ cs : List Value, ∀ (h : j < l.length), ∃ g o, A = some ⟨g, o, none⟩ ∧ g < B ∧ (∀ i v, cs[i]? = some v → W.cell? ⟨g, o + j * 6 + i, none⟩ = some v) ∧ JAt W B l[j] cs := by
    intro j
    by_cases hj : j < l.length
    · obtain ⟨g, o, cs, h⟩ := hV.at_ j hj
      exact ⟨cs, fun _ => ⟨g, o, h⟩⟩
    · exact ⟨[], fun h => absurd h hj⟩
  refine .mk (fun j => (h j).choose) hk hm he hs hV.le hV.cap hV.top hK (fun hn => ?_) (fun j hj => ?_)
  · obtain ⟨g, o, ea, hg, _⟩ := (h 0).choose_spec hn
    refine ⟨g, o, ea, hg, fun j hj i v hv => ?_⟩
    obtain ⟨g', o', eb, hg', hc, _⟩ := (h j).choose_spec hj
    rw [ea] at eb
    injection eb with eb
    injection eb with e1 e2
    subst e1 e2
    exact hc i v hv
  · obtain ⟨g', o', e', hg', hc, hJ⟩ := (h j).choose_spec hj
    exact hJ
theorem ValsAt.elem {W : World} {B : Nat} {A : Option Addr} {c : Nat} {l : List JV} (h : ValsAt W B A c l) (j : Nat) (hj : j < l.length) :
    ∃ g o k m e s A1 n1 c1 A2 n2 c2, A = some ⟨g, o, none⟩ ∧ g < B ∧ JAt W B l[j] (cells6 k m e s A1 n1 c1 A2 n2 c2) ∧
      W.cell? ⟨g, o + j * 6, none⟩ = some (.int .i64 k) ∧ W.cell? ⟨g, o + j * 6 + 1, none⟩ = some (.int .i64 m) ∧ W.cell? ⟨g, o + j * 6 + 2, none⟩ = some (.int .i64 e) ∧
      W.cell? ⟨g, o + j * 6 + 3, none⟩ = some (.string s) ∧ W.cell? ⟨g, o + j * 6 + 4, none⟩ = some (.slice A1 n1 c1) ∧ W.cell? ⟨g, o + j * 6 + 5, none⟩ = some (.slice A2 n2 c2) := by
  obtain ⟨g, o, cs, ea, hg, hc, hJ⟩ := h.at_ j hj
  have hJ' := hJ
  cases ht : l[j] with
  | mk k m e s l' ks =>
    rw [ht] at hJ
    obtain ⟨A1, c1, A2, c2, rfl, _⟩ := hJ.open
    rw [ht] at hJ'
    exact ⟨g, o, k, m, _, s, A1, _, c1, A2, _, c2, ea, hg, hJ', hc 0 _ rfl, hc 1 _ rfl, hc 2 _ rfl, hc 3 _ rfl, hc 4 _ rfl, hc 5 _ rfl⟩
theorem countL_get : ∀ (l : List JV) (j : Nat) (h : j < l.length), countJ l[j] ≤ countL l
  | v :: r, 0, _ => by show countJ v ≤ countJ v + countL r; omega
  | v :: r, j + 1, h => by
    have := countL_get r j (by simpa using h)
    show countJ (r[j]'(by simpa using h)) ≤ countJ v + countL r
    omega
end Go.Proofs.YtnkokhpadcgfbaaGreatDoor
