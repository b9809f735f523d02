/- Lemmas and contracts. Conditions: those that each lemma names. -/
import Derived.Test.YtakncilicoefdaaGreatDoorPz7
import Derived.WalkLawsBesides
import Derived.StillTail
import Derived.Deep.RegionLawGrows
set_option maxRecDepth 100000
set_option maxHeartbeats 4000000
namespace Go.Proofs.YtakncilicoefdaaGreatDoor
open Go Go.RowKit Go.Proofs Th
attribute [local go_sem] Above.cell
open Go Go.RowKit Go.Proofs Th
open Go Go.RowKit Go.Proofs Th
structure GlobW (w : World) : Prop where
 num : GlobP w
 utf : Utf w
open Go Go.RowKit Go.Proofs Th
theorem DZ {W W' : World} {g o : Nat} (h : W'.heap[g]? = W.heap[g]?) : W'.cell? ⟨g, o, none⟩ = W.cell? ⟨g, o, none⟩ := World.cell?_of_block h
/-! rows of a call's own -/
theorem Du {w : World} {base size n : Nat} {e : TypeId} {v : Value} {xs : List Value} (h : w.ownsRow base e size v n xs) : ∀ k, v.ownBlock = some k → base ≤ k ∧ k < w.heap.size := World.ownsRow.lt h
theorem Oo {w w' : World} {base size n : Nat} {e : TypeId} {v : Value} {xs : List Value} (h : w.ownsRow base e size v n xs) (hb : ∀ k, v.ownBlock = some k → w'.heap[k]? = w.heap[k]?) : w'.ownsRow base e size v n xs := by
 refine ⟨h.1, ?_⟩; rcases h.2 with h2 | ⟨g, cap, cur, rfl, h4, h5, h6⟩
 ·exact Or.inl h2
 exact Or.inr ⟨g, cap, cur, rfl, h4, (hb g rfl).trans h5, h6⟩
open Go Go.RowKit Go.Proofs Th
def Xt (w w' : World) (g : Nat) : Prop := w.heap.size ≤ g ∧ g < w'.heap.size
end Go.Proofs.YtakncilicoefdaaGreatDoor
namespace Th
open Go Go.Lib
inductive NJ where
 | mk (kind : Int) (name : ByteArray) (m e : Int) (kids : List NJ) (args : List ByteArray)
def EA : NJ := .mk 0 ⟨#[]⟩ 0 0 [] []
def BR : NJ := .mk 1 ⟨#[]⟩ 0 0 [] []
def Bg (s : ByteArray) : NJ := .mk 3 s 0 0 [] []
def Cy (s : ByteArray) : NJ := .mk 22 s 0 0 [] []
def Ag (k : Int) (l : List NJ) : NJ := .mk k ⟨#[]⟩ 0 0 l []
def Ax (k : Int) (s : ByteArray) (a b : NJ) : NJ := .mk k s 0 0 [a, b] []
structure Env where
 l : List Tf
 base : Nat
 end_ : Nat
def Aa (E : Env) (i : Nat) : Tf := E.l.getD i noTf
def Eb (E : Env) (i : Nat) : Nat := E.base + (match E.l[i]? with | some t => t.at_ | none => E.end_)
inductive PR (α : Type) where
 | ok (a : α) (i : Nat)
 | bad (a e : Nat)
def A3 {α β : Type} (x : Option (PR α)) (f : α → Nat → Option (PR β)) : Option (PR β) := match x with
 | none => none
 | some (.bad a e) => some (.bad a e)
 | some (.ok a i) => f a i
def Da {α : Type} (E : Env) (i e : Nat) : Option (PR α) := some (.bad (Eb E i) e)
def okP {α : Type} (a : α) (i : Nat) : Option (PR α) := some (.ok a i)
def isT (E : Env) (i k : Nat) (s : ByteArray) : Prop := (Aa E i).kind = k ∧ (Aa E i).text = s
instance (E : Env) (i k : Nat) (s : ByteArray) : Decidable (isT E i k s) := by unfold isT; exact inferInstance
def A8 {β : Type} (E : Env) (i k : Nat) (s : ByteArray) (f : Nat → Option (PR β)) : Option (PR β) := if isT E i k s then f (i + 1) else Da E i 60
def Ca : List ByteArray := [⟨#[97, 110, 100]⟩, ⟨#[111, 114]⟩, ⟨#[105, 102]⟩, ⟨#[116, 104, 101, 110]⟩, ⟨#[101, 108, 105, 102]⟩, ⟨#[101, 108, 115, 101]⟩, ⟨#[101, 110, 100]⟩, ⟨#[114, 101, 100, 117, 99, 101]⟩, ⟨#[102, 111, 114, 101, 97, 99, 104]⟩, ⟨#[97, 115]⟩, ⟨#[100, 101, 102]⟩, ⟨#[116, 114, 121]⟩, ⟨#[99, 97, 116, 99, 104]⟩]
def inB (l : List ByteArray) (s : ByteArray) : Bool := l.any fun q => decide (q = s)
def CX {β : Type} (E : Env) (i k : Nat) (f : ByteArray → Nat → Option (PR β)) : Option (PR β) :=
 if (Aa E i).kind ≠ k ∨ (k = 1 ∧ inB Ca (Aa E i).text = true) then Da E i 60 else f (Aa E i).text (i + 1)
def Ez : List ByteArray := [⟨#[61]⟩, ⟨#[124, 61]⟩, ⟨#[43, 61]⟩, ⟨#[45, 61]⟩, ⟨#[42, 61]⟩, ⟨#[47, 61]⟩, ⟨#[47, 47, 61]⟩]
def Jd : List ByteArray := [⟨#[61, 61]⟩, ⟨#[33, 61]⟩, ⟨#[60]⟩, ⟨#[60, 61]⟩, ⟨#[62]⟩, ⟨#[62, 61]⟩]
def Lt : List ByteArray := [⟨#[43]⟩, ⟨#[45]⟩]
def FR : List ByteArray := [⟨#[42]⟩, ⟨#[47]⟩, ⟨#[37]⟩]
def Aj (t : Tf) : Nat :=
 if t.kind = 1 then (if t.text = ⟨#[111, 114]⟩ then 4 else if t.text = ⟨#[97, 110, 100]⟩ then 5 else 0)
 else if t.kind ≠ 6 then 0 else if t.text = ⟨#[44]⟩ then 1 else if t.text = ⟨#[47, 47]⟩ then 2 else if inB Ez t.text = true then 3 else if inB Jd t.text = true then 6 else if inB Lt t.text = true then 7 else if inB FR t.text = true then 8 else 0
def B8 (t : Tf) (a b : NJ) : NJ :=
 if Aj t = 1 then Ax 9 ⟨#[]⟩ a b else if Aj t = 2 then Ax 13 ⟨#[]⟩ a b else if Aj t = 3 then Ax 25 t.text a b
 else if Aj t = 4 then Ax 12 ⟨#[]⟩ a b else if Aj t = 5 then Ax 11 ⟨#[]⟩ a b else Ax 10 t.text a b
def Db {β : Type} (E : Env) (k : List ByteArray → Nat → Option (PR β)) : Nat → List ByteArray → Nat → Option (PR β)
 | 0, _, _ => none
 | n + 1, acc, i =>
  if (Aa E i).kind = 2 then (if isT E (i + 1) 6 ⟨#[59]⟩ then Db E k n (acc ++ [⟨#[36]⟩ ++ (Aa E i).text]) (i + 2) else k (acc ++ [⟨#[36]⟩ ++ (Aa E i).text]) (i + 1))
  else CX E i 1 fun s j => if isT E j 6 ⟨#[59]⟩ then Db E k n (acc ++ [s]) (j + 1) else k (acc ++ [s]) j
inductive Job where
 | filter | def_ | binary (least : Nat) | binLoop (least top : Nat) (n : NJ) | minus | term | termLoop (n : NJ) | index (x : NJ) | quoted
 | parts (texts filters : List (List UInt8)) (places : List Nat) (kids : List NJ)
 | whole | first | sign (s : ByteArray) | object | objLoop (kids : List NJ) | entry | word (s : ByteArray) | callLoop (name : ByteArray) (kids : List NJ) | branch | loop (kind : Int)
def DN (s : List UInt8) : List UInt8 := 34 :: (s ++ [34])
def B5 (s : List UInt8) (base : Nat) : Env := ⟨(Bp s).1, base, s.length⟩
def NJ.kids : NJ → List NJ
 | .mk _ _ _ _ l _ => l
def EL (kids : List NJ) : NJ := match kids with
 | [n] => n
 | _ => Ag 4 kids
def Ak (run : Env → Job → Nat → Option (PR NJ)) (E : Env) (job : Job) (i : Nat) : Option (PR NJ) := match job with
  | .filter => if isT E i 1 ⟨#[100, 101, 102]⟩ then run E .def_ (i + 1) else A3 (run E (.binary 1) i) fun n j =>
    if isT E j 6 ⟨#[124]⟩ then A3 (run E .filter (j + 1)) fun m k => okP (Ax 8 ⟨#[]⟩ n m) k else okP n j
  | .def_ => CX E i 1 fun name i1 =>
    let rest := fun (args : List ByteArray) (j : Nat) => A8 E j 6 ⟨#[58]⟩ fun j => A3 (run E .filter j) fun what j => A8 E j 6 ⟨#[59]⟩ fun j => A3 (run E .filter j) fun m j => okP (.mk 24 name 0 0 [what, m] args) j
    if isT E i1 6 ⟨#[40]⟩ then Db E (fun args j => A8 E j 6 ⟨#[41]⟩ fun j => rest args j) (E.l.length + 1) [] (i1 + 1) else rest [] i1
  | .binary least => A3 (run E .minus i) fun n j => run E (.binLoop least 8 n) j
  | .binLoop least top n =>
    if Aj (Aa E i) < least ∨ top < Aj (Aa E i) ∨ Aj (Aa E i) = 0 then okP n i
    else if Aj (Aa E i) = 2 then A3 (run E (.binary 2) (i + 1)) fun m j => run E (.binLoop least 1 (B8 (Aa E i) n m)) j
    else if Aj (Aa E i) = 3 ∨ Aj (Aa E i) = 6 then A3 (run E (.binary (Aj (Aa E i) + 1)) (i + 1)) fun m j => run E (.binLoop least (Aj (Aa E i) - 1) (B8 (Aa E i) n m)) j
    else A3 (run E (.binary (Aj (Aa E i) + 1)) (i + 1)) fun m j => run E (.binLoop least (Aj (Aa E i)) (B8 (Aa E i) n m)) j
  | .minus => if isT E i 6 ⟨#[45]⟩ then A3 (run E .minus (i + 1)) fun n j => okP (Ag 14 [n]) j else A3 (run E .term i) fun n j =>
    if isT E j 1 ⟨#[97, 115]⟩ then CX E (j + 1) 2 fun name j => A8 E j 6 ⟨#[124]⟩ fun j => A3 (run E .filter j) fun m j => okP (Ax 21 name n m) j else okP n j
  | .term => A3 (run E .first i) fun n j => run E (.termLoop n) j
  | .termLoop n =>
    if (Aa E i).kind = 3 then run E (.termLoop (Ax 5 ⟨#[]⟩ n (Bg (Aa E i).text))) (i + 1)
    else if isT E i 6 ⟨#[63]⟩ then run E (.termLoop (Ag 18 [n])) (i + 1)
    else if isT E i 6 ⟨#[91]⟩ then A3 (run E (.index n) i) fun m j => run E (.termLoop m) j
    else if isT E i 6 ⟨#[46]⟩ then (if (Aa E (i + 1)).kind = 5 then A3 (run E .quoted (i + 1)) fun m j => run E (.termLoop (Ax 5 ⟨#[]⟩ n m)) j
     else if isT E (i + 1) 6 ⟨#[91]⟩ then A3 (run E (.index n) (i + 1)) fun m j => run E (.termLoop m) j else Da E (i + 1) 60)
    else okP n i
  | .index x => A8 E i 6 ⟨#[91]⟩ fun i => if isT E i 6 ⟨#[93]⟩ then okP (Ag 7 [x]) (i + 1) else
    let to_ := fun (kids : List NJ) (args : List ByteArray) (j : Nat) => A3 (run E .filter j) fun m j => A8 E j 6 ⟨#[93]⟩ fun j => okP (.mk 6 ⟨#[]⟩ 0 0 (kids ++ [m]) (args ++ [⟨#[116, 111]⟩])) j
    if isT E i 6 ⟨#[58]⟩ then to_ [x] [] (i + 1) else A3 (run E .filter i) fun m j => if isT E j 6 ⟨#[93]⟩ then okP (Ax 5 ⟨#[]⟩ x m) (j + 1) else A8 E j 6 ⟨#[58]⟩ fun j =>
     if isT E j 6 ⟨#[93]⟩ then okP (.mk 6 ⟨#[]⟩ 0 0 [x, m] [⟨#[102, 114, 111, 109]⟩]) (j + 1) else to_ [x, m] [⟨#[102, 114, 111, 109]⟩] j
  | .quoted => if (Aa E i).kind ≠ 5 then Da E i 60 else
    run E (.parts (BS (Aa E i).text.data.toList).1.texts (BS (Aa E i).text.data.toList).1.filters (BS (Aa E i).text.data.toList).1.places []) i
  | .parts texts filters places kids => match texts with
   | [] => okP (EL kids) (i + 1)
   | s :: texts => if (BA (DN s)).2.2 ≠ 0 ∨ (BA (DN s)).2.1 ≠ s.length + 2 then Da E i 20 else match filters with
    | [] => run E (.parts texts [] places (kids ++ [Bg ⟨(BA (DN s)).1.toArray⟩])) i
    | g :: filters => A3 (run (B5 g (E.base + (Aa E i).at_ + places.headD 0)) .whole 0) fun m _ => run E (.parts texts filters places.tail (kids ++ [Bg ⟨(BA (DN s)).1.toArray⟩, m])) i
  | .whole => A3 (run E .filter i) fun n j => if j < E.l.length then Da E j 60 else okP n j
  | .first => if (Aa E i).kind = 3 then okP (Ax 5 ⟨#[]⟩ BR (Bg (Aa E i).text)) (i + 1) else if (Aa E i).kind = 2 then okP (Cy (Aa E i).text) (i + 1)
    else if (Aa E i).kind = 5 then run E .quoted i
    else if (Aa E i).kind = 4 then (if (BT (Aa E i).text.data.toList).2 = 10 then Da E i 60 else if (BT (Aa E i).text.data.toList).2 ≠ 0 then Da E i (BT (Aa E i).text.data.toList).2.toNat
     else okP (.mk 2 ⟨#[]⟩ (BT (Aa E i).text.data.toList).1.1 (BT (Aa E i).text.data.toList).1.2 [] []) (i + 1))
    else if (Aa E i).kind = 1 then run E (.word (Aa E i).text) i else if (Aa E i).kind = 6 then run E (.sign (Aa E i).text) i else Da E i 60
  | .sign s => if s = ⟨#[46]⟩ then (if (Aa E (i + 1)).kind = 5 then A3 (run E .quoted (i + 1)) fun m j => okP (Ax 5 ⟨#[]⟩ BR m) j else okP BR (i + 1))
    else if s = ⟨#[46, 46]⟩ then okP (Ag 26 []) (i + 1)
    else if s = ⟨#[40]⟩ then A3 (run E .filter (i + 1)) fun n j => A8 E j 6 ⟨#[41]⟩ fun j => okP n j
    else if s = ⟨#[91]⟩ then (if isT E (i + 1) 6 ⟨#[93]⟩ then okP (Ag 15 []) (i + 2) else A3 (run E .filter (i + 1)) fun n j => A8 E j 6 ⟨#[93]⟩ fun j => okP (Ag 15 [n]) j)
    else if s = ⟨#[123]⟩ then run E .object (i + 1) else Da E i 60
  | .object => if isT E i 6 ⟨#[125]⟩ then okP (Ag 16 []) (i + 1) else run E (.objLoop []) i
  | .objLoop kids => A3 (run E .entry i) fun kv j => if isT E j 6 ⟨#[44]⟩ then run E (.objLoop (kids ++ kv.kids)) (j + 1) else A8 E j 6 ⟨#[125]⟩ fun j => okP (Ag 16 (kids ++ kv.kids)) j
  | .entry =>
    let value := fun (k : NJ) (j : Nat) => A8 E j 6 ⟨#[58]⟩ fun j => A3 (run E (.binary 2) j) fun v j => okP (Ag 0 [k, v]) j
    let alone := fun (k : NJ) (j : Nat) => if isT E j 6 ⟨#[58]⟩ then value k j else okP (Ag 0 [k, Ax 5 ⟨#[]⟩ BR k]) j
    if (Aa E i).kind = 2 then okP (Ag 0 [Bg (Aa E i).text, Cy (Aa E i).text]) (i + 1) else if (Aa E i).kind = 1 then alone (Bg (Aa E i).text) (i + 1)
    else if (Aa E i).kind = 5 then A3 (run E .quoted i) fun k j => alone k j
    else if isT E i 6 ⟨#[40]⟩ then A3 (run E .filter (i + 1)) fun k j => A8 E j 6 ⟨#[41]⟩ fun j => value k j else Da E i 60
  | .word s => if s = ⟨#[105, 102]⟩ then run E .branch (i + 1)
    else if s = ⟨#[116, 114, 121]⟩ then A3 (run E .term (i + 1)) fun n j => if isT E j 1 ⟨#[99, 97, 116, 99, 104]⟩ then A3 (run E .term (j + 1)) fun m j => okP (Ag 18 [n, m]) j else okP (Ag 18 [n]) j
    else if s = ⟨#[114, 101, 100, 117, 99, 101]⟩ then run E (.loop 19) (i + 1) else if s = ⟨#[102, 111, 114, 101, 97, 99, 104]⟩ then run E (.loop 20) (i + 1)
    else CX E i 1 fun name j => if isT E j 6 ⟨#[40]⟩ then run E (.callLoop name []) (j + 1) else okP (.mk 23 name 0 0 [] []) j
  | .callLoop name kids => A3 (run E .filter i) fun n j => if isT E j 6 ⟨#[59]⟩ then run E (.callLoop name (kids ++ [n])) (j + 1) else A8 E j 6 ⟨#[41]⟩ fun j => okP (.mk 23 name 0 0 (kids ++ [n]) []) j
  | .branch => A3 (run E .filter i) fun c j => A8 E j 1 ⟨#[116, 104, 101, 110]⟩ fun j => A3 (run E .filter j) fun t j =>
    if isT E j 1 ⟨#[101, 108, 105, 102]⟩ then A3 (run E .branch (j + 1)) fun m j => okP (Ag 17 [c, t, m]) j
    else if isT E j 1 ⟨#[101, 108, 115, 101]⟩ then A3 (run E .filter (j + 1)) fun m j => A8 E j 1 ⟨#[101, 110, 100]⟩ fun j => okP (Ag 17 [c, t, m]) j
    else A8 E j 1 ⟨#[101, 110, 100]⟩ fun j => okP (Ag 17 [c, t, BR]) j
  | .loop kind => A3 (run E .term i) fun x j => A8 E j 1 ⟨#[97, 115]⟩ fun j => CX E j 2 fun name j => A8 E j 6 ⟨#[40]⟩ fun j => A3 (run E .filter j) fun y j => A8 E j 6 ⟨#[59]⟩ fun j =>
    A3 (run E .filter j) fun z j =>
    if kind = 20 then (if isT E j 6 ⟨#[59]⟩ then A3 (run E .filter (j + 1)) fun u j => A8 E j 6 ⟨#[41]⟩ fun j => okP (.mk kind name 0 0 [x, y, z, u] []) j
     else A8 E j 6 ⟨#[41]⟩ fun j => okP (.mk kind name 0 0 [x, y, z, BR] []) j)
    else A8 E j 6 ⟨#[41]⟩ fun j => okP (.mk kind name 0 0 [x, y, z] []) j
def AY : Nat → Env → Job → Nat → Option (PR NJ)
 | 0, _, _, _ => none
 | f + 1, E, job, i => Ak (AY f) E job i
end Th
namespace Th
open Go Go.Lib
theorem S4 (l : List UInt8) (h : (Bj l).1 ≠ 0) : (Bj l).2.1 + 1 ≤ (Bj l).2.2 := by
 cases l with
 | nil => exact absurd rfl h
 | cons c r =>
  rcases Eg c r with ⟨h1, _⟩ | ⟨k, n, h1, h2, h3, h4, h5, h6, h7⟩
  ·rw [h1] at h; exact absurd rfl h
  rw [h1]; dsimp only; split
  ·rename_i hk
   rcases Nat.lt_or_ge n 2 with hn | hn
   ·exfalso
    have : n = 1 := by omega
    subst this; have hp : Dv [c] = k := h6; unfold Dv at hp; have hi : Bc ([c] : List UInt8).tail = false := rfl; rw [hi] at hp; repeat' split at hp
    all_goals first | omega | (rename_i hh; cases hh.2)
   omega
  omega
theorem WS (L : List UInt8) (quote : Nat → Nat × Nat) (hq : ∀ f, f < L.length → (quote f).1 ≤ L.length ∧ ((quote f).2 = 0 → f < (quote f).1)) (b : Nat) (h0 : (BG L quote b).2.2 = 0) (hk : (BG L quote b).1.kind ≠ 0) :
  1 ≤ (BG L quote b).1.text.size ∧ b + (BG L quote b).1.text.size ≤ (BG L quote b).2.1 := by
 unfold BG at h0 hk ⊢; cases hd : L.drop b with
 | nil => rw [hd] at hk; exact absurd rfl hk
 | cons c r =>
  rw [hd] at h0 hk; dsimp only at h0 hk ⊢; have hlen : (c :: r).length = L.length - b := by rw [← hd, List.length_drop]
  rw [List.length_cons] at hlen; by_cases h34 : c = 34
  ·rw [if_pos h34] at h0 hk ⊢
   obtain ⟨h1, h2⟩ := hq b (by omega); by_cases h3 : (quote b).2 ≠ 0
   ·rw [if_pos h3] at h0; exact absurd h0 h3
   rw [if_neg h3]; have := h2 (by omega); dsimp only; rw [DE, List.length_take, List.length_cons]; omega
  rw [if_neg h34] at h0 hk ⊢; by_cases h4 : (Bj (c :: r)).1 = 0
  ·rw [if_pos h4] at h0; cases h0
  rw [if_neg h4]; have h5 := S4 (c :: r) h4; obtain ⟨h6, _⟩ := Kh (c :: r); rw [List.length_cons] at h6; dsimp only; rw [DE, List.length_drop, List.length_take, List.length_cons]; omega
theorem Pt (L : List UInt8) (d a : Nat) (ha : a ≤ L.length) (h0 : (AF L d a).2.2 = 0) (hk : (AF L d a).1.kind ≠ 0) : 1 ≤ (AF L d a).1.text.size ∧ a + (AF L d a).1.text.size ≤ (AF L d a).2.1 := by
 have h1 := (C4 L a ha).1; rw [B9] at h0 hk ⊢; have := WS L _ (fun f hf => EX L d f hf) _ h0 hk; omega
def Ei (l : List Tf) : Nat := (l.map fun t => t.text.size).sum
theorem Qu (l r : List Tf) : Ei (l ++ r) = Ei l + Ei r := by unfold Ei; rw [List.map_append, List.sum_append]
theorem SF (L : List UInt8) : ∀ (n a : Nat) (acc : List Tf), a ≤ L.length → Ei acc ≤ a → (∀ t ∈ acc, 1 ≤ t.text.size) → Ei (BJ L n a acc).1 ≤ L.length ∧ ∀ t ∈ (BJ L n a acc).1, 1 ≤ t.text.size := by
 intro n; induction n with
 | zero => intro a acc h1 h2 h3; exact ⟨Nat.le_trans h2 h1, h3⟩
 | succ n ih =>
  intro a acc h1 h2 h3; simp only [BJ]; by_cases h4 : (AF L 48 a).2.2 ≠ 0
  ·rw [if_pos h4]; exact ⟨Nat.zero_le _, fun t ht => by cases ht⟩
  rw [if_neg h4]; by_cases h5 : (AF L 48 a).1.kind = 0
  ·rw [if_pos h5]; exact ⟨Nat.le_trans h2 h1, h3⟩
  rw [if_neg h5]; obtain ⟨h6, h7⟩ := Pt L 48 a h1 (by omega) h5; refine ih _ _ (CR L 48 a h1).le ?_ fun t ht => ?_
  ·rw [Qu]
   have : Ei [(AF L 48 a).1] = (AF L 48 a).1.text.size := by simp [Ei]
   omega
  rcases List.mem_append.1 ht with ht | ht
  ·exact h3 t ht
  rw [List.mem_singleton.1 ht]; exact h6
theorem Jp (L : List UInt8) : Ei (Bp L).1 ≤ L.length ∧ ∀ t ∈ (Bp L).1, 1 ≤ t.text.size := by
 unfold Bp; split
 ·exact ⟨Nat.zero_le _, fun t ht => by cases ht⟩
 exact SF L _ _ _ (Nat.zero_le _) (Nat.zero_le _) (fun t ht => by cases ht)
def PathQ (L : List UInt8) (one : Nat → Tf × Nat × Nat) (a : Nat) : Prop := ∃ n, n ≤ L.length + 2 ∧ qGo L one 0 n 0 a = (L.length, 0)
theorem PathQ.lt {L : List UInt8} {one : Nat → Tf × Nat × Nat} {a : Nat} (h : PathQ L one a) : ∃ c, L[a]? = some c ∧ (c = 34 → a + 1 = L.length) := by
 obtain ⟨n, _, h⟩ := h; cases n with
 | zero => exact absurd (show (20 : Nat) = 0 from congrArg Prod.snd h) (by decide)
 | succ n =>
  simp only [qGo] at h; cases hc : L[a]? with
  | none => rw [hc] at h; exact absurd (show (20 : Nat) = 0 from congrArg Prod.snd h) (by decide)
  | some c =>
   refine ⟨c, rfl, fun h34 => ?_⟩; rw [hc] at h; dsimp only at h; rw [if_pos h34] at h; injection h
theorem PathQ.char {L : List UInt8} {one : Nat → Tf × Nat × Nat} {a : Nat} {c : UInt8} (h : PathQ L one a) (hc : L[a]? = some c) (h34 : c ≠ 34) (h92 : c ≠ 92) : PathQ L one (a + 1) := by
 obtain ⟨n, hn, h⟩ := h; cases n with
 | zero => exact absurd (show (20 : Nat) = 0 from congrArg Prod.snd h) (by decide)
 | succ n =>
  simp only [qGo] at h; rw [hc] at h; dsimp only at h; rw [if_neg h34, if_pos h92] at h; exact ⟨n, by omega, h⟩
theorem PathQ.esc {L : List UInt8} {one : Nat → Tf × Nat × Nat} {a : Nat} (h : PathQ L one a) (hc : L[a]? = some 92) (h40 : L[a + 1]? ≠ some 40) : PathQ L one (a + 2) := by
 obtain ⟨n, hn, h⟩ := h; cases n with
 | zero => exact absurd (show (20 : Nat) = 0 from congrArg Prod.snd h) (by decide)
 | succ n =>
  simp only [qGo] at h; rw [hc] at h; dsimp only at h; rw [if_neg (by decide), if_neg (by decide), if_neg h40] at h; exact ⟨n, by omega, h⟩
theorem TS (L : List UInt8) (one : Nat → Tf × Nat × Nat) (hone : ∀ a, a ≤ L.length → OneOk L a (one a)) : ∀ (n o a : Nat), a ≤ L.length → qGo L one 0 n (o + 1) a = (L.length, 0) → ∀ m, n ≤ m → (∃ n', n' ≤ n ∧ qGo L one 0 n' 0 (BN one m (o + 1) a) = (L.length, 0)) ∧ a < BN one m (o + 1) a ∧ BN one m (o + 1) a ≤ L.length := by
 intro n; induction n with
 | zero => intro o a _ h; exact absurd (show (20 : Nat) = 0 from congrArg Prod.snd h) (by decide)
 | succ n ih =>
  intro o a ha h m hm; obtain ⟨m, rfl⟩ : ∃ k, m = k + 1 := ⟨m - 1, by omega⟩
  have hok := hone a ha; simp only [qGo] at h; by_cases h1 : (one a).2.2 ≠ 0
  ·rw [if_pos h1] at h
   injection h with _ h; exact absurd h h1
  rw [if_neg h1] at h; by_cases h2 : (one a).1.kind = 0
  ·rw [if_pos h2] at h; exact absurd (show (20 : Nat) = 0 from congrArg Prod.snd h) (by decide)
  rw [if_neg h2] at h; have hf := hok.fwd (by omega) h2; have hl := hok.le; simp only [BN]; by_cases h3 : (one a).1.kind = 6 ∧ (one a).1.text = ⟨#[40]⟩
  ·rw [if_pos h3] at h ⊢
   obtain ⟨⟨n', h4, h5⟩, h6, h7⟩ := ih (o + 1) _ hl h m (by omega); exact ⟨⟨n', by omega, h5⟩, Nat.lt_trans hf h6, h7⟩
  rw [if_neg h3] at h ⊢; by_cases h8 : (one a).1.kind = 6 ∧ (one a).1.text = ⟨#[41]⟩
  ·rw [if_pos h8] at h ⊢
   cases o with
   | zero =>
    have e : BN one m 0 (one a).2.1 = (one a).2.1 := by cases m <;> rfl
    rw [e]; exact ⟨⟨n, by omega, h⟩, hf, hl⟩
   | succ o =>
    obtain ⟨⟨n', h4, h5⟩, h6, h7⟩ := ih o _ hl h m (by omega); exact ⟨⟨n', by omega, h5⟩, by omega, h7⟩
  rw [if_neg h8] at h ⊢; obtain ⟨⟨n', h4, h5⟩, h6, h7⟩ := ih o _ hl h m (by omega); exact ⟨⟨n', by omega, h5⟩, by omega, h7⟩
theorem PathQ.sub {L : List UInt8} {one : Nat → Tf × Nat × Nat} (hone : ∀ a, a ≤ L.length → OneOk L a (one a)) {a : Nat} (h : PathQ L one a) (hc : L[a]? = some 92) (h40 : L[a + 1]? = some 40) :
  PathQ L one (BN one (L.length + 2) 1 (a + 2)) ∧ a + 2 < BN one (L.length + 2) 1 (a + 2) ∧ BN one (L.length + 2) 1 (a + 2) ≤ L.length := by
 obtain ⟨n, hn, h⟩ := h; cases n with
 | zero => exact absurd (show (20 : Nat) = 0 from congrArg Prod.snd h) (by decide)
 | succ n =>
  simp only [qGo] at h; rw [hc] at h; dsimp only at h; rw [if_neg (by decide), if_neg (by decide), if_pos h40] at h; have hl := (List.getElem?_eq_some_iff.1 h40).1; obtain ⟨⟨n', h1, h2⟩, h3, h4⟩ := TS L one hone n 0 (a + 2) (by omega) h (L.length + 2) (by omega); exact ⟨⟨n', by omega, h2⟩, h3, h4⟩
theorem PathQ.end_ {L : List UInt8} {one : Nat → Tf × Nat × Nat} (_hone : ∀ a, a ≤ L.length → OneOk L a (one a)) {a : Nat} (h : PathQ L one a) : a + 1 ≤ L.length ∧ (a + 1 = L.length ↔ L[a]? = some 34) := by
 obtain ⟨c, hc, h34⟩ := h.lt; have hl := (List.getElem?_eq_some_iff.1 hc).1; refine ⟨hl, fun he => ?_, fun hh => h34 (by rw [hc] at hh; injection hh)⟩; by_cases h1 : c = 34
 ·rw [hc, h1]
 exfalso; have hx : L[a + 1]? = none := List.getElem?_eq_none (by omega); by_cases h2 : c = 92
 ·subst h2
  obtain ⟨d, hd, _⟩ := (h.esc hc (by rw [hx]; exact fun h => by cases h)).lt; have := (List.getElem?_eq_some_iff.1 hd).1; omega
 obtain ⟨d, hd, _⟩ := (h.char hc h1 h2).lt; rw [hx] at hd; cases hd
theorem KO {L : List UInt8} (h : okQ L = true) : L.length ≤ 16384 ∧ L[0]? = some 34 ∧ PathQ L (AF L 47) 1 := by
 unfold okQ at h; simp only [Bool.and_eq_true, decide_eq_true_eq] at h; obtain ⟨⟨h1, h2⟩, h3⟩ := h; exact ⟨h1, h2, L.length + 2, Nat.le_refl _, h3⟩
def CL (l : List (List UInt8)) : Nat := (l.map List.length).sum
theorem F3 (l : List (List UInt8)) (g : List UInt8) : CL (l ++ [g]) = CL l + g.length := by unfold CL; rw [List.map_append, List.sum_append]; simp
theorem Qw (L : List UInt8) (one : Nat → Tf × Nat × Nat) (hone : ∀ a, a ≤ L.length → OneOk L a (one a)) : ∀ (n f a : Nat) (r : PartsR), PathQ L one a → CL r.filters + r.texts.length + 1 ≤ a → CL (Bn L one n f a r).filters + (Bn L one n f a r).texts.length ≤ L.length := by
 intro n; induction n with
 | zero => intro f a r h1 h2; have := (h1.end_ hone).1; simp only [Bn, List.length_append, List.length_singleton]; omega
 | succ n ih =>
  intro f a r h1 h2; obtain ⟨h3, h4⟩ := h1.end_ hone; simp only [Bn]; by_cases h5 : L.length - 1 ≤ a
  ·rw [if_pos h5]; simp only [List.length_append, List.length_singleton]; omega
  rw [if_neg h5]; have hn34 : L[a]? ≠ some 34 := fun hh => by have := h4.2 hh; omega
  by_cases h6 : L[a]? ≠ some 92
  ·rw [if_pos h6]
   obtain ⟨c, hc, _⟩ := h1.lt; exact ih _ _ _ (h1.char hc (fun h => hn34 (by rw [hc, h])) (fun h => h6 (by rw [hc, h]))) (by omega)
  rw [if_neg h6]; have h92 : L[a]? = some 92 := Decidable.of_not_not h6; by_cases h7 : L[a + 1]? ≠ some 40
  ·rw [if_pos h7]; exact ih _ _ _ (h1.esc h92 h7) (by omega)
  rw [if_neg h7]; obtain ⟨h8, h9, h10⟩ := h1.sub hone h92 (Decidable.of_not_not h7); refine ih _ _ _ h8 ?_; dsimp only; rw [F3, List.length_append, List.length_singleton, List.length_drop, List.length_take]; omega
theorem Ly (q : List UInt8) : CL (BS q).1.filters + (BS q).1.texts.length ≤ q.length := by
 unfold BS; split
 ·rename_i h
  exact Qw q _ (CR q 47) _ _ _ _ (KO h).2.2 (by simp [CL])
 exact Nat.zero_le _
end Th
namespace Go.Proofs.YtakncilicoefdaaGreatDoor
open Go Go.RowKit Go.Proofs Th
attribute [local go_sem] Above.cell
theorem KW {a b : Bool} (h : a = b) : Ending.returned (.bool a) = .returned (.bool b) := by rw [h]
theorem Xs (c : UInt8) (h : 97 ≤ c.toNat ∧ c.toNat ≤ 122 ∨ 65 ≤ c.toNat ∧ c.toNat ≤ 90) : true = Bl c := by
 unfold Bl; rcases h with h | h <;> simp [h.1, h.2]
theorem SL (c : UInt8) (h1 : 97 ≤ c.toNat → 122 < c.toNat) (h2 : 65 ≤ c.toNat → 90 < c.toNat) : ((c.toNat : Int) == 95) = Bl c := by
 unfold Bl; rw [decide_eq_false (fun h => by have := h1 h.1; omega), decide_eq_false (fun h => by have := h2 h.1; omega)]; simp only [Bool.false_or]; by_cases h5 : c.toNat = 95
 ·rw [decide_eq_true h5, beq_iff_eq]; omega
 rw [decide_eq_false h5, beq_eq_false_iff_ne]; omega
theorem O1 {p : UInt8 → Bool} {s : ByteArray} {j : Nat} (hj : j ≤ s.size) (h1 : ∀ i (h : i < s.data.toList.length), i < j → p s.data.toList[i] = true) (h2 : j = s.size ∨ ∃ h : j < s.size, p s[j] = false) : Bi p s.data.toList = j := by
 refine Tg p _ j (by rw [Ai]; exact hj) h1 ?_; rcases h2 with h2 | ⟨h, h2⟩
 ·exact Or.inl (by rw [Ai]; exact h2)
 exact Or.inr ⟨by rw [Ai]; exact h, h2⟩
theorem JZ {p : UInt8 → Bool} {s : ByteArray} {j : Nat} (hj : j < s.size) (h1 : ∀ i (h : i < s.data.toList.length), i < j → p s.data.toList[i] = true) (h2 : p s[j] = true) : ∀ i (h : i < s.data.toList.length), i < j + 1 → p s.data.toList[i] = true := by
 intro i h hi; by_cases hij : i < j
 ·exact h1 i h hij
 obtain rfl : i = j := by omega
 exact h2
theorem aj (c : UInt8) (h1 : 48 ≤ c.toNat) : decide ((c.toNat : Int) ≤ 57) = Bs c := by
 unfold Bs; rw [decide_eq_true h1, Bool.true_and]; congr 1; apply propext; omega
theorem ah (c : UInt8) (h1 : ¬ 48 ≤ c.toNat) : false = Bs c := by unfold Bs; simp [h1]
theorem Gm (c : UInt8) (w : World) : Calls Tryz.prog 73 #[.int .u8 c.toNat] w fun r w' => r = .returned (.bool (Bl c)) ∧ w' = w := by
 by_cases h1 : 97 ≤ c.toNat
 ·by_cases h2 : c.toNat ≤ 122
  ·have K := Keep.mk (Xs c (Or.inl ⟨h1, h2⟩))
   go_enter Tryz.func73, Tryz.ntmps73
   go_wp2
   go_ret
   exact ⟨KW K.out, rfl⟩
  have K := Keep.mk (show (decide ((c.toNat : Int) ≤ 122) || decide ((c.toNat : Int) ≤ 90) || (c.toNat : Int) == 95) = Bl c by rw [decide_eq_false (by omega), decide_eq_false (by omega)]; exact SL c (fun _ => by omega) (fun _ => by omega)); go_enter Tryz.func73, Tryz.ntmps73
  go_wp2
  go_ret
  exact ⟨KW K.out, rfl⟩
 by_cases h2 : 65 ≤ c.toNat
 ·by_cases h3 : c.toNat ≤ 90
  ·have K := Keep.mk (Xs c (Or.inr ⟨h2, h3⟩))
   go_enter Tryz.func73, Tryz.ntmps73
   go_wp2
   go_ret
   exact ⟨KW K.out, rfl⟩
  have K := Keep.mk (show (decide ((c.toNat : Int) ≤ 90) || (c.toNat : Int) == 95) = Bl c by rw [decide_eq_false (by omega)]; exact SL c (fun h => absurd h h1) (fun _ => by omega)); go_enter Tryz.func73, Tryz.ntmps73
  go_wp2
  go_ret
  exact ⟨KW K.out, rfl⟩
 have K := Keep.mk (SL c (fun h => absurd h h1) (fun h => absurd h h2)); go_enter Tryz.func73, Tryz.ntmps73
 go_wp2
 go_ret
 exact ⟨KW K.out, rfl⟩
theorem G7 (c : UInt8) (w : World) : Calls Tryz.prog 75 #[.int .u8 c.toNat] w fun r w' => r = .returned (.bool (Bs c)) ∧ w' = w := by
 by_cases h1 : 48 ≤ c.toNat
 ·have K := Keep.mk (aj c h1)
  go_enter Tryz.func75, Tryz.ntmps75
  go_wp2
  go_ret
  exact ⟨KW K.out, rfl⟩
 have K := Keep.mk (ah c h1); go_enter Tryz.func75, Tryz.ntmps75
 go_wp2
 go_ret
 exact ⟨KW K.out, rfl⟩
theorem Rx (s : ByteArray) (hs : s.size ≤ 100000000) (w : World) : Calls Tryz.prog 104 #[.string s] w fun r w' => r = .returned (.int .i64 (Bq s.data.toList : Int)) ∧ w' = w := by
 have HL := Keep.mk (Ai s); have HR := Keep.mk (fun (j : Nat) (hj : j ≤ s.size) (h1 : ∀ i (h : i < s.data.toList.length), i < j → Bs s.data.toList[i] = true) (h2 : j = s.size ∨ ∃ h : j < s.size, Bs s[j] = false) => show Bq s.data.toList = j from O1 hj h1 h2); go_enter Tryz.func104, Tryz.ntmps104
 go_wp2_with fail
 go_loopg [3] s.size (fun gk i wr => ∃ j : Nat, j + gk = s.size ∧ i = .int .i64 j ∧ Keep (∀ i (h : i < s.data.toList.length), i < j → Bs s.data.toList[i] = true) ∧ w = wr)
 case atStart => exact ⟨0, by omega, rfl, ⟨fun _ _ h => absurd h (by omega)⟩, rfl⟩
 case round =>
  obtain ⟨j, hj, rfl, HD, rfl⟩ := hrel; by_cases hlt : j < s.size
  ·have hgk : gk ≠ 0 := by omega
   have HC := Keep.mk (G7 s[j] w); cases hd : Bs s[j]
   ·rw [hd] at HC
    have HE := Keep.mk (HR.out j (by omega) HD.out (Or.inr ⟨hlt, hd⟩)); clear hd HD HR HL; go_wp2_with fail
    refine HC.out.mono ?_; rintro r w1 ⟨rfl, rfl⟩; go_wp2
    go_ret
    exact ⟨by rw [HE.out]; rfl, rfl⟩
   rw [hd] at HC; have HN := Keep.mk (JZ hlt HD.out hd); clear hd HD; go_wp2_with fail
   refine HC.out.mono ?_; rintro r w1 ⟨rfl, rfl⟩; go_wp2
   go_roundg (gk - 1)
   case rel => exact ⟨j + 1, by omega, by go_num, HN, rfl⟩
   case measure => omega
  have HE := Keep.mk (HR.out j (by omega) HD.out (Or.inl (by omega))); clear HD HR HL; go_wp2
  go_ret
  exact ⟨by rw [HE.out]; rfl, rfl⟩
theorem Fy {s : ByteArray} (h : 0 < s.size) : ∃ r, s.data.toList = s[0] :: r := by
 have hl : 0 < s.data.toList.length := by rw [Ai]; exact h
 cases hs : s.data.toList with
 | nil => rw [hs] at hl; cases hl
 | cons c r =>
  have : s[0] = s.data.toList[0] := rfl; refine ⟨r, ?_⟩; rw [this]; congr 1
  simp [hs]
theorem VQ {s : ByteArray} (h : 0 < s.size) (hl : Bl s[0] = true) : AM s.data.toList = Bi Bz s.data.toList := by
 obtain ⟨r, hr⟩ := Fy h; have hn : Bz s[0] = true := by unfold Bz; rw [hl]; rfl
 rw [hr]; simp only [AM, Bi]; rw [if_pos hl, if_pos hn]
theorem SW {s : ByteArray} (h : 0 < s.size) (hl : Bl s[0] = false) : AM s.data.toList = 0 := by
 obtain ⟨r, hr⟩ := Fy h; rw [hr]; simp only [AM]; rw [if_neg (by rw [hl]; decide)]
theorem UV {s : ByteArray} (h : s.size = 0) : AM s.data.toList = 0 := by
 rw [show s.data.toList = [] from List.eq_nil_of_length_eq_zero (by rw [Ai]; exact h)]; rfl
theorem Ld (s : ByteArray) (hs : s.size ≤ 100000000) (w : World) : Calls Tryz.prog 74 #[.string s] w fun r w' => r = .returned (.int .i64 (AM s.data.toList : Int)) ∧ w' = w := by
 by_cases h0 : s.size = 0
 ·have HN := Keep.mk (UV h0)
  obtain rfl : s = ⟨#[]⟩ := GH (show s.data.toList = [] from List.eq_nil_of_length_eq_zero (by rw [Ai]; exact h0)); clear h0; go_enter Tryz.func74, Tryz.ntmps74
  go_wp2
  go_ret
  exact ⟨by rw [HN.out]; rfl, rfl⟩
 have h1 : 0 < s.size := by omega
 have hne : (s.toList == []) = false := by rw [M5, beq_eq_false_iff_ne]; intro h; have := Ai s; rw [h] at this; exact h0 this.symm
 have HC0 := Keep.mk (Gm s[0] w); cases hd0 : Bl s[0]
 ·rw [hd0] at HC0
  have HN := Keep.mk (SW h1 hd0); clear h0 hd0; go_enter Tryz.func74, Tryz.ntmps74
  go_wp2_with fail
  refine HC0.out.mono ?_; rintro r w1 ⟨rfl, rfl⟩; go_wp2
  go_ret
  exact ⟨by rw [HN.out]; rfl, rfl⟩
 rw [hd0] at HC0; have HR := Keep.mk (fun (j : Nat) (hj : j ≤ s.size) (h2 : ∀ i (h : i < s.data.toList.length), i < j → Bz s.data.toList[i] = true) (h3 : j = s.size ∨ ∃ h : j < s.size, Bz s[j] = false) => show AM s.data.toList = j from (VQ h1 hd0).trans (O1 hj h2 h3)); have H0 := Keep.mk (show ∀ i (h : i < s.data.toList.length), i < 1 → Bz s.data.toList[i] = true from JZ h1 (fun i _ h => absurd h (by omega)) (by unfold Bz; rw [hd0]; rfl)); clear h0 hd0; go_enter Tryz.func74, Tryz.ntmps74
 go_wp2_with fail
 refine HC0.out.mono ?_; rintro r w1 ⟨rfl, rfl⟩; clear HC0; go_wp2_with fail
 go_loopg [3] (s.size - 1) (fun gk i wr => ∃ j : Nat, j + gk = s.size ∧ i = .int .i64 j ∧ Keep (∀ i (h : i < s.data.toList.length), i < j → Bz s.data.toList[i] = true) ∧ w1 = wr)
 case atStart => exact ⟨1, by omega, rfl, H0, rfl⟩
 case round =>
  obtain ⟨j, hj, rfl, HD, rfl⟩ := hrel; by_cases hlt : j < s.size
  ·have hgk : gk ≠ 0 := by omega
   have HC := Keep.mk (Gm s[j] w1); have HC2 := Keep.mk (G7 s[j] w1); cases hd : Bl s[j]
   ·rw [hd] at HC
    cases hd2 : Bs s[j]
    ·rw [hd2] at HC2
     have HE := Keep.mk (HR.out j (by omega) HD.out (Or.inr ⟨hlt, by unfold Bz; rw [hd, hd2]; rfl⟩)); clear hd hd2 HD HR H0; go_wp2_with fail
     refine HC.out.mono ?_; rintro r w2 ⟨rfl, rfl⟩; go_wp2_with fail
     refine HC2.out.mono ?_; rintro r w3 ⟨rfl, rfl⟩; go_wp2
     go_ret
     exact ⟨by rw [HE.out]; rfl, rfl⟩
    rw [hd2] at HC2; have HN := Keep.mk (JZ hlt HD.out (show Bz s[j] = true by unfold Bz; rw [hd, hd2]; rfl)); clear hd hd2 HD; go_wp2_with fail
    refine HC.out.mono ?_; rintro r w2 ⟨rfl, rfl⟩; go_wp2_with fail
    refine HC2.out.mono ?_; rintro r w3 ⟨rfl, rfl⟩; go_wp2
    go_roundg (gk - 1)
    case rel => exact ⟨j + 1, by omega, by go_num, HN, rfl⟩
    case measure => omega
   rw [hd] at HC; have HN := Keep.mk (JZ hlt HD.out (show Bz s[j] = true by unfold Bz; rw [hd]; rfl)); clear hd HD; go_wp2_with fail
   refine HC.out.mono ?_; rintro r w2 ⟨rfl, rfl⟩; go_wp2
   go_roundg (gk - 1)
   case rel => exact ⟨j + 1, by omega, by go_num, HN, rfl⟩
   case measure => omega
  have HE := Keep.mk (HR.out j (by omega) HD.out (Or.inl (by omega))); clear HD HR H0; go_wp2
  go_ret
  exact ⟨by rw [HE.out]; rfl, rfl⟩
theorem Iw (s : ByteArray) (a : Nat) (_h : a ≤ s.size) : (s.extract a s.size).size = s.size - a := by
 have := congrArg List.length (EK s a); rw [Ai, List.length_drop, Ai] at this; exact this
theorem Uu (l : List UInt8) (h : Bq l ≠ 0) : Dc l = EP l (D4 l (Bq l)) := by unfold Dc; rw [if_neg h]
theorem Rl (l : List UInt8) (n : Nat) (c : UInt8) : Lib.hasPrefix (l.drop n) [c] = decide (l[n]? = some c) := by
 have : (l.drop n)[0]? = l[n]? := by rw [List.getElem?_drop]; rfl
 rw [← this]; unfold Lib.hasPrefix; cases l.drop n with
 | nil => rfl
 | cons d r =>
  simp [List.isPrefixOf]; by_cases hc : c = d
  ·simp [hc]
  simp [hc, Ne.symm hc]
open Go Go.RowKit Go.Proofs Th Go.Sort
theorem Mq (w : World) (k : Nat) (os : Array Obj) : Below w.heap.size w (grow (w.drewN k) os) :=
 ⟨rfl, rfl, rfl, by simp [grow, World.drewN], fun i hi => heap_grow_old (w.drewN k) os hi⟩
theorem QM (w : World) (T : TypeId) (nd : Nat) (hs : nd ≤ 24) : Holds (fun (b : UInt8) => Value.int .u8 (b.toNat : Int)) (w.alloc (.cells Lib.zeros24 T)) w.heap.size 0 (Array.replicate nd (0 : UInt8)) := fun j hj => by
 have hj' : j < nd := by simpa using hj
 refine ⟨?_, World.frozen?_alloc_new _ _ _ _⟩; rw [World.cell?_alloc_new, Lib.zeros24_at _ (by omega), getElem!_pos _ j hj]; simp
theorem Oc (u : Nat) (hu : u < 100) (w : World) : Calls Tryz.prog 82 #[.int .u64 u, .int .i64 10] w fun r w' =>
  r = .returned (.string ⟨(Lib.decDigits u).toArray⟩) ∧ Below w.heap.size w w' := by
 go_enter Tryz.func82, Tryz.ntmps82
 go_wp2_with (go_at_call 113; refine (Tryz.internal_strconv_small u hu _).mono ?_; rintro e w' ⟨rfl, rfl⟩)
 go_ret
 exact ⟨rfl, Below.refl _ _⟩
theorem Qk (u : Nat) (hu : 100 ≤ u) (hu64 : u < 18446744073709551616) (w : World) (hg : GlobP w) : Calls Tryz.prog 82 #[.int .u64 u, .int .i64 10] w fun r w' =>
  r = .returned (.string ⟨(Lib.decDigits u).toArray⟩) ∧ Below w.heap.size w w' := by
 have hu1 : 1 ≤ u := by omega
 have hnd20 : Lib.nDigits u ≤ 20 := by have := Lib.numDigits_eq u hu1 hu64; split at this <;> omega
 have hal : Tryz.prog.arrayLen 123 = 24 := by kernel_rfl
 have hel : Tryz.prog.elem 123 = 5 := by kernel_rfl
 have hsl : ∀ W, (Instr.sliceAt 123 (.pointer (some ⟨w.heap.size, 0, none⟩)) none (some (.int .i64 (Lib.nDigits u : Int))) none).run Tryz.prog W = .ok (.slice (some ⟨w.heap.size, 0, none⟩) (Lib.nDigits u) 24) W := fun W => by
  rw [run_sliceAt_array_h W 123 ⟨w.heap.size, 0, none⟩ (by simp [Program.arrayLen, Program.elem, Tryz.underlying123]) .i64 (Lib.nDigits u : Int) (by omega) (by rw [hal]; omega), hal, hel, Tryz.sizeOf5]; simp [slicedAt, Lib.add_plain]
 have hH0 := QM w 123 (Lib.nDigits u) (by omega); have hfmt := Tryz.internal_strconv_formatBase10 w.heap.size 0 24 u (Array.replicate (Lib.nDigits u) 0) (w.alloc (.cells Lib.zeros24 123)) hH0 (by rw [Array.size_replicate]; exact Lib.lt_pow_nDigits u) hu64 (by rw [Array.size_replicate]; omega); rw [Array.size_replicate] at hfmt; have HH0 := Keep.mk hH0; have HU := Keep.mk hu64; have HND := Keep.mk hnd20; clear hH0 hal hel hu64 hnd20; have hlt : ¬ u < 100 := by omega
 go_enter Tryz.func82, Tryz.ntmps82
 go_wp2_with (first
  | (go_at_call 114; refine (Tryz.internal_strconv_numDigits u hu1 HU.out _ (Lib.tabIs_alloc hg.pows _)).mono ?_; rintro e w' ⟨rfl, rfl⟩))
 go_at_call 115
 refine hfmt.mono ?_; rintro e w' ⟨rfl, k, v', dk, rfl, hF⟩; have hcv : (convert 101 9 (.slice (some ⟨w.heap.size, 0, none⟩) (Lib.nDigits u) 24)).run Tryz.prog ((putRow (fun (b : UInt8) => Value.int .u8 (b.toNat : Int)) (w.alloc (.cells Lib.zeros24 123)) w.heap.size 0 dk).drewN k) = .ok (.string ⟨(Lib.decDigits u).toArray⟩) ((putRow (fun (b : UInt8) => Value.int .u8 (b.toNat : Int)) (w.alloc (.cells Lib.zeros24 123)) w.heap.size 0 dk).drewN k) := by
  have h := run_convert_bytes_back (P := Tryz.prog) ((putRow (fun (b : UInt8) => Value.int .u8 (b.toNat : Int)) (w.alloc (.cells Lib.zeros24 123)) w.heap.size 0 dk).drewN k) 101 9 5 ⟨w.heap.size, 0, none⟩ 24 (Lib.decDigits u) Tryz.underlying101 Tryz.underlying5 Tryz.underlying9 (fun j hj => by
   rw [Lib.row_is_numeral hF j hj, Lib.add_plain, World.cell?_drewN]; exact cell?_putRow (fun (b : UInt8) => Value.int .u8 (b.toNat : Int)) _ w.heap.size 0 _ dk HH0.out (by rw [hF.size, Array.size_replicate]) j (by rw [hF.size]; rw [Lib.decDigits_length] at hj; exact hj))
  rw [Lib.decDigits_length] at h; exact h
 go_wp2
 go_ret
 refine ⟨rfl, ?_⟩; rw [alloc_eq_grow]; obtain ⟨os', _, e⟩ := putRow_grow_new (fun (b : UInt8) => Value.int .u8 (b.toNat : Int)) w #[.cells Lib.zeros24 123] w.heap.size 0 dk (Nat.le_refl _); rw [e]; exact Mq w k os'
theorem Sj (u : Nat) (hu64 : u < 18446744073709551616) (w : World) (hg : GlobP w) : Calls Tryz.prog 51 #[.int .u64 u, .int .i64 10] w fun r w' =>
  r = .returned (.string ⟨(Lib.decDigits u).toArray⟩) ∧ Below w.heap.size w w' := by
 have key : Calls Tryz.prog 82 #[.int .u64 u, .int .i64 10] w fun r w' => r = .returned (.string ⟨(Lib.decDigits u).toArray⟩) ∧ Below w.heap.size w w' := by
  by_cases h : u < 100
  ·exact Oc u h w
  exact Qk u (by omega) hu64 w hg
 have KEY := Keep.mk key; clear key hu64; go_enter Tryz.func51, Tryz.ntmps51
 go_wp2_with fail
 refine KEY.out.mono ?_; rintro e w' ⟨rfl, hb⟩; go_wp2
 go_ret
 exact ⟨rfl, hb⟩
theorem itoa (n : Int) (h0 : -9223372036854775808 ≤ n) (h1 : n ≤ 9223372036854775807) (w : World) (hg : GlobP w) : Calls Tryz.prog 54 #[.int .i64 n] w fun r w' =>
  r = .returned (.string ⟨(Lib.itoa n).toArray⟩) ∧ Below w.heap.size w w' :=
 (Tryz.strconv_Itoa n h0 h1 w hg.pows).mono fun e w' ⟨he, k, os, hw⟩ => ⟨he, by rw [hw]; exact Mq w k os⟩
theorem GU (m e : Int) (hm : I64 m) (hr : right m e = true) : ∃ (A : Int) (S : ByteArray), (m.natAbs : Int) = A ∧ S = ⟨(Lib.decDigits m.natAbs).toArray⟩ ∧ S.size = nd m ∧
  (∀ w, Calls Tryz.prog 52 #[.agg #[.int .i64 m, .int .i64 e]] w fun r w' => r = .returned (.int .u64 A) ∧ Below w.heap.size w w') ∧
  (∀ w, GlobP w → Calls Tryz.prog 51 #[.int .u64 A, .int .i64 10] w fun r w' => r = .returned (.string S) ∧ Below w.heap.size w w') := by
 refine ⟨_, _, rfl, rfl, ?_, fun w => OO m e hm.lo hm.hi w, fun w hg => Sj m.natAbs (by have := Gd hr; omega) w hg⟩; show (Lib.decDigits m.natAbs).toArray.size = _
 rw [List.size_toArray, Lib.decDigits_length]; rfl
theorem OD (u : Nat) (h : u ≠ 0) : 10 ^ (Lib.nDigits u - 1) ≤ u := by
 induction u using Nat.strongRecOn with
 | _ u ih =>
  by_cases h9 : u < 10
  ·rw [Lib.nDigits_small h9]; simp; omega
  rw [Lib.nDigits_big h9, Nat.add_sub_cancel]; have := ih (u / 10) (by omega) (by omega); have h1 : Lib.nDigits (u / 10) = (Lib.nDigits (u / 10) - 1) + 1 := by
   have : 1 ≤ Lib.nDigits (u / 10) := by
    by_cases h9' : u / 10 < 10
    ·rw [Lib.nDigits_small h9']; omega
    rw [Lib.nDigits_big h9']; omega
   omega
  rw [h1, Nat.pow_succ]; omega
theorem LU {m e : Int} (h : right m e = true) : nd m ≤ 18 := by
 have h1 := Gd h; unfold nd; by_cases h0 : m.natAbs = 0
 ·rw [h0, Lib.nDigits_small (by omega)]; omega
 have h2 := Lib.numDigits_eq m.natAbs (by omega) (by omega); have h3 : Lib.nDigits m.natAbs ≤ 18 := by
  rcases Nat.lt_or_ge 18 (Lib.nDigits m.natAbs) with h4 | h4
  ·exfalso
   have h5 := OD m.natAbs (by omega); have h6 : (10 : Nat) ^ 18 ≤ 10 ^ (Lib.nDigits m.natAbs - 1) := Nat.pow_le_pow_right (by omega) (by omega); omega
  exact h4
 exact h3
open Go Go.RowKit Go.Proofs Th
theorem I64.right {m e : Int} (h : Th.right m e = true) : I64 m := by have := Gd h; exact ⟨by omega, by omega⟩
end Go.Proofs.YtakncilicoefdaaGreatDoor
