/- Lemmas and contracts. Conditions: those that each lemma names. -/
import Derived.Test.YtakncilicoefdaaGreatDoorPz16
set_option maxRecDepth 100000
set_option maxHeartbeats 4000000
namespace Go.Proofs.YtakncilicoefdaaGreatDoor
open Go Go.RowKit Go.Proofs Th
theorem GZ {E : Env} {j k : Nat} {n m : NJ} (h : tk (Aa E j) = (6, ⟨#[91]⟩)) (hi : evP E (.index n) j = some (.ok m k)) : evP E (.termLoop n) j = evP E (.termLoop m) k := by
 have hk : (Aa E j).kind = 6 := congrArg Prod.fst h; have hx : (Aa E j).text = ⟨#[91]⟩ := congrArg Prod.snd h; rw [AD]; simp only [Ak]; rw [if_neg (by omega), if_neg (fun h2 => by rw [h2.2] at hx; revert hx; decide), if_pos ⟨hk, hx⟩, hi]; rfl
theorem E8 {E : Env} {i j : Nat} {n : NJ} {s : ByteArray} (h : evP E .filter i = some (.ok n j)) (hb : Bar (6, s)) : ¬ isT E i 6 s := fun hh => by
 rw [Vz (by rw [AV.1 hh]; exact hb)] at h; cases h
instance (q : TK) : Decidable (Bar q) := by unfold Bar; exact inferInstance
section
variable {E : Env} {i j : Nat} {x m : NJ}
theorem YD (h0 : tk (Aa E i) = (6, ⟨#[91]⟩)) (h1 : tk (Aa E (i + 1)) = (6, ⟨#[93]⟩)) : evP E (.index x) i = some (.ok (Ag 7 [x]) (i + 2)) := by
 rw [AD]; simp only [Ak, A8]; rw [if_pos (AV.2 h0), if_pos (AV.2 h1)]; rfl
theorem Yi (h0 : tk (Aa E i) = (6, ⟨#[91]⟩)) (hf : evP E .filter (i + 1) = some (.ok m j)) (h1 : tk (Aa E j) = (6, ⟨#[93]⟩)) : evP E (.index x) i = some (.ok (Ax 5 ⟨#[]⟩ x m) (j + 1)) := by
 rw [AD]; simp only [Ak, A8]; rw [if_pos (AV.2 h0), if_neg (E8 hf (by decide)), if_neg (E8 hf (by decide)), hf]; show (if isT E j 6 ⟨#[93]⟩ then _ else _) = _
 rw [if_pos (AV.2 h1)]; rfl
theorem VP (h0 : tk (Aa E i) = (6, ⟨#[91]⟩)) (hf : evP E .filter (i + 1) = some (.ok m j)) (h1 : tk (Aa E j) = (6, ⟨#[58]⟩)) (h2 : tk (Aa E (j + 1)) = (6, ⟨#[93]⟩)) : evP E (.index x) i = some (.ok (.mk 6 ⟨#[]⟩ 0 0 [x, m] [fromB]) (j + 2)) := by
 rw [AD]; simp only [Ak, A8]; rw [if_pos (AV.2 h0), if_neg (E8 hf (by decide)), if_neg (E8 hf (by decide)), hf]; show (if isT E j 6 ⟨#[93]⟩ then _ else _) = _
 rw [if_neg (fun h => by rw [AV.1 h] at h1; revert h1; decide), if_pos (AV.2 h1), if_pos (AV.2 h2)]; rfl
theorem YV (h0 : tk (Aa E i) = (6, ⟨#[91]⟩)) (h1 : tk (Aa E (i + 1)) = (6, ⟨#[58]⟩)) (hf : evP E .filter (i + 2) = some (.ok m j)) (h2 : tk (Aa E j) = (6, ⟨#[93]⟩)) : evP E (.index x) i = some (.ok (.mk 6 ⟨#[]⟩ 0 0 [x, m] [toB]) (j + 1)) := by
 rw [AD]; simp only [Ak, A8]; rw [if_pos (AV.2 h0), if_neg (fun h => by rw [AV.1 h] at h1; revert h1; decide), if_pos (AV.2 h1), hf]; show (if isT E j 6 ⟨#[93]⟩ then _ else _) = _
 rw [if_pos (AV.2 h2)]; rfl
theorem Xc {k : Nat} {u : NJ} (h0 : tk (Aa E i) = (6, ⟨#[91]⟩)) (hf : evP E .filter (i + 1) = some (.ok m j)) (h1 : tk (Aa E j) = (6, ⟨#[58]⟩)) (hg : evP E .filter (j + 1) = some (.ok u k)) (h2 : tk (Aa E k) = (6, ⟨#[93]⟩)) : evP E (.index x) i = some (.ok (.mk 6 ⟨#[]⟩ 0 0 [x, m, u] [fromB, toB]) (k + 1)) := by
 rw [AD]; simp only [Ak, A8]; rw [if_pos (AV.2 h0), if_neg (E8 hf (by decide)), if_neg (E8 hf (by decide)), hf]; show (if isT E j 6 ⟨#[93]⟩ then _ else _) = _
 rw [if_neg (fun h => by rw [AV.1 h] at h1; revert h1; decide), if_pos (AV.2 h1), if_neg (E8 hg (by decide)), hg]; show (if isT E k 6 ⟨#[93]⟩ then _ else _) = _
 rw [if_pos (AV.2 h2)]; rfl
end
-- KINDS
theorem tg0 (x : NJ) (l : List NJ) (ts : List ByteArray) : tl (tgJ (List.map Av (x :: l)) (spJ x :: ts) 0) = tgX x := Xz _ _ 0 x rfl rfl
theorem tg1 (z x : NJ) (l : List NJ) (t : ByteArray) (ts : List ByteArray) : tl (tgJ (List.map Av (z :: x :: l)) (t :: spJ x :: ts) 1) = tgX x := Xz _ _ 1 x rfl rfl
theorem BE {α β : Type} (a : α) (j : Nat) (f : α → Nat → Option (PR β)) : A3 (some (.ok a j)) f = f a j := rfl
theorem Ch {β : Type} {E : Env} {i k : Nat} {s : ByteArray} (h : tk (Aa E i) = (k, s)) (f : Nat → Option (PR β)) : A8 E i k s f = f (i + 1) := by unfold A8; rw [if_pos (AV.2 h)]
theorem MV {β : Type} {E : Env} {i k : Nat} {s : ByteArray} (h : tk (Aa E i) = (k, s)) (hk : k ≠ 1) (f : ByteArray → Nat → Option (PR β)) : CX E i k f = f s (i + 1) := by
 unfold CX; rw [if_neg (by rw [J6, h]; exact fun h => h.elim (fun h => h rfl) (fun h => hk h.1)), Ig, h]
theorem MI {β : Type} {E : Env} {i : Nat} {s : ByteArray} (h : tk (Aa E i) = (1, s)) (hs : inB Ca s = false) (f : ByteArray → Nat → Option (PR β)) : CX E i 1 f = f s (i + 1) := by
 unfold CX; rw [if_neg (by rw [J6, h, Ig, h]; exact fun h => h.elim (fun h => h rfl) (fun h => by rw [hs] at h; cases h.2)), Ig, h]
theorem FQ {E : Env} {i k : Nat} {s : ByteArray} {q : TK} (h : tk (Aa E i) = q) (hq : q ≠ (k, s)) : ¬ isT E i k s := fun hh => hq (by rw [← h]; exact AV.1 hh)
variable {g : NJ → NJ} {c : TK → TK}
theorem D5 {n : NJ} (ps : List Pc) (ht : tl (spJ n) = CD ps) (sc : ∀ d, AB n ≤ d → ∀ R, El R = true → SG d ps R) (bal : Bal (BH ps)) (hd : ∃ q r, BH ps = q :: r ∧ HdK q) (c61 : ∃ c r, CD ps = c :: r ∧ c ≠ 61)
  (ev : ∀ E i j, AtK E i ((BH ps).map c) → j = i + (BH ps).length → Gq (tk (Aa E j)) → evP E .term i = evP E (.termLoop (g n)) j) : ∃ T, Rd g c n T :=
 ⟨BH ps, fun d hd R hR => ht ▸ L1 (sc d hd R hR), bal, hd, ht ▸ c61, ev⟩
structure OpOk (k : Int) (p s : ByteArray) (q : TK) : Prop where
 k34 : k ≠ 3 ∧ k ≠ 4
 n5 : q.1 ≠ 5
 t : ∀ x y, spJ (Ax k p x y) = ⟨#[40]⟩ ++ spJ x ++ ⟨#[32]⟩ ++ s ++ ⟨#[32]⟩ ++ spJ y ++ ⟨#[41]⟩
 r : ∀ d R, RD d (tl s) [q] (32 :: R)
 w : ∀ r s, Cx (s + 1) (q :: r) = Cx (s + 1) r
 e : IK q
 a : q ≠ (1, ⟨#[97, 115]⟩)
 s : q = (6, ⟨#[124]⟩) ∨ JM q ≠ 0
 j : ∀ x y, Ka q x y = Ax k p x y
theorem rd5 (hG : Gc g c) {x y : NJ} {Tx Ty : List TK} (rx : RdP g c (tgX x) (AB x) x Tx) (ry : Rd g c y Ty) : ∃ T, Rd g c (Ax 5 ⟨#[]⟩ x y) T := by
 obtain ⟨q, w, e, hh⟩ := rx.hd; obtain ⟨cc, v, e2, hc⟩ := rx.c61; refine D5 [⟨tgX x, Tx⟩, ⟨[91], [(6, ⟨#[91]⟩)]⟩, ⟨tl (spJ y), Ty⟩, ⟨[93], [(6, ⟨#[93]⟩)]⟩] ?_ (fun d hd R hR => ?_) (fun s => ?_) ⟨q, w ++ _, by rw [BH, e]; rfl, hh⟩ ⟨cc, v ++ _, by rw [CD, e2]; rfl, hc⟩ fun E i j hat hj hq => ?_
 ·unfold Ax
  rw [spJ]; simp only [Int.reduceEq, if_true, if_false, or_false, spL, CD, Bw, C8, tg0, List.append_assoc, List.cons_append, List.nil_append, List.append_nil]; try rfl
 ·simp only [Ax, AB, Bt] at hd
  exact ⟨rx.sc d (by omega) _ rfl, A1 rfl d _, ry.sc d (by omega) _ rfl, A1 rfl d _, trivial⟩
 ·simp only [BH, List.cons_append, List.nil_append, AZ rx.bal, BL (x := ⟨#[91]⟩) (by decide) (by decide), AZ ry.bal, BL (x := ⟨#[93]⟩) (by decide) (by decide), Cc]
 simp only [BH, List.cons_append, List.nil_append, List.append_nil, List.map_cons, List.map_append, List.map_nil, hG.t6] at hat hj; obtain ⟨h0, hat⟩ := hat.appM; obtain ⟨t1, hat⟩ := hat.cons; obtain ⟨h2, hat⟩ := hat.appM; obtain ⟨t3, _⟩ := hat.cons; obtain rfl : j = i + Tx.length + 1 + Ty.length + 1 := by rw [hj]; simp; try omega
 rw [show g (Ax 5 ⟨#[]⟩ x y) = Ax 5 ⟨#[]⟩ (g x) (g y) from hG.m _ _ _ _ _ _ (by decide) (by decide)]; rw [rx.ev E i _ h0 rfl (by rw [t1]; decide)]; exact GZ t1 (Yi t1 (ry.flt hG h2 (by rw [t3]; decide)) t3)
theorem rd7 (hG : Gc g c) {x : NJ} {Tx : List TK} (rx : RdP g c (tgX x) (AB x) x Tx) : ∃ T, Rd g c (Ag 7 [x]) T := by
 obtain ⟨q, w, e, hh⟩ := rx.hd; obtain ⟨cc, v, e2, hc⟩ := rx.c61; refine D5 [⟨tgX x, Tx⟩, ⟨[91], [(6, ⟨#[91]⟩)]⟩, ⟨[93], [(6, ⟨#[93]⟩)]⟩] ?_ (fun d hd R hR => ?_) (fun s => ?_) ⟨q, w ++ _, by rw [BH, e]; rfl, hh⟩ ⟨cc, v ++ _, by rw [CD, e2]; rfl, hc⟩ fun E i j hat hj hq => ?_
 ·unfold Ag
  rw [spJ]; simp only [Int.reduceEq, if_true, if_false, or_false, spL, CD, Bw, C8, tg0, List.cons_append, List.nil_append, List.append_nil]; try rfl
 ·simp only [Ag, AB, Bt] at hd
  exact ⟨rx.sc d (by omega) _ rfl, A1 rfl d _, A1 rfl d _, trivial⟩
 ·simp only [BH, List.cons_append, List.nil_append, AZ rx.bal, BL (x := ⟨#[91]⟩) (by decide) (by decide), BL (x := ⟨#[93]⟩) (by decide) (by decide), Cc]
 simp only [BH, List.cons_append, List.nil_append, List.append_nil, List.map_cons, List.map_append, List.map_nil, hG.t6] at hat hj; obtain ⟨h0, hat⟩ := hat.appM; obtain ⟨t1, hat⟩ := hat.cons; obtain ⟨t2, _⟩ := hat.cons; obtain rfl : j = i + Tx.length + 1 + 1 := by rw [hj]; simp; try omega
 rw [show g (Ag 7 [x]) = Ag 7 [(g x)] from hG.m _ _ _ _ _ _ (by decide) (by decide)]; rw [rx.ev E i _ h0 rfl (by rw [t1]; decide)]; exact GZ t1 (YD t1 t2)
theorem aL (hG : Gc g c) {x y : NJ} {Tx Ty : List TK} (rx : RdP g c (tgX x) (AB x) x Tx) (ry : Rd g c y Ty) : ∃ T, Rd g c (.mk 6 ⟨#[]⟩ 0 0 [x, y] [fromB]) T := by
 obtain ⟨q, w, e, hh⟩ := rx.hd; obtain ⟨cc, v, e2, hc⟩ := rx.c61; refine D5 [⟨tgX x, Tx⟩, ⟨[91], [(6, ⟨#[91]⟩)]⟩, ⟨tl (spJ y), Ty⟩, ⟨[58], [(6, ⟨#[58]⟩)]⟩, ⟨[93], [(6, ⟨#[93]⟩)]⟩] ?_ (fun d hd R hR => ?_) (fun s => ?_) ⟨q, w ++ _, by rw [BH, e]; rfl, hh⟩ ⟨cc, v ++ _, by rw [CD, e2]; rfl, hc⟩ fun E i j hat hj hq => ?_
 ·rw [spJ]
  simp only [Int.reduceEq, if_true, if_false, or_false, spL, CD, Bw, C8, tg0, List.append_assoc, List.cons_append, List.nil_append, List.append_nil, show [fromB].head? = some fromB from rfl, show ¬ [fromB].getLast? = some toB by decide, List.length_cons, List.length_nil, List.getD_cons_succ, List.getD_cons_zero, Nat.add_sub_cancel]; try rfl
 ·simp only [AB, Bt] at hd
  exact ⟨rx.sc d (by omega) _ rfl, A1 rfl d _, ry.sc d (by omega) _ rfl, A1 rfl d _, A1 rfl d _, trivial⟩
 ·simp only [BH, List.cons_append, List.nil_append, AZ rx.bal, BL (x := ⟨#[91]⟩) (by decide) (by decide), AZ ry.bal, BL (x := ⟨#[58]⟩) (by decide) (by decide), BL (x := ⟨#[93]⟩) (by decide) (by decide), Cc]
 simp only [BH, List.cons_append, List.nil_append, List.append_nil, List.map_cons, List.map_append, List.map_nil, hG.t6] at hat hj; obtain ⟨h0, hat⟩ := hat.appM; obtain ⟨t1, hat⟩ := hat.cons; obtain ⟨h2, hat⟩ := hat.appM; obtain ⟨t3, hat⟩ := hat.cons; obtain ⟨t4, _⟩ := hat.cons; obtain rfl : j = i + Tx.length + 1 + Ty.length + 1 + 1 := by rw [hj]; simp; try omega
 rw [show g (.mk 6 ⟨#[]⟩ 0 0 [x, y] [fromB]) = .mk 6 ⟨#[]⟩ 0 0 [(g x), (g y)] [fromB] from hG.m _ _ _ _ _ _ (by decide) (by decide)]; rw [rx.ev E i _ h0 rfl (by rw [t1]; decide)]; exact GZ t1 (VP t1 (ry.flt hG h2 (by rw [t3]; decide)) t3 t4)
theorem bd (hG : Gc g c) {x y : NJ} {Tx Ty : List TK} (rx : RdP g c (tgX x) (AB x) x Tx) (ry : Rd g c y Ty) : ∃ T, Rd g c (.mk 6 ⟨#[]⟩ 0 0 [x, y] [toB]) T := by
 obtain ⟨q, w, e, hh⟩ := rx.hd; obtain ⟨cc, v, e2, hc⟩ := rx.c61; refine D5 [⟨tgX x, Tx⟩, ⟨[91], [(6, ⟨#[91]⟩)]⟩, ⟨[58], [(6, ⟨#[58]⟩)]⟩, ⟨tl (spJ y), Ty⟩, ⟨[93], [(6, ⟨#[93]⟩)]⟩] ?_ (fun d hd R hR => ?_) (fun s => ?_) ⟨q, w ++ _, by rw [BH, e]; rfl, hh⟩ ⟨cc, v ++ _, by rw [CD, e2]; rfl, hc⟩ fun E i j hat hj hq => ?_
 ·rw [spJ]
  simp only [Int.reduceEq, if_true, if_false, or_false, spL, CD, Bw, C8, tg0, List.append_assoc, List.cons_append, List.nil_append, List.append_nil, show ¬ [toB].head? = some fromB by decide, show [toB].getLast? = some toB from rfl, List.length_cons, List.length_nil, List.getD_cons_succ, List.getD_cons_zero, Nat.add_sub_cancel]; try rfl
 ·simp only [AB, Bt] at hd
  exact ⟨rx.sc d (by omega) _ rfl, A1 rfl d _, A1 rfl d _, ry.sc d (by omega) _ rfl, A1 rfl d _, trivial⟩
 ·simp only [BH, List.cons_append, List.nil_append, AZ rx.bal, BL (x := ⟨#[91]⟩) (by decide) (by decide), BL (x := ⟨#[58]⟩) (by decide) (by decide), AZ ry.bal, BL (x := ⟨#[93]⟩) (by decide) (by decide), Cc]
 simp only [BH, List.cons_append, List.nil_append, List.append_nil, List.map_cons, List.map_append, List.map_nil, hG.t6] at hat hj; obtain ⟨h0, hat⟩ := hat.appM; obtain ⟨t1, hat⟩ := hat.cons; obtain ⟨t2, hat⟩ := hat.cons; obtain ⟨h3, hat⟩ := hat.appM; obtain ⟨t4, _⟩ := hat.cons; obtain rfl : j = i + Tx.length + 1 + 1 + Ty.length + 1 := by rw [hj]; simp; try omega
 rw [show g (.mk 6 ⟨#[]⟩ 0 0 [x, y] [toB]) = .mk 6 ⟨#[]⟩ 0 0 [(g x), (g y)] [toB] from hG.m _ _ _ _ _ _ (by decide) (by decide)]; rw [rx.ev E i _ h0 rfl (by rw [t1]; decide)]; exact GZ t1 (YV t1 t2 (ry.flt hG h3 (by rw [t4]; decide)) t4)
theorem aW (hG : Gc g c) {x y z : NJ} {Tx Ty Tz : List TK} (rx : RdP g c (tgX x) (AB x) x Tx) (ry : Rd g c y Ty) (rz : Rd g c z Tz) : ∃ T, Rd g c (.mk 6 ⟨#[]⟩ 0 0 [x, y, z] [fromB, toB]) T := by
 obtain ⟨q, w, e, hh⟩ := rx.hd; obtain ⟨cc, v, e2, hc⟩ := rx.c61; refine D5 [⟨tgX x, Tx⟩, ⟨[91], [(6, ⟨#[91]⟩)]⟩, ⟨tl (spJ y), Ty⟩, ⟨[58], [(6, ⟨#[58]⟩)]⟩, ⟨tl (spJ z), Tz⟩, ⟨[93], [(6, ⟨#[93]⟩)]⟩] ?_ (fun d hd R hR => ?_) (fun s => ?_) ⟨q, w ++ _, by rw [BH, e]; rfl, hh⟩ ⟨cc, v ++ _, by rw [CD, e2]; rfl, hc⟩ fun E i j hat hj hq => ?_
 ·rw [spJ]
  simp only [Int.reduceEq, if_true, if_false, or_false, spL, CD, Bw, C8, tg0, List.append_assoc, List.cons_append, List.nil_append, List.append_nil, show [fromB, toB].head? = some fromB from rfl, show [fromB, toB].getLast? = some toB from rfl, List.length_cons, List.length_nil, List.getD_cons_succ, List.getD_cons_zero, Nat.add_sub_cancel]; try rfl
 ·simp only [AB, Bt] at hd
  exact ⟨rx.sc d (by omega) _ rfl, A1 rfl d _, ry.sc d (by omega) _ rfl, A1 rfl d _, rz.sc d (by omega) _ rfl, A1 rfl d _, trivial⟩
 ·simp only [BH, List.cons_append, List.nil_append, AZ rx.bal, BL (x := ⟨#[91]⟩) (by decide) (by decide), AZ ry.bal, BL (x := ⟨#[58]⟩) (by decide) (by decide), AZ rz.bal, BL (x := ⟨#[93]⟩) (by decide) (by decide), Cc]
 simp only [BH, List.cons_append, List.nil_append, List.append_nil, List.map_cons, List.map_append, List.map_nil, hG.t6] at hat hj; obtain ⟨h0, hat⟩ := hat.appM; obtain ⟨t1, hat⟩ := hat.cons; obtain ⟨h2, hat⟩ := hat.appM; obtain ⟨t3, hat⟩ := hat.cons; obtain ⟨h4, hat⟩ := hat.appM; obtain ⟨t5, _⟩ := hat.cons; obtain rfl : j = i + Tx.length + 1 + Ty.length + 1 + Tz.length + 1 := by rw [hj]; simp; try omega
 rw [show g (.mk 6 ⟨#[]⟩ 0 0 [x, y, z] [fromB, toB]) = .mk 6 ⟨#[]⟩ 0 0 [(g x), (g y), (g z)] [fromB, toB] from hG.m _ _ _ _ _ _ (by decide) (by decide)]; rw [rx.ev E i _ h0 rfl (by rw [t1]; decide)]; exact GZ t1 (Xc t1 (ry.flt hG h2 (by rw [t3]; decide)) t3 (rz.flt hG h4 (by rw [t5]; decide)) t5)
theorem aR (hG : Gc g c) {x : NJ} {Tx : List TK} (rx : Rd g c x Tx) : ∃ T, Rd g c (Ag 14 [x]) T := by
 obtain ⟨c0, v0, e0, hc0⟩ := rx.c61; refine D5 [⟨[40], [(6, ⟨#[40]⟩)]⟩, ⟨[45], [(6, ⟨#[45]⟩)]⟩, ⟨tl (spJ x), Tx⟩, ⟨[41], [(6, ⟨#[41]⟩)]⟩] ?_ (fun d hd R hR => ?_) (fun s => ?_) ⟨_, _, rfl, by decide⟩ ⟨_, _, rfl, by decide⟩ fun E i j hat hj hq => ?_
 ·unfold Ag
  rw [spJ]; simp only [Int.reduceEq, if_true, if_false, or_false, spL, CD, Bw, C8, List.cons_append, List.nil_append, List.append_nil, List.getD_cons_zero]; try rfl
 ·simp only [Ag, AB, Bt] at hd
  exact ⟨A1 rfl d _, WT (by simp only [CD, e0]; intro h; injection h with h; exact hc0 h), rx.sc d (by omega) _ rfl, A1 rfl d _, trivial⟩
 ·simp only [BH, List.cons_append, List.nil_append, DR, BL (x := ⟨#[45]⟩) (by decide) (by decide), AZ rx.bal, DT, Cc]
 simp only [BH, List.cons_append, List.nil_append, List.append_nil, List.map_cons, List.map_append, List.map_nil, hG.t6] at hat hj; obtain ⟨t0, hat⟩ := hat.cons; obtain ⟨t1, hat⟩ := hat.cons; obtain ⟨h2, hat⟩ := hat.appM; obtain ⟨t3, _⟩ := hat.cons; obtain rfl : j = i + 1 + 1 + Tx.length + 1 := by rw [hj]; simp; try omega
 rw [show g (Ag 14 [x]) = Ag 14 [(g x)] from hG.m _ _ _ _ _ _ (by decide) (by decide)]; have hx := rx.atom hG h2 (by rw [t3]; decide) (by rw [t3]; decide); have hm : Atom E (i + 1) (Ag 14 [g x]) (i + 1 + 1 + Tx.length) := by
  refine ⟨?_, fun h => by rw [AV.1 h] at t1; revert t1; decide⟩; rw [AD]; simp only [Ak]; rw [if_pos (AV.2 t1), hx.m]; rfl
 exact Bx (Es t0 (Ia hm (by rw [t3]; decide)) t3)
theorem ab (hG : Gc g c)  : ∃ T, Rd g c (Ag 15 []) T := by
 refine D5 [⟨[91], [(6, ⟨#[91]⟩)]⟩, ⟨[93], [(6, ⟨#[93]⟩)]⟩] ?_ (fun d hd R hR => ?_) (fun s => ?_) ⟨_, _, rfl, by decide⟩ ⟨_, _, rfl, by decide⟩ fun E i j hat hj hq => ?_
 ·unfold Ag
  rw [spJ]; simp only [Int.reduceEq, if_true, if_false, or_false, spL, CD, Bw, C8, List.cons_append, List.nil_append, List.append_nil, List.getD_nil]; try rfl
 ·simp only [Ag, AB, Bt] at hd
  exact ⟨A1 rfl d _, A1 rfl d _, trivial⟩
 ·simp only [BH, List.cons_append, List.nil_append, BL (x := ⟨#[91]⟩) (by decide) (by decide), BL (x := ⟨#[93]⟩) (by decide) (by decide), Cc]
 simp only [BH, List.cons_append, List.nil_append, List.append_nil, List.map_cons, List.map_nil, hG.t6] at hat hj; obtain ⟨t0, hat⟩ := hat.cons; obtain ⟨t1, _⟩ := hat.cons; obtain rfl : j = i + 1 + 1 := by rw [hj]; simp; try omega
 rw [show g (Ag 15 []) = Ag 15 [] from hG.m _ _ _ _ _ _ (by decide) (by decide)]; refine Bx ?_; rw [Gt t0, AD]; simp only [Ak]; rw [if_neg (by decide), if_neg (by decide), if_neg (by decide), if_pos trivial, if_pos (AV.2 t1)]; rfl
theorem Z0 (hG : Gc g c) {x : NJ} {Tx : List TK} (rx : Rd g c x Tx) : ∃ T, Rd g c (Ag 15 [x]) T := by
 refine D5 [⟨[91], [(6, ⟨#[91]⟩)]⟩, ⟨tl (spJ x), Tx⟩, ⟨[93], [(6, ⟨#[93]⟩)]⟩] ?_ (fun d hd R hR => ?_) (fun s => ?_) ⟨_, _, rfl, by decide⟩ ⟨_, _, rfl, by decide⟩ fun E i j hat hj hq => ?_
 ·unfold Ag
  rw [spJ]; simp only [Int.reduceEq, if_true, if_false, or_false, spL, CD, Bw, C8, List.cons_append, List.nil_append, List.append_nil, List.getD_cons_zero]; try rfl
 ·simp only [Ag, AB, Bt] at hd
  exact ⟨A1 rfl d _, rx.sc d (by omega) _ rfl, A1 rfl d _, trivial⟩
 ·simp only [BH, List.cons_append, List.nil_append, BL (x := ⟨#[91]⟩) (by decide) (by decide), AZ rx.bal, BL (x := ⟨#[93]⟩) (by decide) (by decide), Cc]
 simp only [BH, List.cons_append, List.nil_append, List.append_nil, List.map_cons, List.map_append, List.map_nil, hG.t6] at hat hj; obtain ⟨t0, hat⟩ := hat.cons; obtain ⟨h1, hat⟩ := hat.appM; obtain ⟨t2, _⟩ := hat.cons; obtain rfl : j = i + 1 + Tx.length + 1 := by rw [hj]; simp; try omega
 rw [show g (Ag 15 [x]) = Ag 15 [(g x)] from hG.m _ _ _ _ _ _ (by decide) (by decide)]; have hf := rx.flt hG h1 (by rw [t2]; decide); refine Bx ?_; rw [Gt t0, AD]; simp only [Ak]; rw [if_neg (by decide), if_neg (by decide), if_neg (by decide), if_pos trivial, if_neg (E8 hf (by decide)), hf]; show A8 E _ 6 ⟨#[93]⟩ _ = _
 unfold A8; rw [if_pos (AV.2 t2)]; rfl
theorem aJ (hG : Gc g c) {x y z : NJ} {Tx Ty Tz : List TK} (rx : Rd g c x Tx) (ry : Rd g c y Ty) (rz : Rd g c z Tz) : ∃ T, Rd g c (Ag 17 [x, y, z]) T := by
 refine D5 [⟨[105, 102], [(1, ⟨#[105, 102]⟩)]⟩, ⟨[32], []⟩, ⟨tl (spJ x), Tx⟩, ⟨[32], []⟩, ⟨[116, 104, 101, 110], [(1, ⟨#[116, 104, 101, 110]⟩)]⟩, ⟨[32], []⟩, ⟨tl (spJ y), Ty⟩, ⟨[32], []⟩, ⟨[101, 108, 115, 101], [(1, ⟨#[101, 108, 115, 101]⟩)]⟩, ⟨[32], []⟩, ⟨tl (spJ z), Tz⟩, ⟨[32], []⟩, ⟨[101, 110, 100], [(1, ⟨#[101, 110, 100]⟩)]⟩] ?_ (fun d hd R hR => ?_) (fun s => ?_) ⟨_, _, rfl, by decide⟩ ⟨_, _, rfl, by decide⟩ fun E i j hat hj hq => ?_
 ·unfold Ag
  rw [spJ]; simp only [Int.reduceEq, if_true, if_false, or_false, spL, CD, Bw, C8, List.append_assoc, List.cons_append, List.nil_append, List.append_nil, List.getD_cons_zero, List.getD_cons_succ]; try rfl
 ·simp only [Ag, AB, Bt] at hd
  exact ⟨CC rfl rfl, Bb d _, rx.sc d (by omega) _ rfl, Bb d _, CC rfl rfl, Bb d _, ry.sc d (by omega) _ rfl, Bb d _, CC rfl rfl, Bb d _, rz.sc d (by omega) _ rfl, Bb d _, CC rfl (G0 hR), trivial⟩
 ·simp only [BH, List.cons_append, List.nil_append, Ec (k := 1) (by decide), AZ rx.bal, AZ ry.bal, AZ rz.bal, Cc]
 simp only [BH, List.cons_append, List.nil_append, List.append_nil, List.map_cons, List.map_append, List.map_nil, hG.t1] at hat hj; obtain ⟨t0, hat⟩ := hat.cons; obtain ⟨h1, hat⟩ := hat.appM; obtain ⟨t2, hat⟩ := hat.cons; obtain ⟨h3, hat⟩ := hat.appM; obtain ⟨t4, hat⟩ := hat.cons; obtain ⟨h5, hat⟩ := hat.appM; obtain ⟨t6, _⟩ := hat.cons; obtain rfl : j = i + 1 + Tx.length + 1 + Ty.length + 1 + Tz.length + 1 := by rw [hj]; simp; try omega
 rw [show g (Ag 17 [x, y, z]) = Ag 17 [(g x), (g y), (g z)] from hG.m _ _ _ _ _ _ (by decide) (by decide)]; refine Bx ?_; have hk : (Aa E i).kind = 1 := congrArg Prod.fst t0; have hx : (Aa E i).text = _ := congrArg Prod.snd t0; rw [AD]; simp only [Ak]; rw [if_neg (by omega), if_neg (by omega), if_neg (by omega), if_neg (by omega), if_pos hk, hx, AD]; simp only [Ak]; rw [if_pos trivial, AD]; simp only [Ak]; rw [rx.flt hG h1 (by rw [t2]; decide), BE, Ch t2, ry.flt hG h3 (by rw [t4]; decide), BE, if_neg (FQ t4 (by decide)), if_pos (AV.2 t4), rz.flt hG h5 (by rw [t6]; decide), BE, Ch t6]; rfl
theorem ZY (hG : Gc g c) {x : NJ} {Tx : List TK} (rx : RdP g c (tgX x) (AB x) x Tx) : ∃ T, Rd g c (Ag 18 [x]) T := by
 refine D5 [⟨[40], [(6, ⟨#[40]⟩)]⟩, ⟨[116, 114, 121], [(1, ⟨#[116, 114, 121]⟩)]⟩, ⟨[32], []⟩, ⟨tgX x, Tx⟩, ⟨[41], [(6, ⟨#[41]⟩)]⟩] ?_ (fun d hd R hR => ?_) (fun s => ?_) ⟨_, _, rfl, by decide⟩ ⟨_, _, rfl, by decide⟩ fun E i j hat hj hq => ?_
 ·unfold Ag
  rw [spJ]; simp only [Int.reduceEq, if_true, if_false, or_false, spL, CD, Bw, C8, tg0, List.cons_append, List.nil_append, List.append_nil, List.length_cons, List.length_nil, show ¬ 0 + 1 = 2 by decide]; try rfl
 ·simp only [Ag, AB, Bt] at hd
  exact ⟨A1 rfl d _, CC rfl rfl, Bb d _, rx.sc d (by omega) _ rfl, A1 rfl d _, trivial⟩
 ·simp only [BH, List.cons_append, List.nil_append, DR, Ec (k := 1) (by decide), AZ rx.bal, DT, Cc]
 simp only [BH, List.cons_append, List.nil_append, List.append_nil, List.map_cons, List.map_append, List.map_nil, hG.t1, hG.t6] at hat hj; obtain ⟨t0, hat⟩ := hat.cons; obtain ⟨t1, hat⟩ := hat.cons; obtain ⟨h2, hat⟩ := hat.appM; obtain ⟨t3, _⟩ := hat.cons; obtain rfl : j = i + 1 + 1 + Tx.length + 1 := by rw [hj]; simp; try omega
 rw [show g (Ag 18 [x]) = Ag 18 [(g x)] from hG.m _ _ _ _ _ _ (by decide) (by decide)]; refine Bx (Es t0 ?_ t3); have h18 : evP E .first (i + 1) = some (.ok (Ag 18 [g x]) (i + 1 + 1 + Tx.length)) := by
  have hk : (Aa E (i + 1)).kind = 1 := congrArg Prod.fst t1; have hx : (Aa E (i + 1)).text = _ := congrArg Prod.snd t1; rw [AD]; simp only [Ak]; rw [if_neg (by omega), if_neg (by omega), if_neg (by omega), if_neg (by omega), if_pos hk, hx, AD]; simp only [Ak]; rw [if_neg (by decide), if_pos trivial, rx.term h2 (by rw [t3]; decide), BE]; rw [if_neg (FQ t3 (by decide))]; rfl
 exact Ia (Rs t1 (by decide) h18 (by rw [t3]; decide)) (by rw [t3]; decide)
theorem al (hG : Gc g c) {x y : NJ} {Tx Ty : List TK} (rx : RdP g c (tgX x) (AB x) x Tx) (ry : RdP g c (tgX y) (AB y) y Ty) : ∃ T, Rd g c (Ag 18 [x, y]) T := by
 refine D5 [⟨[40], [(6, ⟨#[40]⟩)]⟩, ⟨[116, 114, 121], [(1, ⟨#[116, 114, 121]⟩)]⟩, ⟨[32], []⟩, ⟨tgX x, Tx⟩, ⟨[32], []⟩, ⟨[99, 97, 116, 99, 104], [(1, ⟨#[99, 97, 116, 99, 104]⟩)]⟩, ⟨[32], []⟩, ⟨tgX y, Ty⟩, ⟨[41], [(6, ⟨#[41]⟩)]⟩] ?_ (fun d hd R hR => ?_) (fun s => ?_) ⟨_, _, rfl, by decide⟩ ⟨_, _, rfl, by decide⟩ fun E i j hat hj hq => ?_
 ·unfold Ag
  rw [spJ]; simp only [Int.reduceEq, if_true, if_false, or_false, spL, CD, Bw, C8, tg0, tg1, List.append_assoc, List.cons_append, List.nil_append, List.append_nil, List.length_cons, List.length_nil, show 0 + 1 + 1 = 2 from rfl]; try rfl
 ·simp only [Ag, AB, Bt] at hd
  exact ⟨A1 rfl d _, CC rfl rfl, Bb d _, rx.sc d (by omega) _ rfl, Bb d _, CC rfl rfl, Bb d _, ry.sc d (by omega) _ rfl, A1 rfl d _, trivial⟩
 ·simp only [BH, List.cons_append, List.nil_append, DR, Ec (k := 1) (by decide), AZ rx.bal, AZ ry.bal, DT, Cc]
 simp only [BH, List.cons_append, List.nil_append, List.append_nil, List.map_cons, List.map_append, List.map_nil, hG.t1, hG.t6] at hat hj; obtain ⟨t0, hat⟩ := hat.cons; obtain ⟨t1, hat⟩ := hat.cons; obtain ⟨h2, hat⟩ := hat.appM; obtain ⟨t3, hat⟩ := hat.cons; obtain ⟨h4, hat⟩ := hat.appM; obtain ⟨t5, _⟩ := hat.cons; obtain rfl : j = i + 1 + 1 + Tx.length + 1 + Ty.length + 1 := by rw [hj]; simp; try omega
 rw [show g (Ag 18 [x, y]) = Ag 18 [(g x), (g y)] from hG.m _ _ _ _ _ _ (by decide) (by decide)]; refine Bx (Es t0 ?_ t5); have h18 : evP E .first (i + 1) = some (.ok (Ag 18 [g x, g y]) (i + 1 + 1 + Tx.length + 1 + Ty.length)) := by
  have hk : (Aa E (i + 1)).kind = 1 := congrArg Prod.fst t1; have hx : (Aa E (i + 1)).text = _ := congrArg Prod.snd t1; rw [AD]; simp only [Ak]; rw [if_neg (by omega), if_neg (by omega), if_neg (by omega), if_neg (by omega), if_pos hk, hx, AD]; simp only [Ak]; rw [if_neg (by decide), if_pos trivial, rx.term h2 (by rw [t3]; decide), BE]; rw [if_pos (AV.2 t3), ry.term h4 (by rw [t5]; decide)]; rfl
 exact Ia (Rs t1 (by decide) h18 (by rw [t5]; decide)) (by rw [t5]; decide)
theorem aS (hG : Gc g c) {x y z : NJ} {s : ByteArray} {Tx Ty Tz : List TK} (rx : RdP g c (tgX x) (AB x) x Tx) (ry : Rd g c y Ty) (rz : Rd g c z Tz) (hs : Bf s = true) : ∃ T, Rd g c (.mk 19 s 0 0 [x, y, z] []) T := by
 refine D5 [⟨[114, 101, 100, 117, 99, 101], [(1, ⟨#[114, 101, 100, 117, 99, 101]⟩)]⟩, ⟨[32], []⟩, ⟨tgX x, Tx⟩, ⟨[32], []⟩, ⟨[97, 115], [(1, ⟨#[97, 115]⟩)]⟩, ⟨[32], []⟩, ⟨36 :: tl s, [(2, s)]⟩, ⟨[32], []⟩, ⟨[40], [(6, ⟨#[40]⟩)]⟩, ⟨tl (spJ y), Ty⟩, ⟨[59], [(6, ⟨#[59]⟩)]⟩, ⟨[32], []⟩, ⟨tl (spJ z), Tz⟩, ⟨[41], [(6, ⟨#[41]⟩)]⟩] ?_ (fun d hd R hR => ?_) (fun s => ?_) ⟨_, _, rfl, by decide⟩ ⟨_, _, rfl, by decide⟩ fun E i j hat hj hq => ?_
 ·rw [spJ]
  simp only [Int.reduceEq, if_true, if_false, or_false, spL, CD, Bw, C8, tg0, List.append_assoc, List.cons_append, List.nil_append, List.append_nil, List.tail_cons, Ba]; try rfl
 ·simp only [AB, Bt] at hd
  exact ⟨CC rfl rfl, Bb d _, rx.sc d (by omega) _ rfl, Bb d _, CC rfl rfl, Bb d _, GW hs rfl, Bb d _, A1 rfl d _, ry.sc d (by omega) _ rfl, A1 rfl d _, Bb d _, rz.sc d (by omega) _ rfl, A1 rfl d _, trivial⟩
 ·simp only [BH, List.cons_append, List.nil_append, Ec (k := 1) (by decide), AZ rx.bal, Ec (k := 2) (by decide), DR, AZ ry.bal, BL (x := ⟨#[59]⟩) (by decide) (by decide), AZ rz.bal, DT, Cc]
 simp only [BH, List.cons_append, List.nil_append, List.append_nil, List.map_cons, List.map_append, List.map_nil, hG.t1, hG.t2, hG.t6] at hat hj; obtain ⟨t0, hat⟩ := hat.cons; obtain ⟨h1, hat⟩ := hat.appM; obtain ⟨t2, hat⟩ := hat.cons; obtain ⟨t3, hat⟩ := hat.cons; obtain ⟨t4, hat⟩ := hat.cons; obtain ⟨h5, hat⟩ := hat.appM; obtain ⟨t6, hat⟩ := hat.cons; obtain ⟨h7, hat⟩ := hat.appM; obtain ⟨t8, _⟩ := hat.cons; obtain rfl : j = i + 1 + Tx.length + 1 + 1 + 1 + Ty.length + 1 + Tz.length + 1 := by rw [hj]; simp; try omega
 rw [show g (.mk 19 s 0 0 [x, y, z] []) = .mk 19 s 0 0 [(g x), (g y), (g z)] [] from hG.m _ _ _ _ _ _ (by decide) (by decide)]; refine Bx ?_; have hk : (Aa E i).kind = 1 := congrArg Prod.fst t0; have hx : (Aa E i).text = _ := congrArg Prod.snd t0; rw [AD]; simp only [Ak]; rw [if_neg (by omega), if_neg (by omega), if_neg (by omega), if_neg (by omega), if_pos hk, hx, AD]; simp only [Ak]; rw [if_neg (by decide), if_neg (by decide), if_pos trivial, AD]; simp only [Ak]; rw [rx.term h1 (by rw [t2]; decide), BE, Ch t2, MV t3 (by decide), Ch t4, ry.flt hG h5 (by rw [t6]; decide), BE, Ch t6, rz.flt hG h7 (by rw [t8]; decide), BE]; rw [if_neg (by decide), Ch t8]; rfl
theorem aZ (hG : Gc g c) {x y z u : NJ} {s : ByteArray} {Tx Ty Tz Tu : List TK} (rx : RdP g c (tgX x) (AB x) x Tx) (ry : Rd g c y Ty) (rz : Rd g c z Tz) (ru : Rd g c u Tu) (hs : Bf s = true) : ∃ T, Rd g c (.mk 20 s 0 0 [x, y, z, u] []) T := by
 refine D5 [⟨[102, 111, 114, 101, 97, 99, 104], [(1, ⟨#[102, 111, 114, 101, 97, 99, 104]⟩)]⟩, ⟨[32], []⟩, ⟨tgX x, Tx⟩, ⟨[32], []⟩, ⟨[97, 115], [(1, ⟨#[97, 115]⟩)]⟩, ⟨[32], []⟩, ⟨36 :: tl s, [(2, s)]⟩, ⟨[32], []⟩, ⟨[40], [(6, ⟨#[40]⟩)]⟩, ⟨tl (spJ y), Ty⟩, ⟨[59], [(6, ⟨#[59]⟩)]⟩, ⟨[32], []⟩, ⟨tl (spJ z), Tz⟩, ⟨[59], [(6, ⟨#[59]⟩)]⟩, ⟨[32], []⟩, ⟨tl (spJ u), Tu⟩, ⟨[41], [(6, ⟨#[41]⟩)]⟩] ?_ (fun d hd R hR => ?_) (fun s => ?_) ⟨_, _, rfl, by decide⟩ ⟨_, _, rfl, by decide⟩ fun E i j hat hj hq => ?_
 ·rw [spJ]
  simp only [Int.reduceEq, if_true, if_false, or_true, spL, CD, Bw, C8, tg0, List.append_assoc, List.cons_append, List.nil_append, List.append_nil, or_true, show ¬ (20 : Int) = 19 by decide, List.tail_cons, Ba]; try rfl
 ·simp only [AB, Bt] at hd
  exact ⟨CC rfl rfl, Bb d _, rx.sc d (by omega) _ rfl, Bb d _, CC rfl rfl, Bb d _, GW hs rfl, Bb d _, A1 rfl d _, ry.sc d (by omega) _ rfl, A1 rfl d _, Bb d _, rz.sc d (by omega) _ rfl, A1 rfl d _, Bb d _, ru.sc d (by omega) _ rfl, A1 rfl d _, trivial⟩
 ·simp only [BH, List.cons_append, List.nil_append, Ec (k := 1) (by decide), AZ rx.bal, Ec (k := 2) (by decide), DR, AZ ry.bal, BL (x := ⟨#[59]⟩) (by decide) (by decide), AZ rz.bal, AZ ru.bal, DT, Cc]
 simp only [BH, List.cons_append, List.nil_append, List.append_nil, List.map_cons, List.map_append, List.map_nil, hG.t1, hG.t2, hG.t6] at hat hj; obtain ⟨t0, hat⟩ := hat.cons; obtain ⟨h1, hat⟩ := hat.appM; obtain ⟨t2, hat⟩ := hat.cons; obtain ⟨t3, hat⟩ := hat.cons; obtain ⟨t4, hat⟩ := hat.cons; obtain ⟨h5, hat⟩ := hat.appM; obtain ⟨t6, hat⟩ := hat.cons; obtain ⟨h7, hat⟩ := hat.appM; obtain ⟨t8, hat⟩ := hat.cons; obtain ⟨h9, hat⟩ := hat.appM; obtain ⟨t10, _⟩ := hat.cons; obtain rfl : j = i + 1 + Tx.length + 1 + 1 + 1 + Ty.length + 1 + Tz.length + 1 + Tu.length + 1 := by rw [hj]; simp; try omega
 rw [show g (.mk 20 s 0 0 [x, y, z, u] []) = .mk 20 s 0 0 [(g x), (g y), (g z), (g u)] [] from hG.m _ _ _ _ _ _ (by decide) (by decide)]; refine Bx ?_; have hk : (Aa E i).kind = 1 := congrArg Prod.fst t0; have hx : (Aa E i).text = _ := congrArg Prod.snd t0; rw [AD]; simp only [Ak]; rw [if_neg (by omega), if_neg (by omega), if_neg (by omega), if_neg (by omega), if_pos hk, hx, AD]; simp only [Ak]; rw [if_neg (by decide), if_neg (by decide), if_neg (by decide), if_pos trivial, AD]; simp only [Ak]; rw [rx.term h1 (by rw [t2]; decide), BE, Ch t2, MV t3 (by decide), Ch t4, ry.flt hG h5 (by rw [t6]; decide), BE, Ch t6, rz.flt hG h7 (by rw [t8]; decide), BE]; rw [if_pos trivial, if_pos (AV.2 t8), ru.flt hG h9 (by rw [t10]; decide), BE, Ch t10]; rfl
theorem aC (hG : Gc g c) {x y : NJ} {s : ByteArray} {Tx Ty : List TK} (rx : RdP g c (tgX x) (AB x) x Tx) (ry : Rd g c y Ty) (hs : Bf s = true) : ∃ T, Rd g c (Ax 21 s x y) T := by
 refine D5 [⟨[40], [(6, ⟨#[40]⟩)]⟩, ⟨tgX x, Tx⟩, ⟨[32], []⟩, ⟨[97, 115], [(1, ⟨#[97, 115]⟩)]⟩, ⟨[32], []⟩, ⟨36 :: tl s, [(2, s)]⟩, ⟨[32], []⟩, ⟨[124], [(6, ⟨#[124]⟩)]⟩, ⟨[32], []⟩, ⟨tl (spJ y), Ty⟩, ⟨[41], [(6, ⟨#[41]⟩)]⟩] ?_ (fun d hd R hR => ?_) (fun s => ?_) ⟨_, _, rfl, by decide⟩ ⟨_, _, rfl, by decide⟩ fun E i j hat hj hq => ?_
 ·unfold Ax
  rw [spJ]; simp only [Int.reduceEq, if_true, if_false, or_false, spL, CD, Bw, C8, tg0, List.append_assoc, List.cons_append, List.nil_append, List.append_nil, List.getD_cons_zero, List.getD_cons_succ]; try rfl
 ·simp only [Ax, AB, Bt] at hd
  exact ⟨A1 rfl d _, rx.sc d (by omega) _ rfl, Bb d _, CC rfl rfl, Bb d _, GW hs rfl, Bb d _, Xp rfl d _, Bb d _, ry.sc d (by omega) _ rfl, A1 rfl d _, trivial⟩
 ·simp only [BH, List.cons_append, List.nil_append, DR, AZ rx.bal, Ec (k := 1) (by decide), Ec (k := 2) (by decide), BL (x := ⟨#[124]⟩) (by decide) (by decide), AZ ry.bal, DT, Cc]
 simp only [BH, List.cons_append, List.nil_append, List.append_nil, List.map_cons, List.map_append, List.map_nil, hG.t1, hG.t2, hG.t6] at hat hj; obtain ⟨t0, hat⟩ := hat.cons; obtain ⟨h1, hat⟩ := hat.appM; obtain ⟨t2, hat⟩ := hat.cons; obtain ⟨t3, hat⟩ := hat.cons; obtain ⟨t4, hat⟩ := hat.cons; obtain ⟨h5, hat⟩ := hat.appM; obtain ⟨t6, _⟩ := hat.cons; obtain rfl : j = i + 1 + Tx.length + 1 + 1 + 1 + Ty.length + 1 := by rw [hj]; simp; try omega
 rw [show g (Ax 21 s x y) = Ax 21 s (g x) (g y) from hG.m _ _ _ _ _ _ (by decide) (by decide)]; obtain ⟨q, r, e, n1, n2⟩ := rx.hdc hG; have h00 := h1; rw [e] at h00; have tq := h00.cons.1; have hm : Atom E (i + 1) (Ax 21 s (g x) (g y)) (i + 1 + Tx.length + 1 + 1 + 1 + Ty.length) := by
  refine ⟨?_, fun h => n2 (by rw [← tq]; exact AV.1 h)⟩; rw [AD]; simp only [Ak]; rw [if_neg (fun h => n1 (by rw [← tq]; exact AV.1 h)), rx.term h1 (by rw [t2]; decide)]; rw [BE, if_pos (AV.2 t2), MV t3 (by decide), Ch t4, ry.flt hG h5 (by rw [t6]; decide)]; rfl
 exact Bx (Es t0 (Ia hm (by rw [t6]; decide)) t6)
theorem rd8 (hG : Gc g c) {x y : NJ} {s : ByteArray} {q : TK} {k : Int} {p : ByteArray} {Tx Ty : List TK} (rx : Rd g c x Tx) (ry : Rd g c y Ty) (ho : OpOk k p s q) : ∃ T, Rd g c (Ax k p x y) T := by
 refine D5 [⟨[40], [(6, ⟨#[40]⟩)]⟩, ⟨tl (spJ x), Tx⟩, ⟨[32], []⟩, ⟨tl s, [q]⟩, ⟨[32], []⟩, ⟨tl (spJ y), Ty⟩, ⟨[41], [(6, ⟨#[41]⟩)]⟩] ?_ (fun d hd R hR => ?_) (fun s => ?_) ⟨_, _, rfl, by decide⟩ ⟨_, _, rfl, by decide⟩ fun E i j hat hj hq => ?_
 ·rw [ho.t]
  simp only [Bw, C8, CD, List.append_assoc, List.cons_append, List.nil_append]; try rfl
 ·simp only [Ax, AB, Bt] at hd
  exact ⟨A1 rfl d _, rx.sc d (by omega) _ rfl, Bb d _, ho.r d _, Bb d _, ry.sc d (by omega) _ rfl, A1 rfl d _, trivial⟩
 ·simp only [BH, List.cons_append, List.nil_append, DR, AZ rx.bal, ho.w, AZ ry.bal, DT, Cc]
 simp only [BH, List.cons_append, List.nil_append, List.append_nil, List.map_cons, List.map_append, List.map_nil, hG.t6, hG.t q ho.n5] at hat hj; obtain ⟨t0, hat⟩ := hat.cons; obtain ⟨h1, hat⟩ := hat.appM; obtain ⟨t2, hat⟩ := hat.cons; obtain ⟨h3, hat⟩ := hat.appM; obtain ⟨t4, _⟩ := hat.cons; obtain rfl : j = i + 1 + Tx.length + 1 + Ty.length + 1 := by rw [hj]; simp; try omega
 rw [show g (Ax k p x y) = Ax k p (g x) (g y) from hG.m _ _ _ _ _ _ (by have := ho.k34; omega) (by have := ho.k34; omega)]; have hx := rx.atom hG h1 (by rw [t2]; exact ho.e) (by rw [t2]; exact ho.a); have hy := ry.atom hG h3 (by rw [t4]; decide) (by rw [t4]; decide); have := Zu hx t2 ho.s hy (by rw [t4]; decide); rw [ho.j] at this; exact Bx (Es t0 this t4)
end Go.Proofs.YtakncilicoefdaaGreatDoor
