/- Lemmas and contracts. Conditions: those that each lemma names. -/
import Derived.Test.YtakncilicoefdaaGreatDoorPz23
set_option maxRecDepth 100000
set_option maxHeartbeats 4000000
namespace Go.Proofs.YtakncilicoefdaaGreatDoor
open Go Go.RowKit Go.Proofs Th
def RG (E : Env) : Prop := ∀ t ∈ E.l, t.kind = 5 → okQ (tl t.text) = true
theorem R0 {L : List UInt8} (hl : L.length ≤ 16384) {a : Nat} (ha : a ≤ L.length) (hk : (AF L 48 a).1.kind = 5) : okQ (tl (AF L 48 a).1.text) = true := by
 rw [B9] at hk ⊢; obtain ⟨_, hb⟩ := C4 L a ha; generalize AL L a = b at hk hb ⊢; unfold BG at hk ⊢; cases hd : L.drop b with
 | nil => rw [hd] at hk; cases hk
 | cons c r =>
  have hlt : b < L.length := by
   rcases Nat.lt_or_ge b L.length with h | h
   ·exact h
   rw [List.drop_eq_nil_of_le h] at hd; cases hd
  rw [hd] at hk; dsimp only at hk ⊢; by_cases h34 : c = 34
  ·rw [if_pos h34] at hk ⊢
   by_cases h3 : (BK L 48 b).2 ≠ 0
   ·rw [if_pos h3] at hk; cases hk
   rw [if_neg h3]; have := XW hl hlt (by rw [(Co hd).1, h34]) (show BK L 48 b = ((BK L 48 b).1, 0) from Prod.ext rfl (by show (BK L 48 b).2 = 0; omega)); rw [hd] at this; exact this
  rw [if_neg h34] at hk; by_cases h4 : (Bj (c :: r)).1 = 0
  ·rw [if_pos h4] at hk; cases hk
  rw [if_neg h4] at hk; exact absurd hk (Np c r)
theorem OK {L : List UInt8} (hl : L.length ≤ 16384) : ∀ (n a : Nat) (acc : List Tf), a ≤ L.length → (∀ t ∈ acc, t.kind = 5 → okQ (tl t.text) = true) → ∀ t ∈ (BJ L n a acc).1, t.kind = 5 → okQ (tl t.text) = true := by
 intro n; induction n with
 | zero => intro a acc _ h; exact h
 | succ n ih =>
  intro a acc ha h; simp only [BJ]; split
  ·intro t ht; cases ht
  split
  ·exact h
  refine ih _ _ (CR L 48 a ha).le fun t ht => ?_
  rcases List.mem_append.1 ht with ht | ht
  ·exact h t ht
  rw [List.mem_singleton.1 ht]; exact R0 hl ha
theorem QI (g : List UInt8) (b : Nat) : RG (B5 g b) := by
 show ∀ t ∈ (Bp g).1, _
 unfold Bp; split
 ·intro t ht; cases ht
 exact OK (by omega) _ _ _ (Nat.zero_le _) fun t ht => by cases ht
theorem R7 {E : Env} (h : RG E) {i : Nat} (hk : (Aa E i).kind = 5) : okQ (tl (Aa E i).text) = true := by
 have hi : i < E.l.length := FT (by omega); have ht : Aa E i = E.l[i] := by unfold Aa; rw [List.getD_eq_getElem?_getD, List.getElem?_eq_getElem hi]; rfl
 rw [ht] at hk ⊢; exact h _ (List.getElem_mem hi) hk
theorem SM (L : List UInt8) (one : Nat → Tf × Nat × Nat) : ∀ (n f a : Nat) (r : PartsR), (Bn L one n f a r).texts ≠ [] := by
 intro n; induction n with
 | zero => intro f a r; simp [Bn]
 | succ n ih =>
  intro f a r; simp only [Bn]; split
  ·simp
  split
  ·exact ih _ _ _
  split
  ·exact ih _ _ _
  exact ih _ _ _
theorem WB {q : List UInt8} (h : okQ q = true) : (BS q).1.texts ≠ [] := by
 unfold BS; rw [if_pos h]; exact SM _ _ _ _ _ _
structure Good (E : Env) : Prop where
 t : DQ E
 n : J5 E
 q : RG E
theorem NL (g : List UInt8) (b : Nat) : Good (B5 g b) := ⟨(Fq g b).1, SI g b, QI g b⟩
theorem Sr {s : ByteArray} (h : Bf s = true) : Lib.validD s.data.toList = true := by
 refine KK _ fun x hx => ?_
 obtain ⟨c, r, e, hc⟩ := JG h; have hn : Bc (tl s) = true := h; have hx : x ∈ tl s := hx; rw [e] at hn hx; simp only [Bc, Bool.and_eq_true, List.all_eq_true] at hn; have hx2 : Bz x = true := by
  rcases List.mem_cons.1 hx with rfl | hx
  ·unfold Bz; rw [hc]; rfl
  exact hn.2 x hx
 unfold Bz at hx2; rw [Bool.or_eq_true] at hx2; rcases hx2 with h1 | h1
 ·unfold Bl at h1
  simp only [Bool.or_eq_true, decide_eq_true_eq] at h1; omega
 have : 48 ≤ x.toNat ∧ x.toNat ≤ 57 := by simpa [Bs] using h1
 omega
theorem k3n {s : ByteArray} (h : Bf s = true) : okJ (Bg s) = true ∧ cz (Bg s) ≤ 12 * s.size + 30 := by
 exact z3n h (Sr h)
theorem UZ {t : Tf} {x y : NJ} (h : Aj t ≠ 0) (hx : okJ x = true) (hy : okJ y = true) : okJ (B8 t x y) = true ∧ cz (B8 t x y) ≤ cz x + cz y + 2 * t.text.size + 30 := by
 unfold B8; split
 ·have := z9 hx hy; exact ⟨this.1, by omega⟩
 split
 ·have := z13 hx hy; exact ⟨this.1, by omega⟩
 split
 ·rename_i h3
  have hs : inB Ez t.text = true := by
   unfold Aj at h3; repeat' split at h3
   all_goals first | assumption | omega
  have := z25 hs hx hy; exact ⟨this.1, by omega⟩
 split
 ·have := z12 hx hy; exact ⟨this.1, by omega⟩
 split
 ·have := z11 hx hy; exact ⟨this.1, by omega⟩
 rename_i n1 n2 n3 n4 n5
 have hs : inB C6 t.text = true := by
  have key : inB Jd t.text = true ∨ inB Lt t.text = true ∨ inB FR t.text = true := by
   unfold Aj at h n1 n2 n3 n4 n5; repeat' split at h
   all_goals first | exact .inl ‹_› | exact .inr (.inl ‹_›) | exact .inr (.inr ‹_›) | (exfalso; simp_all)
  unfold inB at key ⊢; rw [List.any_eq_true] at key ⊢; rw [List.any_eq_true, List.any_eq_true] at key; have sub : (∀ q ∈ Jd, q ∈ C6) ∧ (∀ q ∈ Lt, q ∈ C6) ∧ (∀ q ∈ FR, q ∈ C6) := by simp [Jd, Lt, FR, C6]
  rcases key with ⟨q, h1, h2⟩ | ⟨q, h1, h2⟩ | ⟨q, h1, h2⟩
  ·exact ⟨q, sub.1 q h1, h2⟩
  ·exact ⟨q, sub.2.1 q h1, h2⟩
  exact ⟨q, sub.2.2 q h1, h2⟩
 have := z10 hs hx hy; exact ⟨this.1, by omega⟩
def PK : List (List UInt8) → List (List UInt8) → List NJ → Prop
 | [], _, r => r = []
 | t :: ts, [], r => ∃ s r', r = Bg s :: r' ∧ (Lib.validD s.data.toList = true ∧ (Bk (tl s)).length ≤ t.length) ∧ PK ts [] r'
 | t :: ts, g :: fs, r => ∃ s m r', r = Bg s :: m :: r' ∧ (Lib.validD s.data.toList = true ∧ (Bk (tl s)).length ≤ t.length) ∧ (okJ m = true ∧ cz m + 40 ≤ 256 * g.length) ∧ PK ts fs r'
theorem Jw (x : List UInt8) (l : List (List UInt8)) : CL (x :: l) = x.length + CL l := by simp [CL]
theorem Rz : ∀ (ts fs : List (List UInt8)) (r : List NJ), ts.length = fs.length + 1 → PK ts fs r → ∃ s rr, r = Bg s :: B6 rr ∧ Lib.validD s.data.toList = true ∧ (∀ x ∈ rr, okJ x.1 = true ∧ Lib.validD x.2.data.toList = true) ∧ rr.length = fs.length ∧ czL r ≤ 30 + 2 * CL ts + 256 * CL fs
 | [], _, _, h, _ => by simp at h
 | [t], [], r, _, h => by
  obtain ⟨s, r', rfl, ⟨h1, h2⟩, rfl⟩ := h; exact ⟨s, [], rfl, h1, fun x hx => (by cases hx), rfl, by rw [czL, czL, H5, Jw]; omega⟩
 | _ :: _ :: _, [], _, h, _ => by simp at h
 | t :: ts, g :: fs, r, h, hp => by
  obtain ⟨s, m, r', rfl, ⟨h1, h2⟩, ⟨h3, h4⟩, h5⟩ := hp; obtain ⟨s2, rr, rfl, g1, g2, g3, g4⟩ := Rz ts fs r' (by simpa using h) h5; refine ⟨s, (m, s2) :: rr, rfl, h1, fun x hx => ?_, by simp [g3], ?_⟩
  ·rcases List.mem_cons.1 hx with rfl | hx
   ·exact ⟨h3, g1⟩
   exact g2 x hx
  rw [czL, czL, H5, Jw, Jw]; omega
theorem NY : ∀ (rr : List (NJ × ByteArray)) (s : ByteArray), BU (Bg s :: B6 rr) = true ∧ (Bg s :: B6 rr).length = 2 * rr.length + 1
 | [], s => ⟨rfl, rfl⟩
 | (x, t) :: rr, s => by
  obtain ⟨h1, h2⟩ := NY rr t; rw [B6]; refine ⟨?_, ?_⟩
  ·show (decide (Av (Bg s) = 3) && BU (Bg t :: B6 rr)) = true
   rw [h1]; rfl
  rw [List.length_cons, List.length_cons, h2, List.length_cons]; omega
theorem Q2 : ∀ (rr : List (NJ × ByteArray)) (s : ByteArray), Lib.validD s.data.toList = true → (∀ x ∈ rr, okJ x.1 = true ∧ Lib.validD x.2.data.toList = true) → okL (Bg s :: B6 rr) = true
 | [], s, h, _ => by rw [B6, okL, (k3 h).1]; rfl
 | (x, t) :: rr, s, h, hr => by
  obtain ⟨h1, h2⟩ := hr (x, t) List.mem_cons_self; have ih := Q2 rr t h2 fun y hy => hr y (List.mem_cons_of_mem _ hy)
  rw [B6, okL, okL, ih, (k3 h).1, h1]; rfl
theorem Ys {ts fs : List (List UInt8)} {r : List NJ} (hl : ts.length = fs.length + 1) (h : PK ts fs r) : okJ (EL r) = true ∧ cz (EL r) ≤ 2 * CL ts + 256 * CL fs + 60 ∧ (Av (EL r) = 3 ∨ Av (EL r) = 4) := by
 obtain ⟨s, rr, rfl, h1, h2, h3, h4⟩ := Rz ts fs r hl h; cases rr with
 | nil =>
  rw [B6, czL, czL] at h4; show okJ (Bg s) = true ∧ cz (Bg s) ≤ _ ∧ _
  exact ⟨(k3 h1).1, by omega, .inl rfl⟩
 | cons x rr =>
  obtain ⟨e1, e2⟩ := NY (x :: rr) s; have hj : EL (Bg s :: B6 (x :: rr)) = .mk 4 ⟨#[]⟩ 0 0 (Bg s :: B6 (x :: rr)) [] := rfl; rw [hj]; refine ⟨Bu (by simp [AJ, AE]) ?_ (Q2 _ _ h1 h2), ?_, .inr rfl⟩
  ·simp only [Ac]
   rw [if_neg (by decide), if_neg (by decide), if_neg (by decide), if_pos trivial, e1, e2, List.length_cons]; simp only [Bool.true_and, Bool.and_eq_true, decide_eq_true_eq]; omega
  rw [BV (by decide) (by decide), AC]; show 30 + 2 * 0 + 0 + _ ≤ _
  omega
abbrev Vl (E : Env) (b : Nat) (n : NJ) (j : Nat) : Prop := okJ n = true ∧ cz n + 40 + 256 * wtE E j ≤ b
theorem vl {E : Env} {b c j : Nat} {n : NJ} (g : okJ n = true ∧ cz n ≤ c) (h : c + 40 + 256 * wtE E j ≤ b) : Vl E b n j := ⟨g.1, by have := g.2; omega⟩
def Zr (E : Env) (i : Nat) : Job → Prop
 | .sign s => tk (Aa E i) = (6, s)
 | .word s => tk (Aa E i) = (1, s)
 | .termLoop n | .index n | .binLoop _ _ n => okJ n = true
 | .objLoop kids => okL kids = true ∧ kids.length % 2 = 0
 | .callLoop name kids => B7 name = true ∧ okL kids = true
 | .loop k => k = 19 ∨ k = 20
 | _ => True
def Mn (E : Env) (i : Nat) : Job → NJ → Nat → Prop
 | .parts ts fs _ kids => fun n j => j = i + 1 ∧ ∃ r, n = EL (kids ++ r) ∧ PK ts fs r
 | .entry => fun n j => ∃ k v, n = Ag 0 [k, v] ∧ okJ k = true ∧ okJ v = true ∧ pz k v + 40 + 256 * wtE E j ≤ 256 * wtE E i
 | .quoted => fun n j => okJ n = true ∧ cz n + 140 + 256 * wtE E j ≤ 256 * wtE E i ∧ (Av n = 3 ∨ Av n = 4)
 | .termLoop x | .index x | .binLoop _ _ x => Vl E (256 * wtE E i + cz x + 40)
 | .objLoop kids => Vl E (256 * wtE E i + czP kids)
 | .callLoop name kids => Vl E (256 * wtE E i + 2 * name.size + czL kids)
 | _ => Vl E (256 * wtE E i)
theorem Rt (a b : List NJ) : okL (a ++ b) = (okL a && okL b) := by rw [DW, DW, DW, List.all_append]
theorem Vx : ∀ (f : Nat) (E : Env), Good E → ∀ (job : Job) (i : Nat), Zr E i job → RO (Mn E i job) (AY f E job i) := by
 intro f; induction f with
 | zero => intro E hE job i _ a j h; cases h
 | succ f ih =>
  intro E hE job i hp; have run : ∀ (job : Job) (i : Nat), Zr E i job → RO (Mn E i job) (AY f E job i) := ih E hE
  have hT := hE.t; have q1 := Ib E i; show RO (Mn E i job) (Ak (AY f) E job i)
  cases job with
  | filter =>
   simp only [Ak]; refine RO.isT hT (by decide) (fun _ hd => RO.up (run .def_ (i + 1) trivial) fun n j h => ⟨h.1, by have := h.2; omega⟩) ?_; refine RO.bind (run (.binary 1) i trivial) fun n j hn => ?_
   refine RO.isT hT (by decide) (fun _ hd => RO.bind (run .filter (j + 1) trivial) fun m k hm => RO.ok ?_) (RO.ok hn); obtain ⟨g1, g2⟩ := z8 hn.1 hm.1; exact ⟨g1, by have := hn.2; have := hm.2; omega⟩
  | def_ =>
   simp only [Ak]; refine RO.kind hT hE.n (.inl rfl) fun s h1 h2 w1 w2 => ?_
   have rest : ∀ (a : List ByteArray) (p : Nat), (∀ s ∈ a, BO s = true) → Cu 2 a + 256 * wtE E p ≤ 256 * wtE E (i + 1) → RO (Vl E (256 * wtE E i)) (A8 E p 6 ⟨#[58]⟩ fun j => A3 (AY f E .filter j) fun what j => A8 E j 6 ⟨#[59]⟩ fun j => A3 (AY f E .filter j) fun m j => okP (.mk 24 s 0 0 [what, m] a) j) := fun a p ha hb => by
    refine RO.want hT (by decide) fun d1 => RO.bind (run .filter _ trivial) fun x j hx => RO.want hT (by decide) fun d2 => RO.bind (run .filter _ trivial) fun y k hy => RO.ok ?_
    obtain ⟨g1, g2⟩ := z24 (h2 rfl) ha hx.1 hy.1; exact ⟨g1, by have := hx.2; have := hy.2; omega⟩
   refine RO.isT hT (by decide) (fun _ hd => ?_) (rest [] _ (fun s hs => by cases hs) (by rw [AC]; omega)); refine YF hT hE.n (b := 256 * wtE E (i + 1)) (fun a j ha hb => RO.want hT (by decide) fun d => rest a _ ha (by omega)) _ _ _ (fun s hs => by cases hs) (by rw [AC]; omega)
  | binary least =>
   simp only [Ak]; exact RO.bind (run .minus i trivial) fun n j hn => RO.up (run (.binLoop least 8 n) j hn.1) fun m k hm => ⟨hm.1, by have := hm.2; have := hn.2; omega⟩
  | binLoop least top n =>
   have hp : okJ n = true := hp; simp only [Ak]; by_cases h0 : Aj (Aa E i) < least ∨ top < Aj (Aa E i) ∨ Aj (Aa E i) = 0
   ·rw [if_pos h0]; exact RO.ok ⟨hp, by omega⟩
   rw [if_neg h0]; have hs : Aj (Aa E i) ≠ 0 := fun h => h0 (.inr (.inr h))
   obtain ⟨w1, w2⟩ := Dt hT (i := i) (fun h => hs (by unfold Aj; rw [if_neg (by omega), if_pos (by omega)])); have go : ∀ l t, RO (Mn E i (.binLoop least top n)) (A3 (AY f E (.binary l) (i + 1)) fun m j => AY f E (.binLoop least t (B8 (Aa E i) n m)) j) := fun l t => by
    refine RO.bind (run (.binary l) _ trivial) fun m j hm => ?_
    obtain ⟨g1, g2⟩ := UZ hs hp hm.1; exact RO.up (run (.binLoop _ _ _) j g1) fun r k hr => ⟨hr.1, by have := hr.2; have := hm.2; omega⟩
   repeat' split
   all_goals exact go _ _
  | minus =>
   simp only [Ak]; refine RO.isT hT (by decide) (fun _ hd => RO.bind (run .minus _ trivial) fun n j hn => RO.ok ?_) ?_
   ·obtain ⟨g1, g2⟩ := z14 hn.1
    exact ⟨g1, by have := hn.2; omega⟩
   refine RO.bind (run .term i trivial) fun n j hn => RO.isT hT (by decide) (fun _ hd => ?_) (RO.ok hn)
   refine RO.kind hT hE.n (.inr rfl) fun s h1 _ w1 w2 => RO.want hT (by decide) fun d2 => RO.bind (run .filter _ trivial) fun m k hm => RO.ok ?_
   obtain ⟨g1, g2⟩ := z21 h1 hn.1 hm.1; exact ⟨g1, by have := hn.2; have := hm.2; omega⟩
  | term =>
   simp only [Ak]; exact RO.bind (run .first i trivial) fun n j hn => RO.up (run (.termLoop n) j hn.1) fun m k hm => ⟨hm.1, by have := hm.2; have := hn.2; omega⟩
  | termLoop n =>
   have hp : okJ n = true := hp; simp only [Ak]; split
   ·rename_i hk
    obtain ⟨w1, w2⟩ := Dt hT (i := i) (by omega); obtain ⟨s1, s2⟩ := k3n (Eo hE.n (i := i) (by omega)); obtain ⟨g1, g2⟩ := z5 hp s1; exact RO.up (run (.termLoop _) _ g1) fun m k hm => ⟨hm.1, by have := hm.2; omega⟩
   refine RO.isT hT (by decide) (fun _ hd => ?_) ?_
   ·obtain ⟨g1, g2⟩ := Y9 hp
    exact RO.up (run (.termLoop _) _ g1) fun m k hm => ⟨hm.1, by have := hm.2; omega⟩
   refine RO.isT hT (by decide) (fun _ _ => ?_) ?_
   ·exact RO.bind (run (.index n) i hp) fun x j hx => RO.up (run (.termLoop x) j hx.1) fun m k hm => ⟨hm.1, by have := hm.2; have := hx.2; omega⟩
   refine RO.isT hT (by decide) (fun _ hd => ?_) (RO.ok ⟨hp, by omega⟩); split
   ·refine RO.bind (run .quoted _ trivial) fun x j hx => ?_
    obtain ⟨g1, g2⟩ := z5 hp hx.1; exact RO.up (run (.termLoop _) j g1) fun m k hm => ⟨hm.1, by have := hm.2; have := hx.2.1; omega⟩
   refine RO.isT hT (by decide) (fun _ _ => ?_) RO.fail; exact RO.bind (run (.index n) _ hp) fun x j hx => RO.up (run (.termLoop x) j hx.1) fun m k hm => ⟨hm.1, by have := hm.2; have := hx.2; omega⟩
  | index x =>
   have hp : okJ x = true := hp; simp only [Ak]; refine RO.want hT (by decide) fun d1 => RO.isT hT (by decide) (fun _ d2 => RO.ok ?_) ?_
   ·obtain ⟨g1, g2⟩ := z7 hp
    exact ⟨g1, by omega⟩
   refine RO.isT hT (by decide) (fun _ d2 => ?_) ?_
   ·refine RO.bind (run .filter _ trivial) fun m j hm => RO.want hT (by decide) fun d3 => RO.ok ?_
    exact vl (z6b hp hm.1) (by have := hm.2; omega)
   refine RO.bind (run .filter _ trivial) fun m j hm => RO.isT hT (by decide) (fun _ d3 => RO.ok ?_) ?_
   ·obtain ⟨g1, g2⟩ := z5 hp hm.1
    exact ⟨g1, by have := hm.2; omega⟩
   refine RO.want hT (by decide) fun d3 => RO.isT hT (by decide) (fun _ d4 => RO.ok ?_) ?_
   ·exact vl (z6a hp hm.1) (by have := hm.2; omega)
   refine RO.bind (run .filter _ trivial) fun u k hu => RO.want hT (by decide) fun d5 => RO.ok ?_
   exact vl (z6c hp hm.1 hu.1) (by have := hm.2; have := hu.2; omega)
  | quoted =>
   simp only [Ak]; split
   ·exact RO.fail
   rename_i h5
   have h5 : (Aa E i).kind = 5 := Decidable.of_not_not h5; obtain ⟨w1, w2⟩ := Dt hT (i := i) (by omega); have hne := WB (R7 hE.q h5); have hsum := Qq _ hne; have hl : (BS (tl (Aa E i).text)).1.texts.length = (BS (tl (Aa E i).text)).1.filters.length + 1 := by
    rcases Nf (tl (Aa E i).text) with ⟨h, _⟩ | h
    ·exact absurd h hne
    exact h
   rw [GF] at hsum; refine RO.up (run (.parts _ _ _ []) i trivial) fun n j hn => ?_
   obtain ⟨rfl, r, rfl, hpk⟩ := hn; obtain ⟨g1, g2, g3⟩ := Ys hl hpk; refine ⟨g1, ?_, g3⟩; show cz (EL r) + 140 + 256 * wtE E (i + 1) ≤ 256 * wtE E i
   omega
  | parts ts fs ps kids =>
   cases ts with
   | nil => exact RO.ok ⟨rfl, [], by rw [List.append_nil], rfl⟩
   | cons t ts =>
    simp only [Ak]; split
    ·exact RO.fail
    rename_i hr
    obtain ⟨v1, v2⟩ := Sz (b := t) (Decidable.of_not_not fun h => hr (.inl h)) (Decidable.of_not_not fun h => hr (.inr h)); cases fs with
    | nil =>
     refine RO.up (run (.parts ts [] ps _) i trivial) fun n j hn => ?_
     obtain ⟨h1, r, rfl, h2⟩ := hn; exact ⟨h1, Bg ⟨(BA (DN t)).1.toArray⟩ :: r, by rw [List.append_assoc]; rfl, ⟨_, r, rfl, ⟨v1, v2⟩, h2⟩⟩
    | cons g fs =>
     refine RO.bind (ih (B5 g (E.base + (Aa E i).at_ + ps.headD 0)) (NL _ _) .whole 0 trivial) fun m j hm => ?_
     refine RO.up (run (.parts ts fs ps.tail _) i trivial) fun n j2 hn => ?_
     obtain ⟨h1, r, rfl, h2⟩ := hn; have hg := (Fq g (E.base + (Aa E i).at_ + ps.headD 0)).2; exact ⟨h1, Bg ⟨(BA (DN t)).1.toArray⟩ :: m :: r, by rw [List.append_assoc]; rfl, ⟨_, m, r, rfl, ⟨v1, v2⟩, ⟨hm.1, by have := hm.2; omega⟩, h2⟩⟩
  | whole =>
   simp only [Ak]; refine RO.bind (run .filter i trivial) fun n j hn => ?_
   split
   ·exact RO.fail
   exact RO.ok hn
  | first =>
   simp only [Ak]; split
   ·rename_i hk
    obtain ⟨w1, w2⟩ := Dt hT (i := i) (by omega); obtain ⟨s1, s2⟩ := k3n (Eo hE.n (i := i) (by omega)); obtain ⟨a1, a2⟩ := z1; obtain ⟨g1, g2⟩ := z5 a1 s1; exact RO.ok ⟨g1, by omega⟩
   split
   ·rename_i hk
    obtain ⟨w1, w2⟩ := Dt hT (i := i) (by omega); obtain ⟨g1, g2⟩ := z22 (Eo hE.n (i := i) (by omega)); exact RO.ok ⟨g1, by omega⟩
   split
   ·exact RO.up (run .quoted i trivial) fun n j h => ⟨h.1, by have := h.2.1; omega⟩
   split
   ·rename_i hk
    obtain ⟨w1, w2⟩ := Dt hT (i := i) (by omega); have hn := XN (X6 hE.n hk); split
    ·exact RO.fail
    split
    ·exact RO.fail
    rename_i h1 h2
    have hr := Vh (l := tl (Aa E i).text) (m := (BT (tl (Aa E i).text)).1.1) (f := (BT (tl (Aa E i).text)).1.2) (Prod.ext rfl (Decidable.of_not_not h2)); obtain ⟨g1, g2⟩ := z2 hn hr; refine RO.ok ⟨g1, ?_⟩; show cz (.mk 2 ⟨#[]⟩ (BT (tl (Aa E i).text)).1.1 (BT (tl (Aa E i).text)).1.2 [] []) + 40 + 256 * wtE E (i + 1) ≤ 256 * wtE E i
    omega
   split
   ·rename_i hk; exact run (.word _) i (Prod.ext hk rfl)
   split
   ·rename_i hk; exact run (.sign _) i (Prod.ext hk rfl)
   exact RO.fail
  | sign s =>
   have hp : tk (Aa E i) = (6, s) := hp; have hd := F4 hT (p := i) (by rw [J6, hp]; simp); simp only [Ak]; split
   ·obtain ⟨a1, a2⟩ := z1
    split
    ·refine RO.bind (run .quoted _ trivial) fun x j hx => RO.ok ?_
     obtain ⟨g1, g2⟩ := z5 a1 hx.1; exact ⟨g1, by have := hx.2.1; omega⟩
    exact RO.ok ⟨a1, by omega⟩
   split
   ·obtain ⟨g1, g2⟩ := z26
    exact RO.ok ⟨g1, by omega⟩
   split
   ·exact RO.bind (run .filter _ trivial) fun n j hn => RO.want hT (by decide) fun d2 => RO.ok ⟨hn.1, by have := hn.2; omega⟩
   split
   ·have q2 := Ib E (i + 1)
    refine RO.isT hT (by decide) (fun _ d2 => ?_) ?_
    ·obtain ⟨g1, g2⟩ := aF
     exact RO.ok ⟨g1, by show _ + 40 + 256 * wtE E (i + 1 + 1) ≤ _; omega⟩
    refine RO.bind (run .filter _ trivial) fun n j hn => RO.want hT (by decide) fun d2 => RO.ok ?_
    obtain ⟨g1, g2⟩ := aK hn.1; exact ⟨g1, by have := hn.2; omega⟩
   split
   ·exact RO.up (run .object _ trivial) fun n j hn => ⟨hn.1, by have := hn.2; omega⟩
   exact RO.fail
  | object =>
   have e0 : czP [] = 0 := by rw [czP]
   simp only [Ak]; refine RO.isT hT (by decide) (fun _ hd => ?_) ?_
   ·exact RO.ok (vl (n := Ag 16 []) (z16 (l := []) rfl rfl) (by omega))
   exact RO.up (run (.objLoop []) i ⟨rfl, rfl⟩) fun n j h => ⟨h.1, by have := h.2; omega⟩
  | objLoop kids =>
   obtain ⟨p1, p2⟩ := (show okL kids = true ∧ kids.length % 2 = 0 from hp); simp only [Ak]; refine RO.bind (run .entry i trivial) fun kv j hkv => ?_
   obtain ⟨k, v, rfl, hk, hv, hz⟩ := hkv; have e1 : okL (kids ++ [k, v]) = true := by rw [Rt, p1]; simp [okL, hk, hv]
   have e2 : (kids ++ [k, v]).length % 2 = 0 := by rw [List.length_append]; simp only [List.length_cons, List.length_nil]; omega
   have e3 : czP (kids ++ [k, v]) = czP kids + pz k v := QW kids k v p2; refine RO.isT hT (by decide) (fun _ hd => ?_) ?_
   ·exact RO.up (run (.objLoop (kids ++ [k, v])) _ ⟨e1, e2⟩) fun n q h => ⟨h.1, by have := h.2; omega⟩
   refine RO.want hT (by decide) fun hd => RO.ok ?_
   exact vl (n := Ag 16 (kids ++ [k, v])) (z16 e2 e1) (by omega)
  | entry =>
   have alone : ∀ (k : NJ) (p : Nat), okJ k = true → (Av k = 3 ∨ Av k = 4) → cz k + 100 + 256 * wtE E p ≤ 256 * wtE E i → RO (Mn E i .entry) (if isT E p 6 ⟨#[58]⟩ then (A8 E p 6 ⟨#[58]⟩ fun j => A3 (AY f E (.binary 2) j) fun v j => okP (Ag 0 [k, v]) j) else okP (Ag 0 [k, Ax 5 ⟨#[]⟩ BR k]) p) := fun k p hk h34 hz => by
    refine RO.isT hT (by decide) (fun _ _ => RO.want hT (by decide) fun hd => RO.bind (run (.binary 2) _ trivial) fun v j hv => RO.ok ⟨k, v, rfl, hk, hv.1, by have := hv.2; have := SK k v; omega⟩) (RO.ok ?_); obtain ⟨a1, a2⟩ := z1; obtain ⟨g1, g2⟩ := z5 a1 hk; exact ⟨k, _, rfl, hk, g1, by rw [XV h34]; omega⟩
   simp only [Ak]; split
   ·rename_i hk
    obtain ⟨w1, w2⟩ := Dt hT (i := i) (by omega); have hn := Eo hE.n (i := i) (by omega); obtain ⟨s1, s2⟩ := k3n hn; obtain ⟨g1, g2⟩ := z22 hn; exact RO.ok ⟨_, _, rfl, s1, g1, by have := SK (Bg (Aa E i).text) (Cy (Aa E i).text); omega⟩
   split
   ·rename_i hk
    obtain ⟨w1, w2⟩ := Dt hT (i := i) (by omega); obtain ⟨s1, s2⟩ := k3n (Eo hE.n (i := i) (by omega)); exact alone _ _ s1 (.inl rfl) (by omega)
   split
   ·exact RO.bind (run .quoted i trivial) fun k j hk => alone k j hk.1 hk.2.2 (by have := hk.2.1; omega)
   refine RO.isT hT (by decide) (fun _ hd => ?_) RO.fail; refine RO.bind (run .filter _ trivial) fun k j hk => RO.want hT (by decide) fun d2 => RO.want hT (by decide) fun d3 => RO.bind (run (.binary 2) _ trivial) fun v q hv => RO.ok ?_
   exact ⟨k, v, rfl, hk.1, hv.1, by have := hk.2; have := hv.2; have := SK k v; omega⟩
  | word s =>
   have hp : tk (Aa E i) = (1, s) := hp; have hk : (Aa E i).kind = 1 := congrArg Prod.fst hp; have hd := F4 hT (p := i) (by omega); simp only [Ak]; split
   ·exact RO.up (run .branch _ trivial) fun n j h => ⟨h.1, by have := h.2; omega⟩
   split
   ·refine RO.bind (run .term _ trivial) fun n j hn => RO.isT hT (by decide) (fun _ d2 => ?_) (RO.ok ?_)
    ·refine RO.bind (run .term _ trivial) fun m k hm => RO.ok ?_
     exact vl (bf hn.1 hm.1) (by have := hn.2; have := hm.2; omega)
    exact vl (Y9 hn.1) (by have := hn.2; omega)
   split
   ·exact RO.up (run (.loop 19) _ (.inl rfl)) fun n j h => ⟨h.1, by have := h.2; omega⟩
   split
   ·exact RO.up (run (.loop 20) _ (.inr rfl)) fun n j h => ⟨h.1, by have := h.2; omega⟩
   refine RO.kind hT hE.n (.inl rfl) fun x h1 h2 w1 w2 => RO.isT hT (by decide) (fun _ d2 => ?_) (RO.ok ?_)
   ·have e0 : czL [] = 0 := by rw [czL]
    exact RO.up (run (.callLoop x []) _ ⟨h2 rfl, rfl⟩) fun n j h => ⟨h.1, by have := h.2; omega⟩
   have e0 : czL [] = 0 := by rw [czL]
   exact vl (z23 (l := []) (h2 rfl) rfl) (by omega)
  | callLoop name kids =>
   obtain ⟨p1, p2⟩ := (show B7 name = true ∧ okL kids = true from hp); simp only [Ak]; refine RO.bind (run .filter i trivial) fun n j hn => ?_
   have e1 : okL (kids ++ [n]) = true := by rw [Rt, p2]; simp [okL, hn.1]
   have e3 : czL (kids ++ [n]) = czL kids + cz n := by rw [Rh, czL, czL]; omega
   have hz := hn.2; refine RO.isT hT (by decide) (fun _ hd => ?_) ?_
   ·exact RO.up (run (.callLoop name (kids ++ [n])) _ ⟨p1, e1⟩) fun m q h => ⟨h.1, by have := h.2; omega⟩
   exact RO.want hT (by decide) fun hd => RO.ok (vl (z23 p1 e1) (by omega))
  | branch =>
   simp only [Ak]; refine RO.bind (run .filter i trivial) fun c j hc => RO.want hT (by decide) fun d1 => RO.bind (run .filter _ trivial) fun t k ht => ?_
   have y1 := hc.2; have y2 := ht.2; refine RO.isT hT (by decide) (fun _ d2 => ?_) ?_
   ·exact RO.bind (run .branch _ trivial) fun m q hm => RO.ok (vl (z17 hc.1 ht.1 hm.1) (by have := hm.2; omega))
   refine RO.isT hT (by decide) (fun _ d2 => ?_) ?_
   ·exact RO.bind (run .filter _ trivial) fun m q hm => RO.want hT (by decide) fun d3 => RO.ok (vl (z17 hc.1 ht.1 hm.1) (by have := hm.2; omega))
   obtain ⟨a1, a2⟩ := z1; exact RO.want hT (by decide) fun d3 => RO.ok (vl (z17 hc.1 ht.1 a1) (by omega))
  | loop k =>
   have hp : k = 19 ∨ k = 20 := hp; simp only [Ak]; refine RO.bind (run .term i trivial) fun x j hx => RO.want hT (by decide) fun d1 => RO.kind hT hE.n (.inr rfl) fun s h1 _ w1 w2 => RO.want hT (by decide) fun d2 => RO.bind (run .filter _ trivial) fun y p hy => RO.want hT (by decide) fun d3 => RO.bind (run .filter _ trivial) fun z q hz => ?_
   have y1 := hx.2; have y2 := hy.2; have y3 := hz.2; rcases hp with rfl | rfl
   ·rw [if_neg (by decide)]
    exact RO.want hT (by decide) fun d4 => RO.ok (vl (z19 h1 hx.1 hy.1 hz.1) (by omega))
   rw [if_pos rfl]; refine RO.isT hT (by decide) (fun _ d4 => ?_) ?_
   ·exact RO.bind (run .filter _ trivial) fun u r hu => RO.want hT (by decide) fun d5 => RO.ok (vl (z20 h1 hx.1 hy.1 hz.1 hu.1) (by have := hu.2; omega))
   obtain ⟨a1, a2⟩ := z1; exact RO.want hT (by decide) fun d5 => RO.ok (vl (z20 h1 hx.1 hy.1 hz.1 a1) (by omega))
open Go Go.RowKit Go.Proofs Th
mutual
theorem J2 : ∀ n m : NJ, C9 n m = true → n = m
 | .mk k s m e l a, .mk k' s' m' e' l' a', h => by
  rw [C9] at h; simp only [Bool.and_eq_true, decide_eq_true_eq] at h; obtain ⟨⟨⟨⟨h1, h2⟩, h3, h4⟩, h5⟩, h6⟩ := h; rw [h1, h2, h3, h4, h5, OM l l' h6]
theorem OM : ∀ l q : List NJ, CF l q = true → l = q
 | [], [], _ => rfl
 | [], _ :: _, h => by rw [CF] at h; cases h; all_goals simp
 | _ :: _, [], h => by rw [CF] at h; cases h; all_goals simp
 | x :: l, y :: q, h => by
  rw [CF, Bool.and_eq_true] at h; rw [J2 x y h.1, OM l q h.2]
end
theorem Jv {F a : Nat} (h : 1 ≤ F) : a ≤ F * a := Nat.le_mul_of_pos_left a h
theorem Jl {F : Nat} : ∀ l : List NJ, (∀ x ∈ l, (spJ x).size + 4 ≤ F * cz x) → Cu 4 (spL l) ≤ F * czL l
 | [], _ => Nat.zero_le _
 | x :: r, h => by
  have h1 := Jl r fun y hy => h y (List.mem_cons_of_mem _ hy)
  have h2 := h x List.mem_cons_self; rw [spL, Ao, czL, Nat.mul_add]; omega
theorem grow {F B K C z : Nat} (hF : 1 ≤ F) (hz : z ≤ B + K) (hK : K ≤ F * C) : z ≤ F * (B + C) := by
 have := Jv (a := B) hF; rw [Nat.mul_add]; omega
theorem XA : ∀ (r : List (NJ × ByteArray)) (s : ByteArray), Lib.validD s.data.toList = true → (∀ x ∈ r, Lib.validD x.2.data.toList = true) → (jn (Bk (tl s)) (fps psi cdQ r)).length ≤ Cu 4 (spL (Bg s :: B6 r))
 | [], s, hv, _ => by
  have := (k3 hv).2; simp only [fps, List.map_nil, jn, B6, spL, Ao, AC]; omega
 | (x, t) :: r, s, hv, h => by
  have h0 := (k3 hv).2; have ih := XA r t (h (x, t) List.mem_cons_self) fun y hy => h y (List.mem_cons_of_mem _ hy)
  simp only [fps, List.map_cons, jn, B6, spL, Ao, List.length_append, List.length_cons, GF] at ih ⊢; omega
theorem T7 {F : Nat} : ∀ (r : List (NJ × ByteArray)) (s : ByteArray), 1 ≤ F → (∀ x ∈ r, 2 * ((spJ x.1).size + 4) ≤ F * cz x.1) → 2 * (jn (Bk (tl s)) (fps psi cdQ r)).length ≤ F * czL (Bg s :: B6 r)
 | [], s, hF, _ => by
  have := Jv (a := 30 + 2 * (Bk (tl s)).length) hF; simp only [fps, List.map_nil, jn, B6, czL, H5, Nat.add_zero]; omega
 | (x, t) :: r, s, hF, h => by
  have h0 := Jv (a := 30 + 2 * (Bk (tl s)).length) hF; have h1 : 2 * ((spJ x).size + 4) ≤ F * cz x := h (x, t) List.mem_cons_self; have ih := T7 r t hF fun y hy => h y (List.mem_cons_of_mem _ hy)
  rw [B6, czL, czL, H5]; have hq : 2 * (Bk (tl s)).length ≤ 30 + 2 * (Bk (tl s)).length := by omega
  generalize 30 + 2 * (Bk (tl s)).length = q at h0 hq ⊢; rw [Nat.mul_add, Nat.mul_add]; have h6 : 6 ≤ F * cz x := by omega
  simp only [fps, List.map_cons, jn, List.length_append, List.length_cons, GF] at ih ⊢; omega
theorem UL {k : NJ} {F : Nat} (hF : 1 ≤ F) (hk : okJ k = true) (hq : Av k = 3 ∨ Av k = 4) (h : ∀ x : NJ, AB x + 1 ≤ AB k → okJ x = true → 2 * ((spJ x).size + 4) ≤ F * cz x) : 2 * (spJ k).size + 17 ≤ F * (cz k + 36) := by
 obtain ⟨s, r, f⟩ := Fr k hk hq; have h1 := T7 (F := F) r s hF fun x hx => h x.1 (f.kd x hx).2.2 (f.kd x hx).2.1
 have hl := congrArg List.length f.t; simp only [List.length_cons, List.length_append, List.length_nil, GF] at hl; have hc : czL (Bg s :: B6 r) ≤ cz k := by
  rw [f.e]; cases r with
  | nil => rw [B6, czL, czL]; exact Nat.le_refl _
  | cons y r =>
   show _ ≤ cz (Ag 4 (Bg s :: B6 (y :: r)))
   unfold Ag; rw [BV (by decide) (by decide)]; omega
 have h2 := Nat.mul_le_mul_left F hc; rw [Nat.mul_add]; omega
theorem Ik {D : Nat} (hD : Bt ([] : List NJ) ≤ D) : ∀ l : List NJ, l.length % 2 = 0 → (∀ x ∈ l, okJ x = true ∧ AB x + 1 ≤ D) → (∀ x : NJ, okJ x = true → AB x + 1 ≤ D → (spJ x).size + 4 ≤ Fd (AB x) * cz x) → Cu 6 (spL l) ≤ Fd D * czP l
 | [], _, _, _ => Nat.zero_le _
 | [_], h, _, _ => by simp at h
 | k :: v :: r, hl, h, ih => by
  have hF := TT D; have hr := Ik hD r (by simp only [List.length_cons] at hl; omega) (fun x hx => h x (by simp [hx])) ih; obtain ⟨o1, o2⟩ := h k (by simp); obtain ⟨v1, v2⟩ := h v (by simp); have ik := Nat.le_trans (ih k o1 o2) (Nat.mul_le_mul_right _ (FD (show AB k ≤ D by omega))); have iv := Nat.le_trans (ih v v1 v2) (Nat.mul_le_mul_right _ (FD (show AB v ≤ D by omega))); have key : (spJ k).size + 6 + ((spJ v).size + 6) ≤ Fd D * pz k v := by
   unfold pz; by_cases hs : G8 k v = true
   ·rw [if_pos hs]
    unfold G8 at hs; rw [Bool.and_eq_true, decide_eq_true_eq] at hs; obtain ⟨h34, hv⟩ := hs; have hv := J2 _ _ hv; have hdv : AB v = 1 + max 1 (AB k) := by rw [hv]; simp [Ax, BR, AB, Bt]
    have := UL (k := k) hF o1 h34 fun x hx ko => by
     have h1 := ih x ko (by omega); have h2 : Fd (AB x + 3) ≤ Fd D := FD (by omega); rw [Vg] at h2; have h3 := Nat.mul_le_mul_right (cz x) h2; rw [Nat.mul_assoc] at h3; omega
    have e1 := k1.2; have e5 := (k5 k1.1 o1).2; rw [← hv] at e5; rw [show cz k + 24 + 12 = cz k + 36 by omega]; omega
   rw [if_neg hs, Nat.mul_add, Nat.mul_add]; have := Jv (a := 12) hF; omega
  rw [spL, spL, Ao, Ao, czP, Nat.mul_add]; unfold pz at key; omega
theorem Gz : ∀ (d : Nat) (n : NJ), AB n ≤ d → okJ n = true → (spJ n).size + 4 ≤ Fd (AB n) * cz n
 | 0, .mk k s m e l a, hd, _ => by rw [AB] at hd; omega
 | d + 1, .mk k s m e l a, hd, h => by
  have hok := h; have hdd : AB (.mk k s m e l a) = 1 + Bt l := by rw [AB]
  rw [hdd] at hd; rw [okJ, Bool.and_eq_true] at h; obtain ⟨h1, hkL⟩ := h; have hk := hkL; rw [DW, List.all_eq_true] at hk; unfold ES at h1; rw [Bool.and_eq_true] at h1; obtain ⟨hb, hf⟩ := h1; obtain ⟨bs, bm, ba⟩ := H7 hb; have hF := TT (AB (.mk k s m e l a)); have hx : ∀ x ∈ l, AB x ≤ Bt l := fun x hx => Cz.1 (Nat.le_refl _) x hx
  have K : ∀ x ∈ l, (spJ x).size + 4 ≤ Fd (AB (.mk k s m e l a)) * cz x := fun x hxx => Nat.le_trans (Gz d x (by have := hx x hxx; omega) (hk x hxx)) (Nat.mul_le_mul_right _ (FD (by have := hx x hxx; omega)))
  have G := Jl l K; have h4z := Hy (show 2 ≤ 4 by decide) (spL l); by_cases k16 : k = 16
  ·subst k16
   obtain rfl := bs.resolve_left (by decide); obtain ⟨rfl, rfl⟩ := bm.resolve_left (by decide); obtain rfl := ba.resolve_left (by decide); have h2 : l.length % 2 = 0 := by simpa [Ac] using hf
   have hsz := (Go.Proofs.YtakncilicoefdaaGreatDoor.k16 h2 hkL).2; have P := Ik (D := AB (.mk 16 ⟨#[]⟩ 0 0 l [])) (Nat.zero_le _) l h2 (fun x hxx => ⟨hk x hxx, by have := hx x hxx; omega⟩) fun x ko hdx => Gz d x (by omega) ko
   have hc : cz (.mk 16 ⟨#[]⟩ 0 0 l []) = 30 + czP l := by rw [cz, if_pos rfl]; unfold Lj; rw [if_neg (by decide), AC]; rfl
   rw [hc]; unfold Ag at hsz; exact grow hF (by omega) P
  by_cases k4 : k = 4
  ·subst k4
   obtain ⟨s2, r, f⟩ := Fr _ hok (.inr rfl); have hl := congrArg List.length f.t; simp only [List.length_cons, List.length_append, List.length_nil, GF] at hl; have hj := XA r s2 f.v fun x hxx => (f.kd x hxx).1
   have he : l = Bg s2 :: B6 r := by
    have := f.e; cases r with
    | nil => have h5 : Av (.mk 4 s m e l a) = Av (Bg s2) := (by rw [this]; rfl); cases h5
    | cons y r => injection this
   rw [← he] at hj; rw [BV (by decide) (by decide)]; exact grow hF (by omega) G
  by_cases k3 : k = 3
  ·obtain ⟨s2, e2, hv⟩ := GQ _ hok k3
   rw [e2] at hF ⊢; have := (Go.Proofs.YtakncilicoefdaaGreatDoor.k3 hv).2; have h2 := Jv (a := cz (Bg s2)) hF; rw [H5] at h2 ⊢; omega
  have hcz : cz (.mk k s m e l a) = 30 + 2 * s.size + Cu 2 a + czL l := BV k3 k16; rw [hcz]; refine grow hF ?_ G; clear G K hF hcz; by_cases k1 : k = 1
  ·subst k1
   obtain rfl := bs.resolve_left (by decide); obtain ⟨rfl, rfl⟩ := bm.resolve_left (by decide); obtain rfl := ba.resolve_left (by decide); obtain rfl : l = [] := by simpa [Ac] using hf
   have q := (Go.Proofs.YtakncilicoefdaaGreatDoor.k1).2; unfold BR at q; simp only [spL, AC, show ByteArray.size ⟨#[]⟩ = 0 from rfl] at *; omega
  by_cases k26 : k = 26
  ·subst k26
   obtain rfl := bs.resolve_left (by decide); obtain ⟨rfl, rfl⟩ := bm.resolve_left (by decide); obtain rfl := ba.resolve_left (by decide); obtain rfl : l = [] := by simpa [Ac] using hf
   have q := (Go.Proofs.YtakncilicoefdaaGreatDoor.k26).2; unfold Ag at q; simp only [spL, AC, show ByteArray.size ⟨#[]⟩ = 0 from rfl] at *; omega
  by_cases k2 : k = 2
  ·subst k2
   obtain rfl := bs.resolve_left (by decide); obtain rfl := ba.resolve_left (by decide); have h2 : (l = [] ∧ right m e = true) ∧ 0 ≤ m := by simpa [Ac] using hf
   obtain ⟨⟨rfl, hr⟩, h0⟩ := h2; have q := (Go.Proofs.YtakncilicoefdaaGreatDoor.k2 h0 hr).2; simp only [spL, AC, show ByteArray.size ⟨#[]⟩ = 0 from rfl] at *; omega
  by_cases k5 : k = 5
  ·subst k5
   obtain rfl := bs.resolve_left (by decide); obtain ⟨rfl, rfl⟩ := bm.resolve_left (by decide); obtain rfl := ba.resolve_left (by decide); have hl : l.length = 2 := by simpa [Ac] using hf
   obtain ⟨x0, x1, rfl⟩ := l2 hl; have q := (Go.Proofs.YtakncilicoefdaaGreatDoor.k5 (hk x0 (by simp)) (hk x1 (by simp))).2; unfold Ax at q; simp only [spL, Ao, AC, show ByteArray.size ⟨#[]⟩ = 0 from rfl] at *; omega
  by_cases k6 : k = 6
  ·subst k6
   obtain rfl := bs.resolve_left (by decide); obtain ⟨rfl, rfl⟩ := bm.resolve_left (by decide); obtain ⟨hl, ha⟩ := Sw hf rfl; rcases ha with rfl | rfl | rfl
   ·obtain ⟨x0, x1, rfl⟩ := l2 hl
    have q := (Go.Proofs.YtakncilicoefdaaGreatDoor.k6a (hk x0 (by simp)) (hk x1 (by simp))).2; simp only [spL, Ao, AC, show ByteArray.size ⟨#[]⟩ = 0 from rfl] at *; omega
   ·obtain ⟨x0, x1, rfl⟩ := l2 hl
    have q := (Go.Proofs.YtakncilicoefdaaGreatDoor.k6b (hk x0 (by simp)) (hk x1 (by simp))).2; simp only [spL, Ao, AC, show ByteArray.size ⟨#[]⟩ = 0 from rfl] at *; omega
   obtain ⟨x0, x1, x2, rfl⟩ := l3 hl; have q := (Go.Proofs.YtakncilicoefdaaGreatDoor.k6c (hk x0 (by simp)) (hk x1 (by simp)) (hk x2 (by simp))).2; simp only [spL, Ao, AC, show ByteArray.size ⟨#[]⟩ = 0 from rfl] at *; omega
  by_cases k7 : k = 7
  ·subst k7
   obtain rfl := bs.resolve_left (by decide); obtain ⟨rfl, rfl⟩ := bm.resolve_left (by decide); obtain rfl := ba.resolve_left (by decide); have hl : l.length = 1 := by simpa [Ac] using hf
   obtain ⟨x0, rfl⟩ := l1 hl; have q := (Go.Proofs.YtakncilicoefdaaGreatDoor.k7 (hk x0 (by simp))).2; unfold Ag at q; simp only [spL, Ao, AC, show ByteArray.size ⟨#[]⟩ = 0 from rfl] at *; omega
  by_cases k8 : k = 8
  ·subst k8
   obtain rfl := bs.resolve_left (by decide); obtain ⟨rfl, rfl⟩ := bm.resolve_left (by decide); obtain rfl := ba.resolve_left (by decide); have hl : l.length = 2 := by simpa [Ac] using hf
   obtain ⟨x0, x1, rfl⟩ := l2 hl; have q := (Go.Proofs.YtakncilicoefdaaGreatDoor.k8 (hk x0 (by simp)) (hk x1 (by simp))).2; unfold Ax at q; simp only [spL, Ao, AC, show ByteArray.size ⟨#[]⟩ = 0 from rfl] at *; omega
  by_cases k9 : k = 9
  ·subst k9
   obtain rfl := bs.resolve_left (by decide); obtain ⟨rfl, rfl⟩ := bm.resolve_left (by decide); obtain rfl := ba.resolve_left (by decide); have hl : l.length = 2 := by simpa [Ac] using hf
   obtain ⟨x0, x1, rfl⟩ := l2 hl; have q := (Go.Proofs.YtakncilicoefdaaGreatDoor.k9 (hk x0 (by simp)) (hk x1 (by simp))).2; unfold Ax at q; simp only [spL, Ao, AC, show ByteArray.size ⟨#[]⟩ = 0 from rfl] at *; omega
  by_cases k10 : k = 10
  ·subst k10
   obtain ⟨rfl, rfl⟩ := bm.resolve_left (by decide); obtain rfl := ba.resolve_left (by decide); have h2 : l.length = 2 ∧ inB C6 s = true := by simpa [Ac] using hf
   obtain ⟨hl, hs⟩ := h2; obtain ⟨x0, x1, rfl⟩ := l2 hl; have q := (Go.Proofs.YtakncilicoefdaaGreatDoor.k10 hs (hk x0 (by simp)) (hk x1 (by simp))).2; unfold Ax at q; simp only [spL, Ao, AC] at *; omega
  by_cases k11 : k = 11
  ·subst k11
   obtain rfl := bs.resolve_left (by decide); obtain ⟨rfl, rfl⟩ := bm.resolve_left (by decide); obtain rfl := ba.resolve_left (by decide); have hl : l.length = 2 := by simpa [Ac] using hf
   obtain ⟨x0, x1, rfl⟩ := l2 hl; have q := (Go.Proofs.YtakncilicoefdaaGreatDoor.k11 (hk x0 (by simp)) (hk x1 (by simp))).2; unfold Ax at q; simp only [spL, Ao, AC, show ByteArray.size ⟨#[]⟩ = 0 from rfl] at *; omega
  by_cases k12 : k = 12
  ·subst k12
   obtain rfl := bs.resolve_left (by decide); obtain ⟨rfl, rfl⟩ := bm.resolve_left (by decide); obtain rfl := ba.resolve_left (by decide); have hl : l.length = 2 := by simpa [Ac] using hf
   obtain ⟨x0, x1, rfl⟩ := l2 hl; have q := (Go.Proofs.YtakncilicoefdaaGreatDoor.k12 (hk x0 (by simp)) (hk x1 (by simp))).2; unfold Ax at q; simp only [spL, Ao, AC, show ByteArray.size ⟨#[]⟩ = 0 from rfl] at *; omega
  by_cases k13 : k = 13
  ·subst k13
   obtain rfl := bs.resolve_left (by decide); obtain ⟨rfl, rfl⟩ := bm.resolve_left (by decide); obtain rfl := ba.resolve_left (by decide); have hl : l.length = 2 := by simpa [Ac] using hf
   obtain ⟨x0, x1, rfl⟩ := l2 hl; have q := (Go.Proofs.YtakncilicoefdaaGreatDoor.k13 (hk x0 (by simp)) (hk x1 (by simp))).2; unfold Ax at q; simp only [spL, Ao, AC, show ByteArray.size ⟨#[]⟩ = 0 from rfl] at *; omega
  by_cases k14 : k = 14
  ·subst k14
   obtain rfl := bs.resolve_left (by decide); obtain ⟨rfl, rfl⟩ := bm.resolve_left (by decide); obtain rfl := ba.resolve_left (by decide); have hl : l.length = 1 := by simpa [Ac] using hf
   obtain ⟨x0, rfl⟩ := l1 hl; have q := (Go.Proofs.YtakncilicoefdaaGreatDoor.k14 (hk x0 (by simp))).2; unfold Ag at q; simp only [spL, Ao, AC, show ByteArray.size ⟨#[]⟩ = 0 from rfl] at *; omega
  by_cases k15 : k = 15
  ·subst k15
   obtain rfl := bs.resolve_left (by decide); obtain ⟨rfl, rfl⟩ := bm.resolve_left (by decide); obtain rfl := ba.resolve_left (by decide); have hl : l.length = 0 ∨ l.length = 1 := by simp [Ac] at hf; omega
   rcases hl with hl | hl
   ·obtain rfl := List.eq_nil_of_length_eq_zero hl
    have q := (Go.Proofs.YtakncilicoefdaaGreatDoor.YT).2; unfold Ag at q; simp only [spL, AC, show ByteArray.size ⟨#[]⟩ = 0 from rfl] at *; omega
   obtain ⟨x0, rfl⟩ := l1 hl; have q := (Go.Proofs.YtakncilicoefdaaGreatDoor.Y3 (hk x0 (by simp))).2; unfold Ag at q; simp only [spL, Ao, AC, show ByteArray.size ⟨#[]⟩ = 0 from rfl] at *; omega
  by_cases k17 : k = 17
  ·subst k17
   obtain rfl := bs.resolve_left (by decide); obtain ⟨rfl, rfl⟩ := bm.resolve_left (by decide); obtain rfl := ba.resolve_left (by decide); have hl : l.length = 3 := by simpa [Ac] using hf
   obtain ⟨x0, x1, x2, rfl⟩ := l3 hl; have q := (Go.Proofs.YtakncilicoefdaaGreatDoor.k17 (hk x0 (by simp)) (hk x1 (by simp)) (hk x2 (by simp))).2; unfold Ag at q; simp only [spL, Ao, AC, show ByteArray.size ⟨#[]⟩ = 0 from rfl] at *; omega
  by_cases k18 : k = 18
  ·subst k18
   obtain rfl := bs.resolve_left (by decide); obtain ⟨rfl, rfl⟩ := bm.resolve_left (by decide); obtain rfl := ba.resolve_left (by decide); have hl : l.length = 1 ∨ l.length = 2 := by simpa [Ac] using hf
   rcases hl with hl | hl
   ·obtain ⟨x0, rfl⟩ := l1 hl
    have q := (Go.Proofs.YtakncilicoefdaaGreatDoor.Ze (hk x0 (by simp))).2; unfold Ag at q; simp only [spL, Ao, AC, show ByteArray.size ⟨#[]⟩ = 0 from rfl] at *; omega
   obtain ⟨x0, x1, rfl⟩ := l2 hl; have q := (Go.Proofs.YtakncilicoefdaaGreatDoor.ZD (hk x0 (by simp)) (hk x1 (by simp))).2; unfold Ag at q; simp only [spL, Ao, AC, show ByteArray.size ⟨#[]⟩ = 0 from rfl] at *; omega
  by_cases k19 : k = 19
  ·subst k19
   obtain ⟨rfl, rfl⟩ := bm.resolve_left (by decide); obtain rfl := ba.resolve_left (by decide); have h2 : l.length = 3 ∧ Bf s = true := by simpa [Ac] using hf
   obtain ⟨hl, hs⟩ := h2; obtain ⟨x0, x1, x2, rfl⟩ := l3 hl; have q := (Go.Proofs.YtakncilicoefdaaGreatDoor.k19 hs (hk x0 (by simp)) (hk x1 (by simp)) (hk x2 (by simp))).2; simp only [spL, Ao, AC] at *; omega
  by_cases k20 : k = 20
  ·subst k20
   obtain ⟨rfl, rfl⟩ := bm.resolve_left (by decide); obtain rfl := ba.resolve_left (by decide); have h2 : l.length = 4 ∧ Bf s = true := by simpa [Ac] using hf
   obtain ⟨hl, hs⟩ := h2; obtain ⟨x0, x1, x2, x3, rfl⟩ := l4 hl; have q := (Go.Proofs.YtakncilicoefdaaGreatDoor.k20 hs (hk x0 (by simp)) (hk x1 (by simp)) (hk x2 (by simp)) (hk x3 (by simp))).2; simp only [spL, Ao, AC] at *; omega
  by_cases k21 : k = 21
  ·subst k21
   obtain ⟨rfl, rfl⟩ := bm.resolve_left (by decide); obtain rfl := ba.resolve_left (by decide); have h2 : l.length = 2 ∧ Bf s = true := by simpa [Ac] using hf
   obtain ⟨hl, hs⟩ := h2; obtain ⟨x0, x1, rfl⟩ := l2 hl; have q := (Go.Proofs.YtakncilicoefdaaGreatDoor.k21 hs (hk x0 (by simp)) (hk x1 (by simp))).2; unfold Ax at q; simp only [spL, Ao, AC] at *; omega
  by_cases k22 : k = 22
  ·subst k22
   obtain ⟨rfl, rfl⟩ := bm.resolve_left (by decide); obtain rfl := ba.resolve_left (by decide); have h2 : l = [] ∧ Bf s = true := by simpa [Ac] using hf
   obtain ⟨rfl, hv⟩ := h2; have q := (Go.Proofs.YtakncilicoefdaaGreatDoor.k22 hv).2; unfold Cy at q; simp only [spL, AC] at *; omega
  by_cases k23 : k = 23
  ·subst k23
   obtain ⟨rfl, rfl⟩ := bm.resolve_left (by decide); obtain rfl := ba.resolve_left (by decide); have q := (Go.Proofs.YtakncilicoefdaaGreatDoor.k23 (by simpa [Ac] using hf) hkL).2; simp only [AC] at *; omega
  by_cases k24 : k = 24
  ·subst k24
   obtain ⟨rfl, rfl⟩ := bm.resolve_left (by decide); have h2 : (l.length = 2 ∧ B7 s = true) ∧ ∀ s ∈ a, BO s = true := by simpa [Ac] using hf
   obtain ⟨⟨hl, hs⟩, ha⟩ := h2; obtain ⟨x0, x1, rfl⟩ := l2 hl; have q := (Go.Proofs.YtakncilicoefdaaGreatDoor.k24 hs ha (hk x0 (by simp)) (hk x1 (by simp))).2; simp only [spL, Ao, AC] at *; omega
  by_cases k25 : k = 25
  ·subst k25
   obtain ⟨rfl, rfl⟩ := bm.resolve_left (by decide); obtain rfl := ba.resolve_left (by decide); have h2 : l.length = 2 ∧ inB Ez s = true := by simpa [Ac] using hf
   obtain ⟨hl, hs⟩ := h2; obtain ⟨x0, x1, rfl⟩ := l2 hl; have q := (Go.Proofs.YtakncilicoefdaaGreatDoor.k25 hs (hk x0 (by simp)) (hk x1 (by simp))).2; unfold Ax at q; simp only [spL, Ao, AC] at *; omega
  exfalso; unfold Ac at hf; simp only [k16, k4, k3, k1, k26, k2, k5, k6, k7, k8, k9, k10, k11, k12, k13, k14, k15, k17, k18, k19, k20, k21, k22, k23, k24, k25, or_self, if_false, Bool.false_eq_true] at hf
end Go.Proofs.YtakncilicoefdaaGreatDoor
