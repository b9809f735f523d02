/- Lemmas and contracts for the laws ReadParses, ReadBytes, part 31 of 50: Make. Conditions: those that each lemma names. -/
import Derived.Test.YtbngjlkmpdccjaaGreatDoorPack27
import Derived.Test.YtbngjlkmpdccjaaGreatDoorPack8
import Derived.Test.YtbngjlkmpdccjaaGreatDoorPack23
import Derived.Test.YtbngjlkmpdccjaaGreatDoorPack2
import Derived.Outline
import Derived.Maps.OwnOps
import Derived.StringKeys
import Derived.Maps.RangeWalk
import Derived.Sort.OwnSorted
namespace Go.Proofs.YtbngjlkmpdccjaaGreatDoor
open Go Go.RowKit Go.Proofs Th
attribute [local go_sem] Above.cell
theorem all_takeS (p : ByteArray → Bool) (l : List ByteArray) (k : Nat) (h : k < l.length) : (l.take (k + 1)).all p = ((l.take k).all p && p l[k]) := by
  rw [List.take_succ_eq_append_getElem h, List.all_append]; simp
theorem all_badS (p : ByteArray → Bool) (l : List ByteArray) (k : Nat) (h : k < l.length) (hf : p l[k] = false) : l.all p = false := by
  rw [List.all_eq_false]; exact ⟨l[k], List.getElem_mem h, by rw [hf]; simp⟩
set_option maxRecDepth 100000 in
theorem every_keys (ks : List ByteArray) (A : Option Addr) (c : Nat) (w : World) (hu : Utf w) (hK : StrsAt w w.heap.size A c ks) :
    Calls Tryz.prog 32 #[.slice A ks.length c, .func (.func 33) #[] #[]] w fun r w' => r = .returned (.bool (ks.all fun k => Lib.validD k.data.toList)) ∧ Below w.heap.size w w' := by
  have hlc := hK.cap
  have hlt0 := hK.le
  have HU := Keep.mk hu
  have HSM := Keep.mk hK.small
  clear hu
  go_enter Tryz.func32, Tryz.ntmps32
  go_wp2_with fail
  go_loopg [9] ks.length (fun gk i wr => ∃ j : Nat, j + gk = ks.length ∧ i = .int .i64 j ∧ Keep ((ks.take j).all (fun k => Lib.validD k.data.toList) = true) ∧ Keep (StrsAt wr w.heap.size A c ks) ∧ Keep (Below w.heap.size w wr))
  case atStart => exact ⟨0, by omega, rfl, ⟨rfl⟩, ⟨hK⟩, ⟨Below.refl _ _⟩⟩
  case round =>
    clear hK
    obtain ⟨j, hj, rfl, HA, HV, HB⟩ := hrel
    by_cases hlt : j < ks.length
    · have hgk : gk ≠ 0 := by omega
      have HS := Keep.mk (all_takeS (fun k => Lib.validD k.data.toList) ks j hlt)
      have HF := Keep.mk (all_badS (fun k => Lib.validD k.data.toList) ks j hlt)
      obtain ⟨g, o, rfl, hg, hc⟩ := HV.out.at_ (by omega)
      have hcj := hc j hlt
      have hwl := HB.out.size
      have hg2 : g < wr.heap.size := by omega
      have hks := HSM.out ks[j] (List.getElem_mem hlt)
      have HCC := Keep.mk (quote_Right ks[j] (by omega) wr (HU.out.below HB.out))
      clear hc
      generalize ks[j] = kb at *
      cases hb : Lib.validD kb.data.toList
      · have HE := Keep.mk (HF.out hb)
        rw [hb] at HCC
        clear hb
        go_wp2_with fail
        refine HCC.out.mono ?_
        rintro r w1 ⟨rfl, hb1⟩
        go_wp2
        go_ret
        exact ⟨by rw [HE.out]; rfl, up HB.out hb1⟩
      · have HE := Keep.mk (show (ks.take (j + 1)).all (fun k => Lib.validD k.data.toList) = true by rw [HS.out, HA.out, hb]; rfl)
        rw [hb] at HCC
        clear hb
        go_wp2_with fail
        refine HCC.out.mono ?_
        rintro r w1 ⟨rfl, hb1⟩
        go_wp2
        go_roundg (gk - 1)
        case rel => exact ⟨j + 1, by omega, by go_num, HE, ⟨HV.out.below hb1 hwl⟩, ⟨up HB.out hb1⟩⟩
        case measure => omega
    · have HE := Keep.mk (show ks.all (fun k => Lib.validD k.data.toList) = true by have := HA.out; rw [List.take_of_length_le (by omega)] at this; exact this)
      go_wp2
      go_ret
      exact ⟨by rw [HE.out]; rfl, HB.out⟩
open Go.Maps in
theorem keyed_str : Keyed Tryz.prog 9 := string_keyed Tryz.underlying9
theorem int_zero (w : World) : (zeroValue 3).run Tryz.prog w = .ok (.int .i64 0) w := by kernel_rfl
theorem key_lit {k : ByteArray} (h : k.size ≤ 140737488351232) : keyOf Tryz.prog 9 (.string k) = some (kLit k) := Go.WideMaps.keyOf_string_mk Tryz.underlying9 (by unfold maxLen; omega)
structure MakeS (w wr : World) (ks : List ByteArray) (l : List JV) (A : Option Addr) (c : Nat) (A2 : Option Addr) (c2 : Nat) : Prop where
  k : StrsAt wr w.heap.size A c ks
  v : ValsAt wr w.heap.size A2 c2 l
  r : VBlkT wr w.heap.size zero6
  g : GlobV w
  b : Below w.heap.size w wr
theorem MakeS.gg {w wr : World} {ks : List ByteArray} {l : List JV} {A : Option Addr} {c : Nat} {A2 : Option Addr} {c2 : Nat} (h : MakeS w wr ks l A c A2 c2) : GlobV wr := h.g.below h.b
theorem MakeS.below {w wr w' : World} {ks : List ByteArray} {l : List JV} {A : Option Addr} {c : Nat} {A2 : Option Addr} {c2 : Nat} (h : MakeS w wr ks l A c A2 c2) (hb : Below wr.heap.size wr w') : MakeS w w' ks l A c A2 c2 :=
  ⟨h.k.below hb h.b.size, h.v.below hb h.b.size, (hb.block _ (lt_of_block h.r)).trans h.r, h.g, up h.b hb⟩
theorem MakeS.turned {w wr w' : World} {ks : List ByteArray} {l : List JV} {A : Option Addr} {c : Nat} {A2 : Option Addr} {c2 B : Nat} (h : MakeS w wr ks l A c A2 c2) (hB : w.heap.size + 1 ≤ B) (hg : wr.grownBy w' (some B)) : MakeS w w' ks l A c A2 c2 := by
  have hb : Below (w.heap.size + 1) wr w' := ⟨hg.os, hg.tape, hg.output, hg.size, fun k hk => by
    by_cases hw : k < wr.heap.size
    · exact hg.block k hw (fun e => by injection e with e; omega)
    · have := lt_of_block h.r; omega⟩
  exact ⟨h.k.below hb (by omega), h.v.below hb (by omega), (hb.block _ (by omega)).trans h.r, h.g, h.b.trans (hb.mono (by omega))⟩
theorem MakeS.kept {w wr w' : World} {ks : List ByteArray} {l : List JV} {A : Option Addr} {c : Nat} {A2 : Option Addr} {c2 : Nat} (h : MakeS w wr ks l A c A2 c2) (hb : Below (w.heap.size + 1) wr w') : MakeS w w' ks l A c A2 c2 :=
  ⟨h.k.below hb (by omega), h.v.below hb (by omega), (hb.block _ (by omega)).trans h.r, h.g, h.b.trans (hb.mono (by omega))⟩
theorem wpList_append_strs {w : World} {ops : Array Oper} {rest : List Oper} {o : Oper} {a : Act} {Q : Exit → Act → World → Prop} (hgd : o.guard = none) (s x : Operand)
    (ho : o.op = .call { callee := .builtin .append, args := #[s, x], argTypes := #[26, 26] })
    (base : Nat) (v : Value) (ks : List ByteArray) (hs : a.eval s = v) (hown : OwnS w base v ks) (S : Nat → Prop) (A : Option Addr) (n c : Nat) (es : List ByteArray) (hn : n = es.length) (hx : a.eval x = .slice A n c) (hr : StrsIn w S A c es)
    (hl : ks.length + es.length ≤ 1000000000) (hbase : base ≤ w.heap.size)
    (h : ∀ v' w', OwnS w' base v' (ks ++ es) → w.grownBy w' v.ownBlock → wpList Tryz.prog ops Q rest (a.put o.dst v') w') : wpList Tryz.prog ops Q (o :: rest) a w := by
  subst hn
  refine wpList_plain hgd fun K hK => ?_
  obtain ⟨v', w', hrun, h2, h3, _⟩ := run_append_strs (w := w) o.type base v ks hown S A c es hr hl hbase
  unfold Oper.wp execOp
  simp only [ho, resolve, invoke, builtin, Sem.run_bind, Sem.run_pure, Result.andThen_ok, List.map_toArray, List.map_cons, List.map_nil, hs, hx, hrun]
  exact hK _ _ (h v' w' h2 h3)
theorem strs_single (w : World) (x : ByteArray) (hx : x.size ≤ 140737488351232) (o : TypeId) : StrsIn (w.alloc (.cells #[.string x] o)) (fun _ => True) (some ⟨w.heap.size, 0, none⟩) 1 [x] :=
  ⟨by simp, by simp, by simp, fun k hk => by rw [List.mem_singleton.1 hk]; exact hx, fun _ => ⟨w.heap.size, 0, rfl, trivial, fun j hj => by
    obtain rfl : j = 0 := by simpa using hj
    have h := heap_alloc_new w (.cells #[.string x] o)
    show World.cell? _ ⟨w.heap.size, 0 + 0, none⟩ = _
    unfold World.cell?
    simp only [h]
    rfl⟩⟩
theorem grown_set (w : World) (p i : Nat) (v : Value) : w.grownBy (w.setCell ⟨p, i, none⟩ v) (some p) := by
  have hb := below_set (w := w) (B := p) (g := p) (o := i) (Nat.le_refl _) v
  exact ⟨hb.os, hb.tape, hb.output, hb.size, fun k hk hn => Below.heap_setCell _ _ _ k (fun e => hn (by rw [e]))⟩
theorem same_self (k : ByteArray) : (kLit k).sameKey (kLit k) = true := by simp [kLit, Lit.sameKey]
theorem sort_strs {w : World} {base c : Nat} {A : Option Addr} {ks : List ByteArray} (hO : OwnS w base (.slice A ks.length c) ks) (hl : ks.length ≤ 1000000) :
    Calls Tryz.prog 35 #[.slice A ks.length c] w fun r w' => r = .returned (.tuple #[]) ∧ w.grownBy w' (Value.slice A ks.length c).ownBlock ∧ OwnS w' base (.slice A ks.length c) ((sortB (ks.map fun k => k.data.toList)).map toB) := by
  have hlen : ((sortB (ks.map fun k => k.data.toList)).map toB).length = ks.length := by
    rw [List.length_map]; unfold sortB; rw [List.length_mergeSort, List.length_map]
  have hsm : ∀ k ∈ (sortB (ks.map fun k => k.data.toList)).map toB, k.size ≤ 140737488351232 := by
    intro k hk
    obtain ⟨x, hx, rfl⟩ := List.mem_map.1 hk
    rw [mem_sortB] at hx
    obtain ⟨k', hk', rfl⟩ := List.mem_map.1 hx
    rw [toB_back]
    exact hO.small k' hk'
  obtain ⟨hx, ⟨e, h0⟩ | ⟨g, cap, cur, e, hbase, hb, h1, h2, h3, h4⟩⟩ := hO.row
  · injection e with e1 e2 e3
    subst e1 e3
    obtain rfl := List.eq_nil_of_length_eq_zero h0
    refine (Tryz.slices_Sort_string_none none 0 w).mono ?_
    rintro r w' ⟨rfl, rfl⟩
    refine ⟨rfl, ⟨rfl, rfl, rfl, Nat.le_refl _, fun _ _ _ => rfl⟩, ?_⟩
    rw [show (sortB (([] : List ByteArray).map fun k => k.data.toList)).map toB = [] by simp [sortB]]
    exact OwnS.nil _ _
  · injection e with e1 e2 e3
    subst e1 e3
    have hg : g < w.heap.size := lt_of_block hb
    have hmap : (ks.map fun k => k.data.toList).map encStr = ks.map Value.string := by rw [List.map_map]; rfl
    have hlk : (ks.map fun k => k.data.toList).length = ks.length := List.length_map _
    have hH := (show _ from holds_of_block hb (by rw [hmap, hlk, ← h4, Nat.mul_one]))
    have hc := Tryz.slices_Sort_string g 0 c (ks.map fun k => k.data.toList) w hH hg (by omega)
    rw [hlk] at hc
    refine hc.mono ?_
    rintro r w' ⟨rfl, n, os, rfl⟩
    refine ⟨rfl, grownBy_sorted _, ?_, hsm⟩
    have hr := ownsRow_sorted (n := n) (os := os) (ss := ks.map fun k => k.data.toList) (ts := (ks.map fun k => k.data.toList).mergeSort fun x y => decide (x ≤ y)) (List.length_mergeSort _) hbase hb (by omega) h2 h3
    rw [hlk] at hr
    rw [hlen, List.map_map]
    exact hr
theorem gather (left : Lit → Bool) (hs : ByteArray → Bool) (acc : List ByteArray) (x : ByteArray) (hl : left (kLit x) = true) (hN : acc.Nodup) (hA : ∀ k : ByteArray, k ∈ acc ↔ hs k = true ∧ left (kLit k) = false) (hH : ∀ k : ByteArray, left (kLit k) = true → hs k = true) :
    (acc ++ [x]).Nodup ∧ (∀ k : ByteArray, k ∈ acc ++ [x] ↔ hs k = true ∧ (left (kLit k) && !(kLit k).sameKey (kLit x)) = false) ∧ (∀ k : ByteArray, (left (kLit k) && !(kLit k).sameKey (kLit x)) = true → hs k = true) := by
  have hx : x ∉ acc := fun h => by have := ((hA x).1 h).2; rw [hl] at this; cases this
  refine ⟨?_, fun k => ?_, fun k h => hH k (by simp only [Bool.and_eq_true] at h; exact h.1)⟩
  · rw [List.nodup_append]
    refine ⟨hN, by simp, fun a ha b hb => ?_⟩
    rw [List.mem_singleton.1 hb]
    rintro rfl
    exact hx ha
  · rw [List.mem_append, List.mem_singleton]
    by_cases hk : k = x
    · subst hk
      rw [same_self]
      simp [hH k hl]
    · rw [Maps.sameKey_ne (fun e => hk (kLit_inj e)), hA k]
      simp [hk]
theorem str_inv (key : Value) (kl : Lit) (h : keyOf Tryz.prog 9 key = some kl) : ∃ x : ByteArray, key = .string x := by
  cases key <;> simp [keyOf, Tryz.underlying9, mapKey] at h
  exact ⟨_, rfl⟩
theorem int_inv (v : Value) (y : DataW Unit × List MemPlace) (h : plainElem Tryz.prog 3 v = some y) : ∃ c : Int, v = .int .i64 c := by
  obtain ⟨a, e, _⟩ := plainElem_int_inv Tryz.underlying3 h
  exact ⟨a, e⟩
theorem zero_in (W : World) (S : Nat → Prop) : JIn W S zeroJ zero6 :=
  JIn.shut (l := []) (ks := []) ⟨by decide, by decide⟩ ⟨by decide, by decide⟩ ⟨by decide, by decide⟩ (by decide) (StrsIn.none_ _ _) (ValsIn.none_ _ _)
set_option maxRecDepth 100000 in
set_option maxHeartbeats 4000000 in
theorem value_Make (ks : List ByteArray) (l : List JV) (A : Option Addr) (c : Nat) (A2 : Option Addr) (c2 : Nat) (hkl : ks.length ≤ 100000) (hz : sizeL l ≤ 900000) (_hkz : keysN ks ≤ 90000) (w : World) (hG : GlobV w) (hK : StrsAt w w.heap.size A c ks) (hV : ValsAt w w.heap.size A2 c2 l) :
    Calls Tryz.prog 21 #[.slice A ks.length c, .slice A2 l.length c2] w fun r w' => ∃ cs', r = .returned (.tuple #[.agg (List.toArray cs'), .int .i64 (makeJ ks l).2]) ∧ JIn w' (newIn w w') (makeJ ks l).1 cs' ∧ Below w.heap.size w w' := by
  have hlc := hV.cap
  have hle := hK.le
  have hle2 := hV.le
  have HM := Keep.mk (show MakeS w (w.alloc (.cells zero6.toArray 28)) ks l A c A2 c2 from
    ⟨hK.below (al1 _ _) (Nat.le_refl _), hV.below (al1 _ _) (Nat.le_refl _), VBlkT.new zero6 rfl, hG, al1 _ _⟩)
  clear hK hV hG
  have hmm := @run_makeMap Tryz.prog
  have HEV := Keep.mk (fun (W : World) (hu : Utf W) (h : StrsAt W W.heap.size A c ks) => every_keys ks A c W hu h)
  by_cases hne : ks.length = l.length
  · have b0 : ((ks.length : Int) != (l.length : Int)) = false := by simp; omega
    cases hv : ks.all (fun k => Lib.validD k.data.toList)
    · have HE := Keep.mk (show makeJ ks l = (zeroJ, 30) by unfold makeJ; rw [if_neg (by simpa using hne), if_pos hv])
      rw [hv] at HEV
      clear hv hne
      go_enter Tryz.func21, Tryz.ntmps21
      go_upto_block 0 with fail
      refine wp_world (fun W => MakeS w W ks l A c A2 c2) HM.out ?_
      clear HM
      rintro W0 HM
      replace HM := Keep.mk HM
      go_wp2_with fail
      refine (HEV.out W0 HM.out.gg.utf (HM.out.k.more HM.out.b.size)).mono ?_
      rintro r w1 ⟨rfl, hb1⟩
      replace HM := Keep.mk (HM.out.below hb1)
      clear hb1 HEV
      have hrb := HM.out.r.box
      have r0 := hrb.cell 0 _ rfl
      have r1 := hrb.cell 1 _ rfl
      have r2 := hrb.cell 2 _ rfl
      have r3 := hrb.cell 3 _ rfl
      have r4 := hrb.cell 4 _ rfl
      have r5 := hrb.cell 5 _ rfl
      have z0 := hrb.froz 0
      have z1 := hrb.froz 1
      have z2 := hrb.froz 2
      have z3 := hrb.froz 3
      have z4 := hrb.froz 4
      have z5 := hrb.froz 5
      have hrl := hrb.lt
      clear hrb
      go_wp2
      refine bodyPost_ret (v := .tuple #[.agg (List.toArray zero6), .int .i64 30]) ?_ rfl ⟨zero6, by rw [HE.out], by rw [HE.out]; exact zero_in _ _, HM.out.b.trans (six_below _ _ _ _ _ _ _ _ (Nat.le_refl _))⟩
      simp [zero6, cells6, results, Tryz.results21, go_sem, r0, r1, r2, r3, r4, r5]
    · rw [hv] at HEV
      have HNE := Keep.mk hne
      have HV0 := Keep.mk hv
      clear hne hv
      go_enter Tryz.func21, Tryz.ntmps21
      go_upto_block 0 with fail
      refine wp_world (fun W => MakeS w W ks l A c A2 c2) HM.out ?_
      clear HM
      rintro W0 HM
      replace HM := Keep.mk HM
      go_wp2_with fail
      refine (HEV.out W0 HM.out.gg.utf (HM.out.k.more HM.out.b.size)).mono ?_
      rintro r w1 ⟨rfl, hb1⟩
      replace HM := Keep.mk (HM.out.below hb1)
      clear hb1 HEV
      go_upto_region 6 with fail
      obtain ⟨B, hB⟩ : ∃ B, w1.heap.size = B := ⟨_, rfl⟩
      have HMM := Keep.mk (show (w1.alloc (.map #[] 0)).ownsMap Tryz.prog 9 (plainElem (H := Unit) Tryz.prog 3) B 0 (lastM ks 0) from by rw [← hB]; exact World.ownsMap_made _ _ _ _)
      have hBw : w.heap.size + 1 ≤ B := by have := HM.out.b.size; have := lt_of_block HM.out.r; omega
      refine wp_world (fun W => MakeS w W ks l A c A2 c2 ∧ W.ownsMap Tryz.prog 9 (plainElem (H := Unit) Tryz.prog 3) B 0 (lastM ks 0)) ⟨HM.out.below (al1 _ _), HMM.out⟩ ?_
      rw [hB]
      clear HM HMM hB
      rintro W1 ⟨HM, HMM⟩
      replace HM := Keep.mk HM
      replace HMM := Keep.mk HMM
      go_upto_block 1 with fail
      go_cut [] (fun wx => Keep (badL l = 0) ∧ Keep (MakeS w wx ks l A c A2 c2) ∧ Keep (wx.ownsMap Tryz.prog 9 (plainElem (H := Unit) Tryz.prog 3) B ks.length (lastM ks ks.length)))
      case first =>
        go_wp2_with fail
        go_loopg [30] ks.length (fun gk i wr => ∃ j : Nat, j + gk = ks.length ∧ i = .int .i64 j ∧ Keep (∀ i (h : i < l.length), i < j → rightJ l[i] = 0) ∧ Keep (MakeS w wr ks l A c A2 c2) ∧ Keep (wr.ownsMap Tryz.prog 9 (plainElem (H := Unit) Tryz.prog 3) B j (lastM ks j)))
        case atStart => exact ⟨0, by omega, rfl, ⟨fun _ _ h => absurd h (by omega)⟩, HM, HMM⟩
        case round =>
          clear HM HMM
          obtain ⟨j, hj, rfl, HR, HM, HMM⟩ := hrel
          by_cases hlt : j < ks.length
          · have hgk : gk ≠ 0 := by omega
            have hlt2 : j < l.length := by have := HNE.out; omega
            obtain ⟨g, o, rfl, hg, hc⟩ := HM.out.k.at_ (by omega)
            have hcj := hc j hlt
            have hks := HM.out.k.small ks[j] (List.getElem_mem hlt)
            clear hc
            obtain ⟨g2, o2, k1, m1, e1, s1, A1, n1, c1, A3, n3, c3, rfl, hg2, hJj, y0, y1, y2, y3, y4, y5⟩ := HM.out.v.elem j hlt2
            have hbs := HM.out.b.size
            have hgl : g < wr.heap.size := by omega
            have hgl2 : g2 < wr.heap.size := by omega
            have HC := Keep.mk (value_Right l[j] wr _ HM.out.gg (hJj.more hbs))
            have HBG := Keep.mk (fun (h : rightJ l[j] ≠ 0) => badL_get l j hlt2 HR.out h)
            have HKD := Keep.mk (show ks.getD j ⟨#[]⟩ = ks[j] by rw [List.getD_eq_getElem?_getD, List.getElem?_eq_getElem hlt]; rfl)
            have HRN := Keep.mk (fun (h : rightJ l[j] = 0) => show ∀ i (hh : i < l.length), i < j + 1 → rightJ l[i] = 0 from fun i hh hi => by
              by_cases hij : i < j
              · exact HR.out i hh hij
              · obtain rfl : i = j := by omega
                exact h)
            have hmlt := HMM.out.lt
            clear hJj HR
            generalize ks[j] = kb at *
            generalize rightJ l[j] = rr at *
            by_cases hr0 : rr = 0
            · subst hr0
              have HRN2 := Keep.mk (HRN.out rfl)
              clear HRN HBG
              go_wp2_with fail
              refine HC.out.mono ?_
              rintro r w2 ⟨rfl, hb2⟩
              have HM2 := Keep.mk (HM.out.below hb2)
              have HMM2 := Keep.mk (HMM.out.kept (row := none) ⟨hb2.os, hb2.tape, hb2.output, hb2.size, fun k hk _ => hb2.block k hk⟩ (by simp))
              clear hb2 HM HMM HC y0 y1 y2 y3 y4 y5 hcj
              go_wp2_with (at_mapUpdate; refine wpList_mapUpdate_own _ rfl _ _ _ 83 rfl 9 3 keyed_str Tryz.underlying83 _ B j _ rfl HMM2.out (by unfold maxLen; omega) _ _ _ rfl rfl (key_lit hks) _ [] (plainElem_int Tryz.underlying3 (WalkArith.wf_i64 (by omega))) ?_)
              intro w3 hown3 hgrow3
              have HMM3 := Keep.mk (show w3.ownsMap Tryz.prog 9 (plainElem (H := Unit) Tryz.prog 3) B (j + 1) (lastM ks (j + 1)) by unfold lastM; rw [HKD.out]; exact hown3)
              have HM3 := Keep.mk (HM2.out.turned hBw hgrow3)
              clear hown3 hgrow3 HM2 HMM2
              go_wp2
              go_roundg (gk - 1)
              case rel => exact ⟨j + 1, by omega, by go_num, HRN2, HM3, HMM3⟩
              case measure => omega
            · have HE := Keep.mk (show makeJ ks l = (zeroJ, rr) by unfold makeJ; rw [if_neg (by simpa using HNE.out), if_neg (by rw [HV0.out]; simp), if_pos (by rw [HBG.out hr0]; exact hr0), HBG.out hr0])
              have hr2 : (rr != 0) = true := by simpa using hr0
              clear HRN HBG hr0
              go_wp2_with fail
              refine HC.out.mono ?_
              rintro r w2 ⟨rfl, hb2⟩
              have HM2 := Keep.mk (HM.out.below hb2)
              clear hb2 HM HMM HC y0 y1 y2 y3 y4 y5 hcj
              have hrb := HM2.out.r.box
              have r0 := hrb.cell 0 _ rfl
              have r1 := hrb.cell 1 _ rfl
              have r2 := hrb.cell 2 _ rfl
              have r3 := hrb.cell 3 _ rfl
              have r4 := hrb.cell 4 _ rfl
              have r5 := hrb.cell 5 _ rfl
              have z0 := hrb.froz 0
              have z1 := hrb.froz 1
              have z2 := hrb.froz 2
              have z3 := hrb.froz 3
              have z4 := hrb.froz 4
              have z5 := hrb.froz 5
              have hrl := hrb.lt
              clear hrb
              go_wp2
              refine bodyPost_ret (v := .tuple #[.agg (List.toArray zero6), .int .i64 rr]) ?_ rfl ⟨zero6, by rw [HE.out], by rw [HE.out]; exact zero_in _ _, HM2.out.b.trans (six_below _ _ _ _ _ _ _ _ (Nat.le_refl _))⟩
              simp [zero6, cells6, results, Tryz.results21, go_sem, r0, r1, r2, r3, r4, r5]
          · have HE := Keep.mk (show badL l = 0 from badL_zero l fun i hi => HR.out i hi (by have := HNE.out; omega))
            obtain rfl : j = ks.length := by omega
            go_wp2_with fail
            go_meet
            exact ⟨HE, HM, HMM⟩
      case rest =>
        clear HM HMM
        obtain ⟨HBZ, HM, HMM⟩ := hcut
        have hBl := HMM.out.lt
        go_upto_region 15 with fail
        refine wp_world (fun W => MakeS w W ks l A c A2 c2 ∧ W.ownsMap Tryz.prog 9 (plainElem (H := Unit) Tryz.prog 3) B ks.length (lastM ks ks.length) ∧ VBlkT W wc.heap.size (cells6 6 0 0 ⟨#[]⟩ none 0 0 none 0 0) ∧ W.heap.size = wc.heap.size + 1)
          ⟨HM.out.below (al1 _ _), HMM.out.alloc _, VBlkT.new (cells6 6 0 0 ⟨#[]⟩ none 0 0 none 0 0) rfl, by simp⟩ ?_
        have hwB : w.heap.size + 1 ≤ wc.heap.size := by omega
        generalize wc.heap.size = p at *
        clear HM HMM
        rintro W2 ⟨HM, HMM, HX, hsp⟩
        replace HM := Keep.mk HM
        replace HX := Keep.mk HX
        go_wp2_with (at_range; refine wpList_range_own _ rfl _ 83 rfl 9 3 keyed_str Tryz.underlying83 _ B ks.length _ rfl HMM ?_; intro w0 hrg0 hg0 hs0)
        go_frame
        have hBp : B < p := by have := HMM.lt; omega
        have hrW : W2.heap.size = p + 1 := hsp
        rw [hrW] at hrg0 ⊢
        have hb0 : Below W2.heap.size W2 w0 := ⟨hg0.os, hg0.tape, hg0.output, hg0.size, fun k hk => hg0.block k hk (by simp)⟩
        have HM0 := Keep.mk (HM.out.below hb0)
        have HX0 := Keep.mk (show VBlkT w0 p (cells6 6 0 0 ⟨#[]⟩ none 0 0 none 0 0) from (hb0.block _ (by omega)).trans HX.out)
        clear hb0 HM HX HMM
        go_loopg [11] (Maps.size (lastM (H := Unit) ks ks.length)) (fun gk x wr => ∃ (left : Lit → Bool) (acc : List ByteArray) (kv : Value), Keep (MakeS w wr ks l A c A2 c2) ∧ Keep (wr.ranges Tryz.prog 9 (plainElem (H := Unit) Tryz.prog 3) B (p + 1) ks.length (lastM ks ks.length) left gk) ∧
          Keep (VBlkT wr p [.int .i64 6, .int .i64 0, .int .i64 0, .string ⟨#[]⟩, .slice none 0 0, kv]) ∧ Keep (OwnS wr (p + 2) kv acc) ∧ Keep acc.Nodup ∧ Keep (∀ k : ByteArray, k ∈ acc ↔ Maps.has (lastM (H := Unit) ks ks.length) (kLit k) = true ∧ left (kLit k) = false) ∧ Keep (∀ k : ByteArray, left (kLit k) = true → Maps.has (lastM (H := Unit) ks ks.length) (kLit k) = true) ∧ Keep (acc.length + gk ≤ ks.length))
        case atStart => exact ⟨_, [], .slice none 0 0, HM0, ⟨hrg0⟩, HX0, ⟨OwnS.nil _ _⟩, ⟨List.nodup_nil⟩, ⟨fun k => ⟨fun h => absurd h List.not_mem_nil, fun ⟨h1, h2⟩ => by rw [h1] at h2; cases h2⟩⟩, ⟨fun k h => h⟩, ⟨by simpa using size_lastM ks ks.length⟩⟩
        case round =>
          clear HM0 HX0 hrg0 hg0
          obtain ⟨left, acc, kv, HM, HRG, HX, HK, HN, HA, HH, HL⟩ := hrel
          obtain ⟨A3, c3, rfl, hk1, hk2⟩ := HK.out.form
          have hxb := HX.out.box
          have x5 := hxb.cell 5 _ rfl
          have zx5 := hxb.froz 5
          have hxl := hxb.lt
          clear hxb
          go_wp2_with (at_next; refine wpList_next_ranges _ rfl _ rfl 9 keyed_str _ Value.string (Value.int .i64) str_inv int_inv B (p + 1) ks.length _ _ _ rfl HRG.out ?_ ?_)
          · intro hc0 hl0
            have hAK : ∀ k : ByteArray, k ∈ acc ↔ k ∈ ks := fun k => by
              rw [HA.out k, has_lastM]
              constructor
              · rintro ⟨⟨j, hj, e⟩, _⟩
                rw [kLit_inj e, List.getD_eq_getElem?_getD, List.getElem?_eq_getElem hj]
                exact List.getElem_mem hj
              · intro h
                obtain ⟨j, hj, e⟩ := List.mem_iff_getElem.1 h
                exact ⟨⟨j, hj, by rw [List.getD_eq_getElem?_getD, List.getElem?_eq_getElem hj, ← e]; rfl⟩, hl0 _⟩
            have HKJ := Keep.mk (keysJ_of ks acc HN.out hAK)
            have HS := Keep.mk (sort_strs HK.out (by have := HL.out; omega))
            have HRL := Keep.mk HRG.out.lt
            have HOM := Keep.mk HRG.out.owns
            clear hrW hsp hs0 hAK hl0 HH HA HN HRG
            go_wp2_with fail
            refine HS.out.mono ?_
            rintro r w3 ⟨rfl, hgr, hO3⟩
            rw [HKJ.out] at hO3
            have hown : ∀ k, (Value.slice A3 acc.length c3).ownBlock = some k → p + 2 ≤ k := fun k hk => (HK.out.lt k hk).1
            have hpl := lt_of_block HX.out
            have hrl := HRL.out
            have HX3 := Keep.mk (show VBlkT w3 p _ from (hgr.block p hpl (fun e => by have := hown p e.symm; omega)).trans HX.out)
            have HM3 := Keep.mk (HM.out.kept ((Below.refl _ _).grown hgr (by omega) (fun b hb => by have := hown b hb; omega)))
            have HOM3 := Keep.mk (HOM.out.kept hgr (fun e => by have := hown B e.symm; omega))
            have HK3 := Keep.mk hO3
            clear hgr hO3 HX HM HOM HK HS x5 zx5 hxl hown HRL
            have hKl : acc.length = (keysJ ks).length := by
              have h := congrArg List.length HKJ.out
              rw [List.length_map] at h
              unfold sortB at h
              rw [List.length_mergeSort, List.length_map] at h
              exact h
            have hxb := HX3.out.box
            have x5 := hxb.cell 5 _ rfl
            have zx5 := hxb.froz 5
            have hxl := hxb.lt
            clear hxb HKJ
            go_wp2_with fail
            rw [hKl] at HX3 HK3
            have HKS : ∀ k ∈ keysJ ks, k ∈ ks := fun k hk => (mem_keysJ ks k).1 hk
            have HKS := Keep.mk HKS
            generalize hks' : keysJ ks = kj at *
            go_loopg [67] kj.length (fun gk x wr => ∃ (j : Nat) (vl : Value), Keep (j + gk = kj.length) ∧ x = .int .i64 j ∧ Keep (MakeS w wr ks l A c A2 c2) ∧ Keep (wr.ownsMap Tryz.prog 9 (plainElem (H := Unit) Tryz.prog 3) B ks.length (lastM ks ks.length)) ∧
              Keep (VBlkT wr p [.int .i64 6, .int .i64 0, .int .i64 0, .string ⟨#[]⟩, vl, .slice A3 kj.length c3]) ∧ Keep (OwnS wr (p + 2) (.slice A3 kj.length c3) kj) ∧
              Keep (OwnV wr (p + 2) (fun b => p + 2 ≤ b ∧ b < wr.heap.size ∧ (Value.slice A3 kj.length c3).ownBlock ≠ some b ∧ vl.ownBlock ≠ some b) vl ((kj.take j).map fun k => l.getD (lastIx ks ks.length k) zeroJ)))
            case atStart => exact ⟨0, .slice none 0 0, ⟨by omega⟩, rfl, HM3, HOM3, HX3, HK3, ⟨OwnV.nil _ _ _⟩⟩
            case round =>
              clear HM3 HOM3 HX3 HK3 x5 zx5 hxl
              obtain ⟨j, vl, HJ, rfl, HM, HOM, HX, HK, HV⟩ := hrel
              by_cases hlt : j < kj.length
              · obtain ⟨g3, o3, e3, hg3, hc3⟩ := (HK.out.strs (T := fun b => b < wr.heap.size) (by have := HL.out; omega) (fun b hb => (HK.out.lt b hb).2)).2.at_ (by omega)
                have hcj := hc3 j hlt
                subst e3
                clear hc3
                have hgk : gk ≠ 0 := by have := HJ.out; omega
                have hkx := HKS.out kj[j] (List.getElem_mem hlt)
                obtain ⟨jx, hjx, ejx⟩ := List.mem_iff_getElem.1 hkx
                have hjd : ks.getD jx ⟨#[]⟩ = kj[j] := by rw [List.getD_eq_getElem?_getD, List.getElem?_eq_getElem hjx, ← ejx]; rfl
                have hix := (lastIx_lt ks ks.length kj[j] ⟨jx, hjx, hjd⟩).1
                have HAT := Keep.mk (at_lastM (H := Unit) ks ks.length kj[j] (.lit (.int .i64 0)) ⟨jx, hjx, hjd⟩)
                have hsx := HM.out.k.small _ hkx
                obtain ⟨ix, eix⟩ : ∃ i, lastIx ks ks.length kj[j] = i := ⟨_, rfl⟩
                rw [eix] at hix HAT
                have hil : ix < l.length := by have := HNE.out; omega
                have HEL := Keep.mk (show (kj.take (j + 1)).map (fun k => l.getD (lastIx ks ks.length k) zeroJ) = (kj.take j).map (fun k => l.getD (lastIx ks ks.length k) zeroJ) ++ [l[ix]] by
                  rw [List.take_succ_eq_append_getElem hlt, List.map_append]
                  simp only [List.map_cons, List.map_nil, eix]
                  rw [List.getD_eq_getElem?_getD, List.getElem?_eq_getElem hil]; rfl)
                have HLN := Keep.mk (show ((kj.take j).map (fun k => l.getD (lastIx ks ks.length k) zeroJ)).length = j by rw [List.length_map, List.length_take]; omega)
                clear hkx ejx hjd eix hjx
                generalize kj[j] = kx at *
                obtain ⟨lj, hlj⟩ : ∃ x, (kj.take j).map (fun k => l.getD (lastIx ks ks.length k) zeroJ) = x := ⟨_, rfl⟩
                obtain ⟨lj1, hlj1⟩ : ∃ x, (kj.take (j + 1)).map (fun k => l.getD (lastIx ks ks.length k) zeroJ) = x := ⟨_, rfl⟩
                rw [hlj] at HV HEL HLN
                rw [hlj1] at HEL
                have HQ := Keep.mk hlj1
                clear hlj hlj1
                obtain ⟨ge, oe, k1, m1, e1, s1, A1, n1, c1, A4, n2, c4, rfl, hge, hJe, y0, y1, y2, y3, y4, y5⟩ := HM.out.v.elem ix hil
                have hsj := sizeL_at l ix hil
                have hbs := HM.out.b.size
                have HCP := Keep.mk (fun (W : World) (h : Below w.heap.size wr W) (hs : wr.heap.size ≤ W.heap.size) => value_Copy _ l[ix] (Nat.le_refl _) (by omega) W _ ((hJe.keep h (Nat.le_refl _)).more (by omega)))
                clear hJe
                have hrow : ∀ b, vl.ownBlock = some b → p + 2 ≤ b ∧ b < wr.heap.size := HV.out.lt
                have hpr := lt_of_block HX.out
                have hp2 : p + 2 ≤ wr.heap.size := by have := HK.out.lt g3 rfl; omega
                have hko : ∀ b, (Value.slice (some ⟨g3, o3, none⟩) kj.length c3).ownBlock = some b → p + 2 ≤ b ∧ b < wr.heap.size := fun b hb => HK.out.lt b hb
                have hne : ∀ b, (Value.slice (some ⟨g3, o3, none⟩) kj.length c3).ownBlock = some b → vl.ownBlock ≠ some b := fun b hb e => by
                  obtain ⟨q1, hq1⟩ := HK.out.kind b hb
                  obtain ⟨q2, hq2⟩ := HV.out.kind b e
                  exact kind_ne hq1 hq2 (by decide) rfl
                have hmv : ∀ W, wr.grownBy W vl.ownBlock → Below (w.heap.size + 1) wr W := fun W h => (Below.refl _ _).grown h (by omega) (fun b hb => by have := (hrow b hb).1; omega)
                have hoc : ∀ W, wr.grownBy W vl.ownBlock → VBlkT W p [.int .i64 6, .int .i64 0, .int .i64 0, .string ⟨#[]⟩, vl, .slice (some ⟨g3, o3, none⟩) kj.length c3] := fun W h => (h.block p hpr (fun e => by have := (hrow p e.symm).1; omega)).trans HX.out
                have hom : ∀ W, wr.grownBy W vl.ownBlock → W.ownsMap Tryz.prog 9 (plainElem (H := Unit) Tryz.prog 3) B ks.length (lastM ks ks.length) := fun W h => HOM.out.kept h (fun e => by have := (hrow B e.symm).1; omega)
                have hgl3 : g3 < wr.heap.size := hg3
                go_upto_region 23 with fail
                refine wp_region_rely 12 (fun L w' => wr.grownBy w' vl.ownBlock ∧ (L 10 = false → Below wr.heap.size wr w')) (fun
                  | 0 => fun v _ => v = .pointer (some ⟨p, 4, none⟩)
                  | 1 => fun v _ => v = vl
                  | 2 => fun v _ => v = .slice (some ⟨ge, oe, none⟩) l.length c2
                  | 3 => fun v _ => v = .map (some B)
                  | 4 => fun v _ => v = .string kx
                  | 5 => fun v _ => v = .int .i64 ix
                  | 6 => fun v _ => v = .pointer (some ⟨ge, oe + ix * 6, none⟩)
                  | 7 => fun v _ => v = .agg #[.int .i64 k1, .int .i64 m1, .int .i64 e1, .string s1, .slice A1 n1 c1, .slice A4 n2 c4]
                  | 8 => fun v w' => ∃ cs', v = .agg (List.toArray cs') ∧ JIn w' (newIn wr w') l[ix] cs'
                  | 9 => fun v w' => ∃ q cs', v = .slice (some ⟨q, 0, none⟩) 1 1 ∧ wr.heap.size ≤ q ∧ VBlkT w' q cs' ∧ JIn w' (newIn wr w') l[ix] cs'
                  | 10 => fun v w' => OwnV w' (p + 2) (fun b => p + 2 ≤ b ∧ b < w'.heap.size ∧ (Value.slice (some ⟨g3, o3, none⟩) kj.length c3).ownBlock ≠ some b ∧ v.ownBlock ≠ some b) v lj1
                  | 11 => fun v _ => v = .pointer (some ⟨p, 4, none⟩)
                  | _ => fun _ _ => True) (fun | 10 => fun w1 w2 => w1.grownBy w2 vl.ownBlock | _ => fun w1 w2 => Below w1.heap.size w1 w2) (by kernel_rfl) (by kernel_rfl)
                  ⟨⟨rfl, rfl, rfl, Nat.le_refl _, fun _ _ _ => rfl⟩, fun _ => below_drawn wr⟩ ?_ ?_ ?_
                · intro i j v w1 w2 hij hG
                  have hst : (∀ b, b < w1.heap.size → vl.ownBlock ≠ some b → w2.heap[b]? = w1.heap[b]?) ∧ w1.heap.size ≤ w2.heap.size := by
                    by_cases h9 : i = 10
                    · subst h9
                      exact ⟨fun b hb hn => hG.block b hb (fun e => hn e.symm), hG.size⟩
                    · have hG : Below w1.heap.size w1 w2 := by
                        match i, h9 with
                        | 0, _ | 1, _ | 2, _ | 3, _ | 4, _ | 5, _ | 6, _ | 7, _ | 8, _ | 9, _ => exact hG
                        | 10, h => exact absurd rfl h
                        | _ + 11, _ => exact hG
                      exact ⟨fun b hb _ => hG.block b hb, hG.size⟩
                  have hvr : ∀ b, wr.heap.size ≤ b → vl.ownBlock ≠ some b := fun b hb e => by have := (hrow b e).2; omega
                  match j with
                  | 0 | 1 | 2 | 3 | 4 | 5 | 6 | 7 | 11 => exact fun h => h
                  | 8 => rintro ⟨cs', h1, h2⟩; exact ⟨cs', h1, h2.keep (fun b hb => hst.1 b hb.2 (hvr b hb.1)) (fun b hb => ⟨hb.1, Nat.lt_of_lt_of_le hb.2 hst.2⟩)⟩
                  | 9 => rintro ⟨q, cs', h1, h2, h3, h4⟩; exact ⟨q, cs', h1, h2, (hst.1 q (lt_of_block h3) (hvr q h2)).trans h3, h4.keep (fun b hb => hst.1 b hb.2 (hvr b hb.1)) (fun b hb => ⟨hb.1, Nat.lt_of_lt_of_le hb.2 hst.2⟩)⟩
                  | 10 =>
                    have hG : Below w1.heap.size w1 w2 := by
                      match i, hij with
                      | 0, _ | 1, _ | 2, _ | 3, _ | 4, _ | 5, _ | 6, _ | 7, _ | 8, _ | 9, _ => exact hG
                      | 10, h => exact absurd rfl h
                      | _ + 11, _ => exact hG
                    intro h1
                    exact h1.keep (fun b hb => hG.block b hb.2.1) (fun b hb => hG.block b (h1.lt b hb).2) (fun b hb => ⟨hb.1, Nat.lt_of_lt_of_le hb.2.1 hG.size, hb.2.2⟩)
                  | _ + 12 => exact fun h => h
                · simp only [List.take, stepHold]
                  refine ⟨?_, ?_, ?_, ?_, ?_, ?_, ?_, ?_, ?_, ?_, ?_, ?_, trivial⟩
                  · intro L a wa _ hI hs _
                    have q1 : a.eval (.tmp 10) = .pointer (some ⟨p, 0, none⟩) := hs 10 (by kernel_rfl)
                    exact op_val _ (w' := wa) (by unfold execOp; simp only [q1]; go_simp) ⟨_, rfl, rfl, ⟨hI.1, fun h => hI.2 (by simpa using h)⟩, Below.refl _ _⟩
                  · intro L a wa _ hI _ hd
                    have q1 : a.eval (.tmp 71) = .pointer (some ⟨p, 4, none⟩) := hd.1
                    have hga := lt_of_block (hoc wa hI.1)
                    have c0 := (hoc wa hI.1).box.cell 4 _ rfl
                    obtain ⟨Bv, dv, hvf, _, _⟩ := HV.out.form
                    rw [hvf] at c0
                    exact op_val vl (w' := wa) (by rw [hvf]; unfold execOp; simp only [q1]; go_simp) ⟨_, rfl, rfl, ⟨hI.1, fun h => hI.2 (by simpa using h)⟩, Below.refl _ _⟩
                  · intro L a wa _ hI hs _
                    have q1 : a.eval (.tmp 1) = .slice (some ⟨ge, oe, none⟩) l.length c2 := hs 1 (by kernel_rfl)
                    exact op_val _ (w' := wa) (by unfold execOp; simp only [q1]; go_simp) ⟨_, rfl, rfl, ⟨hI.1, fun h => hI.2 (by simpa using h)⟩, Below.refl _ _⟩
                  · intro L a wa _ hI hs _
                    have q1 : a.eval (.tmp 6) = .map (some B) := hs 6 (by kernel_rfl)
                    exact op_val _ (w' := wa) (by unfold execOp; simp only [q1]; go_simp) ⟨_, rfl, rfl, ⟨hI.1, fun h => hI.2 (by simpa using h)⟩, Below.refl _ _⟩
                  · intro L a wa _ hI hs _
                    have q1 : a.eval (.tmp 13) = .string kx := hs 13 (by kernel_rfl)
                    exact op_val _ (w' := wa) (by unfold execOp; simp only [q1]; go_simp) ⟨_, rfl, rfl, ⟨hI.1, fun h => hI.2 (by simpa using h)⟩, Below.refl _ _⟩
                  · intro L a wa _ hI _ hd
                    have q1 : a.eval (.tmp 74) = .map (some B) := hd.1
                    have q2 : a.eval (.tmp 75) = .string kx := hd.2.1
                    obtain ⟨cv, hrun, hcv, _⟩ := (hom wa hI.1).lookup_int keyed_str Tryz.underlying83 Tryz.underlying3 (int_zero wa) (key_lit hsx)
                    rw [HAT.out] at hcv
                    injection hcv with hcv
                    injection hcv with _ hcv
                    subst hcv
                    exact op_val (.int .i64 ix) (w' := wa) (by unfold execOp; simp only [q1, q2, Sem.run_bind, hrun, Sem.run_pure, Result.andThen_ok]) ⟨_, rfl, rfl, ⟨hI.1, fun h => hI.2 (by simpa using h)⟩, Below.refl _ _⟩
                  · intro L a wa _ hI _ hd
                    have q1 : a.eval (.tmp 73) = .slice (some ⟨ge, oe, none⟩) l.length c2 := hd.1
                    have q2 : a.eval (.tmp 76) = .int .i64 ix := hd.2.1
                    exact op_val _ (w' := wa) (by unfold execOp; simp only [q1, q2]; go_simp) ⟨_, rfl, rfl, ⟨hI.1, fun h => hI.2 (by simpa using h)⟩, Below.refl _ _⟩
                  · intro L a wa _ hI _ hd
                    have q1 : a.eval (.tmp 77) = .pointer (some ⟨ge, oe + ix * 6, none⟩) := hd.1
                    have hga : ge < wa.heap.size := by have := hI.1.size; omega
                    have t0 := ((hmv wa hI.1).cell (p := ⟨ge, oe + ix * 6, none⟩) (show ge < _ by omega)).trans y0
                    have t1 := ((hmv wa hI.1).cell (p := ⟨ge, oe + ix * 6 + 1, none⟩) (show ge < _ by omega)).trans y1
                    have t2 := ((hmv wa hI.1).cell (p := ⟨ge, oe + ix * 6 + 2, none⟩) (show ge < _ by omega)).trans y2
                    have t3 := ((hmv wa hI.1).cell (p := ⟨ge, oe + ix * 6 + 3, none⟩) (show ge < _ by omega)).trans y3
                    have t4 := ((hmv wa hI.1).cell (p := ⟨ge, oe + ix * 6 + 4, none⟩) (show ge < _ by omega)).trans y4
                    have t5 := ((hmv wa hI.1).cell (p := ⟨ge, oe + ix * 6 + 5, none⟩) (show ge < _ by omega)).trans y5
                    exact op_val _ (w' := wa) (by unfold execOp; simp only [q1]; go_simp) ⟨_, rfl, rfl, ⟨hI.1, fun h => hI.2 (by simpa using h)⟩, Below.refl _ _⟩
                  · intro L a wa _ hI _ hd
                    have q1 : a.eval (.tmp 78) = .agg #[.int .i64 k1, .int .i64 m1, .int .i64 e1, .string s1, .slice A1 n1 c1, .slice A4 n2 c4] := hd.1
                    have f1 := get_form q1
                    refine op_call 36 #[.agg #[.int .i64 k1, .int .i64 m1, .int .i64 e1, .string s1, .slice A1 n1 c1, .slice A4 n2 c4]] (by unfold execOp; go_simp) ((HCP.out wa ((hmv wa hI.1).mono (by omega)) hI.1.size).mono ?_)
                    rintro r w1 ⟨cs', rfl, hJ1, hb1⟩
                    refine ⟨_, rfl, _, rfl, ⟨cs', rfl, hJ1.more (fun b hb => ⟨Nat.le_trans hI.1.size hb.1, hb.2⟩)⟩, ⟨⟨hb1.os.trans hI.1.os, hb1.tape.trans hI.1.tape, hb1.output.trans hI.1.output, Nat.le_trans hI.1.size hb1.size, fun b hb hn => (hb1.block b (Nat.lt_of_lt_of_le hb hI.1.size)).trans (hI.1.block b hb hn)⟩, fun h => up (hI.2 (by simpa using h)) hb1⟩, hb1⟩
                  · intro L a wa _ hI _ hd
                    obtain ⟨cs', q1, hJ1⟩ := hd.1
                    have q1 : a.eval (.tmp 79) = .agg (List.toArray cs') := q1
                    obtain ⟨k9, m9, e9, s9, A9, n9, c9, A8, n8, c8, rfl⟩ := hJ1.cells
                    have f1 := get_form q1
                    refine op_val _ (w' := wa.alloc (.cells (cells6 k9 m9 e9 s9 A9 n9 c9 A8 n8 c8).toArray 28)) (by unfold execOp; simp only [cells6] at f1; go_simp; rfl) ⟨_, rfl, ⟨wa.heap.size, _, rfl, hI.1.size, VBlkT.new _ rfl, hJ1.keep (fun b hb => (al1 wa _).block b hb.2) (fun b hb => ⟨hb.1, Nat.lt_of_lt_of_le hb.2 (al1 wa _).size⟩)⟩, ⟨⟨hI.1.os, hI.1.tape, hI.1.output, Nat.le_trans hI.1.size (al1 wa _).size, fun b hb hn => ((al1 wa _).block b (Nat.lt_of_lt_of_le hb hI.1.size)).trans (hI.1.block b hb hn)⟩, fun h => up (hI.2 (by simpa using h)) (al1 _ _)⟩, al1 _ _⟩
                  · intro L a wa hL' hI _ hd
                    have q1 : a.eval (.tmp 72) = vl := hd.1
                    obtain ⟨q, cs', q2, hp, hpb, hJ1⟩ := hd.2.1
                    have q2 : a.eval (.tmp 80) = .slice (some ⟨q, 0, none⟩) 1 1 := q2
                    have hBw' := hI.2 hL'
                    have hov : OwnV wa (p + 2) (fun b => p + 2 ≤ b ∧ b < wa.heap.size ∧ (Value.slice (some ⟨g3, o3, none⟩) kj.length c3).ownBlock ≠ some b ∧ vl.ownBlock ≠ some b) vl lj :=
                      HV.out.keep (fun b hb => hBw'.block b hb.2.1) (fun b hb => hBw'.block b (hrow b hb).2) (fun b hb => ⟨hb.1, Nat.lt_of_lt_of_le hb.2.1 hBw'.size, hb.2.2⟩)
                    have hJ2 : JIn wa (fun b => p + 2 ≤ b ∧ b < wa.heap.size ∧ (Value.slice (some ⟨g3, o3, none⟩) kj.length c3).ownBlock ≠ some b ∧ vl.ownBlock ≠ some b) l[ix] cs' :=
                      hJ1.more (fun b hb => ⟨Nat.le_trans hp2 hb.1, hb.2, (fun e => by have := (hko b e).2; have := hb.1; omega), fun e => by have := (hrow b e).2; have := hb.1; omega⟩)
                    refine op_append_vals (.tmp 72) (.tmp 80) rfl (p + 2) _ vl lj q1 hov q l[ix] cs' q2 (fun i u hu => hpb.box.cell i u hu) hJ2 (by have := HLN.out; have := HL.out; omega) (Nat.le_trans hp2 hBw'.size) (fun b hb h => h.2.2.2 hb) (fun b h => h.2.1) fun v2 w2 h1 h2 h3 => ⟨_, rfl, ?_, ⟨⟨h2.os.trans hI.1.os, h2.tape.trans hI.1.tape, h2.output.trans hI.1.output, Nat.le_trans hI.1.size h2.size, fun b hb hn => (h2.block b (Nat.lt_of_lt_of_le hb hI.1.size) hn).trans (hI.1.block b hb hn)⟩, fun h => by simp at h⟩, h2⟩
                    rw [← HEL.out] at h1
                    exact h1.keep (fun _ _ => rfl) (fun _ _ => rfl) (fun b hb => ⟨hb.1, Nat.lt_of_lt_of_le hb.2.1 h2.size, hb.2.2.1, fun e => by
                      have e : v2.ownBlock = some b := e
                      rcases h3 with h3 | h3
                      · exact hb.2.2.2 (h3.symm.trans e)
                      · have h4 := h3.symm.trans e
                        injection h4 with h4
                        have := hb.2.1
                        omega⟩)
                  · intro L a wa _ hI hs _
                    have q1 : a.eval (.tmp 10) = .pointer (some ⟨p, 0, none⟩) := hs 10 (by kernel_rfl)
                    exact op_val _ (w' := wa) (by unfold execOp; simp only [q1]; go_simp) ⟨_, rfl, rfl, ⟨hI.1, fun h => hI.2 (by simpa using h)⟩, Below.refl _ _⟩
                · intro vs L W1 _ hI hall
                  simp only [List.take, allHold, gives] at hall
                  obtain ⟨h0, h1, h2, h3, h4, h5, h6, h7, h8, h9, h10, h11, _⟩ := hall
                  simp only [List.take, List.drop, putL]
                  generalize vs 0 = v0 at *
                  generalize vs 1 = v1 at *
                  generalize vs 2 = v2 at *
                  generalize vs 3 = v3 at *
                  generalize vs 4 = v4 at *
                  generalize vs 5 = v5 at *
                  generalize vs 6 = v6 at *
                  generalize vs 7 = v7 at *
                  generalize vs 8 = v8 at *
                  generalize vs 9 = v9 at *
                  generalize vs 10 = v10 at *
                  generalize vs 11 = v11 at *
                  obtain ⟨cs7, rfl, _⟩ := h8
                  obtain ⟨p8, cs8, rfl, _⟩ := h9
                  have hV9 := h10
                  clear h10
                  subst v0 v1 v2 v3 v4 v5 v6 v7 v11
                  obtain ⟨B2, d2, e9, hd1, hd2⟩ := hV9.form
                  subst e9
                  have hB := hmv W1 hI.1
                  have HO := hoc W1 hI.1
                  have hkb : ∀ b, (Value.slice (some ⟨g3, o3, none⟩) kj.length c3).ownBlock = some b → W1.heap[b]? = wr.heap[b]? := fun b hb => hI.1.block b (hko b hb).2 (fun e => hne b hb e.symm)
                  have HM2 := Keep.mk ((HM.out.kept hB).kept (below_set (g := p) (o := 4) (show w.heap.size + 1 ≤ p by omega) (.slice B2 lj1.length d2)))
                  have HOM2 := Keep.mk ((hom W1 hI.1).kept (grown_set W1 p 4 (.slice B2 lj1.length d2)) (fun e => by injection e with e; omega))
                  have HX2 := Keep.mk (HO.set (i := 4) (.slice B2 lj1.length d2))
                  have HK2 := Keep.mk ((HK.out.keep hkb).keep (fun k hk => Below.heap_setCell W1 ⟨p, 4, none⟩ (.slice B2 lj1.length d2) k (by have := (hko k hk).1; show k ≠ p; omega)))
                  have HV2 := Keep.mk (hV9.keep (w' := W1.setCell ⟨p, 4, none⟩ (.slice B2 lj1.length d2)) (T := fun b => p + 2 ≤ b ∧ b < (W1.setCell ⟨p, 4, none⟩ (.slice B2 lj1.length d2)).heap.size ∧ (Value.slice (some ⟨g3, o3, none⟩) kj.length c3).ownBlock ≠ some b ∧ (Value.slice B2 lj1.length d2).ownBlock ≠ some b) (fun b hb => Below.heap_setCell W1 ⟨p, 4, none⟩ _ b (by have := hb.1; show b ≠ p; omega)) (fun b hb => Below.heap_setCell W1 ⟨p, 4, none⟩ _ b (by have := (hV9.lt b hb).1; show b ≠ p; omega)) (fun b hb => by simpa using hb))
                  have hgl := lt_of_block HO
                  have x4' := HO.box.cell 4 _ rfl
                  have z4' := HO.box.froz 4
                  clear hI HO hB hV9 hoc hmv hkb hrow HCP y0 y1 y2 y3 y4 y5 HM HOM HX HK HV hom hko hne hcj HAT
                  have HJ2 := Keep.mk (show j + 1 + (gk - 1) = kj.length by have := HJ.out; omega)
                  go_wp2
                  go_roundg (gk - 1)
                  case rel => exact ⟨j + 1, _, HJ2, by go_num, HM2, HOM2, HX2, HK2, ⟨by rw [HQ.out]; exact HV2.out⟩⟩
                  case measure => omega
              · obtain rfl : j = kj.length := by have := HJ.out; omega
                have hvv := HV.out
                rw [List.take_length] at hvv
                have HMK := Keep.mk (show makeJ ks l = if rightJ (.mk 6 0 0 ⟨#[]⟩ (kj.map fun k => l.getD (lastIx ks ks.length k) zeroJ) kj) ≠ 0 then (zeroJ, rightJ (.mk 6 0 0 ⟨#[]⟩ (kj.map fun k => l.getD (lastIx ks ks.length k) zeroJ) kj)) else (.mk 6 0 0 ⟨#[]⟩ (kj.map fun k => l.getD (lastIx ks ks.length k) zeroJ) kj, 0) from by
                  unfold makeJ
                  rw [if_neg (by simpa using HNE.out), if_neg (by rw [HV0.out]; simp), if_neg (by rw [HBZ.out]; simp), hks'])
                obtain ⟨lm, hlm⟩ : ∃ lm, (kj.map fun k => l.getD (lastIx ks ks.length k) zeroJ) = lm := ⟨_, rfl⟩
                have hll : lm.length = kj.length := by rw [← hlm, List.length_map]
                rw [hlm] at hvv HMK
                clear hlm hks' HV
                obtain ⟨Bv, dv, rfl, _, _⟩ := hvv.form
                have hbs := HM.out.b.size
                have HJI := Keep.mk (show JIn wr (fun b => p + 2 ≤ b ∧ b < wr.heap.size) (.mk 6 0 0 ⟨#[]⟩ lm kj) (cells6 6 0 0 ⟨#[]⟩ Bv lm.length dv A3 kj.length c3) from
                  JIn.shut ⟨by decide, by decide⟩ ⟨by decide, by decide⟩ ⟨by decide, by decide⟩ (by decide) (HK.out.strs (T := fun b => p + 2 ≤ b ∧ b < wr.heap.size) (by have := HL.out; omega) (fun b hb => HK.out.lt b hb)).2
                    (hvv.vals (T := fun b => p + 2 ≤ b ∧ b < wr.heap.size) (by have := HL.out; omega) (fun b hb => ⟨hb.1, hb.2.1⟩) (fun b hb => hvv.lt b hb)).2)
                have HRT := Keep.mk (value_Right _ wr _ HM.out.gg (HJI.out.at (fun b hb => hb.2)))
                generalize rightJ (.mk 6 0 0 ⟨#[]⟩ lm kj) = rr at *
                have hob := HX.out.box
                have y0 := hob.cell 0 _ rfl
                have y1 := hob.cell 1 _ rfl
                have y2 := hob.cell 2 _ rfl
                have y3 := hob.cell 3 _ rfl
                have y4 := hob.cell 4 _ rfl
                have y5 := hob.cell 5 _ rfl
                have hol := hob.lt
                have hlK := Keep.mk hll
                clear hob hvv hll
                go_wp2_with fail
                refine HRT.out.mono ?_
                rintro r w4 ⟨rfl, hb4⟩
                have HM4 := Keep.mk (HM.out.below hb4)
                have HX4 := Keep.mk (show VBlkT w4 p _ from (hb4.block _ (lt_of_block HX.out)).trans HX.out)
                have HJ4 := Keep.mk (HJI.out.keep (W' := w4) (T := fun b => p + 2 ≤ b ∧ b < w4.heap.size) (fun b hb => hb4.block b hb.2) (fun b hb => ⟨hb.1, Nat.lt_of_lt_of_le hb.2 hb4.size⟩))
                clear hb4 HM HX HJI HRT y0 y1 y2 y3 y4 y5 hol HOM HK
                have hob := HX4.out.box
                have y0 := hob.cell 0 _ rfl
                have y1 := hob.cell 1 _ rfl
                have y2 := hob.cell 2 _ rfl
                have y3 := hob.cell 3 _ rfl
                have y4 := hob.cell 4 _ rfl
                have y5 := hob.cell 5 _ rfl
                have hol := hob.lt
                clear hob
                have hrb := HM4.out.r.box
                have r0 := hrb.cell 0 _ rfl
                have r1 := hrb.cell 1 _ rfl
                have r2 := hrb.cell 2 _ rfl
                have r3 := hrb.cell 3 _ rfl
                have r4 := hrb.cell 4 _ rfl
                have r5 := hrb.cell 5 _ rfl
                have z0 := hrb.froz 0
                have z1 := hrb.froz 1
                have z2 := hrb.froz 2
                have z3 := hrb.froz 3
                have z4 := hrb.froz 4
                have z5 := hrb.froz 5
                have hrl := hrb.lt
                clear hrb
                by_cases hr0 : rr = 0
                · have HE := Keep.mk (show makeJ ks l = (.mk 6 0 0 ⟨#[]⟩ lm kj, 0) by rw [HMK.out, if_neg (by simpa using hr0)])
                  have hr2 : (rr != 0) = false := by simpa using hr0
                  have HJ5 := Keep.mk (show JIn (six w4 w.heap.size (.int .i64 6) (.int .i64 0) (.int .i64 0) (.string ⟨#[]⟩) (.slice Bv lm.length dv) (.slice A3 kj.length c3)) (newIn w (six w4 w.heap.size (.int .i64 6) (.int .i64 0) (.int .i64 0) (.string ⟨#[]⟩) (.slice Bv lm.length dv) (.slice A3 kj.length c3))) (.mk 6 0 0 ⟨#[]⟩ lm kj) (cells6 6 0 0 ⟨#[]⟩ Bv lm.length dv A3 kj.length c3) from
                    HJ4.out.keep (fun b hb => six_other w4 w.heap.size _ _ _ _ _ _ b (by have := hb.1; omega)) (fun b hb => ⟨by have := hb.1; omega, by have := hb.2; simpa [six] using this⟩))
                  have HB5 := Keep.mk (HM4.out.b.trans (six_below w4 w.heap.size (.int .i64 6) (.int .i64 0) (.int .i64 0) (.string ⟨#[]⟩) (.slice Bv lm.length dv) (.slice A3 kj.length c3) (Nat.le_refl _)))
                  clear hr0 HMK HM4 HX4 HJ4
                  go_wp2
                  refine bodyPost_ret (v := .tuple #[.agg (List.toArray (cells6 6 0 0 ⟨#[]⟩ Bv lm.length dv A3 kj.length c3)), .int .i64 0]) ?_ rfl ⟨_, by rw [HE.out], by rw [HE.out]; exact HJ5.out, HB5.out⟩
                  simp [cells6, results, Tryz.results21, go_sem, r0, r1, r2, r3, r4, r5]
                · have HE := Keep.mk (show makeJ ks l = (zeroJ, rr) by rw [HMK.out, if_pos hr0])
                  have hr2 : (rr != 0) = true := by simpa using hr0
                  clear hr0 HMK HX4 HJ4
                  go_wp2
                  refine bodyPost_ret (v := .tuple #[.agg (List.toArray zero6), .int .i64 rr]) ?_ rfl ⟨zero6, by rw [HE.out], by rw [HE.out]; exact zero_in _ _, HM4.out.b.trans (six_below _ _ _ _ _ _ _ _ (Nat.le_refl _))⟩
                  simp [zero6, cells6, results, Tryz.results21, go_sem, r0, r1, r2, r3, r4, r5]
          · intro x cv kl y y' w1 cnt1 hkey hlk hv hat hrg1 hlt hg1 hs1 hen
            go_upto_region 18 with fail
            have hpl := lt_of_block HX.out
            have HM1 := Keep.mk (HM.out.turned (B := p + 1) (by omega) hg1)
            have HX1 := Keep.mk (show VBlkT w1 p _ from (hg1.block p hpl (fun e => by injection e with e; omega)).trans HX.out)
            have HK1 := Keep.mk (HK.out.keep (fun k hk => hg1.block k (HK.out.lt k hk).2 (fun e => by injection e with e; have := (HK.out.lt k hk).1; omega)))
            have HRG1 := Keep.mk hrg1
            have hkl2 : kl = kLit x := by
              have h := hkey
              simp [keyOf, Tryz.underlying9, mapKey] at h
              exact h.2.symm
            subst hkl2
            have HLX := Keep.mk hlk
            obtain ⟨jx, hjx, ejx⟩ := (has_lastM ks ks.length _).1 (HH.out x hlk)
            have hxm : x ∈ ks := by
              rw [kLit_inj ejx, List.getD_eq_getElem?_getD, List.getElem?_eq_getElem hjx]
              exact List.getElem_mem hjx
            have hxs := HM.out.k.small x hxm
            have hcn : cnt1 < gk := hlt
            clear hrW hsp hs0 hkey hlk hv hat hrg1 hg1 hs1 hen HM HX HK HRG x5 zx5 hxl ejx hxm
            have hxb := HX1.out.box
            have x5 := hxb.cell 5 _ rfl
            have zx5 := hxb.froz 5
            have hxl := hxb.lt
            clear hxb
            go_wp2_with (at_builtin; refine wpList_append_strs rfl _ _ rfl (p + 2) _ acc rfl (HK1.out.keep (fun k hk => (al1 _ _).block k (HK1.out.lt k hk).2)) (fun _ => True) _ 1 1 [x] rfl rfl (strs_single w1 x hxs _) ?_ ?_ ?_)
            · have := HL.out; simp; omega
            · have := HRG1.out.lt; simp; omega
            · intro v2 w2 hO2 hgr2
              have hsz1 := HRG1.out.lt
              have hown : ∀ k, (Value.slice A3 acc.length c3).ownBlock = some k → p + 2 ≤ k := fun k hk => (HK1.out.lt k hk).1
              have hpl1 := lt_of_block HX1.out
              have hal := (al1 w1 (.cells #[.string x] 9)).block
              have hsa := (al1 w1 (.cells #[.string x] 9)).size
              have HX2 := Keep.mk (show VBlkT w2 p _ from (hgr2.block p (by omega) (fun e => by have := hown p e.symm; omega)).trans ((hal p hpl1).trans HX1.out))
              have hb12 : Below (w.heap.size + 1) w1 w2 := ((al1 w1 (.cells #[.string x] 9)).mono (by omega)).trans ((Below.refl _ _).grown hgr2 (by omega) (fun b hb => by have := hown b hb; omega))
              have HM2 := Keep.mk (HM1.out.kept hb12)
              have HRG2 := Keep.mk ((HRG1.out.alloc (.cells #[.string x] 9)).kept hgr2 (fun e => by have := hown B e.symm; omega) (fun e => by have := hown (p + 1) e.symm; omega))
              obtain ⟨A4, c4, e4, hq1, hq2⟩ := hO2.form
              rw [List.length_append, List.length_singleton] at e4
              subst e4
              have HM3 := Keep.mk (HM2.out.kept (below_set (o := 5) (show w.heap.size + 1 ≤ p by omega) (.slice A4 (acc.length + 1) c4)))
              have HRG3 := Keep.mk (HRG2.out.kept (grown_set w2 p 5 (.slice A4 (acc.length + 1) c4)) (fun e => by injection e with e; omega) (fun e => by injection e with e; omega))
              have HX3 := Keep.mk (HX2.out.set (i := 5) (.slice A4 (acc.length + 1) c4))
              have HK3 := Keep.mk (hO2.keep (fun k hk => Below.heap_setCell w2 ⟨p, 5, none⟩ (.slice A4 (acc.length + 1) c4) k (by have := (hO2.lt k hk).1; show k ≠ p; omega)))
              have HG3 := Keep.mk (gather left (fun k => Maps.has (lastM (H := Unit) ks ks.length) (kLit k)) acc x HLX.out HN.out HA.out HH.out)
              have HL3 := Keep.mk (show (acc ++ [x]).length + cnt1 ≤ ks.length by have := HL.out; rw [List.length_append, List.length_singleton]; omega)
              have hxb2 := HX2.out.box
              have yx5 := hxb2.cell 5 _ rfl
              have yz5 := hxb2.froz 5
              have yxl := hxb2.lt
              clear hxb2 hO2 hgr2 hb12 hal x5 zx5 hxl HM1 HX1 HK1 HRG1 HM2 HRG2 HX2 HA HH HN HL
              go_wp2
              go_roundg cnt1
              case rel => exact ⟨_, acc ++ [x], _, HM3, HRG3, HX3, HK3, ⟨HG3.out.1⟩, ⟨HG3.out.2.1⟩, ⟨HG3.out.2.2⟩, HL3⟩
              case measure => omega
  · have HE := Keep.mk (show makeJ ks l = (zeroJ, 2) by unfold makeJ; rw [if_pos hne])
    have b0 : ((ks.length : Int) != (l.length : Int)) = true := by simp; omega
    clear hne HEV
    go_enter Tryz.func21, Tryz.ntmps21
    go_upto_block 0 with fail
    refine wp_world (fun W => MakeS w W ks l A c A2 c2) HM.out ?_
    clear HM
    rintro W0 HM
    replace HM := Keep.mk HM
    have hrb := HM.out.r.box
    have r0 := hrb.cell 0 _ rfl
    have r1 := hrb.cell 1 _ rfl
    have r2 := hrb.cell 2 _ rfl
    have r3 := hrb.cell 3 _ rfl
    have r4 := hrb.cell 4 _ rfl
    have r5 := hrb.cell 5 _ rfl
    have z0 := hrb.froz 0
    have z1 := hrb.froz 1
    have z2 := hrb.froz 2
    have z3 := hrb.froz 3
    have z4 := hrb.froz 4
    have z5 := hrb.froz 5
    have hrl := hrb.lt
    clear hrb
    go_wp2
    refine bodyPost_ret (v := .tuple #[.agg (List.toArray zero6), .int .i64 2]) ?_ rfl ⟨zero6, by rw [HE.out], by rw [HE.out]; exact zero_in _ _, HM.out.b.trans (six_below _ _ _ _ _ _ _ _ (Nat.le_refl _))⟩
    simp [zero6, cells6, results, Tryz.results21, go_sem, r0, r1, r2, r3, r4, r5]
end Go.Proofs.YtbngjlkmpdccjaaGreatDoor
