/- Lemmas and contracts. Conditions: those that each lemma names. -/
import Derived.Test.YtakncilicoefdaaGreatDoorPz44
import Derived.Deep.OwnRows
import Derived.Deep.RegionHeld3
set_option maxRecDepth 100000
set_option maxHeartbeats 4000000
namespace Go.Proofs.YtakncilicoefdaaGreatDoor
open Go Go.RowKit Go.Proofs Th
def GY (W : World) (S : CS) : Prop := ∀ W', (∀ g o, S g o → W'.cell? ⟨g, o, none⟩ = W.cell? ⟨g, o, none⟩) → GlobW W' ∧ GlobX W'
theorem gkY : GK GY := fun _ _ _ _ h hc hS W2 h2 => h W2 fun g o hs => (h2 g o (hS g o hs)).trans (hc g o hs)
theorem GY.now {W : World} {S : CS} (h : GY W S) : GlobW W ∧ GlobX W := h W fun _ _ _ => rfl
theorem GY.gx {W : World} {S : CS} (h : GY W S) : GX W S := fun W' hc => ⟨(h W' hc).1.num.weak, (h W' hc).1.utf, (h W' hc).2⟩
theorem ACalls.weak {P : Program} {G G' : World → CS → Prop} {f : FuncId} {rc : Option (List IV)} {xa : List IV} {res : ARes} (h : ACalls P G f rc xa res) (hg : ∀ W S, G' W S → G W S) : ACalls P G' f rc xa res := ⟨h.1, fun W S p us hG => h.2 W S p us (hg W S hG)⟩
theorem Kr {P : Program} {G : World → CS → Prop} {f : FuncId} {xa : List IV} {us : List Value} {x : IV} (hu : ∀ W S ws, RepL W S xa ws → ws = us) (hf : ∃ fn, P.funcs[f]? = some fn ∧ fn.body.isNone = false ∧ (fn.name == "runtime.NumGoroutine") = false)
  (h : ∀ W S, G W S → Calls P f us.toArray W fun e W' => (∃ u, e = .returned u ∧ ∀ S', Rep W' S' x u) ∧ Below W.heap.size W W') : ACalls P G f none xa (.ret x []) := by
 refine ⟨hf, fun W S p ws hG hSb _ hws => ?_⟩; obtain rfl := hu W S ws hws; exact (h W S hG).mono fun e W' ⟨⟨u, he, hr⟩, hb⟩ => ⟨⟨u, he, hr _⟩, fun h => (by cases h), D9 hb⟩
theorem Rk {W : World} {S : CS} {m e : Int} (ws : List Value) (h : RepL W S [.agg [iI m, iI e]] ws) : ws = [.agg #[.int .i64 m, .int .i64 e]] := by
 obtain ⟨hl, hr⟩ := h; match ws, hl with
 | [w], _ =>
  have := hr 0 _ w rfl rfl; cases this with
  | @agg cs us hl2 hR =>
   match us, hl2 with
   | [u0, u1], _ =>
    have e0 := Dl (hR 0 (iI m) u0 rfl rfl); have e1 := Dl (hR 1 (iI e) u1 rfl rfl); rw [e0, e1]
theorem JB : L0 GY := fun m e hm => Kr (fun _ _ => Rk) ⟨_, Tryz.func50, rfl, rfl⟩ fun W _S hG => (CU m e hm.1 hm.2 W hG.now.1.num.weak).mono fun _r _W' ⟨he, hb⟩ => ⟨⟨_, he, fun _ => .v _⟩, hb⟩
theorem JC : LS GY := fun s hs => FK (us := [.string s]) ⟨_, Tryz.func63, rfl, rfl⟩ fun W S hG => (Kt s (by omega) W hG.now.1.utf).mono fun r W' ⟨he, hb⟩ => ⟨⟨_, he, fun _ => .v _⟩, hb⟩
theorem V4 (m e : Int) (hr : right m e = true) : DI (L5 m e) = .tuple #[.string (bs (BF m e)), .int .i64 0] := by unfold L5; rw [if_pos hr]; rfl
theorem Qd : Of GY := fun m e hm hr => Kr (fun _ _ => Rk) ⟨_, Tryz.func27, rfl, rfl⟩ fun W S hG => (UG m e hm W hG.now.1.num).mono fun r W' ⟨he, hb⟩ => by
 rw [V4 m e hr] at he; exact ⟨⟨_, he, fun S' => Gs (us := [_, _]) (RepL.cons (.v _) (RepL.cons (.v _) (RepL.nil _ _)))⟩, hb⟩
theorem PO : Kc GY := fun s hs hv => FK (us := [.string s]) ⟨_, Tryz.func55, rfl, rfl⟩ fun W S hG => (Qn s (by omega) hv W hG.now.1.utf).mono fun r W' ⟨b, he, hbl, hb⟩ => by
 obtain rfl : b = Dw s := (Zk hbl.symm).symm; exact ⟨⟨_, he, fun S' => Gs (us := [_, _]) (RepL.cons (.v _) (RepL.cons (.v _) (RepL.nil _ _)))⟩, hb⟩
end Go.Proofs.YtakncilicoefdaaGreatDoor
