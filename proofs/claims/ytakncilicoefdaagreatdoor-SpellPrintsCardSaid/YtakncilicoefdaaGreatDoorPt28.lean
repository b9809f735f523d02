/- Lemmas and contracts. Conditions: those that each lemma names. -/
import Derived.Test.YtakncilicoefdaaGreatDoorPt27
set_option maxRecDepth 100000
set_option maxHeartbeats 4000000
namespace Go.Proofs.YtakncilicoefdaaGreatDoor
open Go Go.RowKit Go.Proofs Th
set_option maxRecDepth 8000
attribute [local go_sem] Hq GJ EN CD AF K3 KS GA
variable {G : World → CS → Prop}
inductive W2 where
 | a
 | b
def Sj (d e : Nat) : W2 → List ByteArray → FV
 | _, [] => .im (.sl [] true)
 | .a, x :: r => .own d (x :: r).length
 | .b, x :: r => .own e (x :: r).length
def SB : W2 → List ByteArray → AObj
 | .a, x :: r => .row 9 1 ((x :: r).map fun x => [sI x])
 | _, _ => .none
def Ts : W2 → List ByteArray → AObj
 | .b, x :: r => .row 9 1 ((x :: r).map fun x => [sI x])
 | _, _ => .none
theorem Sp (w : W2) : SB w [] = .none := by cases w <;> rfl
theorem Sf (w : W2) : Ts w [] = .none := by cases w <;> rfl
theorem VI (x : ByteArray) (r : List ByteArray) : SB .a (x :: r) = .row 9 1 ((x :: r).map fun x => [sI x]) := rfl
theorem Vy (l : List ByteArray) : SB .b l = .none := rfl
theorem V3 (l : List ByteArray) : Ts .a l = .none := rfl
theorem VV (x : ByteArray) (r : List ByteArray) : Ts .b (x :: r) = .row 9 1 ((x :: r).map fun x => [sI x]) := rfl
theorem S8 (d e : Nat) (w : W2) : Sj d e w [] = .im (.sl [] true) := by cases w <;> rfl
theorem VO (d e : Nat) (x : ByteArray) (r : List ByteArray) : Sj d e .a (x :: r) = .own d (x :: r).length := rfl
theorem V8 (d e : Nat) (x : ByteArray) (r : List ByteArray) : Sj d e .b (x :: r) = .own e (x :: r).length := rfl
attribute [local go_sem] Sp Sf VI Vy V3 VV S8 VO V8 List.map_append List.map_cons List.map_nil List.length_map
theorem T3 (gk : GK G) (f : Nat) (_IH : IHP G f) (E : Env) (hE : EB E) (i : Nat) (s : ByteArray) (hi2 : i < E.l.length ∧ (1, s) ∈ Z9) (r : PR NJ) (h : BP (BO f) E (.word s) i = some r) : ACalls Tryz.prog G 151 (some (A4 E i)) [sI s] (CU E r) := by
 simp only [BP] at h; have hi := hi2.1; have hr := rng ((i : Int) + 1) (by have := hE.len; omega); refine ACalls.enter Tryz.func151 rfl rfl gk Tryz.ntmps151 fun X F => ?_
 by_cases wa : s = ⟨#[105, 102]⟩
 ·exact absurd hi2.2 (by rw [wa]; decide)
 rw [if_neg wa] at h; apply Ar F; go_simp; apply Ar F; go_simp; (repeat apply Aq); apply Ab; apply Ar F; go_simp; (repeat apply Aq); refine Af (by go_simp) ?_; by_cases wb : s = ⟨#[116, 114, 121]⟩
 ·exact absurd hi2.2 (by rw [wb]; decide)
 rw [if_neg wb] at h; apply Ar F; go_simp; (repeat apply Aq); refine Af (by go_simp) ?_; by_cases wc : s = ⟨#[114, 101, 100, 117, 99, 101]⟩
 ·exact absurd hi2.2 (by rw [wc]; decide)
 rw [if_neg wc] at h; apply Ar F; go_simp; (repeat apply Aq); refine Af (by go_simp) ?_; by_cases wd : s = ⟨#[102, 111, 114, 101, 97, 99, 104]⟩
 ·exact absurd hi2.2 (by rw [wd]; decide)
 rw [if_neg wd] at h; apply Ar F; go_simp; (repeat apply Aq); refine Af (by go_simp) ?_; apply As; go_simp; by_cases w7 : Ga E (i) 1
 ·rw [Vl w7] at h
  obtain rfl := Option.some.inj h; apply Ar F; go_simp; refine ⟨_, N5 gk E hE (i) 1 w7, ?_⟩; go_simp
 rw [Vg w7] at h; apply Ar F; go_simp; refine ⟨_, M9 gk E hE (i) 1 (by decide) w7, ?_⟩; go_simp; by_cases wp : isT E (i + 1) 6 ⟨#[40]⟩
 ·exact (hE.no (by decide) (by decide) wp).elim
 rw [if_neg wp] at h; apply Ar F; go_simp; refine ⟨_, BM gk E (i + 1) 6 _ wp, ?_⟩; go_simp; (repeat apply Aq); refine Af (by go_simp) ?_; apply As; go_simp; obtain rfl := Option.some.inj h; apply Ar F; go_simp; apply Au; go_simp
end Go.Proofs.YtakncilicoefdaaGreatDoor
