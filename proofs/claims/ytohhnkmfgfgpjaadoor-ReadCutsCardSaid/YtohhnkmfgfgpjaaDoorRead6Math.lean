/- Plain law: JSON's examples (chapter 6). No conditions: it imports no program. -/
import Derived.Test.YtohhnkmfgfgpjaaDoorParseMath
namespace Th
open Go Go.Lib
def exA : List UInt8 := [32, 91, 49, 44, 32, 123, 34, 97, 34, 58, 50, 44, 34, 97, 34, 58, 51, 125, 93, 32]
def exB : List UInt8 := [91, 49, 44, 93]
def exC : List UInt8 := [91, 49]
def numT (m : Int) (a b : Nat) : Tk := ⟨0, 3, m, 0, ⟨#[]⟩, a, b, 0⟩
def sgT (c a b : Nat) : Tk := ⟨c, 0, 0, 0, ⟨#[]⟩, a, b, 0⟩
def keyA : ByteArray := ⟨#[97]⟩
def strT (a b : Nat) : Tk := ⟨0, 4, 0, 0, keyA, a, b, 0⟩
def numJ (m : Int) : JV := .mk 3 m 0 ⟨#[]⟩ [] []
theorem tkA0 : nextT exA 0 = sgT 91 1 2 := rfl
theorem tkA2 : nextT exA 2 = numT 1 2 3 := rfl
theorem tkA3 : nextT exA 3 = sgT 44 3 4 := rfl
theorem tkA4 : nextT exA 4 = sgT 123 5 6 := rfl
theorem tkA6 : nextT exA 6 = strT 6 9 := rfl
theorem tkA9 : nextT exA 9 = sgT 58 9 10 := rfl
theorem tkA10 : nextT exA 10 = numT 2 10 11 := rfl
theorem tkA11 : nextT exA 11 = sgT 44 11 12 := rfl
theorem tkA12 : nextT exA 12 = strT 12 15 := rfl
theorem tkA15 : nextT exA 15 = sgT 58 15 16 := rfl
theorem tkA16 : nextT exA 16 = numT 3 16 17 := rfl
theorem tkA17 : nextT exA 17 = sgT 125 17 18 := rfl
theorem tkA18 : nextT exA 18 = sgT 93 18 19 := rfl
theorem tkA19 : nextT exA 19 = sgT 255 20 20 := rfl
theorem tkB0 : nextT exB 0 = sgT 91 0 1 := rfl
theorem tkB1 : nextT exB 1 = numT 1 1 2 := rfl
theorem tkB2 : nextT exB 2 = sgT 44 2 3 := rfl
theorem tkB3 : nextT exB 3 = sgT 93 3 4 := rfl
theorem tkC0 : nextT exC 0 = sgT 91 0 1 := rfl
theorem tkC1 : nextT exC 1 = numT 1 1 2 := rfl
theorem tkC2 : nextT exC 2 = sgT 255 2 2 := rfl
theorem keys_aa : keysJ [keyA, keyA] = [keyA] := by
  have h : nubB [[97], [97]] = [[97]] := by decide
  unfold keysJ
  show (sortB (nubB [[97], [97]])).map toB = [keyA]
  rw [h]
  unfold sortB
  rw [List.mergeSort_singleton]
  rfl
theorem map_aa : madeJ ⟨6, [keyA, keyA], [numJ 2, numJ 3]⟩ = .mk 6 0 0 ⟨#[]⟩ [numJ 3] [keyA] := by
  have h1 : ([keyA, keyA].all fun k => validD k.data.toList) = true := by decide +kernel
  have h2 : badL [numJ 2, numJ 3] = 0 := by decide +kernel
  have h3 : (keysJ [keyA, keyA]).map (fun k => [numJ 2, numJ 3].getD (lastIx [keyA, keyA] 2 k) zeroJ) = [numJ 3] := by
    rw [keys_aa]
    have : lastIx [keyA, keyA] 2 keyA = 1 := by decide +kernel
    simp [this]
  have h4 : rightJ (.mk 6 0 0 ⟨#[]⟩ [numJ 3] [keyA]) = 0 := by decide +kernel
  unfold madeJ
  rw [if_neg (by decide)]
  show (makeJ [keyA, keyA] [numJ 2, numJ 3]).1 = _
  unfold makeJ
  rw [if_neg (by simp), if_neg (by rw [h1]; simp), if_neg (by rw [h2]; simp)]
  simp only [List.length_cons, List.length_nil, Nat.zero_add, Nat.reduceAdd]
  rw [h3, keys_aa, h4]
  rfl
theorem fuel_more : ∃ f, fuelP = f + 24 := ⟨39976, rfl⟩
theorem read_exA : readV madeJ exA = (.mk 5 0 0 ⟨#[]⟩ [numJ 1, .mk 6 0 0 ⟨#[]⟩ [numJ 3] [keyA]] [], 0, 0) := by
  rw [readV_short _ _ (by decide)]
  obtain ⟨f, hf⟩ := fuel_more
  rw [hf]
  have h5 : madeJ ⟨5, [], [numJ 1, .mk 6 0 0 ⟨#[]⟩ [numJ 3] [keyA]]⟩ = .mk 5 0 0 ⟨#[]⟩ [numJ 1, .mk 6 0 0 ⟨#[]⟩ [numJ 3] [keyA]] [] := rfl
  have hm := map_aa
  simp only [numJ] at h5 hm ⊢
  simp [readP, tkA0, tkA2, tkA3, tkA4, tkA6, tkA9, tkA10, tkA11, tkA12, tkA15, tkA16, tkA17, tkA18, tkA19, sgT, numT, strT, isShut, Tk.v, hm, h5]
theorem read_exB : readV madeJ exB = (zeroJ, 3, 60) := by
  rw [readV_short _ _ (by decide)]
  obtain ⟨f, hf⟩ := fuel_more
  rw [hf]
  simp [readP, tkB0, tkB1, tkB2, tkB3, sgT, numT, isShut]
theorem read_exC : readV madeJ exC = (zeroJ, 2, 60) := by
  rw [readV_short _ _ (by decide)]
  obtain ⟨f, hf⟩ := fuel_more
  rw [hf]
  simp [readP, tkC0, tkC1, tkC2, sgT, numT, isShut]
end Th
