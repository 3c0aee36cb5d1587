/- The key stream laid over bytes: in rounds over its chunks and byte by byte; plain lemmas on lists, no program. -/
import Derived.Test.YtbmjjmianhjfiaaDoorChunk
namespace Go.Proofs.YtbmjjmianhjfiaaDoor
open Go.RowKit

/-- k bytes of zs laid over ys from off on. -/
def xorTo (ys : List (BitVec 8)) (off : Nat) (zs : List (BitVec 8)) : Nat → List (BitVec 8)
  | 0 => ys
  | k + 1 => (xorTo ys off zs k).set (off + k) ((xorTo ys off zs k).getD (off + k) 0#8 ^^^ zs.getD k 0#8)
theorem length_xorTo (ys : List (BitVec 8)) (off : Nat) (zs : List (BitVec 8)) (k : Nat) : (xorTo ys off zs k).length = ys.length := by
  induction k with
  | zero => rfl
  | succ k ih => simp [xorTo, ih]
theorem getD_xorTo (ys : List (BitVec 8)) (off : Nat) (zs : List (BitVec 8)) (k : Nat) (hk : off + k ≤ ys.length) (j : Nat) :
    (xorTo ys off zs k).getD j 0#8 = if off ≤ j ∧ j < off + k then ys.getD j 0#8 ^^^ zs.getD (j - off) 0#8 else ys.getD j 0#8 := by
  induction k with
  | zero => rw [if_neg (by omega)]; rfl
  | succ k ih =>
    have ih := ih (by omega)
    have hl := length_xorTo ys off zs k
    by_cases hj : j = off + k
    · subst hj
      have h1 : off + k < (xorTo ys off zs k).length := by rw [hl]; omega
      have h2 : (xorTo ys off zs k).getD (off + k) 0#8 = ys.getD (off + k) 0#8 := by
        have := length_xorTo ys off zs k
        have ih2 : (xorTo ys off zs k).getD (off + k) 0#8 = _ := ih
        rw [ih2, if_neg (by omega)]
      simp only [xorTo]
      rw [h2, if_pos (by omega)]
      simp [List.getD, h1, show off + k - off = k by omega]
    · simp only [xorTo]
      have : ((xorTo ys off zs k).set (off + k) ((xorTo ys off zs k).getD (off + k) 0#8 ^^^ zs.getD k 0#8)).getD j 0#8 = (xorTo ys off zs k).getD j 0#8 := by
        simp [List.getD, Ne.symm hj]
      rw [this, ih]
      by_cases h1 : off ≤ j ∧ j < off + k
      · rw [if_pos h1, if_pos (by omega)]
      · rw [if_neg h1, if_neg (by omega)]

/-- One round over chunk x, with the counter c. -/
def roundC (K N : List (BitVec 8)) (L : Nat) (s : List (BitVec 8) × BitVec 32) (x : Nat) : List (BitVec 8) × BitVec 32 :=
  (xorTo s.1 (64 * chunkNo L x) (blockS K N s.2) (chunkLen L x), s.2 + 1#32)
def roundsC (K N : List (BitVec 8)) (L : Nat) (xs : List (BitVec 8)) (pre : List Nat) : List (BitVec 8) × BitVec 32 := pre.foldl (roundC K N L) (xs, 1#32)
theorem roundsC_snoc (K N : List (BitVec 8)) (L : Nat) (xs : List (BitVec 8)) (pre : List Nat) (x : Nat) : roundsC K N L xs (pre ++ [x]) = roundC K N L (roundsC K N L xs pre) x := by
  simp [roundsC]
theorem length_roundsC (K N : List (BitVec 8)) (L : Nat) (xs : List (BitVec 8)) (pre : List Nat) : (roundsC K N L xs pre).1.length = xs.length := by
  unfold roundsC
  generalize 1#32 = c
  induction pre generalizing xs c with
  | nil => rfl
  | cons x pre ih => simp only [List.foldl_cons]; rw [show roundC K N L (xs, c) x = ((roundC K N L (xs, c) x).1, (roundC K N L (xs, c) x).2) from rfl, ih]; simp [roundC, length_xorTo]

/-- Byte by byte. -/
def streamS (K N : List (BitVec 8)) (xs : List (BitVec 8)) : List (BitVec 8) :=
  (List.range xs.length).map fun j => xs.getD j 0#8 ^^^ (blockS K N (BitVec.ofNat 32 (1 + j / 64))).getD (j % 64) 0#8
theorem length_streamS (K N xs : List (BitVec 8)) : (streamS K N xs).length = xs.length := by simp [streamS]
theorem getD_streamS (K N xs : List (BitVec 8)) (j : Nat) (hj : j < xs.length) : (streamS K N xs).getD j 0#8 = xs.getD j 0#8 ^^^ (blockS K N (BitVec.ofNat 32 (1 + j / 64))).getD (j % 64) 0#8 := by
  simp [streamS, hj]
theorem ext_getD {xs ys : List (BitVec 8)} (hl : xs.length = ys.length) (h : ∀ j, j < xs.length → xs.getD j 0#8 = ys.getD j 0#8) : xs = ys := by
  apply List.ext_getElem hl
  intro j h1 h2
  have := h j h1
  simpa [h1, h2] using this

theorem roundsC_range (K N : List (BitVec 8)) (xs : List (BitVec 8)) (m : Nat) (hm : m ≤ (xs.length + 63) / 64) :
    (roundsC K N xs.length xs (List.range m)).2 = BitVec.ofNat 32 (1 + m) ∧
    ∀ j, j < xs.length → (roundsC K N xs.length xs (List.range m)).1.getD j 0#8 = if j < 64 * m then xs.getD j 0#8 ^^^ (blockS K N (BitVec.ofNat 32 (1 + j / 64))).getD (j % 64) 0#8 else xs.getD j 0#8 := by
  induction m with
  | zero => simp [roundsC]
  | succ m ih =>
    obtain ⟨ih1, ih2⟩ := ih (by omega)
    have hl := length_roundsC K N xs.length xs (List.range m)
    have hlt : 64 * m < xs.length := by omega
    have hno : chunkNo xs.length m = m := by simp [chunkNo, hlt]
    rw [List.range_succ, roundsC_snoc]
    refine ⟨?_, fun j hj => ?_⟩
    · simp only [roundC]; rw [ih1, show 1 + (m + 1) = (1 + m) + 1 by omega, BitVec.ofNat_add (1 + m) 1]
    · simp only [roundC]
      rw [getD_xorTo _ _ _ _ (by rw [hl, hno]; simp only [chunkLen, hno]; omega), ih2 j hj, hno, ih1]
      by_cases h1 : j < 64 * m
      · rw [if_neg (by omega), if_pos h1, if_pos (by omega)]
      · rw [if_neg h1]
        by_cases h2 : j < 64 * (m + 1)
        · rw [if_pos ⟨by omega, by simp only [chunkLen, hno]; omega⟩, if_pos h2, show j / 64 = m by omega, show j % 64 = j - 64 * m by omega]
        · rw [if_neg (by simp only [chunkLen, hno]; omega), if_neg h2]

theorem roundsC_stream (K N : List (BitVec 8)) (xs : List (BitVec 8)) : (roundsC K N xs.length xs (List.range ((xs.length + 63) / 64))).1 = streamS K N xs := by
  apply ext_getD
  · rw [length_roundsC, length_streamS]
  · intro j hj
    rw [length_roundsC] at hj
    rw [(roundsC_range K N xs _ (Nat.le_refl _)).2 j hj, if_pos (by omega), getD_streamS K N xs j hj]
end Go.Proofs.YtbmjjmianhjfiaaDoor
