/- The hash over the padded bytes, in lists: the reference's way and the program's come to the same; no program. -/
import Derived.Test.YtbmjjmianhjfiaaDoorRefPad
namespace Go.Proofs.YtbmjjmianhjfiaaDoor
open Go.RowKit

theorem getD_putS (ys : List (BitVec 8)) (off n : Nat) (v : Int) (k : Nat) (hk : k ≤ n) (hl : off + n ≤ ys.length) (i : Nat) :
    (putS ys off n v k).getD i 0#8 = if off + (n - k) ≤ i ∧ i < off + n then byteOf (v / (2 : Int) ^ (8 * (off + n - 1 - i))) else ys.getD i 0#8 := by
  induction k with
  | zero => rw [if_neg (by omega)]; rfl
  | succ k ih =>
    have ih := ih (by omega)
    have hlen := length_putS ys off n v k
    simp only [putS]
    by_cases hi : i = off + (n - 1 - k)
    · subst hi
      rw [if_pos (by omega), show off + n - 1 - (off + (n - 1 - k)) = k by omega]
      simp only [List.getD]
      rw [List.getElem?_set, if_pos rfl, if_pos (by omega)]
      rfl
    · have e : ((putS ys off n v k).set (off + (n - 1 - k)) (byteOf (v / (2 : Int) ^ (8 * k)))).getD i 0#8 = (putS ys off n v k).getD i 0#8 := by
        simp only [List.getD]; rw [List.getElem?_set_ne (Ne.symm hi)]
      rw [e, ih]
      by_cases h : off + (n - k) ≤ i ∧ i < off + n
      · rw [if_pos h, if_pos (by omega)]
      · rw [if_neg h, if_neg (by omega)]

theorem getD_eightS (v : Int) (i : Nat) (hi : i < 8) : (eightS v 8).getD i 0#8 = byteOf (v / (2 : Int) ^ (56 - 8 * i)) := by
  simp [eightS, hi]
/-- Eight bytes laid at off, and all that stands behind them dropped. -/
theorem putS_take (ys : List (BitVec 8)) (off : Nat) (v : Int) (hl : off + 8 ≤ ys.length) : (putS ys off 8 v 8).take (off + 8) = ys.take off ++ eightS v 8 := by
  apply ext_getD
  · simp only [List.length_take, length_putS, List.length_append, length_eightS]; omega
  · intro j hj
    simp only [List.length_take, length_putS] at hj
    have h1 : ((putS ys off 8 v 8).take (off + 8)).getD j 0#8 = (putS ys off 8 v 8).getD j 0#8 := by simp only [List.getD]; rw [List.getElem?_take, if_pos (by omega)]
    rw [h1, getD_putS _ _ _ _ _ (Nat.le_refl _) hl]
    have hto : (ys.take off).length = off := by rw [List.length_take]; omega
    by_cases h : j < off
    · rw [if_neg (by omega)]
      simp only [List.getD]
      rw [List.getElem?_append_left (by omega), List.getElem?_take, if_pos h]
    · rw [if_pos (by omega)]
      have h2 : (ys.take off ++ eightS v 8).getD j 0#8 = (eightS v 8).getD (j - off) 0#8 := by
        simp only [List.getD]; rw [List.getElem?_append_right (by omega), hto]
      rw [h2, getD_eightS _ _ (by omega), show 8 * (off + 8 - 1 - j) = 56 - 8 * (j - off) by omega]

theorem absN_prefix (S : List (BitVec 32)) (xs ys : List (BitVec 8)) (k : Nat) (h : xs.take (64 * k) = ys.take (64 * k)) : absN S xs k = absN S ys k := by
  induction k with
  | zero => rfl
  | succ k ih =>
    have h1 : xs.take (64 * k) = ys.take (64 * k) := by
      have := congrArg (List.take (64 * k)) h
      rw [List.take_take, List.take_take, show min (64 * k) (64 * (k + 1)) = 64 * k by omega] at this
      exact this
    have h2 : (xs.drop (64 * k)).take 64 = (ys.drop (64 * k)).take 64 := by
      have := congrArg (List.drop (64 * k)) h
      rw [List.drop_take, List.drop_take, show 64 * (k + 1) - 64 * k = 64 by omega] at this
      exact this
    simp only [absN]
    rw [ih h1, h2]
theorem absN_add (S : List (BitVec 32)) (xs : List (BitVec 8)) (a b : Nat) : absN S xs (a + b) = absN (absN S xs a) (xs.drop (64 * a)) b := by
  induction b with
  | zero => rfl
  | succ b ih =>
    show absS (absN S xs (a + b)) ((xs.drop (64 * (a + b))).take 64) = absS (absN (absN S xs a) (xs.drop (64 * a)) b) (((xs.drop (64 * a)).drop (64 * b)).take 64)
    rw [ih, List.drop_drop, show 64 * (a + b) = 64 * a + 64 * b by omega]

theorem pad_end (xs : List (BitVec 8)) : (padS xs).drop (64 * (xs.length / 64)) = (endS xs).take (endLen xs) := by
  have hr := length_restS xs
  have hlt : xs.length % 64 < 64 := Nat.mod_lt _ (by omega)
  have e1 : (padS xs).drop (64 * (xs.length / 64)) = restS xs ++ [0x80#8] ++ zeroB (padZ xs.length) ++ eightS (8 * (xs.length : Int)) 8 := by
    unfold padS restS
    rw [List.append_assoc, List.append_assoc, List.drop_append_of_le_length (by omega), ← List.append_assoc, ← List.append_assoc]
  have e2 : (restS xs ++ zeroB (128 - xs.length % 64)).set (xs.length % 64) 0x80#8 = restS xs ++ ([0x80#8] ++ zeroB (127 - xs.length % 64)) := by
    rw [List.set_append_right _ _ (by omega), hr, Nat.sub_self, show 128 - xs.length % 64 = 127 - xs.length % 64 + 1 by omega]
    rfl
  have hlen : (restS xs ++ ([0x80#8] ++ zeroB (127 - xs.length % 64))).length = 128 := by
    simp only [List.length_append, hr, length_zeroB, List.length_singleton]; omega
  have h8 : 8 ≤ endLen xs ∧ endLen xs ≤ 128 ∧ endLen xs - 8 = xs.length % 64 + 1 + padZ xs.length := by
    unfold endLen padZ
    split <;> omega
  unfold endS
  rw [e2, e1, show (xs.length : Int) * 8 = 8 * (xs.length : Int) from Int.mul_comm _ _]
  have h := putS_take (restS xs ++ ([0x80#8] ++ zeroB (127 - xs.length % 64))) (endLen xs - 8) (8 * (xs.length : Int)) (by rw [hlen]; omega)
  rw [show endLen xs - 8 + 8 = endLen xs by omega] at h
  rw [h, h8.2.2]
  congr 1
  rw [← List.append_assoc, List.take_append, List.take_of_length_le (by simp only [List.length_append, hr, List.length_singleton]; omega)]
  congr 1
  simp only [List.length_append, hr, List.length_singleton]
  rw [show xs.length % 64 + 1 + padZ xs.length - (xs.length % 64 + 1) = padZ xs.length by omega]
  unfold zeroB
  rw [List.take_replicate]
  congr 1
  unfold padZ
  omega
theorem pad_len (xs : List (BitVec 8)) : (padS xs).length = 64 * (xs.length / 64 + endLen xs / 64) := by
  rw [length_padS]
  unfold endLen padZ
  split <;> omega
theorem abs_pad (xs : List (BitVec 8)) : absN startS (padS xs) (xs.length / 64 + endLen xs / 64) = absN (absN startS xs (xs.length / 64)) ((endS xs).take (endLen xs)) (endLen xs / 64) := by
  rw [absN_add, pad_end]
  congr 1
  apply absN_prefix
  unfold padS
  rw [List.append_assoc, List.append_assoc, List.take_append_of_le_length (by omega)]

/-- The digest byte by byte, its first k bytes laid. -/
def refD (S : List (BitVec 32)) : Nat → List (BitVec 8)
  | 0 => zeroB 32
  | k + 1 => (refD S k).set k (byteOf (U (S.getD (k / 4) 0) / (2 : Int) ^ (24 - 8 * (k % 4))))
theorem length_refD (S : List (BitVec 32)) (k : Nat) : (refD S k).length = 32 := by
  induction k with
  | zero => exact length_zeroB 32
  | succ k ih => simp only [refD, List.length_set, ih]
theorem getD_refD (S : List (BitVec 32)) (k : Nat) (hk : k ≤ 32) (i : Nat) : (refD S k).getD i 0#8 = if i < k then byteOf (U (S.getD (i / 4) 0) / (2 : Int) ^ (24 - 8 * (i % 4))) else (zeroB 32).getD i 0#8 := by
  induction k with
  | zero => rw [if_neg (by omega)]; rfl
  | succ k ih =>
    have ih := ih (by omega)
    have hl := length_refD S k
    simp only [refD]
    by_cases h : i = k
    · subst h
      rw [if_pos (by omega)]
      simp only [List.getD]
      rw [List.getElem?_set, if_pos rfl, if_pos (by omega)]
      rfl
    · have e : ((refD S k).set k (byteOf (U (S.getD (k / 4) 0) / (2 : Int) ^ (24 - 8 * (k % 4))))).getD i 0#8 = (refD S k).getD i 0#8 := by
        simp only [List.getD]; rw [List.getElem?_set_ne (Ne.symm h)]
      rw [e, ih]
      by_cases h2 : i < k
      · rw [if_pos h2, if_pos (by omega)]
      · rw [if_neg h2, if_neg (by omega)]
theorem getD_outD (S : List (BitVec 32)) (k : Nat) (hk : k ≤ 8) (i : Nat) : (outD S k).getD i 0#8 = if i < 4 * k then byteOf (U (S.getD (i / 4) 0) / (2 : Int) ^ (24 - 8 * (i % 4))) else (zeroB 32).getD i 0#8 := by
  induction k with
  | zero => rw [if_neg (by omega)]; rfl
  | succ k ih =>
    have ih := ih (by omega)
    have hl := length_outD S k
    simp only [outD]
    rw [getD_putS _ _ _ _ _ (Nat.le_refl _) (by omega), ih]
    by_cases h : 4 * k ≤ i ∧ i < 4 * k + 4
    · rw [if_pos (by omega), if_pos (by omega), show i / 4 = k by omega, show 8 * (4 * k + 4 - 1 - i) = 24 - 8 * (i % 4) by omega]
    · rw [if_neg (by omega)]
      by_cases h2 : i < 4 * k
      · rw [if_pos h2, if_pos (by omega)]
      · rw [if_neg h2, if_neg (by omega)]
theorem refD_eq (S : List (BitVec 32)) : refD S 32 = outD S 8 := by
  apply ext_getD
  · rw [length_refD, length_outD]
  · intro j hj
    rw [length_refD] at hj
    rw [getD_refD _ _ (by omega), getD_outD _ _ (by omega), if_pos hj]
end Go.Proofs.YtbmjjmianhjfiaaDoor
