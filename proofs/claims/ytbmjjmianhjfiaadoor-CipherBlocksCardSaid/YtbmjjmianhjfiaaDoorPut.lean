/- put: a number into bytes; eight: eight bytes of a number. -/
import Derived.Test.YtbmjjmianhjfiaaDoorMem
import Derived.Test.YtbmjjmianhjfiaaDoorFirst
namespace Go.Proofs.YtbmjjmianhjfiaaDoor
open Go.RowKit

/-- The n last bytes of a number, laid from off on, the most significant one first; its first k steps. -/
def putS (ys : List (BitVec 8)) (off n : Nat) (v : Int) : Nat → List (BitVec 8)
  | 0 => ys
  | k + 1 => (putS ys off n v k).set (off + (n - 1 - k)) (byteOf (v / (2 : Int) ^ (8 * k)))
theorem length_putS (ys : List (BitVec 8)) (off n : Nat) (v : Int) (k : Nat) : (putS ys off n v k).length = ys.length := by
  induction k with
  | zero => rfl
  | succ k ih => simp [putS, ih]

set_option maxHeartbeats 1000000 in
theorem put32 (g off n c : Nat) (t : TypeId) (ys : List (BitVec 8)) (hn : n ≤ 8) (hl : off + n ≤ ys.length) (v : Int) (_hv0 : 0 ≤ v) (_hv1 : v < 18446744073709551616) (w : World) (hg : Blk w g t (ys.map Y)) :
    Calls Tryd.prog 32 #[.slice (some ⟨g, off, none⟩) n c, .int .u64 v] w fun e w' => e = .returned (.tuple #[]) ∧ Blk w' g t ((putS ys off n v n).map Y) ∧ w.grownBy w' (some g) := by
  have HG := Lib.hid hg
  clear hg
  go_enter Tryd.func32, Tryd.ntmps32
  go_wp2
  go_loopw [7] (fun i wr => ∃ k : Nat, k ≤ n ∧ i = .int .i64 k ∧ Blk wr g t ((putS ys off n v k).map Y) ∧ w.grownBy wr (some g)) (fun i _ => n - (intOf i).toNat)
  case atStart => exact ⟨0, by omega, rfl, HG.out, World.grownBy.refl _ _⟩
  case round =>
    obtain ⟨k, hk, rfl, hb, hgr⟩ := hrel
    by_cases hlt : k < n
    · have a0 : (k : Int) < (n : Int) := by omega
      have a1 : (0 : Int) ≤ (n : Int) - 1 - (k : Int) := by omega
      have a2 : (n : Int) - 1 - (k : Int) < (n : Int) := by omega
      have a3 : ((n : Int) - 1 - (k : Int)).toNat = n - 1 - k := by omega
      have a4 : (n : Int) ≤ 8 := by omega
      have a5 : (0 : Int) ≤ 8 * (k : Int) := by omega
      have a6 : 8 * (k : Int) < 64 := by omega
      have a7 : (8 * (k : Int)).toNat = 8 * k := by omega
      have l0 := length_putS ys off n v k
      have cc := hb.byte (off + (n - 1 - k)) (by omega)
      have cf := hb.free (off + (n - 1 - k))
      have H := Lib.hid (⟨hb, hgr⟩ : _ ∧ _)
      clear hb hgr l0
      go_wp2
      rw [show Value.int .u8 (v / (2 : Int) ^ (8 * k) % (256 : Int)) = Y (byteOf (v / (2 : Int) ^ (8 * k))) by rw [byteOf_spec]; rfl]
      refine ⟨⟨k + 1, by omega, by go_num, ?_, only_put H.out.2 (.inl rfl) _⟩, by simp [intOf]; omega⟩
      simp only [putS]
      rw [List.map_set]
      exact Blk.put H.out.1 _ _
    · obtain rfl : k = n := by omega
      go_wp2
      go_end0
      exact ⟨rfl, hb, hgr⟩

/-- Eight bytes of a number below 2^63, the most significant one first; the first k. -/
def eightS (n : Int) (k : Nat) : List (BitVec 8) := (List.range k).map fun i => byteOf (n / (2 : Int) ^ (56 - 8 * i))
theorem eightS_succ (n : Int) (k : Nat) : eightS n (k + 1) = eightS n k ++ [byteOf (n / (2 : Int) ^ (56 - 8 * k))] := by simp [eightS, List.range_succ]
theorem length_eightS (n : Int) (k : Nat) : (eightS n k).length = k := by simp [eightS]

set_option maxHeartbeats 1000000 in
theorem eight30 (n : Int) (_h0 : 0 ≤ n) (_h1 : n ≤ 70368744177664) (w : World) :
    Calls Tryd.prog 30 #[.int .i64 n] w fun e w' => ∃ v, e = .returned v ∧ Own w' w.heap.size v (eightS n 8) ∧ Below w.heap.size w w' := by
  go_enter Tryd.func30, Tryd.ntmps30
  go_wp2
  go_loopw [2, 4] (fun v i wr => ∃ k : Nat, k ≤ 8 ∧ i = .int .i64 k ∧ Own wr w.heap.size v (eightS n k) ∧ Below w.heap.size w wr) (fun _ i _ => 8 - (intOf i).toNat)
  case atStart => exact ⟨0, by omega, rfl, Own.nil _ _, Below.refl _ _⟩
  case round =>
    obtain ⟨k, hk, rfl, ho, hb⟩ := hrel
    by_cases hlt : k < 8
    · have a0 : (k : Int) < 8 := by omega
      have a1 : (0 : Int) ≤ 56 - 8 * (k : Int) := by omega
      have a2 : 56 - 8 * (k : Int) < 64 := by omega
      have a3 : (56 - 8 * (k : Int)).toNat = 56 - 8 * k := by omega
      have a4 : 8 * (k : Int) ≤ 56 := by omega
      have hbs := hb.size
      have HO := Lib.hid (ho.alloc (.cells #[.int .u8 (B (byteOf (n / (2 : Int) ^ (56 - 8 * k))))] 5))
      have HR : Hid (Rd (wr.alloc (.cells #[.int .u8 (B (byteOf (n / (2 : Int) ^ (56 - 8 * k))))] 5)) (some ⟨wr.heap.size, 0, none⟩) [byteOf (n / (2 : Int) ^ (56 - 8 * k))]) := Lib.hid (Rd.block (xs := [byteOf (n / (2 : Int) ^ (56 - 8 * k))]) (Blk.new wr 5 [Y (byteOf (n / (2 : Int) ^ (56 - 8 * k)))]))
      have hy : n / (2 : Int) ^ (56 - 8 * k) % (256 : Int) = B (byteOf (n / (2 : Int) ^ (56 - 8 * k))) := byteOf_spec _
      have HL := Lib.hid (length_eightS n k)
      have HB := Lib.hid hb
      have HO1 := Lib.hid ho
      clear ho hb
      go_wp2_with ((with_reducible refine at_append 26 26 ?_); refine wpList_app26 rfl (.tmp 7) (.tmp 14) rfl w.heap.size u2 (eightS n k) _ 1 1 [byteOf (n / (2 : Int) ^ (56 - 8 * k))] rfl rfl HO.out HR.out rfl (by rw [HL.out]; omega) (by simp; omega) ?_; intro v' w' hown' hg' hat')
      refine ⟨⟨k + 1, by omega, by go_num, by rw [eightS_succ]; exact hown', below_app (HB.out.alloc HB.out.size _) (by simp; omega) HO.out (Nat.le_refl _) hg'⟩, by simp [intOf]; omega⟩
    · obtain rfl : k = 8 := by omega
      rw [show ((8 : Nat) : Int) = 8 from rfl]
      go_wp2
      go_ret
      exact ⟨_, rfl, ho, hb⟩
end Go.Proofs.YtbmjjmianhjfiaaDoor
