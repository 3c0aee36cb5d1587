/- What the program's 'Block' returns: a block of the key stream for a counter of 32 bits, an error for any other. -/
import Derived.Test.YtbmjjmianhjfiaaDoorBlock
namespace Go.Proofs.YtbmjjmianhjfiaaDoor
open Go.RowKit

/-! A key and a nonce, boxed: what each function that takes them begins with. -/
theorem boxK (w : World) (K N : List (BitVec 8)) : Blk ((w.alloc (.cells (K.map Y).toArray 23)).alloc (.cells (N.map Y).toArray 25)) w.heap.size 23 (K.map Y) := (Blk.new w 23 _).alloc _
theorem boxN (w : World) (K N : List (BitVec 8)) : Blk ((w.alloc (.cells (K.map Y).toArray 23)).alloc (.cells (N.map Y).toArray 25)) (w.heap.size + 1) 25 (N.map Y) := by
  simpa using Blk.new (w.alloc (.cells (K.map Y).toArray 23)) 25 (N.map Y)
theorem boxB (w : World) (K N : List (BitVec 8)) : Below w.heap.size w ((w.alloc (.cells (K.map Y).toArray 23)).alloc (.cells (N.map Y).toArray 25)) :=
  ((Below.refl _ w).alloc (Nat.le_refl _) _).alloc (by simp) _
theorem sz23 {K : List (BitVec 8)} (hK : K.length = 32) : (Tryd.prog.info? 23).map (·.size) = some (K.map Y).toArray.size := by rw [size23]; simp [hK]
theorem sz25 {N : List (BitVec 8)} (hN : N.length = 12) : (Tryd.prog.info? 25).map (·.size) = some (N.map Y).toArray.size := by rw [size25]; simp [hN]
theorem U_ofInt (c : Int) : IntKind.u32.wrap c = U (BitVec.ofInt 32 c) := by rw [IntKind.wrap_u32]; unfold U; rw [BitVec.toNat_ofInt]; omega
theorem U_ofInt' (c : Int) : c % 4294967296 = U (BitVec.ofInt 32 c) := by unfold U; rw [BitVec.toNat_ofInt]; omega

set_option maxHeartbeats 1000000 in
theorem Block16 (K N : List (BitVec 8)) (hK : K.length = 32) (hN : N.length = 12) (c : Int) (h0 : 0 ≤ c) (h1 : c ≤ 4294967295) (w : World) (hT : Tab w 2 constsS) :
    Calls Tryd.prog 16 #[.agg (K.map Y).toArray, .agg (N.map Y).toArray, .int .i64 c] w fun e w' => ∃ v, e = .returned (.tuple #[v, .int .i64 0]) ∧ Own w' w.heap.size v (blockS K N (BitVec.ofInt 32 c)) ∧ Below w.heap.size w w' := by
  have b2 := boxB w K N
  have hT2 := hT.below b2 (Nat.le_refl _)
  have HK := Lib.hid (boxK w K N)
  have HN := Lib.hid (boxN w K N)
  have HSK := Lib.hid (sz23 hK)
  have HSN := Lib.hid (sz25 hN)
  have HC := Lib.hid (block27 K N hK hN (BitVec.ofInt 32 c) _ hT2)
  have hc := U_ofInt' c
  have n1 : ¬ c < 0 := by omega
  have n2 : ¬ 4294967295 < c := by omega
  have hu := U_ofInt c
  clear hT hT2 hK hN
  go_enter Tryd.func16, Tryd.ntmps16
  go_wp2_with (first | ((with_reducible refine at_load 23 ?_); refine wpList_load_row rfl 23 _ rfl w.heap.size rfl 23 _ (0, 0) _ HK.out Tryd.underlying23 rfl HSK.out ?_) | ((with_reducible refine at_load 25 ?_); refine wpList_load_row rfl 25 _ rfl (w.heap.size + 1) rfl 25 _ (0, 0) _ HN.out Tryd.underlying25 rfl HSN.out ?_) | (go_at_call 27; refine HC.out.mono ?_; rintro e w1 ⟨v, rfl, hv, hb⟩))
  go_ret2
  refine ⟨_, rfl, hv.mono (by simp; omega), b2.trans (hb.mono (by simp; omega))⟩

set_option maxHeartbeats 1000000 in
theorem Block16_no (K N : List (BitVec 8)) (c : Int) (h : c < 0 ∨ 4294967295 < c) (w : World) :
    Calls Tryd.prog 16 #[.agg (K.map Y).toArray, .agg (N.map Y).toArray, .int .i64 c] w fun e w' => e = .returned (.tuple #[.slice none 0 0, .int .i64 1]) ∧ Below w.heap.size w w' := by
  have b2 := boxB w K N
  rcases h with h | h
  · go_enter Tryd.func16, Tryd.ntmps16
    go_wp2
    go_ret2
    exact ⟨rfl, b2⟩
  · have n1 : ¬ c < 0 := by omega
    go_enter Tryd.func16, Tryd.ntmps16
    go_wp2
    go_ret2
    exact ⟨rfl, b2⟩
end Go.Proofs.YtbmjjmianhjfiaaDoor
