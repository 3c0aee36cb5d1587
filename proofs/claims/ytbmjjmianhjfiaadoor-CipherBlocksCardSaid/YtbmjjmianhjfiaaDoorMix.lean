/- What the program's method 'mix' leaves in its block: the mixing of four of sixteen words; for indices from 0 to 15. -/
import Derived.Test.YtbmjjmianhjfiaaDoorSmall
namespace Go.Proofs.YtbmjjmianhjfiaaDoor
open Go.RowKit
set_option maxRecDepth 100000 in
set_option maxHeartbeats 1000000 in
theorem mix36 (g : Nat) (t : TypeId) (L : List (BitVec 32)) (hL : L.length = 16) (a b c d : Int) (ha : 0 ≤ a) (ha' : a < 16) (hb : 0 ≤ b) (hb' : b < 16) (hc : 0 ≤ c) (hc' : c < 16) (hd : 0 ≤ d) (hd' : d < 16) (w : World) (hg : Words w g t L) :
    Calls Tryd.prog 36 #[.pointer (some ⟨g, 0, none⟩), .int .i64 a, .int .i64 b, .int .i64 c, .int .i64 d] w fun e w' => e = .returned (.tuple #[]) ∧ Now w g t (mixS L a b c d) w' := by
  have hadd := U_add
  have hxor := U_xor
  have hn : Now w g t L w := ⟨hg, World.grownBy.refl _ _⟩
  unfold mixS
  go_enter Tryd.func36, Tryd.ntmps36
  go_wp2
  refine forget_wp (Now w g t L) hn ?_
  clear hg hn
  intro w0 n0
  have l0 : (L).length = 16 := by simp only [hL]
  have cx := n0.cell a (by omega)
  have cy := n0.cell b (by omega)
  have fx := n0.free (a).toNat
  clear l0
  go_still_tail 13, (by kernel_rfl)
  change wpList _ _ _ _ _ w0.drew
  go_wp2
  refine forget_wp (Now w g t (mA L a b)) (n0.put _ _).drew ?_
  clear cx cy fx n0
  intro w1 n1
  have l1 : (mA L a b).length = 16 := by simp only [length_mA, hL]
  have cx := n1.cell d (by omega)
  have cy := n1.cell a (by omega)
  have fx := n1.free (d).toNat
  clear l1
  refine wp_region_still_tail 16 (by kernel_rfl) (by kernel_rfl) ?_
  simp only [List.take_succ_cons, List.take_zero, List.drop_succ_cons, List.drop_zero]
  repeat still_step
  still_call (rot41 _ _ 16 _ (by decide) (by decide))
  repeat still_step
  refine wpStill_nil ?_
  change wpList _ _ _ _ _ w1.drew
  go_wp2
  refine forget_wp (Now w g t (mR (mA L a b) d a 16)) (n1.put _ _).drew ?_
  clear cx cy fx n1
  intro w2 n2
  have l2 : (mR (mA L a b) d a 16).length = 16 := by simp only [length_mA, length_mR, hL]
  have cx := n2.cell c (by omega)
  have cy := n2.cell d (by omega)
  have fx := n2.free (c).toNat
  clear l2
  go_still_tail 13, (by kernel_rfl)
  change wpList _ _ _ _ _ w2.drew
  go_wp2
  refine forget_wp (Now w g t (mA (mR (mA L a b) d a 16) c d)) (n2.put _ _).drew ?_
  clear cx cy fx n2
  intro w3 n3
  have l3 : (mA (mR (mA L a b) d a 16) c d).length = 16 := by simp only [length_mA, length_mR, hL]
  have cx := n3.cell b (by omega)
  have cy := n3.cell c (by omega)
  have fx := n3.free (b).toNat
  clear l3
  refine wp_region_still_tail 16 (by kernel_rfl) (by kernel_rfl) ?_
  simp only [List.take_succ_cons, List.take_zero, List.drop_succ_cons, List.drop_zero]
  repeat still_step
  still_call (rot41 _ _ 12 _ (by decide) (by decide))
  repeat still_step
  refine wpStill_nil ?_
  change wpList _ _ _ _ _ w3.drew
  go_wp2
  refine forget_wp (Now w g t (mR (mA (mR (mA L a b) d a 16) c d) b c 12)) (n3.put _ _).drew ?_
  clear cx cy fx n3
  intro w4 n4
  have l4 : (mR (mA (mR (mA L a b) d a 16) c d) b c 12).length = 16 := by simp only [length_mA, length_mR, hL]
  have cx := n4.cell a (by omega)
  have cy := n4.cell b (by omega)
  have fx := n4.free (a).toNat
  clear l4
  go_still_tail 13, (by kernel_rfl)
  change wpList _ _ _ _ _ w4.drew
  go_wp2
  refine forget_wp (Now w g t (mA (mR (mA (mR (mA L a b) d a 16) c d) b c 12) a b)) (n4.put _ _).drew ?_
  clear cx cy fx n4
  intro w5 n5
  have l5 : (mA (mR (mA (mR (mA L a b) d a 16) c d) b c 12) a b).length = 16 := by simp only [length_mA, length_mR, hL]
  have cx := n5.cell d (by omega)
  have cy := n5.cell a (by omega)
  have fx := n5.free (d).toNat
  clear l5
  refine wp_region_still_tail 16 (by kernel_rfl) (by kernel_rfl) ?_
  simp only [List.take_succ_cons, List.take_zero, List.drop_succ_cons, List.drop_zero]
  repeat still_step
  still_call (rot41 _ _ 8 _ (by decide) (by decide))
  repeat still_step
  refine wpStill_nil ?_
  change wpList _ _ _ _ _ w5.drew
  go_wp2
  refine forget_wp (Now w g t (mR (mA (mR (mA (mR (mA L a b) d a 16) c d) b c 12) a b) d a 8)) (n5.put _ _).drew ?_
  clear cx cy fx n5
  intro w6 n6
  have l6 : (mR (mA (mR (mA (mR (mA L a b) d a 16) c d) b c 12) a b) d a 8).length = 16 := by simp only [length_mA, length_mR, hL]
  have cx := n6.cell c (by omega)
  have cy := n6.cell d (by omega)
  have fx := n6.free (c).toNat
  clear l6
  go_still_tail 13, (by kernel_rfl)
  change wpList _ _ _ _ _ w6.drew
  go_wp2
  refine forget_wp (Now w g t (mA (mR (mA (mR (mA (mR (mA L a b) d a 16) c d) b c 12) a b) d a 8) c d)) (n6.put _ _).drew ?_
  clear cx cy fx n6
  intro w7 n7
  have l7 : (mA (mR (mA (mR (mA (mR (mA L a b) d a 16) c d) b c 12) a b) d a 8) c d).length = 16 := by simp only [length_mA, length_mR, hL]
  have cx := n7.cell b (by omega)
  have cy := n7.cell c (by omega)
  have fx := n7.free (b).toNat
  clear l7
  refine wp_region_still_tail 16 (by kernel_rfl) (by kernel_rfl) ?_
  simp only [List.take_succ_cons, List.take_zero, List.drop_succ_cons, List.drop_zero]
  repeat still_step
  still_call (rot41 _ _ 7 _ (by decide) (by decide))
  repeat still_step
  refine wpStill_nil ?_
  change wpList _ _ _ _ _ w7.drew
  go_wp2
  go_end0
  exact ⟨rfl, (n7.put _ _).drew⟩

end Go.Proofs.YtbmjjmianhjfiaaDoor
