/- What the reference's 'mix' returns: the mixing of four of sixteen words; for indices from 0 to 15. -/
import Derived.Test.YtbmjjmianhjfiaaDoorSmall
namespace Go.Proofs.YtbmjjmianhjfiaaDoor
open Go.RowKit

set_option maxRecDepth 100000 in
set_option maxHeartbeats 1000000 in
theorem mix38 (L : List (BitVec 32)) (hL : L.length = 16) (a b c d : Int) (ha : 0 ≤ a) (ha' : a < 16) (hb : 0 ≤ b) (hb' : b < 16) (hc : 0 ≤ c) (hc' : c < 16) (hd : 0 ≤ d) (hd' : d < 16) (w : World) :
    Calls Tryd.prog 38 #[.agg (L.map W).toArray, .int .i64 a, .int .i64 b, .int .i64 c, .int .i64 d] w fun e w' => e = .returned (.agg ((mixS L a b c d).map W).toArray) ∧ Below w.heap.size w w' := by
  have hadd := U_add
  have hxor := U_xor
  go_enter Tryd.func38, Tryd.ntmps38
  go_wp2
  refine forget_wp (Box2 w 64 (List.replicate 16 (.int .u32 0)) L) ⟨(Blk.new w 64 _).alloc _, by simpa using Blk.new (w.alloc (.cells (L.map W).toArray 64)) 64 (List.replicate 16 (.int .u32 0)), ((Below.refl _ w).alloc (Nat.le_refl _) _).alloc (by simp) _⟩ ?_
  intro w0 n0
  have l0 : (L).length = 16 := by simp only [hL]
  have cx := n0.cell a (by omega)
  have cy := n0.cell b (by omega)
  have fx := n0.free (a).toNat
  clear l0
  go_still_tail 9, (by kernel_rfl)
  change wpList _ _ _ _ _ w0.drew
  go_wp2
  refine forget_wp (Box2 w 64 (List.replicate 16 (.int .u32 0)) (mA L a b)) (n0.put _ _).drew ?_
  clear cx cy fx n0
  intro w1 n1
  have l1 : (mA L a b).length = 16 := by simp only [length_mA, hL]
  have cx := n1.cell d (by omega)
  have cy := n1.cell a (by omega)
  have fx := n1.free (d).toNat
  clear l1
  refine wp_region_quiet_tail 10 (by kernel_rfl) (by kernel_rfl) ?_
  simp only [List.take_succ_cons, List.take_zero, List.drop_succ_cons, List.drop_zero]
  repeat (quiet_step ((go_at_call 44; exact Calls.quiet_of (rol44 _ 16 16 _ (by decide) rfl))))
  refine wpQuiet_nil ?_
  rintro _ ⟨nq, rfl⟩
  go_wp2
  refine forget_wp (Box2 w 64 (List.replicate 16 (.int .u32 0)) (mR (mA L a b) d a 16)) ((n1.drewN nq).put _ _) ?_
  clear cx cy fx n1
  intro w2 n2
  have l2 : (mR (mA L a b) d a 16).length = 16 := by simp only [length_mA, length_mR, hL]
  have cx := n2.cell c (by omega)
  have cy := n2.cell d (by omega)
  have fx := n2.free (c).toNat
  clear l2
  go_still_tail 9, (by kernel_rfl)
  change wpList _ _ _ _ _ w2.drew
  go_wp2
  refine forget_wp (Box2 w 64 (List.replicate 16 (.int .u32 0)) (mA (mR (mA L a b) d a 16) c d)) (n2.put _ _).drew ?_
  clear cx cy fx n2
  intro w3 n3
  have l3 : (mA (mR (mA L a b) d a 16) c d).length = 16 := by simp only [length_mA, length_mR, hL]
  have cx := n3.cell b (by omega)
  have cy := n3.cell c (by omega)
  have fx := n3.free (b).toNat
  clear l3
  refine wp_region_quiet_tail 10 (by kernel_rfl) (by kernel_rfl) ?_
  simp only [List.take_succ_cons, List.take_zero, List.drop_succ_cons, List.drop_zero]
  repeat (quiet_step ((go_at_call 44; exact Calls.quiet_of (rol44 _ 12 12 _ (by decide) rfl))))
  refine wpQuiet_nil ?_
  rintro _ ⟨nq, rfl⟩
  go_wp2
  refine forget_wp (Box2 w 64 (List.replicate 16 (.int .u32 0)) (mR (mA (mR (mA L a b) d a 16) c d) b c 12)) ((n3.drewN nq).put _ _) ?_
  clear cx cy fx n3
  intro w4 n4
  have l4 : (mR (mA (mR (mA L a b) d a 16) c d) b c 12).length = 16 := by simp only [length_mA, length_mR, hL]
  have cx := n4.cell a (by omega)
  have cy := n4.cell b (by omega)
  have fx := n4.free (a).toNat
  clear l4
  go_still_tail 9, (by kernel_rfl)
  change wpList _ _ _ _ _ w4.drew
  go_wp2
  refine forget_wp (Box2 w 64 (List.replicate 16 (.int .u32 0)) (mA (mR (mA (mR (mA L a b) d a 16) c d) b c 12) a b)) (n4.put _ _).drew ?_
  clear cx cy fx n4
  intro w5 n5
  have l5 : (mA (mR (mA (mR (mA L a b) d a 16) c d) b c 12) a b).length = 16 := by simp only [length_mA, length_mR, hL]
  have cx := n5.cell d (by omega)
  have cy := n5.cell a (by omega)
  have fx := n5.free (d).toNat
  clear l5
  refine wp_region_quiet_tail 10 (by kernel_rfl) (by kernel_rfl) ?_
  simp only [List.take_succ_cons, List.take_zero, List.drop_succ_cons, List.drop_zero]
  repeat (quiet_step ((go_at_call 44; exact Calls.quiet_of (rol44 _ 8 8 _ (by decide) rfl))))
  refine wpQuiet_nil ?_
  rintro _ ⟨nq, rfl⟩
  go_wp2
  refine forget_wp (Box2 w 64 (List.replicate 16 (.int .u32 0)) (mR (mA (mR (mA (mR (mA L a b) d a 16) c d) b c 12) a b) d a 8)) ((n5.drewN nq).put _ _) ?_
  clear cx cy fx n5
  intro w6 n6
  have l6 : (mR (mA (mR (mA (mR (mA L a b) d a 16) c d) b c 12) a b) d a 8).length = 16 := by simp only [length_mA, length_mR, hL]
  have cx := n6.cell c (by omega)
  have cy := n6.cell d (by omega)
  have fx := n6.free (c).toNat
  clear l6
  go_still_tail 9, (by kernel_rfl)
  change wpList _ _ _ _ _ w6.drew
  go_wp2
  refine forget_wp (Box2 w 64 (List.replicate 16 (.int .u32 0)) (mA (mR (mA (mR (mA (mR (mA L a b) d a 16) c d) b c 12) a b) d a 8) c d)) (n6.put _ _).drew ?_
  clear cx cy fx n6
  intro w7 n7
  have l7 : (mA (mR (mA (mR (mA (mR (mA L a b) d a 16) c d) b c 12) a b) d a 8) c d).length = 16 := by simp only [length_mA, length_mR, hL]
  have cx := n7.cell b (by omega)
  have cy := n7.cell c (by omega)
  have fx := n7.free (b).toNat
  clear l7
  refine wp_region_quiet_tail 10 (by kernel_rfl) (by kernel_rfl) ?_
  simp only [List.take_succ_cons, List.take_zero, List.drop_succ_cons, List.drop_zero]
  repeat (quiet_step ((go_at_call 44; exact Calls.quiet_of (rol44 _ 7 7 _ (by decide) rfl))))
  refine wpQuiet_nil ?_
  rintro _ ⟨nq, rfl⟩
  have ll : (mixS L a b c d).length = 16 := by rw [length_mixS, hL]
  have hsz : (Tryd.prog.info? 64).map (·.size) = some ((mixS L a b c d).map W).toArray.size := by
    rw [size64]; simp [ll]
  have hset : Box2 w 64 (List.replicate 16 (.int .u32 0)) (mixS L a b c d) ((w7.drewN nq).setCell ⟨w.heap.size, b.toNat, none⟩ (.int .u32 (U (rol (wd (mA (mR (mA (mR (mA (mR (mA L a b) d a 16) c d) b c 12) a b) d a 8) c d) b ^^^ wd (mA (mR (mA (mR (mA (mR (mA L a b) d a 16) c d) b c 12) a b) d a 8) c d) c) 7)))) := (n7.drewN nq).put b (rol (wd (mA (mR (mA (mR (mA (mR (mA L a b) d a 16) c d) b c 12) a b) d a 8) c d) b ^^^ wd (mA (mR (mA (mR (mA (mR (mA L a b) d a 16) c d) b c 12) a b) d a 8) c d) c) 7)
  have h1 := hset.one
  have h2 := hset.two
  have hall := W_all (mixS L a b c d)
  have two' := setRow_heap _ (w.heap.size + 1) _ ((mixS L a b c d).map W).toArray 64 _ hset.two
  have old' := below_setRow hset.old (g := w.heap.size + 1) (by omega) ((mixS L a b c d).map W).toArray
  have hl2 : (List.replicate 16 (Value.int .u32 0)).toArray.size = ((mixS L a b c d).map W).toArray.size := by simp [ll]
  have H1 := Lib.hid h1
  have H2 := Lib.hid h2
  have HS := Lib.hid hsz
  have HA := Lib.hid hall
  have HL := Lib.hid hl2
  have HT := Lib.hid two'
  clear h1 h2 hsz hall hl2 two' hset ll n7
  go_wp2_with (first | (refine wpList_load_row rfl 64 _ rfl w.heap.size rfl 64 _ (0, 0) _ H1.out Tryd.underlying64 rfl HS.out ?_) | (refine wpList_store_row rfl 64 _ _ rfl (w.heap.size + 1) _ rfl rfl 64 _ H2.out HS.out HL.out HA.out ?_))
  refine bodyPost_ret (results_cell_row rfl _ _ (w.heap.size + 1) 64 _ (0, 0) _ rfl HT.out Tryd.underlying64 rfl HS.out) rfl ?_
  exact ⟨rfl, old'⟩

end Go.Proofs.YtbmjjmianhjfiaaDoor
