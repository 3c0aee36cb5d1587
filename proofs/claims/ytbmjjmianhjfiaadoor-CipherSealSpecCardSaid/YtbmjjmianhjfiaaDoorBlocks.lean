/- The law CipherBlocks, walked: the stream over zero bytes is the blocks with the counters from 1 on. -/
import Derived.Test.YtbmjjmianhjfiaaDoorLawIn
namespace Go.Proofs.YtbmjjmianhjfiaaDoor
open Go.RowKit
attribute [local irreducible] sumS tagged

/-- The blocks with the counters 1, 2, .., k. -/
def catB (K N : List (BitVec 8)) : Nat → List (BitVec 8)
  | 0 => []
  | k + 1 => catB K N k ++ blockS K N (BitVec.ofInt 32 ((k : Int) + 1))
theorem length_catB (K N : List (BitVec 8)) (k : Nat) : (catB K N k).length = 64 * k := by
  induction k with
  | zero => rfl
  | succ k ih => rw [catB, List.length_append, ih, length_blockS]; omega
theorem getD_catB (K N : List (BitVec 8)) (k j : Nat) (hj : j < 64 * k) : (catB K N k).getD j 0#8 = (blockS K N (BitVec.ofNat 32 (1 + j / 64))).getD (j % 64) 0#8 := by
  induction k with
  | zero => omega
  | succ k ih =>
    have hl := length_catB K N k
    by_cases h : j < 64 * k
    · rw [← ih h]; simp only [catB, List.getD]; rw [List.getElem?_append_left (by omega)]
    · have e : BitVec.ofInt 32 ((k : Int) + 1) = BitVec.ofNat 32 (1 + j / 64) := by
        rw [show (k : Int) + 1 = ((1 + j / 64 : Nat) : Int) by omega]; exact BitVec.ofInt_natCast ..
      simp only [catB, List.getD]
      rw [List.getElem?_append_right (by omega), hl, e, show j - 64 * k = j % 64 by omega]
theorem stream_zero (K N : List (BitVec 8)) (m : Nat) (hm : m ≤ 256) : streamS K N (zeroB m) = (catB K N 4).take m := by
  apply ext_getD
  · rw [length_streamS, length_zeroB, List.length_take, length_catB]; omega
  · intro j hj
    rw [length_streamS, length_zeroB] at hj
    rw [getD_streamS _ _ _ _ (by rw [length_zeroB]; exact hj)]
    have h1 : (zeroB m).getD j 0#8 = 0#8 := by simp [zeroB, hj]
    have h2 : ((catB K N 4).take m).getD j 0#8 = (catB K N 4).getD j 0#8 := by simp [List.getD, hj]
    rw [h1, h2, getD_catB _ _ _ _ (by omega), BitVec.zero_xor]
/-- Masks. -/
theorem and_mask (x : Int) (k : Nat) (hk : k < 2147483648) : ∃ m : Nat, m ≤ k ∧ bits .and .i64 x (k : Int) = (m : Int) := by
  refine ⟨(BitVec.ofInt 64 x &&& BitVec.ofInt 64 (k : Int)).toNat, ?_, ?_⟩
  · rw [BitVec.toNat_and, BitVec.ofInt_natCast, BitVec.toNat_ofNat, Nat.mod_eq_of_lt (by omega)]
    exact Nat.and_le_right
  · show IntKind.i64.wrap (((BitVec.ofInt 64 x &&& BitVec.ofInt 64 (k : Int)).toNat : Nat) : Int) = _
    have : (BitVec.ofInt 64 x &&& BitVec.ofInt 64 (k : Int)).toNat ≤ k := by
      rw [BitVec.toNat_and, BitVec.ofInt_natCast, BitVec.toNat_ofNat, Nat.mod_eq_of_lt (by omega)]
      exact Nat.and_le_right
    rw [IntKind.wrap_i64]
    omega

theorem slice_lit0 (w : World) : (Instr.buildSlice 26 0 #[]).run Tryd.prog w = .ok (.slice (some ⟨w.heap.size, 0, none⟩) 0 0) (w.alloc (.cells #[] 5)) := by kernel_rfl

set_option maxRecDepth 100000 in
set_option maxHeartbeats 2000000 in
theorem blocks10 (K N : List (BitVec 8)) (hK : K.length = 32) (hN : N.length = 12) (many : Int) (w : World) (ht : Tabs w) :
    Calls Tryd.prog 10 #[.agg (K.map Y).toArray, .agg (N.map Y).toArray, .int .i64 many] w fun e w' => e = .returned (.bool true) ∧ Below w.heap.size w w' := by
  obtain ⟨m, hm, hand⟩ := and_mask many 255 (by omega)
  rw [show ((255 : Nat) : Int) = 255 from rfl] at hand
  have HL := Lib.hid (LIn.start w K N ht)
  have HT := Lib.hid ht
  have HS := Lib.hid (sane11 _ HL.out.tabs.t0 HL.out.tabs.t1 HL.out.tabs.t2)
  have HSK := Lib.hid (sz23 hK)
  have HSN := Lib.hid (sz25 hN)
  have HKN := Lib.hid (⟨hK, hN⟩ : _ ∧ _)
  have HA := Lib.hid hand
  clear hK hN hand ht
  go_enter Tryd.func10, Tryd.ntmps10
  go_wp2_with (go_at_call 11; with_reducible refine HS.out.mono ?_; rintro e w1 ⟨rfl, hb1⟩; have HL1 := Lib.hid (HL.out.kept hb1))
  have hmk := make26 m m (Nat.le_refl _) (by omega) .i64 .i64
  have hand := HA.out
  have hu := Tryd.underlying23
  have hu' := Tryd.underlying25
  have hi : (Tryd.prog.info? 23).map (·.size) = some (K.map Y).length := by rw [size23]; simp [HKN.out.1]
  have hi' : (Tryd.prog.info? 25).map (·.size) = some (N.map Y).length := by rw [size25]; simp [HKN.out.2]
  have HL2 := Lib.hid (HL1.out.alloc (.cells ((zeroB m).map Y).toArray 5)).drew
  have HC := Lib.hid (Stream15 K N HKN.out.1 HKN.out.2 (some ⟨w1.heap.size, 0, none⟩) m m (zeroB m) (w1.alloc (.cells ((zeroB m).map Y).toArray 5)).drew HL2.out.tabs.t2 (Rd.block (Blk.new w1 5 _)).drew (length_zeroB m) (by omega))
  refine wp_region_held_drew (S := LIn w K N) (by kernel_rfl) HL1.out.drew (fun _ => ?_)
  refine held_row (i := 0) w.heap.size (K.map Y) _ _ _ rfl (by kernel_rfl) (by kernel_rfl) (by kernel_rfl) (fun _ _ _ h => h) rfl (fun _ h => h.rk) hu rfl hi HL1.out.drew ?_
  simp only [Act.put, List.setIfInBounds_toArray, List.set_cons_zero, List.set_cons_succ]
  refine held_row (i := 1) (w.heap.size + 1) (N.map Y) _ _ _ rfl (by kernel_rfl) (by kernel_rfl) (by kernel_rfl) (fun _ _ _ h => h) rfl (fun _ h => h.rn) hu' rfl hi' HL1.out.drew ?_
  simp only [Act.put, List.setIfInBounds_toArray, List.set_cons_zero, List.set_cons_succ]
  refine held_pure (i := 2) (.int .i64 many) rfl (by kernel_rfl) (by kernel_rfl) (by kernel_rfl) (fun _ _ _ h => h) (fun _ _ => rfl) HL1.out.drew ?_
  simp only [Act.put, List.setIfInBounds_toArray, List.set_cons_zero, List.set_cons_succ]
  refine held_pure (i := 3) (.int .i64 m) rfl (by kernel_rfl) (by kernel_rfl) (by kernel_rfl) (fun _ _ _ h => h) (fun _ _ => by go_simp) HL1.out.drew ?_
  simp only [Act.put, List.setIfInBounds_toArray, List.set_cons_zero, List.set_cons_succ]
  refine held_step (i := 4) rfl (by kernel_rfl) (fun K' hK => ?_)
  go_wp2
  refine hK.out _ _ HL2.out ?_
  clear hK K'
  try simp only [Act.put, List.setIfInBounds_toArray, List.set_cons_zero, List.set_cons_succ]
  refine held_step (i := 5) rfl (by kernel_rfl) (fun K' hK => ?_)
  go_wp2_with fail
  (with_reducible refine HC.out.mono ?_); (rintro e w3 ⟨v, rfl, hv, hb3⟩; have HL3 := Lib.hid (HL2.out.kept hb3); obtain ⟨A7, c7, hve, hc7, hm7, hr7, -⟩ := hv.form; rw [length_streamS, length_zeroB] at hve hc7; subst hve; have HZ := Lib.hid hr7; clear hb3 hr7 hv)
  refine hK.out _ _ HL3.out ?_
  clear hK K'
  try simp only [Act.put, List.setIfInBounds_toArray, List.set_cons_zero, List.set_cons_succ]
  refine held_pure (i := 6) (.tuple #[.slice A7 m c7, .int .i64 0]) rfl (by kernel_rfl) (by kernel_rfl) (by kernel_rfl) (fun _ _ _ h => h) (fun _ _ => rfl) HL3.out ?_
  simp only [Act.put, List.setIfInBounds_toArray, List.set_cons_zero, List.set_cons_succ]
  refine held_pure (i := 7) (.slice A7 m c7) rfl (by kernel_rfl) (by kernel_rfl) (by kernel_rfl) (fun _ _ _ h => h) (fun _ _ => rfl) HL3.out ?_
  simp only [Act.put, List.setIfInBounds_toArray, List.set_cons_zero, List.set_cons_succ]
  refine held_pure (i := 8) (.int .i64 0) rfl (by kernel_rfl) (by kernel_rfl) (by kernel_rfl) (fun _ _ _ h => h) (fun _ _ => rfl) HL3.out ?_
  simp only [Act.put, List.setIfInBounds_toArray, List.set_cons_zero, List.set_cons_succ]
  refine held_pure (i := 9) (.slice A7 m c7) rfl (by kernel_rfl) (by kernel_rfl) (by kernel_rfl) (fun _ _ _ h => h) (fun _ _ => rfl) HL3.out ?_
  simp only [Act.put, List.setIfInBounds_toArray, List.set_cons_zero, List.set_cons_succ]
  refine held_pure (i := 10) (.int .i64 0) rfl (by kernel_rfl) (by kernel_rfl) (by kernel_rfl) (fun _ _ _ h => h) (fun _ _ => rfl) HL3.out ?_
  simp only [Act.put, List.setIfInBounds_toArray, List.set_cons_zero, List.set_cons_succ]
  refine wpAnyH_done (by kernel_rfl) ?_ _
  clear hu hu' hi hi' hmk hand hb1
  have hbl := slice_lit0
  go_wp2
  go_loopw [9, 10] (fun v i wr => ∃ k : Nat, k ≤ 4 ∧ i = .int .i64 ((k : Int) + 1) ∧ Own wr w3.heap.size v (catB K N k) ∧ Below w3.heap.size w3 wr) (fun _ i _ => 5 - (intOf i).toNat)
  case atStart => exact ⟨0, by omega, rfl, Own.make w3 w3.heap.size 0 (Nat.le_refl _) (by simp [maxLen]), (Below.refl _ w3).alloc (Nat.le_refl _) _⟩
  case round =>
    obtain ⟨k, hk, rfl, hown, hbel⟩ := hrel
    have HLr := Lib.hid (HL3.out.kept hbel)
    by_cases hlt : k < 4
    · have k6 : (k : Int) + 1 ≤ 4 := by omega
      have k7 : (k : Int) < 4 := by omega
      have HC1 := Lib.hid (Block16 K N HKN.out.1 HKN.out.2 ((k : Int) + 1) (by omega) (by omega) wr HLr.out.tabs.t2)
      have HO := Lib.hid (⟨hown, hbel⟩ : _ ∧ _)
      have hsz := hbel.size
      clear hown hbel
      go_wp2_with (first
        | ((with_reducible refine at_load 23 ?_); refine wpList_load_row rfl 23 _ rfl w.heap.size rfl 23 _ (0, 0) _ HLr.out.key Tryd.underlying23 rfl HSK.out ?_)
        | ((with_reducible refine at_load 25 ?_); refine wpList_load_row rfl 25 _ rfl (w.heap.size + 1) rfl 25 _ (0, 0) _ HLr.out.non Tryd.underlying25 rfl HSN.out ?_)
        | (go_at_call 16; (with_reducible refine HC1.out.mono ?_); rintro e w4 ⟨v4, rfl, hv4, hb4⟩; obtain ⟨A4, c4, hve, -, -, hr4, -⟩ := hv4.form; rw [length_blockS] at hve; subst hve; have HR4 := Lib.hid hr4; have HO4 := Lib.hid (HO.out.1.below hb4); have HB4 := Lib.hid (HO.out.2.trans (hb4.mono hsz)); have hs4 := HB4.out.size; clear hv4 hr4 hb4)
        | ((with_reducible refine at_append 26 26 ?_); refine wpList_app26 rfl (.tmp 43) (.tmp 44) rfl w3.heap.size u9 (catB K N k) A4 64 c4 (blockS K N (BitVec.ofInt 32 ((k : Int) + 1))) rfl rfl HO4.out HR4.out (length_blockS _ _ _) (by rw [length_catB]; omega) hs4 ?_; intro v' w' hown' hg' hat'))
      exact ⟨⟨k + 1, by omega, by simp, hown', below_app HB4.out hs4 HO4.out (Nat.le_refl _) hg'⟩, by simp [intOf]; omega⟩
    · obtain rfl : k = 4 := by omega
      rw [show ((4 : Nat) : Int) + 1 = 5 from rfl]
      have hz := HZ.out.below hbel (Nat.le_refl _)
      obtain ⟨A9, c9, hve, hc9, hm9, hr9, -⟩ := hown.form
      rw [length_catB] at hve hc9
      subst hve
      have h1 : ∀ n, (convert 26 9 (.slice A7 m c7)).run Tryd.prog (wr.drewN n) = .ok (.string (strOf (streamS K N (zeroB m)))) (wr.drewN n) := fun n =>
        run_str26 (wr.drewN n) A7 m c7 _ (hz.drewN n) (by rw [length_streamS, length_zeroB])
      have h2 : ∀ n, (convert 26 9 (.slice A9 m c9)).run Tryd.prog (wr.drewN n) = .ok (.string (strOf (streamS K N (zeroB m)))) (wr.drewN n) := fun n =>
        run_str26 (wr.drewN n) A9 m c9 _ (by rw [stream_zero K N m (by omega)]; exact (hr9.take m).drewN n) (by rw [length_streamS, length_zeroB])
      have HF := Lib.hid (HLr.out.old)
      have hand := HA.out
      have i0 : (0 : Int) ≤ (m : Int) := by omega
      have i1 : (m : Int) ≤ (c9 : Int) := by omega
      clear hk hlt hown hbel hz hr9 hc9 hm9
      go_wp2
      go_quiet (fail)
      go_wp2
      go_ret
      exact ⟨rfl, below_drewN HF.out nq⟩
end Go.Proofs.YtbmjjmianhjfiaaDoor
