/- The law CipherPlaces, walked: each byte is treated by its place alone. -/
import Derived.Test.YtbmjjmianhjfiaaDoorBlocks
namespace Go.Proofs.YtbmjjmianhjfiaaDoor
open Go.RowKit
attribute [local irreducible] sumS tagged

theorem stream_take (K N xs : List (BitVec 8)) (m : Nat) (hm : m ≤ xs.length) : streamS K N (xs.take m) = (streamS K N xs).take m := by
  apply ext_getD
  · simp only [length_streamS, List.length_take]
  · intro j hj
    simp only [length_streamS, List.length_take] at hj
    have h1 : (xs.take m).getD j 0#8 = xs.getD j 0#8 := by simp [List.getD, show j < m by omega]
    have h2 : ((streamS K N xs).take m).getD j 0#8 = (streamS K N xs).getD j 0#8 := by simp [List.getD, show j < m by omega]
    rw [getD_streamS _ _ _ _ (by rw [List.length_take]; omega), h1, h2, getD_streamS _ _ _ _ (by omega)]
theorem stream_at (K N xs : List (BitVec 8)) (n j : Nat) (hn : xs.length = n) (hj : j < n) : (streamS K N xs).getD j 0#8 = xs.getD j 0#8 ^^^ (streamS K N (zeroB n)).getD j 0#8 := by
  have h1 : (zeroB n).getD j 0#8 = 0#8 := by simp [zeroB, hj]
  rw [getD_streamS _ _ _ _ (by omega), getD_streamS _ _ _ _ (by rw [length_zeroB]; exact hj), h1, BitVec.zero_xor]
theorem Rd.cell {w : World} {b off : Nat} {xs : List (BitVec 8)} (h : Rd w (some ⟨b, off, none⟩) xs) (i : Nat) (hi : i < xs.length) : w.cell? ⟨b, off + i, none⟩ = some (.int .u8 (B (xs.getD i 0))) := by
  obtain ⟨b', off', e, hc⟩ := h (by omega)
  injection e with e
  injection e with e1 e2
  subst e1; subst e2
  exact hc i hi

theorem own_shape {w : World} {base : Nat} {v : Value} {xs : List (BitVec 8)} (h : Own w base v xs) (h0 : 0 < xs.length) : ∃ g cap, v = .slice (some ⟨g, 0, none⟩) xs.length cap ∧ xs.length ≤ cap ∧ cap ≤ maxLen ∧ base ≤ g ∧ g < w.heap.size ∧ Rd w (some ⟨g, 0, none⟩) xs := by
  obtain ⟨g, cap, rfl, h1, h2, h3, h4⟩ := h.some h0
  exact ⟨g, cap, rfl, h1, h2, h3, h4, Rd.of_own h⟩
set_option maxRecDepth 100000 in
set_option maxHeartbeats 2000000 in
theorem places9_out (K N : List (BitVec 8)) (A : Option Addr) (n c : Nat) (cut : Int) (w : World) (ht : Tabs w) (h : 400 < n ∨ n = 0) :
    Calls Tryd.prog 9 #[.agg (K.map Y).toArray, .agg (N.map Y).toArray, .slice A n c, .int .i64 cut] w fun e w' => e = .returned (.bool true) ∧ Below w.heap.size w w' := by
  have HL := Lib.hid (LIn.start w K N ht)
  have HS := Lib.hid (sane11 _ HL.out.tabs.t0 HL.out.tabs.t1 HL.out.tabs.t2)
  rcases h with h | h
  · have i0 : (400 : Int) < (n : Int) := by omega
    clear h
    go_enter Tryd.func9, Tryd.ntmps9
    go_wp2_with (go_at_call 11; with_reducible refine HS.out.mono ?_; rintro e w1 ⟨rfl, hb1⟩; have HL1 := Lib.hid (HL.out.kept hb1))
    go_ret
    exact ⟨rfl, HL1.out.old⟩
  · subst h
    go_enter Tryd.func9, Tryd.ntmps9
    go_wp2_with (go_at_call 11; with_reducible refine HS.out.mono ?_; rintro e w1 ⟨rfl, hb1⟩; have HL1 := Lib.hid (HL.out.kept hb1))
    go_ret
    exact ⟨rfl, HL1.out.old⟩

theorem rem_nat (x : Int) (n : Nat) : ∃ a : Nat, a ≤ n ∧ ∀ m : Nat, bits .and .i64 x 1023 = (m : Int) → Int.tmod (m : Int) ((n : Int) + 1) = (a : Int) ∧ (m : Int) % ((n : Int) + 1) = (a : Int) := by
  obtain ⟨m, hm, hx⟩ := and_mask x 1023 (by omega)
  rw [show ((1023 : Nat) : Int) = 1023 from rfl] at hx
  refine ⟨m % (n + 1), by have := Nat.mod_lt m (show 0 < n + 1 by omega); omega, fun m' h => ?_⟩
  obtain rfl : m' = m := by rw [h] at hx; exact Int.ofNat.inj hx
  have e : (m' : Int) % ((n : Int) + 1) = ((m' % (n + 1) : Nat) : Int) := by push_cast; rfl
  exact ⟨by rw [Int.tmod_eq_emod_of_nonneg (by omega)]; exact e, e⟩

set_option maxRecDepth 100000 in
set_option maxHeartbeats 4000000 in
theorem places9_in (K N : List (BitVec 8)) (hK : K.length = 32) (hN : N.length = 12) (b off n c : Nat) (xs : List (BitVec 8)) (cut : Int) (w : World) (ht : Tabs w) (hr : Rd w (some ⟨b, off, none⟩) xs) (hn : xs.length = n) (h0 : 0 < n) (h1 : n ≤ 400) (hnc : n ≤ c) (_hcm : c ≤ maxLen) :
    Calls Tryd.prog 9 #[.agg (K.map Y).toArray, .agg (N.map Y).toArray, .slice (some ⟨b, off, none⟩) n c, .int .i64 cut] w fun e w' => e = .returned (.bool true) ∧ Below w.heap.size w w' := by
  obtain ⟨m, hm, hand⟩ := and_mask cut 1023 (by omega)
  rw [show ((1023 : Nat) : Int) = 1023 from rfl] at hand
  obtain ⟨at_, hat, hrem⟩ := rem_nat cut n
  have hrem := hrem m hand
  have HL := Lib.hid (LIn.start w K N ht)
  have HS := Lib.hid (sane11 _ HL.out.tabs.t0 HL.out.tabs.t1 HL.out.tabs.t2)
  have HSK := Lib.hid (sz23 hK)
  have HSN := Lib.hid (sz25 hN)
  have HKN := Lib.hid (⟨hK, hN⟩ : _ ∧ _)
  have HR := Lib.hid (⟨hr, hn⟩ : _ ∧ _)
  have hrem1 := hrem.1
  have hrem2 := hrem.2
  have i0 : ¬ (400 : Int) < (n : Int) := by omega
  have i1 : ¬ (n : Int) = 0 := by omega
  have b0 : decide ((400 : Int) < (n : Int)) = false := decide_eq_false i0
  have b1 : ((n : Int) == 0) = false := by simpa using i1
  have i2 : (0 : Int) < (n : Int) := by omega
  have i3 : (n : Int) ≤ 400 := by omega
  have hmk := make26 n n (Nat.le_refl _) (by omega) .i64 .i64
  clear hK hN hr hn ht hrem h0
  go_enter Tryd.func9, Tryd.ntmps9
  go_wp2_with (first
    | ((with_reducible refine at_load 23 ?_); refine wpList_load_row rfl 23 _ rfl w.heap.size rfl 23 _ (0, 0) _ HL4.out.key Tryd.underlying23 rfl HSK.out ?_)
    | ((with_reducible refine at_load 25 ?_); refine wpList_load_row rfl 25 _ rfl (w.heap.size + 1) rfl 25 _ (0, 0) _ HL4.out.non Tryd.underlying25 rfl HSN.out ?_)
    | ((with_reducible refine at_load 23 ?_); refine wpList_load_row rfl 23 _ rfl w.heap.size rfl 23 _ (0, 0) _ HL3.out.key Tryd.underlying23 rfl HSK.out ?_)
    | ((with_reducible refine at_load 25 ?_); refine wpList_load_row rfl 25 _ rfl (w.heap.size + 1) rfl 25 _ (0, 0) _ HL3.out.non Tryd.underlying25 rfl HSN.out ?_)
    | ((with_reducible refine at_load 23 ?_); refine wpList_load_row rfl 23 _ rfl w.heap.size rfl 23 _ (0, 0) _ HL2.out.key Tryd.underlying23 rfl HSK.out ?_)
    | ((with_reducible refine at_load 25 ?_); refine wpList_load_row rfl 25 _ rfl (w.heap.size + 1) rfl 25 _ (0, 0) _ HL2.out.non Tryd.underlying25 rfl HSN.out ?_)
    | (go_at_call 11; with_reducible refine HS.out.mono ?_; rintro e w1 ⟨rfl, hb1⟩; have HL1 := Lib.hid (HL.out.kept hb1); have HL2 := Lib.hid (HL1.out.alloc (.cells ((zeroB n).map Y).toArray 5)); have HC1 := Lib.hid (Stream15 K N HKN.out.1 HKN.out.2 (some ⟨b, off, none⟩) n c xs _ HL2.out.tabs.t2 (HR.out.1.below HL2.out.old (Nat.le_refl _)) HR.out.2 (by omega)); have HZ2 := Lib.hid (Rd.block (Blk.new w1 5 ((zeroB n).map Y))); clear hb1)
    | (go_at_call 15; (with_reducible refine HC1.out.mono ?_); rintro e w3 ⟨v11, rfl, hv11, hb3⟩; obtain ⟨g11, c11, hve, hc11, hm11, hg11, hl11, hr11⟩ := own_shape hv11 (by rw [length_streamS, HR.out.2]; omega); rw [length_streamS, HR.out.2] at hve hc11; subst hve; have HX3 := Lib.hid hr11; have HZ3 := Lib.hid (HZ2.out.kept hb3); have HL3 := Lib.hid (HL2.out.kept hb3); have HC2 := Lib.hid (Stream15 K N HKN.out.1 HKN.out.2 (some ⟨w1.heap.size, 0, none⟩) n n (zeroB n) w3 HL3.out.tabs.t2 HZ3.out (length_zeroB n) (by omega)); clear hv11 hb3 hr11)
    | (go_at_call 15; (with_reducible refine HC2.out.mono ?_); rintro e w4 ⟨v13, rfl, hv13, hb4⟩; obtain ⟨g13, c13, hve, hc13, hm13, hg13, hl13, hr13⟩ := own_shape hv13 (by rw [length_streamS, length_zeroB]; omega); rw [length_streamS, length_zeroB] at hve hc13; subst hve; have HZ4 := Lib.hid hr13; have HX4 := Lib.hid (HX3.out.kept hb4); have HL4 := Lib.hid (HL3.out.kept hb4); have HC3 := Lib.hid (Stream15 K N HKN.out.1 HKN.out.2 (some ⟨g11, 0, none⟩) n c11 (streamS K N xs) w4 HL4.out.tabs.t2 HX4.out (by rw [length_streamS, HR.out.2]) (by omega)); clear hv13 hb4 hr13)
    | (go_at_call 15; (with_reducible refine HC3.out.mono ?_); rintro e w5 ⟨v15, rfl, hv15, hb5⟩; obtain ⟨A15, c15, hve, hc15, hm15, hr15, -⟩ := hv15.form; rw [length_streamS, length_streamS, HR.out.2] at hve hc15; subst hve; rw [streamS_twice] at hr15; have HY5 := Lib.hid hr15; have HZ5 := Lib.hid (HZ4.out.kept hb5); have HX5 := Lib.hid (HX4.out.kept hb5); have HL5 := Lib.hid (HL4.out.kept hb5); clear hv15 hb5 hr15))
  clear hmk
  have hu := Tryd.underlying23
  have hu' := Tryd.underlying25
  have hi : (Tryd.prog.info? 23).map (·.size) = some (K.map Y).length := by rw [size23]; simp [HKN.out.1]
  have hi' : (Tryd.prog.info? 25).map (·.size) = some (N.map Y).length := by rw [size25]; simp [HKN.out.2]
  have j0 : (0 : Int) ≤ (at_ : Int) := by omega
  have j1 : (at_ : Int) ≤ (c : Int) := by omega
  have HC4 := Lib.hid (Stream15 K N HKN.out.1 HKN.out.2 (some ⟨b, off, none⟩) at_ c (xs.take at_) w5.drew HL5.out.drew.tabs.t2 ((HR.out.1.take at_).below HL5.out.drew.old (Nat.le_refl _)) (by rw [List.length_take, HR.out.2]; omega) (by omega))
  refine wp_region_held_drew (S := LIn w K N) (by kernel_rfl) HL5.out.drew (fun _ => ?_)
  refine held_row (i := 0) w.heap.size (K.map Y) _ _ _ rfl (by kernel_rfl) (by kernel_rfl) (by kernel_rfl) (fun _ _ _ h => h) rfl (fun _ h => h.rk) hu rfl hi HL5.out.drew ?_
  simp only [Act.put, List.setIfInBounds_toArray, List.set_cons_zero, List.set_cons_succ]
  refine held_row (i := 1) (w.heap.size + 1) (N.map Y) _ _ _ rfl (by kernel_rfl) (by kernel_rfl) (by kernel_rfl) (fun _ _ _ h => h) rfl (fun _ h => h.rn) hu' rfl hi' HL5.out.drew ?_
  simp only [Act.put, List.setIfInBounds_toArray, List.set_cons_zero, List.set_cons_succ]
  refine held_pure (i := 2) (.slice (some ⟨b, off, none⟩) n c) rfl (by kernel_rfl) (by kernel_rfl) (by kernel_rfl) (fun _ _ _ h => h) (fun _ _ => rfl) HL5.out.drew ?_
  simp only [Act.put, List.setIfInBounds_toArray, List.set_cons_zero, List.set_cons_succ]
  refine held_pure (i := 3) (.int .i64 at_) rfl (by kernel_rfl) (by kernel_rfl) (by kernel_rfl) (fun _ _ _ h => h) (fun _ _ => rfl) HL5.out.drew ?_
  simp only [Act.put, List.setIfInBounds_toArray, List.set_cons_zero, List.set_cons_succ]
  refine held_pure (i := 4) (.slice (some ⟨b, off, none⟩) at_ c) rfl (by kernel_rfl) (by kernel_rfl) (by kernel_rfl) (fun _ _ _ h => h) (fun _ _ => by go_simp) HL5.out.drew ?_
  simp only [Act.put, List.setIfInBounds_toArray, List.set_cons_zero, List.set_cons_succ]
  refine held_step (i := 5) rfl (by kernel_rfl) (fun K' hK => ?_)
  go_wp2_with fail
  (with_reducible refine HC4.out.mono ?_)
  rintro e w6 ⟨v17, rfl, hv17, hb6⟩
  obtain ⟨A17, c17, hve, hc17, hm17, hr17, -⟩ := hv17.form
  rw [length_streamS, List.length_take, show min at_ xs.length = at_ by have := HR.out.2; omega] at hve hc17
  subst hve
  rw [stream_take K N xs at_ (by have := HR.out.2; omega)] at hr17
  have HL6 := Lib.hid (HL5.out.drew.kept hb6)
  have HX6 := Lib.hid (HX5.out.drew.kept hb6)
  have HY6 := Lib.hid (HY5.out.drew.kept hb6)
  have HZ6 := Lib.hid (HZ5.out.drew.kept hb6)
  have HP6 := Lib.hid hr17
  clear hv17 hb6 hr17
  refine hK.out _ _ HL6.out ?_
  clear hK K'
  try simp only [Act.put, List.setIfInBounds_toArray, List.set_cons_zero, List.set_cons_succ]
  refine held_pure (i := 6) (.tuple #[.slice A17 at_ c17, .int .i64 0]) rfl (by kernel_rfl) (by kernel_rfl) (by kernel_rfl) (fun _ _ _ h => h) (fun _ _ => rfl) HL6.out ?_
  simp only [Act.put, List.setIfInBounds_toArray, List.set_cons_zero, List.set_cons_succ]
  refine held_pure (i := 7) (.slice A17 at_ c17) rfl (by kernel_rfl) (by kernel_rfl) (by kernel_rfl) (fun _ _ _ h => h) (fun _ _ => rfl) HL6.out ?_
  simp only [Act.put, List.setIfInBounds_toArray, List.set_cons_zero, List.set_cons_succ]
  refine held_pure (i := 8) (.int .i64 0) rfl (by kernel_rfl) (by kernel_rfl) (by kernel_rfl) (fun _ _ _ h => h) (fun _ _ => rfl) HL6.out ?_
  simp only [Act.put, List.setIfInBounds_toArray, List.set_cons_zero, List.set_cons_succ]
  refine held_pure (i := 9) (.slice A17 at_ c17) rfl (by kernel_rfl) (by kernel_rfl) (by kernel_rfl) (fun _ _ _ h => h) (fun _ _ => rfl) HL6.out ?_
  simp only [Act.put, List.setIfInBounds_toArray, List.set_cons_zero, List.set_cons_succ]
  refine held_pure (i := 10) (.int .i64 0) rfl (by kernel_rfl) (by kernel_rfl) (by kernel_rfl) (fun _ _ _ h => h) (fun _ _ => rfl) HL6.out ?_
  simp only [Act.put, List.setIfInBounds_toArray, List.set_cons_zero, List.set_cons_succ]
  refine wpAnyH_done (by kernel_rfl) ?_ _
  clear hu hu' hi hi'
  have hra := HR.out.1.below HL6.out.old (Nat.le_refl _)
  have hn := HR.out.2
  have hln : (streamS K N xs).length = n := by rw [length_streamS, hn]
  have s1 : ∀ k, (convert 26 9 (.slice A15 n c15)).run Tryd.prog (w6.drewN k) = .ok (.string (strOf xs)) (w6.drewN k) := fun k => run_str26 (w6.drewN k) A15 n c15 _ (HY6.out.drewN k) hn
  have s2 : ∀ k, (convert 26 9 (.slice (some ⟨b, off, none⟩) n c)).run Tryd.prog (w6.drewN k) = .ok (.string (strOf xs)) (w6.drewN k) := fun k => run_str26 (w6.drewN k) _ n c _ (hra.drewN k) hn
  have s3 : ∀ k, (convert 26 9 (.slice A17 at_ c17)).run Tryd.prog (w6.drewN k) = .ok (.string (strOf ((streamS K N xs).take at_))) (w6.drewN k) := fun k => run_str26 (w6.drewN k) A17 at_ c17 _ (HP6.out.drewN k) (by rw [List.length_take, hln]; omega)
  have s4 : ∀ k, (convert 26 9 (.slice (some ⟨g11, 0, none⟩) at_ c11)).run Tryd.prog (w6.drewN k) = .ok (.string (strOf ((streamS K N xs).take at_))) (w6.drewN k) := fun k => run_str26 (w6.drewN k) _ at_ c11 _ ((HX6.out.take at_).drewN k) (by rw [List.length_take, hln]; omega)
  have j2 : (at_ : Int) ≤ (c11 : Int) := by omega
  have HRA := Lib.hid hra
  have HLN := Lib.hid hln
  clear hra hn hln
  go_wp2
  go_quiet (fail)
  go_wp2
  clear s1 s2 s3 s4
  go_loopw [115] (fun i wr => ∃ k q : Nat, k ≤ n ∧ i = .int .i64 k ∧ wr = w6.drewN q) (fun i _ => n - (intOf i).toNat)
  case atStart => exact ⟨0, nq, by omega, rfl, rfl⟩
  case round =>
    obtain ⟨k, q, hk, rfl, rfl⟩ := hrel
    by_cases hlt : k < n
    · have k1 : (k : Int) < (n : Int) := by omega
      have hn := HR.out.2
      have ca := HRA.out.cell k (by omega)
      have cz := HZ6.out.cell k (by rw [length_streamS, length_zeroB]; omega)
      have cx := HX6.out.cell k (by rw [HLN.out]; omega)
      rw [Nat.zero_add] at cz cx
      rw [show (streamS K N xs).getD k 0 = xs.getD k 0 ^^^ (streamS K N (zeroB n)).getD k 0 from stream_at K N xs n k hn hlt] at cx
      have hxor := B_xor
      clear hn
      go_wp2
      go_quiet (fail)
      go_wp2
      exact ⟨⟨k + 1, _, by omega, by go_num, rfl⟩, by simp [intOf]; omega⟩
    · obtain rfl : k = n := by omega
      go_wp2
      go_ret
      exact ⟨rfl, below_drewN HL6.out.old q⟩
end Go.Proofs.YtbmjjmianhjfiaaDoor
