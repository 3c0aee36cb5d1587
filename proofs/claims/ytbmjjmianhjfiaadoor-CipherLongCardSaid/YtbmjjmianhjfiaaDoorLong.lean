/- The law CipherLong, walked: 65536 bytes are encrypted, one more is refused. -/
import Derived.Test.YtbmjjmianhjfiaaDoorBack
namespace Go.Proofs.YtbmjjmianhjfiaaDoor
open Go.RowKit
attribute [local irreducible] sumS tagged tagS

/-- The bytes of the law: 65537, all 0 but the one before the last. -/
def longB (b : BitVec 8) : List (BitVec 8) := (zeroB 65537).set 65535 b
theorem length_longB (b : BitVec 8) : (longB b).length = 65537 := by simp only [longB, List.length_set, length_zeroB]
theorem longB_at (b : BitVec 8) : (longB b).getD 65535 0 = b := by
  unfold longB
  rw [List.getD, List.getElem?_set, if_pos rfl, if_pos (by rw [length_zeroB]; omega)]
  rfl
theorem longB_take (b : BitVec 8) : ((longB b).take 65536).getD 65535 0 = b := by
  rw [List.getD, List.getElem?_take, if_pos (by omega)]
  exact longB_at b
theorem longB_eq (b : BitVec 8) : longB b = (zeroB 65537).set 65535 b := rfl
attribute [local irreducible] longB

theorem open_long (K N : List (BitVec 8)) (hK : K.length = 32) (hN : N.length = 12) (A : Option Addr) (c : Nat) (ys : List (BitVec 8)) (w : World) (ht : Tabs w) (hm : ys.length = 65536) (hr : Rd w A (sealS K N [] ys)) (hc : 65552 ≤ c) (hcm : c ≤ maxLen) :
    Calls Tryd.prog 14 #[.agg (K.map Y).toArray, .agg (N.map Y).toArray, .slice none 0 0, .slice A 65552 c] w fun e w' => ∃ A' c', e = .returned (.tuple #[.slice A' 65536 c', .int .i64 0]) ∧ 65536 ≤ c' ∧ Rd w' A' ys ∧ Below w.heap.size w w' :=
  open_back K N hK hN none A 0 0 65536 c [] ys w ht (Rd.nil _ _) rfl (by omega) hm (by omega) hr hc hcm

theorem forget_any {P : Program} {ops : Array Oper} {Q : Exit → Act → World → Prop} {S : World → Prop} {fuel : Nat} {listed : Array Bool} {a : Act} {w : World} (R : World → Prop) (h : R w) (k : ∀ w', R w' → wpAnyH P .any ops Q S fuel listed a w') : wpAnyH P .any ops Q S fuel listed a w := k w h

set_option maxRecDepth 100000 in
set_option maxHeartbeats 4000000 in
theorem long4 (K N : List (BitVec 8)) (hK : K.length = 32) (hN : N.length = 12) (last : BitVec 8) (w : World) (ht : Tabs w) :
    Calls Tryd.prog 4 #[.agg (K.map Y).toArray, .agg (N.map Y).toArray, .int .u8 (B last)] w fun e w' => e = .returned (.bool true) ∧ Below w.heap.size w w' := by
  have HL := Lib.hid (LIn.start w K N ht)
  have HS := Lib.hid (sane11 _ HL.out.tabs.t0 HL.out.tabs.t1 HL.out.tabs.t2)
  have HSK := Lib.hid (sz23 hK)
  have HSN := Lib.hid (sz25 hN)
  have HKN := Lib.hid (⟨hK, hN⟩ : _ ∧ _)
  have HT := Lib.hid (show ((longB last).take 65536).length = 65536 by rw [List.length_take, length_longB]; omega)
  have hmk := make26 65537 65537 (Nat.le_refl _) (by omega) .i64 .i64
  rw [show ((65537 : Nat) : Int) = 65537 from rfl] at hmk
  clear hK hN ht
  go_enter Tryd.func4, Tryd.ntmps4
  generalize hz : (zeroB 65537).map Y = Z at hmk
  have hzl : 65535 < Z.length := by rw [← hz, List.length_map, length_zeroB]; omega
  have HZ : Hid (Z.set 65535 (.int .u8 (B last)) = (longB last).map Y) := by rw [← hz, longB_eq, List.map_set]; rfl
  clear hz
  go_wp2_with (first
    | (go_at_call 11; with_reducible refine HS.out.mono ?_; rintro e w1 ⟨rfl, hb1⟩; have HL1 := Lib.hid (HL.out.kept hb1); clear hb1))
  refine forget_wp (fun w2 => LIn w K N w2 ∧ Rd w2 (some ⟨w1.heap.size, 0, none⟩) (longB last)) ⟨HL1.out.alloc _, by rw [HZ.out]; exact Rd.block (Blk.new w1 5 _)⟩ ?_
  rintro w2 ⟨hl2, hb2⟩
  have HL2 := Lib.hid hl2
  have HB2 := Lib.hid hb2
  clear hl2 hb2 hmk hzl HZ
  have hu := Tryd.underlying23
  have hu' := Tryd.underlying25
  have hi : (Tryd.prog.info? 23).map (·.size) = some (K.map Y).length := by rw [size23]; simp [HKN.out.1]
  have hi' : (Tryd.prog.info? 25).map (·.size) = some (N.map Y).length := by rw [size25]; simp [HKN.out.2]
  have HC1 := Lib.hid (seal12 K N HKN.out.1 HKN.out.2 none (some ⟨w1.heap.size, 0, none⟩) 0 65536 0 65537 [] ((longB last).take 65536) w2.drew HL2.out.drew.tabs.t0 HL2.out.drew.tabs.t1 HL2.out.drew.tabs.t2 (Rd.nil _ _) (HB2.out.drew.take 65536) rfl HT.out (by omega) (by omega))
  refine wp_region_held_drew (S := LIn w K N) (by kernel_rfl) HL2.out.drew (fun _ => ?_)
  refine held_row (i := 0) w.heap.size (K.map Y) _ _ _ rfl (by kernel_rfl) (by kernel_rfl) (by kernel_rfl) (fun _ _ _ h => h) rfl (fun _ h => h.rk) hu rfl hi HL2.out.drew ?_
  simp only [Act.put, List.setIfInBounds_toArray, List.set_cons_zero, List.set_cons_succ]
  refine held_row (i := 1) (w.heap.size + 1) (N.map Y) _ _ _ rfl (by kernel_rfl) (by kernel_rfl) (by kernel_rfl) (fun _ _ _ h => h) rfl (fun _ h => h.rn) hu' rfl hi' HL2.out.drew ?_
  simp only [Act.put, List.setIfInBounds_toArray, List.set_cons_zero, List.set_cons_succ]
  refine held_pure (i := 2) (.slice (some ⟨w1.heap.size, 0, none⟩) 65537 65537) rfl (by kernel_rfl) (by kernel_rfl) (by kernel_rfl) (fun _ _ _ h => h) (fun _ _ => rfl) HL2.out.drew ?_
  simp only [Act.put, List.setIfInBounds_toArray, List.set_cons_zero, List.set_cons_succ]
  refine held_pure (i := 3) (.slice (some ⟨w1.heap.size, 0, none⟩) 65536 65537) rfl (by kernel_rfl) (by kernel_rfl) (by kernel_rfl) (fun _ _ _ h => h) (fun _ _ => by go_simp) HL2.out.drew ?_
  simp only [Act.put, List.setIfInBounds_toArray, List.set_cons_zero, List.set_cons_succ]
  refine held_step (i := 4) rfl (by kernel_rfl) (fun K' hK => ?_)
  go_wp2_with fail
  (with_reducible refine HC1.out.mono ?_)
  rintro e w3 ⟨v8, rfl, hv8, hb3⟩
  obtain ⟨A8, c8, hve, hc8, hm8, hr8, -⟩ := hv8.form
  rw [length_sealS, HT.out] at hve hc8
  simp only [Nat.reduceAdd] at hve hc8
  subst hve
  have HL3 := Lib.hid (HL2.out.drew.kept hb3)
  have HX3 := Lib.hid hr8
  have HB3 := Lib.hid (HB2.out.drew.kept hb3)
  clear hv8 hb3 hr8
  refine hK.out _ _ HL3.out ?_
  clear hK K'
  try simp only [Act.put, List.setIfInBounds_toArray, List.set_cons_zero, List.set_cons_succ]
  refine held_pure (i := 5) (.tuple #[.slice A8 65552 c8, .int .i64 0]) rfl (by kernel_rfl) (by kernel_rfl) (by kernel_rfl) (fun _ _ _ h => h) (fun _ _ => rfl) HL3.out ?_
  simp only [Act.put, List.setIfInBounds_toArray, List.set_cons_zero, List.set_cons_succ]
  refine held_pure (i := 6) (.slice A8 65552 c8) rfl (by kernel_rfl) (by kernel_rfl) (by kernel_rfl) (fun _ _ _ h => h) (fun _ _ => rfl) HL3.out ?_
  simp only [Act.put, List.setIfInBounds_toArray, List.set_cons_zero, List.set_cons_succ]
  refine held_pure (i := 7) (.int .i64 0) rfl (by kernel_rfl) (by kernel_rfl) (by kernel_rfl) (fun _ _ _ h => h) (fun _ _ => rfl) HL3.out ?_
  simp only [Act.put, List.setIfInBounds_toArray, List.set_cons_zero, List.set_cons_succ]
  refine held_pure (i := 8) (.slice A8 65552 c8) rfl (by kernel_rfl) (by kernel_rfl) (by kernel_rfl) (fun _ _ _ h => h) (fun _ _ => rfl) HL3.out ?_
  simp only [Act.put, List.setIfInBounds_toArray, List.set_cons_zero, List.set_cons_succ]
  refine held_pure (i := 9) (.int .i64 0) rfl (by kernel_rfl) (by kernel_rfl) (by kernel_rfl) (fun _ _ _ h => h) (fun _ _ => rfl) HL3.out ?_
  simp only [Act.put, List.setIfInBounds_toArray, List.set_cons_zero, List.set_cons_succ]
  refine wpAnyH_done (by kernel_rfl) ?_ _
  have HC2 := Lib.hid (open_long K N HKN.out.1 HKN.out.2 A8 c8 ((longB last).take 65536) w3 HL3.out.tabs HT.out HX3.out hc8 hm8)
  go_wp2_with (first
    | ((with_reducible refine at_load 23 ?_); refine wpList_load_row rfl 23 _ rfl w.heap.size rfl 23 _ (0, 0) _ HL5.out.key Tryd.underlying23 rfl HSK.out ?_)
    | ((with_reducible refine at_load 25 ?_); refine wpList_load_row rfl 25 _ rfl (w.heap.size + 1) rfl 25 _ (0, 0) _ HL5.out.non Tryd.underlying25 rfl HSN.out ?_)
    | ((with_reducible refine at_load 23 ?_); refine wpList_load_row rfl 23 _ rfl w.heap.size rfl 23 _ (0, 0) _ HL4.out.key Tryd.underlying23 rfl HSK.out ?_)
    | ((with_reducible refine at_load 25 ?_); refine wpList_load_row rfl 25 _ rfl (w.heap.size + 1) rfl 25 _ (0, 0) _ HL4.out.non Tryd.underlying25 rfl HSN.out ?_)
    | ((with_reducible refine at_load 23 ?_); refine wpList_load_row rfl 23 _ rfl w.heap.size rfl 23 _ (0, 0) _ HL3.out.key Tryd.underlying23 rfl HSK.out ?_)
    | ((with_reducible refine at_load 25 ?_); refine wpList_load_row rfl 25 _ rfl (w.heap.size + 1) rfl 25 _ (0, 0) _ HL3.out.non Tryd.underlying25 rfl HSN.out ?_)
    | (go_at_call 14; (with_reducible refine HC2.out.mono ?_); rintro e w4 ⟨A10, c10, rfl, hc10, hr10, hb4⟩; have HX4 := Lib.hid (HX3.out.kept hb4); have HY4 := Lib.hid hr10; have HL4 := Lib.hid (HL3.out.kept hb4); have HC3 := Lib.hid (Stream15_no K N (some ⟨w1.heap.size, 0, none⟩) 65537 65537 w4 (by omega) (by omega)); clear hr10 hb4)
    | (go_at_call 15; (with_reducible refine HC3.out.mono ?_); rintro e w5 ⟨rfl, hb5⟩; have HX5 := Lib.hid (HX4.out.kept hb5); have HY5 := Lib.hid (HY4.out.kept hb5); have HL5 := Lib.hid (HL4.out.kept hb5); have HC4 := Lib.hid (seal12_no K N HKN.out.1 HKN.out.2 none (some ⟨w1.heap.size, 0, none⟩) 0 65537 0 65537 w5 (by omega) (by omega)); clear hb5)
    | (go_at_call 12; (with_reducible refine HC4.out.mono ?_); rintro e w6 ⟨rfl, hb6⟩; have HX6 := Lib.hid (HX5.out.kept hb6); have HY6 := Lib.hid (HY5.out.kept hb6); have HL6 := Lib.hid (HL5.out.kept hb6); clear hb6))
  obtain ⟨b10, o10, rfl, hcell⟩ := HY6.out (by rw [HT.out]; omega)
  have hcl := hcell 65535 (by rw [HT.out]; omega)
  rw [longB_take last] at hcl
  have HCL := Lib.hid hcl
  have HSL := Lib.hid (show (sealS K N [] ((longB last).take 65536)).length = 65552 by rw [length_sealS, HT.out])
  clear hcell hcl
  refine wp_region_held_drew (S := (fun w' => Below w6.heap.size w6 w')) (by kernel_rfl) (Below.refl _ w6).drew (fun _ => ?_)
  have hb7 : Below w6.heap.size w6 w6.drew := (Below.refl _ w6).drew
  generalize w6.drew = w7 at hb7 ⊢
  have HB7 := Lib.hid hb7
  clear hb7
  refine held_row (i := 0) w.heap.size (K.map Y) _ _ _ rfl (by kernel_rfl) (by kernel_rfl) (by kernel_rfl) (fun _ _ _ h => h) rfl (fun _ h => (HL6.out.kept h).rk) hu rfl hi HB7.out ?_
  simp only [Act.put, List.setIfInBounds_toArray, List.set_cons_zero, List.set_cons_succ]
  refine held_row (i := 1) (w.heap.size + 1) (N.map Y) _ _ _ rfl (by kernel_rfl) (by kernel_rfl) (by kernel_rfl) (fun _ _ _ h => h) rfl (fun _ h => (HL6.out.kept h).rn) hu' rfl hi' HB7.out ?_
  simp only [Act.put, List.setIfInBounds_toArray, List.set_cons_zero, List.set_cons_succ]
  refine held_pure (i := 3) (.slice A8 65552 c8) rfl (by kernel_rfl) (by kernel_rfl) (by kernel_rfl) (fun _ _ _ h => h) (fun _ _ => rfl) HB7.out ?_
  simp only [Act.put, List.setIfInBounds_toArray, List.set_cons_zero, List.set_cons_succ]
  clear hu hu' hi hi'
  refine wpAnyH_ready (rs := [2, 5]) (by kernel_rfl) (by simp) (AllReadyH.cons rfl (fun K' hK => ?_) (AllReadyH.cons rfl (fun K' hK => ?_) AllReadyH.nil))
  · rw [if_pos (by rfl)]
    go_wp2
    refine hK.out _ _ (HB7.out.alloc HB7.out.size _) (fun _ => ?_)
    clear hK K'
    try simp only [Act.put, List.setIfInBounds_toArray, List.set_cons_zero, List.set_cons_succ]
    refine forget_any (fun w' => Below w6.heap.size w6 w' ∧ Own w' w6.heap.size (.slice (some ⟨w7.heap.size, 0, none⟩) 0 0) [] ∧ w'.heap.size = w7.heap.size + 1) ⟨HB7.out.alloc HB7.out.size _, Own.make w7 _ 0 HB7.out.size (by simp [maxLen]), by simp⟩ ?_
    rintro w8 ⟨hb8, ho8, hz8⟩
    have HB8 := Lib.hid hb8
    have HO8 := Lib.hid ho8
    have HZ8 := Lib.hid hz8
    clear hb8 ho8 hz8
    refine wpAnyH_ready (rs := [4, 5]) (by kernel_rfl) (by simp) (AllReadyH.cons rfl (fun K' hK => ?_) (AllReadyH.cons rfl (fun K' hK => ?_) AllReadyH.nil))
    · rw [if_pos (by rfl)]
      refine wp_app26 (.tmp 56) (.tmp 57) rfl w6.heap.size (.slice (some ⟨w7.heap.size, 0, none⟩) 0 0) [] A8 65552 c8 (sealS K N [] ((longB last).take 65536)) rfl rfl HO8.out (HX6.out.below HB8.out (Nat.le_refl _)) HSL.out (by simp) HB8.out.size ?_
      intro v58 wv hown hg _
      have HBv := Lib.hid (below_app HB8.out HB8.out.size HO8.out (Nat.le_refl _) hg)
      rw [List.nil_append] at hown
      have HOv := Lib.hid hown
      clear hown hg
      refine hK.out _ _ HBv.out (fun _ => ?_)
      clear hK K'
      try simp only [Act.put, List.setIfInBounds_toArray]
      refine held_step (i := 5) rfl (by kernel_rfl) (fun K' hK => ?_)
      go_wp2
      refine hK.out _ _ (HBv.out.alloc HBv.out.size _) ?_
      clear hK K'
      try simp only [Act.put, List.setIfInBounds_toArray, List.set_cons_zero, List.set_cons_succ]
      refine forget_any (fun w' => Below w6.heap.size w6 w' ∧ Own w' w6.heap.size v58 (sealS K N [] ((longB last).take 65536)) ∧ Rd w' (some ⟨wv.heap.size, 0, none⟩) [0#8]) ⟨HBv.out.alloc HBv.out.size _, HOv.out.alloc _, Rd.block (Blk.new wv 5 [Y 0#8])⟩ ?_
      rintro w9 ⟨hb9, ho9, hr9⟩
      have HB := Lib.hid hb9
      have HO := Lib.hid ho9
      have HR := Lib.hid hr9
      clear hb9 ho9 hr9
      refine held_step (i := 6) rfl (by kernel_rfl) (fun K' hK => ?_)
      refine wp_app26 (.tmp 58) (.tmp 59) rfl w6.heap.size v58 _ _ 1 1 [0#8] rfl rfl HO.out HR.out rfl (by rw [HSL.out]; omega) HB.out.size ?_
      intro v60 wy hown hg _
      have HBy := Lib.hid (below_app HB.out HB.out.size HO.out (Nat.le_refl _) hg)
      obtain ⟨A60, c60, hve, -, -, -, -⟩ := hown.form
      rw [List.length_append, HSL.out, List.length_singleton] at hve
      simp only [Nat.reduceAdd] at hve
      subst hve
      clear hown hg
      refine hK.out _ _ HBy.out ?_
      clear hK K'
      try simp only [Act.put, List.setIfInBounds_toArray, List.set_cons_zero, List.set_cons_succ]
      refine held_step (i := 7) rfl (by kernel_rfl) (fun K' hK => ?_)
      go_wp2_with fail
      (with_reducible refine (open14_len K N none A60 0 65553 0 c60 wy (by omega) (by omega)).mono ?_)
      rintro e wx ⟨rfl, hbx⟩
      have HBx := Lib.hid (HBy.out.trans (hbx.mono HBy.out.size))
      clear hbx
      refine hK.out _ _ HBx.out ?_
      clear hK K'
      try simp only [Act.put, List.setIfInBounds_toArray, List.set_cons_zero, List.set_cons_succ]
      refine held_pure (i := 8) (.tuple #[.slice none 0 0, .int .i64 60]) rfl (by kernel_rfl) (by kernel_rfl) (by kernel_rfl) (fun _ _ _ h => h) (fun _ _ => rfl) HBx.out ?_
      simp only [Act.put, List.setIfInBounds_toArray, List.set_cons_zero, List.set_cons_succ]
      refine held_pure (i := 9) (.slice none 0 0) rfl (by kernel_rfl) (by kernel_rfl) (by kernel_rfl) (fun _ _ _ h => h) (fun _ _ => rfl) HBx.out ?_
      simp only [Act.put, List.setIfInBounds_toArray, List.set_cons_zero, List.set_cons_succ]
      refine held_pure (i := 10) (.int .i64 60) rfl (by kernel_rfl) (by kernel_rfl) (by kernel_rfl) (fun _ _ _ h => h) (fun _ _ => rfl) HBx.out ?_
      simp only [Act.put, List.setIfInBounds_toArray, List.set_cons_zero, List.set_cons_succ]
      refine held_pure (i := 11) (.slice none 0 0) rfl (by kernel_rfl) (by kernel_rfl) (by kernel_rfl) (fun _ _ _ h => h) (fun _ _ => rfl) HBx.out ?_
      simp only [Act.put, List.setIfInBounds_toArray, List.set_cons_zero, List.set_cons_succ]
      refine held_pure (i := 12) (.int .i64 60) rfl (by kernel_rfl) (by kernel_rfl) (by kernel_rfl) (fun _ _ _ h => h) (fun _ _ => rfl) HBx.out ?_
      simp only [Act.put, List.setIfInBounds_toArray, List.set_cons_zero, List.set_cons_succ]
      refine wpAnyH_done (by kernel_rfl) ?_ _
      have cl := (HBx.out.cell (p := ⟨b10, o10 + 65535, none⟩) (block_lt_of_cell HCL.out)).trans HCL.out
      go_wp2
      go_ret
      exact ⟨rfl, HL6.out.old.trans (HBx.out.mono HL6.out.old.size)⟩
    · rw [if_pos (by rfl)]
      go_wp2
      refine hK.out _ _ (HB8.out.alloc HB8.out.size _) (fun _ => ?_)
      clear hK K'
      try simp only [Act.put, List.setIfInBounds_toArray, List.set_cons_zero, List.set_cons_succ]
      refine forget_any (fun w' => Below w6.heap.size w6 w' ∧ Own w' w6.heap.size (.slice (some ⟨w7.heap.size, 0, none⟩) 0 0) [] ∧ Blk w' w8.heap.size 5 [Y 0#8]) ⟨HB8.out.alloc HB8.out.size _, HO8.out.alloc _, Blk.new w8 5 [Y 0#8]⟩ ?_
      rintro w9 ⟨hb9, ho9, hk9⟩
      have HB9 := Lib.hid hb9
      have HO9 := Lib.hid ho9
      have HK9 := Lib.hid hk9
      clear hb9 ho9 hk9
      refine held_step (i := 4) rfl (by kernel_rfl) (fun K' hK => ?_)
      refine wp_app26 (.tmp 56) (.tmp 57) rfl w6.heap.size (.slice (some ⟨w7.heap.size, 0, none⟩) 0 0) [] A8 65552 c8 (sealS K N [] ((longB last).take 65536)) rfl rfl HO9.out (HX6.out.below HB9.out (Nat.le_refl _)) HSL.out (by simp) HB9.out.size ?_
      intro v58 wv hown hg _
      have HBv := Lib.hid (below_app HB9.out HB9.out.size HO9.out (Nat.le_refl _) hg)
      rw [List.nil_append] at hown
      have HR := Lib.hid (Rd.block (xs := [0#8]) (HK9.out.grown hg (by simp only [Value.ownBlock, HZ8.out]; simp)))
      have HO := Lib.hid hown
      have HB := HBv
      clear hown hg
      refine hK.out _ _ HB.out ?_
      clear hK K'
      try simp only [Act.put, List.setIfInBounds_toArray, List.set_cons_zero, List.set_cons_succ]
      refine held_step (i := 6) rfl (by kernel_rfl) (fun K' hK => ?_)
      refine wp_app26 (.tmp 58) (.tmp 59) rfl w6.heap.size v58 _ _ 1 1 [0#8] rfl rfl HO.out HR.out rfl (by rw [HSL.out]; omega) HB.out.size ?_
      intro v60 wy hown hg _
      have HBy := Lib.hid (below_app HB.out HB.out.size HO.out (Nat.le_refl _) hg)
      obtain ⟨A60, c60, hve, -, -, -, -⟩ := hown.form
      rw [List.length_append, HSL.out, List.length_singleton] at hve
      simp only [Nat.reduceAdd] at hve
      subst hve
      clear hown hg
      refine hK.out _ _ HBy.out ?_
      clear hK K'
      try simp only [Act.put, List.setIfInBounds_toArray, List.set_cons_zero, List.set_cons_succ]
      refine held_step (i := 7) rfl (by kernel_rfl) (fun K' hK => ?_)
      go_wp2_with fail
      (with_reducible refine (open14_len K N none A60 0 65553 0 c60 wy (by omega) (by omega)).mono ?_)
      rintro e wx ⟨rfl, hbx⟩
      have HBx := Lib.hid (HBy.out.trans (hbx.mono HBy.out.size))
      clear hbx
      refine hK.out _ _ HBx.out ?_
      clear hK K'
      try simp only [Act.put, List.setIfInBounds_toArray, List.set_cons_zero, List.set_cons_succ]
      refine held_pure (i := 8) (.tuple #[.slice none 0 0, .int .i64 60]) rfl (by kernel_rfl) (by kernel_rfl) (by kernel_rfl) (fun _ _ _ h => h) (fun _ _ => rfl) HBx.out ?_
      simp only [Act.put, List.setIfInBounds_toArray, List.set_cons_zero, List.set_cons_succ]
      refine held_pure (i := 9) (.slice none 0 0) rfl (by kernel_rfl) (by kernel_rfl) (by kernel_rfl) (fun _ _ _ h => h) (fun _ _ => rfl) HBx.out ?_
      simp only [Act.put, List.setIfInBounds_toArray, List.set_cons_zero, List.set_cons_succ]
      refine held_pure (i := 10) (.int .i64 60) rfl (by kernel_rfl) (by kernel_rfl) (by kernel_rfl) (fun _ _ _ h => h) (fun _ _ => rfl) HBx.out ?_
      simp only [Act.put, List.setIfInBounds_toArray, List.set_cons_zero, List.set_cons_succ]
      refine held_pure (i := 11) (.slice none 0 0) rfl (by kernel_rfl) (by kernel_rfl) (by kernel_rfl) (fun _ _ _ h => h) (fun _ _ => rfl) HBx.out ?_
      simp only [Act.put, List.setIfInBounds_toArray, List.set_cons_zero, List.set_cons_succ]
      refine held_pure (i := 12) (.int .i64 60) rfl (by kernel_rfl) (by kernel_rfl) (by kernel_rfl) (fun _ _ _ h => h) (fun _ _ => rfl) HBx.out ?_
      simp only [Act.put, List.setIfInBounds_toArray, List.set_cons_zero, List.set_cons_succ]
      refine wpAnyH_done (by kernel_rfl) ?_ _
      have cl := (HBx.out.cell (p := ⟨b10, o10 + 65535, none⟩) (block_lt_of_cell HCL.out)).trans HCL.out
      go_wp2
      go_ret
      exact ⟨rfl, HL6.out.old.trans (HBx.out.mono HL6.out.old.size)⟩
  · rw [if_pos (by rfl)]
    go_wp2
    refine hK.out _ _ (HB7.out.alloc HB7.out.size _) (fun _ => ?_)
    clear hK K'
    try simp only [Act.put, List.setIfInBounds_toArray, List.set_cons_zero, List.set_cons_succ]
    refine forget_any (fun w' => Below w6.heap.size w6 w' ∧ Blk w' w7.heap.size 5 [Y 0#8] ∧ w'.heap.size = w7.heap.size + 1) ⟨HB7.out.alloc HB7.out.size _, Blk.new w7 5 [Y 0#8], by simp⟩ ?_
    rintro w8 ⟨hb8, hk8, hz8⟩
    have HB8 := Lib.hid hb8
    have HK8 := Lib.hid hk8
    have HZ8 := Lib.hid hz8
    clear hb8 hk8 hz8
    refine held_step (i := 2) rfl (by kernel_rfl) (fun K' hK => ?_)
    go_wp2
    refine hK.out _ _ (HB8.out.alloc HB8.out.size _) ?_
    clear hK K'
    try simp only [Act.put, List.setIfInBounds_toArray, List.set_cons_zero, List.set_cons_succ]
    refine forget_any (fun w' => Below w6.heap.size w6 w' ∧ Own w' w6.heap.size (.slice (some ⟨w8.heap.size, 0, none⟩) 0 0) [] ∧ Blk w' w7.heap.size 5 [Y 0#8]) ⟨HB8.out.alloc HB8.out.size _, Own.make w8 _ 0 HB8.out.size (by simp [maxLen]), HK8.out.alloc _⟩ ?_
    rintro w9 ⟨hb9, ho9, hk9⟩
    have HB9 := Lib.hid hb9
    have HO9 := Lib.hid ho9
    have HK9 := Lib.hid hk9
    clear hb9 ho9 hk9
    refine held_step (i := 4) rfl (by kernel_rfl) (fun K' hK => ?_)
    refine wp_app26 (.tmp 56) (.tmp 57) rfl w6.heap.size (.slice (some ⟨w8.heap.size, 0, none⟩) 0 0) [] A8 65552 c8 (sealS K N [] ((longB last).take 65536)) rfl rfl HO9.out (HX6.out.below HB9.out (Nat.le_refl _)) HSL.out (by simp) HB9.out.size ?_
    intro v58 wv hown hg _
    have HBv := Lib.hid (below_app HB9.out HB9.out.size HO9.out (Nat.le_refl _) hg)
    rw [List.nil_append] at hown
    have HR := Lib.hid (Rd.block (xs := [0#8]) (HK9.out.grown hg (by simp only [Value.ownBlock, HZ8.out]; simp)))
    have HO := Lib.hid hown
    have HB := HBv
    clear hown hg
    refine hK.out _ _ HB.out ?_
    clear hK K'
    try simp only [Act.put, List.setIfInBounds_toArray, List.set_cons_zero, List.set_cons_succ]
    refine held_step (i := 6) rfl (by kernel_rfl) (fun K' hK => ?_)
    refine wp_app26 (.tmp 58) (.tmp 59) rfl w6.heap.size v58 _ _ 1 1 [0#8] rfl rfl HO.out HR.out rfl (by rw [HSL.out]; omega) HB.out.size ?_
    intro v60 wy hown hg _
    have HBy := Lib.hid (below_app HB.out HB.out.size HO.out (Nat.le_refl _) hg)
    obtain ⟨A60, c60, hve, -, -, -, -⟩ := hown.form
    rw [List.length_append, HSL.out, List.length_singleton] at hve
    simp only [Nat.reduceAdd] at hve
    subst hve
    clear hown hg
    refine hK.out _ _ HBy.out ?_
    clear hK K'
    try simp only [Act.put, List.setIfInBounds_toArray, List.set_cons_zero, List.set_cons_succ]
    refine held_step (i := 7) rfl (by kernel_rfl) (fun K' hK => ?_)
    go_wp2_with fail
    (with_reducible refine (open14_len K N none A60 0 65553 0 c60 wy (by omega) (by omega)).mono ?_)
    rintro e wx ⟨rfl, hbx⟩
    have HBx := Lib.hid (HBy.out.trans (hbx.mono HBy.out.size))
    clear hbx
    refine hK.out _ _ HBx.out ?_
    clear hK K'
    try simp only [Act.put, List.setIfInBounds_toArray, List.set_cons_zero, List.set_cons_succ]
    refine held_pure (i := 8) (.tuple #[.slice none 0 0, .int .i64 60]) rfl (by kernel_rfl) (by kernel_rfl) (by kernel_rfl) (fun _ _ _ h => h) (fun _ _ => rfl) HBx.out ?_
    simp only [Act.put, List.setIfInBounds_toArray, List.set_cons_zero, List.set_cons_succ]
    refine held_pure (i := 9) (.slice none 0 0) rfl (by kernel_rfl) (by kernel_rfl) (by kernel_rfl) (fun _ _ _ h => h) (fun _ _ => rfl) HBx.out ?_
    simp only [Act.put, List.setIfInBounds_toArray, List.set_cons_zero, List.set_cons_succ]
    refine held_pure (i := 10) (.int .i64 60) rfl (by kernel_rfl) (by kernel_rfl) (by kernel_rfl) (fun _ _ _ h => h) (fun _ _ => rfl) HBx.out ?_
    simp only [Act.put, List.setIfInBounds_toArray, List.set_cons_zero, List.set_cons_succ]
    refine held_pure (i := 11) (.slice none 0 0) rfl (by kernel_rfl) (by kernel_rfl) (by kernel_rfl) (fun _ _ _ h => h) (fun _ _ => rfl) HBx.out ?_
    simp only [Act.put, List.setIfInBounds_toArray, List.set_cons_zero, List.set_cons_succ]
    refine held_pure (i := 12) (.int .i64 60) rfl (by kernel_rfl) (by kernel_rfl) (by kernel_rfl) (fun _ _ _ h => h) (fun _ _ => rfl) HBx.out ?_
    simp only [Act.put, List.setIfInBounds_toArray, List.set_cons_zero, List.set_cons_succ]
    refine wpAnyH_done (by kernel_rfl) ?_ _
    have cl := (HBx.out.cell (p := ⟨b10, o10 + 65535, none⟩) (block_lt_of_cell HCL.out)).trans HCL.out
    go_wp2
    go_ret
    exact ⟨rfl, HL6.out.old.trans (HBx.out.mono HL6.out.old.size)⟩
end Go.Proofs.YtbmjjmianhjfiaaDoor
