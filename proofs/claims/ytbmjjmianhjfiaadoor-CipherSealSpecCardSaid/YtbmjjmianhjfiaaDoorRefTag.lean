/- What the reference's Tagged and Tag return: the program's tag. -/
import Derived.Test.YtbmjjmianhjfiaaDoorRefSum
import Derived.Test.YtbmjjmianhjfiaaDoorRefStream
import Derived.Test.YtbmjjmianhjfiaaDoorSeal
namespace Go.Proofs.YtbmjjmianhjfiaaDoor
open Go.RowKit
attribute [local irreducible] sumS

set_option maxRecDepth 100000 in
set_option maxHeartbeats 2000000 in
theorem tagged39 (A : Option Addr) (n c : Nat) (xs : List (BitVec 8)) (w : World) (hr : Rd w A xs) (hn : xs.length = n) (hsz : n ≤ 35184372088000) :
    Calls Tryd.prog 39 #[.string { data := #[116, 97, 103] }, .slice A n c] w fun e w' => e = .returned (.agg ((sumS (sumS tagB ++ xs)).map Y).toArray) ∧ Below w.heap.size w w' := by
  have HR := Lib.hid (⟨hr, hn⟩ : _ ∧ _)
  have hbl := slice_lit0
  clear hr hn
  go_enter Tryd.func39, Tryd.ntmps39
  have HS33 := Lib.hid (show (Tryd.prog.info? 33).map (·.size) = some ((sumS tagB).map Y).toArray.size by rw [size33]; simp [length_sumS])
  have HSA := Lib.hid (Y_all (sumS tagB))
  have HLZ := Lib.hid (show ((zeroB 32).map Y).toArray.size = ((sumS tagB).map Y).toArray.size by simp [length_sumS, length_zeroB])
  have HS33' := Lib.hid (show (Tryd.prog.info? 33).map (·.size) = some ((sumS (sumS tagB ++ xs)).map Y).toArray.size by rw [size33]; simp [length_sumS])
  have HSA' := Lib.hid (Y_all (sumS (sumS tagB ++ xs)))
  have HLZ' := Lib.hid (show ((zeroB 32).map Y).toArray.size = ((sumS (sumS tagB ++ xs)).map Y).toArray.size by simp [length_sumS, length_zeroB])
  go_wp2_with (first
    | ((with_reducible refine at_convert 9 26 ?_); refine forget_wpl (fun wa => Blk wa w.heap.size 33 ((zeroB 32).map Y) ∧ Below w.heap.size w wa ∧ wa.heap.size = w.heap.size + 1) ⟨Blk.new w 33 _, (Below.refl _ w).alloc (Nat.le_refl _) _, by simp⟩ ?_; rintro wa ⟨ha1, ha2, ha3⟩; obtain ⟨c0, w1, hc, hc3, hcm, hrd, hb1⟩ := conv_tag wa; have HC := Lib.hid (sum45 (some ⟨wa.heap.size, 0, none⟩) 3 c0 tagB w1 hrd rfl (by omega)); have HB1 := Lib.hid (ha2.trans (hb1.mono ha2.size)); have HG1 := Lib.hid (ha1.kept hb1); have HA3 := Lib.hid ha3; clear hb1 hrd ha1 ha2 ha3 hc3 hcm)
    | (go_at_call 45; with_reducible refine HC.out.mono ?_; rintro e w2 ⟨rfl, hb2⟩; have HB2 := Lib.hid (HB1.out.trans (hb2.mono HB1.out.size)); have HG2 := Lib.hid (HG1.out.kept hb2); clear hb2)
    | ((with_reducible refine at_store 33 ?_); refine wpList_store_row rfl 33 _ _ rfl w2.heap.size _ rfl rfl 33 _ (Blk.new w2 33 ((zeroB 32).map Y)) HS33.out HLZ.out HSA.out ?_; refine forget_wpl (fun w3 => Blk w3 w2.heap.size 33 ((sumS tagB).map Y) ∧ Below w2.heap.size w2 w3) ⟨setRow_heap _ _ _ _ 33 _ (Blk.new w2 33 ((zeroB 32).map Y)), below_setRow ((Below.refl _ w2).alloc (Nat.le_refl _) _) (Nat.le_refl _) _⟩ ?_; rintro w3 ⟨hd3, hb3⟩; have HB3 := Lib.hid (HB2.out.trans (hb3.mono HB2.out.size)); have HG3 := Lib.hid (HG2.out.kept hb3); have HD3 := Lib.hid hd3; clear hb3 hd3)
    | ((with_reducible refine at_append 26 26 ?_); refine wpList_app26 rfl (.tmp 9) (.tmp 10) rfl w3.heap.size (.slice (some ⟨w3.heap.size, 0, none⟩) 0 0) [] (some ⟨w2.heap.size, 0, none⟩) 32 32 (sumS tagB) rfl rfl (Own.make w3 w3.heap.size 0 (Nat.le_refl _) (by simp [maxLen])) (Rd.block (HD3.out.alloc _)) (length_sumS _) (by simp) (by simp) ?_; intro v11 w4 ho4 hg4 _; rw [List.nil_append] at ho4; have HB34 := Lib.hid (below_app (B := w3.heap.size) ((Below.refl _ w3).alloc (Nat.le_refl _) (.cells #[] 5)) (by simp) (Own.make w3 w3.heap.size 0 (Nat.le_refl _) (by simp [maxLen])) (Nat.le_refl _) hg4); have HO4 := Lib.hid ho4; clear ho4 hg4)
    | ((with_reducible refine at_append 26 26 ?_); refine wpList_app26 rfl (.tmp 11) (.tmp 12) rfl w3.heap.size v11 (sumS tagB) A n c xs rfl rfl HO4.out ((HR.out.1.below HB3.out (Nat.le_refl _)).below HB34.out (Nat.le_refl _)) HR.out.2 (by rw [length_sumS]; omega) HB34.out.size ?_; intro v13 w5 ho5 hg5 _; have HB35 := Lib.hid (below_app HB34.out HB34.out.size HO4.out (Nat.le_refl _) hg5); have HB5 := Lib.hid (HB3.out.trans (HB35.out.mono HB3.out.size)); have HG5 := Lib.hid (HG3.out.kept HB35.out); obtain ⟨A', c', hve, -, -, hrd, -⟩ := ho5.form; have hll : (sumS tagB ++ xs).length = 32 + n := (by rw [List.length_append, length_sumS, HR.out.2]); rw [hll] at hve; subst hve; have HC2 := Lib.hid (sum45 A' (32 + n) c' (sumS tagB ++ xs) w5 hrd hll (by omega)); clear ho5 hg5 hrd hll)
    | (go_at_call 45; with_reducible refine HC2.out.mono ?_; rintro e w6 ⟨rfl, hb6⟩; have HB6 := Lib.hid (HB5.out.trans (hb6.mono HB5.out.size)); have HG6 := Lib.hid (HG5.out.kept hb6); clear hb6)
    | ((with_reducible refine at_store 33 ?_); refine wpList_store_row rfl 33 _ _ rfl w.heap.size _ rfl rfl 33 _ HG6.out HS33'.out HLZ'.out HSA'.out ?_))
  refine bodyPost_ret (results_cell_row rfl _ _ w.heap.size 33 _ (0, 0) _ rfl (setRow_heap _ w.heap.size _ _ 33 _ HG6.out) Tryd.underlying33 rfl HS33'.out) rfl ?_
  exact ⟨rfl, below_setRow HB6.out (Nat.le_refl _) _⟩

theorem tagged39t (A : Option Addr) (n c : Nat) (xs : List (BitVec 8)) (w : World) (hr : Rd w A xs) (hn : xs.length = n) (hsz : n ≤ 35184372088000) :
    Calls Tryd.prog 39 #[.string { data := #[116, 97, 103] }, .slice A n c] w fun e w' => e = .returned (.agg ((tagged xs).map Y).toArray) ∧ Below w.heap.size w w' := tagged39 A n c xs w hr hn hsz
theorem tagS_val (K N xs ys : List (BitVec 8)) : tagS K N xs ys = (tagged (tagIn K N xs ys)).take 16 := rfl
attribute [local irreducible] tagged tagS

set_option maxRecDepth 100000 in
set_option maxHeartbeats 4000000 in
theorem tag29 (K N : List (BitVec 8)) (hK : K.length = 32) (hN : N.length = 12) (A1 A2 : Option Addr) (n1 n2 c1 c2 : Nat) (xs ys : List (BitVec 8)) (w : World)
    (hr1 : Rd w A1 xs) (hr2 : Rd w A2 ys) (hn1 : xs.length = n1) (hn2 : ys.length = n2) (hs1 : n1 ≤ 17592186044000) (hs2 : n2 ≤ 17592186043000) :
    Calls Tryd.prog 29 #[.agg (K.map Y).toArray, .agg (N.map Y).toArray, .slice A1 n1 c1, .slice A2 n2 c2] w fun e w' => ∃ v, e = .returned v ∧ Own w' w.heap.size v (tagS K N xs ys) ∧ Below w.heap.size w w' := by
  have HX := Lib.hid (Bx.start w K N)
  have HKN := Lib.hid (⟨hK, hN⟩ : _ ∧ _)
  have HR := Lib.hid (⟨hr1, hr2, hn1, hn2⟩ : _ ∧ _ ∧ _ ∧ _)
  have hbl := slice_lit0
  have hb1 : (n1 : Int) ≤ 17592186044000 := by omega
  have HS33 := Lib.hid (show (Tryd.prog.info? 33).map (·.size) = some ((tagged (tagIn K N xs ys)).map Y).toArray.size by rw [size33]; simp [length_tagged])
  have HSA := Lib.hid (Y_all (tagged (tagIn K N xs ys)))
  have HLZ := Lib.hid (show ((zeroB 32).map Y).toArray.size = ((tagged (tagIn K N xs ys)).map Y).toArray.size by simp [length_tagged, length_zeroB])
  clear hK hN hr1 hr2 hn1 hn2
  go_enter Tryd.func29, Tryd.ntmps29
  go_wp2
  obtain ⟨wb, hwb⟩ : ∃ wb, wb = (w.alloc (.cells (K.map Y).toArray 23)).alloc (.cells (N.map Y).toArray 25) := ⟨_, rfl⟩
  rw [← hwb] at HX ⊢
  have hsw : w.heap.size ≤ wb.heap.size := by rw [hwb]; simp; omega
  clear hwb
  refine wp_region_held_drew (S := (fun w' => Below wb.heap.size wb w')) (by kernel_rfl) (Below.refl _ wb).drew (fun _ => ?_)
  refine held_pure (i := 1) (.slice (some ⟨w.heap.size, 0, none⟩) 32 32) rfl (by kernel_rfl) (by kernel_rfl) (by kernel_rfl) (fun _ _ _ h => h) (fun _ _ => by go_simp) (Below.refl _ wb).drew ?_
  simp only [Act.put, List.setIfInBounds_toArray, List.set_cons_zero, List.set_cons_succ]
  refine held_pure (i := 3) (.slice (some ⟨w.heap.size + 1, 0, none⟩) 12 12) rfl (by kernel_rfl) (by kernel_rfl) (by kernel_rfl) (fun _ _ _ h => h) (fun _ _ => by go_simp) (Below.refl _ wb).drew ?_
  simp only [Act.put, List.setIfInBounds_toArray, List.set_cons_zero, List.set_cons_succ]
  refine held_step (i := 0) rfl (by kernel_rfl) (fun K' hK => ?_)
  go_wp2
  have HB1 := Lib.hid (((Below.refl _ wb).alloc (Nat.le_refl _) (.cells #[] 5)).drew : Below wb.heap.size wb (wb.alloc (.cells #[] 5)).drew)
  have HO1 := Lib.hid (show Own (wb.alloc (.cells #[] 5)).drew wb.heap.size (.slice (some ⟨wb.heap.size, 0, none⟩) 0 0) [] from Own.make wb wb.heap.size 0 (Nat.le_refl _) (by simp [maxLen]))
  refine hK.out _ _ HB1.out ?_
  clear hK K'
  try simp only [Act.put, List.setIfInBounds_toArray, List.set_cons_zero, List.set_cons_succ]
  refine held_step (i := 2) rfl (by kernel_rfl) (fun K' hK => ?_)
  refine wp_app26 (.tmp 12) (.tmp 13) rfl wb.heap.size (.slice (some ⟨wb.heap.size, 0, none⟩) 0 0) [] (some ⟨w.heap.size, 0, none⟩) 32 32 K rfl rfl HO1.out ((Rd.block HX.out.key).below HB1.out (Nat.le_refl _)) HKN.out.1 (by simp) HB1.out.size ?_
  intro v14 wa ho2 hg2 _
  rw [List.nil_append] at ho2
  have HB2 := Lib.hid (below_app HB1.out HB1.out.size HO1.out (Nat.le_refl _) hg2)
  have HO2 := Lib.hid ho2
  clear ho2 hg2
  refine hK.out _ _ HB2.out ?_
  clear hK K'
  try simp only [Act.put, List.setIfInBounds_toArray, List.set_cons_zero, List.set_cons_succ]
  refine held_step (i := 4) rfl (by kernel_rfl) (fun K' hK => ?_)
  refine wp_app26 (.tmp 14) (.tmp 15) rfl wb.heap.size v14 K (some ⟨w.heap.size + 1, 0, none⟩) 12 12 N rfl rfl HO2.out ((Rd.block HX.out.non).below HB2.out (Nat.le_refl _)) HKN.out.2 (by rw [HKN.out.1]; omega) HB2.out.size ?_
  intro v16 wc ho3 hg3 _
  have HB3 := Lib.hid (below_app HB2.out HB2.out.size HO2.out (Nat.le_refl _) hg3)
  have HO3 := Lib.hid ho3
  clear ho3 hg3
  refine hK.out _ _ HB3.out ?_
  clear hK K'
  try simp only [Act.put, List.setIfInBounds_toArray, List.set_cons_zero, List.set_cons_succ]
  refine held_pure (i := 5) v16 rfl (by kernel_rfl) (by kernel_rfl) (by kernel_rfl) (fun _ _ _ h => h) (fun _ _ => rfl) HB3.out ?_
  simp only [Act.put, List.setIfInBounds_toArray, List.set_cons_zero, List.set_cons_succ]
  refine wpAnyH_done (by kernel_rfl) ?_ _
  go_wp2
  go_loopw [9, 10] (fun o i wr => ∃ k : Nat, k ≤ 8 ∧ i = .int .i64 (7 - (k : Int)) ∧ Own wr wb.heap.size o (K ++ N ++ eightS (n1 : Int) k) ∧ Below wb.heap.size wb wr) (fun _ i _ => (intOf i + 1).toNat)
  case atStart => exact ⟨0, by omega, rfl, HO3.out.eq_of (by simp [eightS]), HB3.out⟩
  case round =>
    obtain ⟨k, hk, hi0, ho, hb⟩ := hrel
    subst hi0
    by_cases hlt : k < 8
    · obtain ⟨q, hq⟩ : ∃ q : Nat, q = 7 - k := ⟨_, rfl⟩
      have hqk : q + k = 7 := by omega
      rw [show 7 - (k : Int) = (q : Int) by omega]
      obtain ⟨y, hy⟩ : ∃ y, y = byteOf ((n1 : Int) / (2 : Int) ^ (56 - 8 * k)) := ⟨_, rfl⟩
      have hv : (n1 : Int) / (2 : Int) ^ (8 * q) % (256 : Int) = B y := by
        rw [hy, ← byteOf_spec, show 56 - 8 * k = 8 * q by omega]
      have s0 : (0 : Int) ≤ 8 * (q : Int) := by omega
      have s1 : 8 * (q : Int) < 64 := by omega
      have s2 : (8 * (q : Int)).toNat = 8 * q := by omega
      have hsz := hb.size
      have HOa := Lib.hid (ho.alloc (.cells #[Y y] 5))
      have HBa := Lib.hid (hb.alloc hsz (.cells #[Y y] 5))
      have HRa := Lib.hid (Rd.block (xs := [y]) (Blk.new wr 5 [Y y]))
      have HYY := Lib.hid (⟨hy, hqk⟩ : _ ∧ _)
      have hle := length_eightS (n1 : Int) k
      have HBD := Lib.hid (show (K ++ N ++ eightS (n1 : Int) k).length + 1 ≤ 70368744177664 by rw [List.length_append, List.length_append, HKN.out.1, HKN.out.2, hle]; omega)
      clear ho hb hy hq hqk hle hk
      go_wp2_with ((with_reducible refine at_append 26 26 ?_); refine wpList_app26 rfl (.tmp 21) (.tmp 29) rfl wb.heap.size u9 (K ++ N ++ eightS (n1 : Int) k) (some ⟨wr.heap.size, 0, none⟩) 1 1 [y] rfl rfl HOa.out HRa.out rfl HBD.out HBa.out.size ?_; intro v' w' ho' hg' _)
      have e := HYY.out.2
      refine ⟨⟨k + 1, by omega, by rw [show 7 - ((k + 1 : Nat) : Int) = (q : Int) - 1 by omega], ho'.eq_of (by rw [eightS_succ, ← HYY.out.1, List.append_assoc]), below_app HBa.out HBa.out.size HOa.out (Nat.le_refl _) hg'⟩, by simp [intOf]⟩
    · obtain rfl : k = 8 := by omega
      rw [show 7 - ((8 : Nat) : Int) = -1 from rfl]
      obtain ⟨A9, c9, hve, -, -, -, -⟩ := ho.form
      have HO9 := Lib.hid ho
      have HB9 := Lib.hid hb
      have HTI := Lib.hid (show K ++ N ++ eightS (n1 : Int) 8 ++ xs ++ ys = tagIn K N xs ys by rw [tagIn, HR.out.2.2.1])
      clear ho hb hk hlt hve
      go_wp2_with (first
        | ((with_reducible refine at_append 26 26 ?_); refine wpList_app26 rfl (.tmp 31) (.tmp 32) rfl wb.heap.size u9 (K ++ N ++ eightS (n1 : Int) 8) A1 n1 c1 xs rfl rfl HO9.out ((HR.out.1.below HX.out.old (Nat.le_refl _)).below HB9.out (Nat.le_refl _)) HR.out.2.2.1 (by simp only [List.length_append, length_eightS, HKN.out.1, HKN.out.2]; omega) HB9.out.size ?_; intro v33 w4 ho4 hg4 _; have HB4 := Lib.hid (below_app HB9.out HB9.out.size HO9.out (Nat.le_refl _) hg4); have HO4 := Lib.hid ho4; clear ho4 hg4)
        | ((with_reducible refine at_append 26 26 ?_); refine wpList_app26 rfl (.tmp 33) (.tmp 34) rfl wb.heap.size v33 (K ++ N ++ eightS (n1 : Int) 8 ++ xs) A2 n2 c2 ys rfl rfl HO4.out ((HR.out.2.1.below HX.out.old (Nat.le_refl _)).below HB4.out (Nat.le_refl _)) HR.out.2.2.2 (by simp only [List.length_append, length_eightS, HKN.out.1, HKN.out.2, HR.out.2.2.1]; omega) HB4.out.size ?_; intro v35 w5 ho5 hg5 _; have HB5 := Lib.hid (below_app HB4.out HB4.out.size HO4.out (Nat.le_refl _) hg5); rw [HTI.out] at ho5; obtain ⟨A35, c35, hve, -, -, hrd, -⟩ := ho5.form; have hli : (tagIn K N xs ys).length = 52 + n1 + n2 := (by simp only [tagIn, List.length_append, length_eightS, HKN.out.1, HKN.out.2, HR.out.2.2.1, HR.out.2.2.2]); rw [hli] at hve; subst hve; have HC := Lib.hid (tagged39t A35 (52 + n1 + n2) c35 (tagIn K N xs ys) w5 hrd hli (by omega)); clear ho5 hg5 hrd hli)
        | (go_at_call 39; with_reducible refine HC.out.mono ?_; rintro e w6 ⟨rfl, hb6⟩; have HB6 := Lib.hid (HB5.out.trans (hb6.mono HB5.out.size)); clear hb6)
        | ((with_reducible refine at_store 33 ?_); refine wpList_store_row rfl 33 _ _ rfl w6.heap.size _ rfl rfl 33 _ (Blk.new w6 33 ((zeroB 32).map Y)) HS33.out HLZ.out HSA.out ?_; refine forget_wpl (fun w7 => Blk w7 w6.heap.size 33 ((tagged (tagIn K N xs ys)).map Y) ∧ Below wb.heap.size wb w7) ⟨setRow_heap _ _ _ _ 33 _ (Blk.new w6 33 ((zeroB 32).map Y)), below_setRow (HB6.out.alloc HB6.out.size _) HB6.out.size _⟩ ?_; rintro w7 ⟨hd7, hb7⟩; have HB7 := Lib.hid hb7; have HD7 := Lib.hid hd7; clear hd7 hb7)
        | ((with_reducible refine at_append 26 26 ?_); refine wpList_app26 rfl (.tmp 37) (.tmp 38) rfl w7.heap.size (.slice (some ⟨w7.heap.size, 0, none⟩) 0 0) [] (some ⟨w6.heap.size, 0, none⟩) 16 32 (tagS K N xs ys) rfl rfl (Own.make w7 w7.heap.size 0 (Nat.le_refl _) (by simp [maxLen])) (by rw [tagS_val]; exact (Rd.block (HD7.out.alloc _)).take 16) (length_tagS _ _ _ _) (by simp) (by simp) ?_; intro v39 w8 ho8 hg8 _; rw [List.nil_append] at ho8; have HB78 := Lib.hid (below_app (B := w7.heap.size) ((Below.refl _ w7).alloc (Nat.le_refl _) (.cells #[] 5)) (by simp) (Own.make w7 w7.heap.size 0 (Nat.le_refl _) (by simp [maxLen])) (Nat.le_refl _) hg8); have HO8 := Lib.hid ho8; clear ho8 hg8))
      go_ret
      have h7 := HB7.out.size
      exact ⟨_, rfl, HO8.out.mono (by omega), HX.out.old.trans ((HB7.out.trans (HB78.out.mono h7)).mono HX.out.old.size)⟩
end Go.Proofs.YtbmjjmianhjfiaaDoor
