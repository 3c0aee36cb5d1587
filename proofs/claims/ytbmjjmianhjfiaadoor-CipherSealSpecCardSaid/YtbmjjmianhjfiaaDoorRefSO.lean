/- What the reference's Seal and Open return. -/
import Derived.Test.YtbmjjmianhjfiaaDoorRefTag
import Derived.Test.YtbmjjmianhjfiaaDoorTagLaw
namespace Go.Proofs.YtbmjjmianhjfiaaDoor
open Go.RowKit
attribute [local irreducible] sumS tagged tagS

theorem Bx.rk {w0 w : World} {K N : List (BitVec 8)} (h : Bx w0 K N w) : w.rangeAt w0.heap.size 0 (K.map Y) := fun j v hj => by rw [Nat.zero_add, h.key.at]; exact hj
theorem Bx.rn {w0 w : World} {K N : List (BitVec 8)} (h : Bx w0 K N w) : w.rangeAt (w0.heap.size + 1) 0 (N.map Y) := fun j v hj => by rw [Nat.zero_add, h.non.at]; exact hj

set_option maxRecDepth 100000 in
set_option maxHeartbeats 2000000 in
theorem seal19 (K N : List (BitVec 8)) (hK : K.length = 32) (hN : N.length = 12) (A1 A2 : Option Addr) (n1 n2 c1 c2 : Nat) (xs ys : List (BitVec 8)) (w : World)
    (hr1 : Rd w A1 xs) (hr2 : Rd w A2 ys) (hn1 : xs.length = n1) (hn2 : ys.length = n2) (hs1 : n1 ≤ 400) (hs2 : n2 ≤ 65536) :
    Calls Tryd.prog 19 #[.agg (K.map Y).toArray, .agg (N.map Y).toArray, .slice A1 n1 c1, .slice A2 n2 c2] w fun e w' => ∃ v, e = .returned (.tuple #[v, .int .i64 0]) ∧ Own w' w.heap.size v (sealS K N xs ys) ∧ Below w.heap.size w w' := by
  have HX := Lib.hid (Bx.start w K N)
  have HSK := Lib.hid (sz23 hK)
  have HSN := Lib.hid (sz25 hN)
  have HKN := Lib.hid (⟨hK, hN⟩ : _ ∧ _)
  have HR := Lib.hid (⟨hr1, hr2, hn1, hn2⟩ : _ ∧ _ ∧ _ ∧ _)
  have HC1 := Lib.hid (Stream18 K N hK hN A2 n2 c2 ys _ (hr2.below HX.out.old (Nat.le_refl _)) hn2 hs2)
  clear hK hN hr1 hr2 hn1 hn2
  go_enter Tryd.func19, Tryd.ntmps19
  go_wp2_with (first
    | ((with_reducible refine at_load 23 ?_); refine wpList_load_row rfl 23 _ rfl w.heap.size rfl 23 _ (0, 0) _ HX1.out.key Tryd.underlying23 rfl HSK.out ?_)
    | ((with_reducible refine at_load 25 ?_); refine wpList_load_row rfl 25 _ rfl (w.heap.size + 1) rfl 25 _ (0, 0) _ HX1.out.non Tryd.underlying25 rfl HSN.out ?_)
    | ((with_reducible refine at_load 23 ?_); refine wpList_load_row rfl 23 _ rfl w.heap.size rfl 23 _ (0, 0) _ HX.out.key Tryd.underlying23 rfl HSK.out ?_)
    | ((with_reducible refine at_load 25 ?_); refine wpList_load_row rfl 25 _ rfl (w.heap.size + 1) rfl 25 _ (0, 0) _ HX.out.non Tryd.underlying25 rfl HSN.out ?_)
    | (go_at_call 18; (with_reducible refine HC1.out.mono ?_); rintro e w1 ⟨v10, rfl, hv10, hb1⟩; obtain ⟨A10, c10, hve, hc10, hm10, hr10, -⟩ := hv10.form; rw [length_streamS, HR.out.2.2.2] at hve hc10; subst hve; have HX1 := Lib.hid (HX.out.kept hb1); have HV1 := Lib.hid hv10; have hsz1 := hb1.size; have HC2 := Lib.hid (tag29 K N HKN.out.1 HKN.out.2 A1 A10 n1 n2 c1 c10 xs (streamS K N ys) w1 (HR.out.1.below HX1.out.old (Nat.le_refl _)) hr10 HR.out.2.2.1 (by rw [length_streamS, HR.out.2.2.2]) (by omega) (by omega)); clear hv10 hb1 hr10)
    | (go_at_call 29; (with_reducible refine HC2.out.mono ?_); rintro e w2 ⟨v27, rfl, hv27, hb2⟩; obtain ⟨A27, c27, hve, -, -, hr27, -⟩ := hv27.form; rw [length_tagS] at hve; subst hve; have HV2 := Lib.hid (HV1.out.below hb2); have HB2 := Lib.hid (HX1.out.old.trans (hb2.mono HX1.out.old.size)); have HR27 := Lib.hid hr27; have hsz2 := hb2.size; clear hv27 hb2 hr27)
    | ((with_reducible refine at_append 26 26 ?_); refine wpList_app26 rfl (.tmp 22) (.tmp 27) rfl _ (.slice A10 n2 c10) (streamS K N ys) A27 16 c27 (tagS K N xs (streamS K N ys)) rfl rfl HV2.out HR27.out (length_tagS _ _ _ _) (by rw [length_streamS, HR.out.2.2.2]; omega) (by omega) ?_; intro v' w' hown' hg' _))
  go_ret2
  refine ⟨_, rfl, hown'.mono (by simp; omega), below_app HB2.out HB2.out.size HV2.out (by simp; omega) hg'⟩

set_option maxRecDepth 100000 in
set_option maxHeartbeats 2000000 in
theorem seal19_no (K N : List (BitVec 8)) (hK : K.length = 32) (hN : N.length = 12) (A1 A2 : Option Addr) (n1 n2 c1 c2 : Nat) (w : World) (hs2 : 65536 < n2) :
    Calls Tryd.prog 19 #[.agg (K.map Y).toArray, .agg (N.map Y).toArray, .slice A1 n1 c1, .slice A2 n2 c2] w fun e w' => e = .returned (.tuple #[.slice none 0 0, .int .i64 60]) ∧ Below w.heap.size w w' := by
  have HX := Lib.hid (Bx.start w K N)
  have HSK := Lib.hid (sz23 hK)
  have HSN := Lib.hid (sz25 hN)
  have HC1 := Lib.hid (Stream18_no K N A2 n2 c2 ((w.alloc (.cells (K.map Y).toArray 23)).alloc (.cells (N.map Y).toArray 25)) hs2)
  clear hK hN hs2
  go_enter Tryd.func19, Tryd.ntmps19
  go_wp2_with (first
    | ((with_reducible refine at_load 23 ?_); refine wpList_load_row rfl 23 _ rfl w.heap.size rfl 23 _ (0, 0) _ HX.out.key Tryd.underlying23 rfl HSK.out ?_)
    | ((with_reducible refine at_load 25 ?_); refine wpList_load_row rfl 25 _ rfl (w.heap.size + 1) rfl 25 _ (0, 0) _ HX.out.non Tryd.underlying25 rfl HSN.out ?_)
    | (go_at_call 18; (with_reducible refine HC1.out.mono ?_); rintro e w1 ⟨rfl, hb1⟩; have HX1 := Lib.hid (HX.out.kept hb1); clear hb1))
  go_ret2
  exact ⟨rfl, HX1.out.old⟩

theorem hq_of (a b : List (BitVec 8)) (q : Bool) (h : decide (a = b) = q) : ((strOf a).toList == (strOf b).toList) = q := by rw [str_eq, h]
set_option maxRecDepth 100000 in
set_option maxHeartbeats 2000000 in
theorem open20_len (K N : List (BitVec 8)) (A1 A2 : Option Addr) (n1 n2 c1 c2 : Nat) (w : World) (h : n2 < 16 ∨ 65552 < n2) :
    Calls Tryd.prog 20 #[.agg (K.map Y).toArray, .agg (N.map Y).toArray, .slice A1 n1 c1, .slice A2 n2 c2] w fun e w' => e = .returned (.tuple #[.slice none 0 0, .int .i64 60]) ∧ Below w.heap.size w w' := by
  have HX := Lib.hid (Bx.start w K N)
  rcases h with h | h
  · have b0 : decide ((n2 : Int) < 16) = true := decide_eq_true (by omega)
    clear h
    go_enter Tryd.func20, Tryd.ntmps20
    go_wp2
    go_ret2
    exact ⟨rfl, HX.out.old⟩
  · have b0 : decide ((n2 : Int) < 16) = false := decide_eq_false (by omega)
    have b1 : decide ((65552 : Int) < (n2 : Int)) = true := decide_eq_true (by omega)
    clear h
    go_enter Tryd.func20, Tryd.ntmps20
    go_wp2
    go_ret2
    exact ⟨rfl, HX.out.old⟩

set_option maxRecDepth 100000 in
set_option maxHeartbeats 4000000 in
theorem open20_main (K N : List (BitVec 8)) (hK : K.length = 32) (hN : N.length = 12) (A1 A2 : Option Addr) (n1 n2 m c1 c2 : Nat) (xs zs : List (BitVec 8)) (w : World)
    (hr1 : Rd w A1 xs) (hr2 : Rd w A2 zs) (hn1 : xs.length = n1) (hn2 : zs.length = n2) (hs1 : n1 ≤ 400) (hm : n2 = m + 16) (hs2 : m ≤ 65536) (hnc : n2 ≤ c2) (_hcm : c2 ≤ maxLen) :
    Calls Tryd.prog 20 #[.agg (K.map Y).toArray, .agg (N.map Y).toArray, .slice A1 n1 c1, .slice A2 n2 c2] w fun e w' =>
      (zs.drop m = tagS K N xs (zs.take m) → ∃ v, e = .returned (.tuple #[v, .int .i64 0]) ∧ Own w' w.heap.size v (streamS K N (zs.take m)) ∧ Below w.heap.size w w') ∧
      (¬ zs.drop m = tagS K N xs (zs.take m) → e = .returned (.tuple #[.slice none 0 0, .int .i64 60]) ∧ Below w.heap.size w w') := by
  have HX := Lib.hid (Bx.start w K N)
  have HSK := Lib.hid (sz23 hK)
  have HSN := Lib.hid (sz25 hN)
  have b0 : decide ((n2 : Int) < 16) = false := decide_eq_false (by omega)
  have b1 : decide ((65552 : Int) < (n2 : Int)) = false := decide_eq_false (by omega)
  have i1 : (n2 : Int) - 16 = (m : Int) := by omega
  have i2 : IntKind.i64.wrap ((n2 : Int) - 16) = (m : Int) := by rw [IntKind.wrap_i64]; omega
  have HIW := Lib.hid (show IntKind.i64.wrap (m : Int) = (m : Int) by rw [IntKind.wrap_i64]; omega)
  have kc : ¬ c2 = m := by omega
  have hrd := hr2.drop m c2 (by omega)
  rw [if_neg kc] at hrd
  have hsl : ∀ wx, (Instr.slice 26 (.slice A2 n2 c2) (some (.int .i64 m)) none none).run Tryd.prog wx = .ok (.slice (A2.map (·.add m)) 16 (c2 - m)) wx := fun wx => by
    have := slice_low A2 n2 c2 m (by omega) kc (m : Int) rfl wx
    rw [show n2 - m = 16 by omega] at this
    exact this
  have k3 : (m : Int) ≤ (n2 : Int) := by omega
  have k5 : (m : Int) ≤ (c2 : Int) := by omega
  have k2 : (0 : Int) ≤ (m : Int) := by omega
  obtain ⟨q, hq⟩ : ∃ q, q = decide (zs.drop m = tagS K N xs (zs.take m)) := ⟨_, rfl⟩
  have HQQ := Lib.hid hq
  have HQ := Lib.hid (hq_of _ _ q hq.symm)
  have hlt : (zs.take m).length = m := by rw [List.length_take]; omega
  have HL16 : Hid ((zs.drop m).length = 16) := by show _ = _; rw [List.length_drop]; omega
  obtain ⟨wr, hwr⟩ : ∃ wr, wr = (w.alloc (.cells (K.map Y).toArray 23)).alloc (.cells (N.map Y).toArray 25) := ⟨_, rfl⟩
  have HRD0 := Lib.hid hrd
  have HRT0 := Lib.hid (hr2.take m)
  have HRX0 := Lib.hid hr1
  have HNN := Lib.hid (⟨hn1, hlt⟩ : _ ∧ _)
  have HKN := Lib.hid (⟨hK, hN⟩ : _ ∧ _)
  have HM := Lib.hid hm
  clear hq hrd hr1 hr2 hn1 hn2 hK hN hlt hm
  go_enter Tryd.func20, Tryd.ntmps20
  go_wp2
  rw [← hwr] at HX ⊢
  have hsw : w.heap.size ≤ wr.heap.size := HX.out.old.size
  have HRD := Lib.hid (HRD0.out.below HX.out.old (Nat.le_refl _))
  have HRT := Lib.hid (HRT0.out.below HX.out.old (Nat.le_refl _))
  have HRX := Lib.hid (HRX0.out.below HX.out.old (Nat.le_refl _))
  clear hwr HRD0 HRT0 HRX0
  have HBd := Lib.hid ((Below.refl wr.heap.size wr).drew)
  have HC1 := Lib.hid (tag29 K N HKN.out.1 HKN.out.2 A1 A2 n1 m c1 c2 xs (zs.take m) wr.drew (HRX.out.below (Below.refl _ wr).drew (Nat.le_refl _)) (HRT.out.below (Below.refl _ wr).drew (Nat.le_refl _)) HNN.out.1 HNN.out.2 (by omega) (by omega))
  refine wp_region_held_drew (S := (fun w' => Below wr.heap.size wr w')) (by kernel_rfl) (Below.refl _ wr).drew (fun _ => ?_)
  refine held_pure (i := 0) (.slice A2 n2 c2) rfl (by kernel_rfl) (by kernel_rfl) (by kernel_rfl) (fun _ _ _ h => h) (fun _ _ => rfl) (Below.refl _ wr).drew ?_
  simp only [Act.put, List.setIfInBounds_toArray, List.set_cons_zero, List.set_cons_succ]
  refine held_pure (i := 1) (.slice A2 n2 c2) rfl (by kernel_rfl) (by kernel_rfl) (by kernel_rfl) (fun _ _ _ h => h) (fun _ _ => rfl) (Below.refl _ wr).drew ?_
  simp only [Act.put, List.setIfInBounds_toArray, List.set_cons_zero, List.set_cons_succ]
  refine held_pure (i := 2) (.int .i64 n2) rfl (by kernel_rfl) (by kernel_rfl) (by kernel_rfl) (fun _ _ _ h => h) (fun _ _ => by go_simp) (Below.refl _ wr).drew ?_
  simp only [Act.put, List.setIfInBounds_toArray, List.set_cons_zero, List.set_cons_succ]
  refine held_pure (i := 3) (.int .i64 m) rfl (by kernel_rfl) (by kernel_rfl) (by kernel_rfl) (fun _ _ _ h => h) (fun _ _ => by have e := HIW.out; go_simp) (Below.refl _ wr).drew ?_
  simp only [Act.put, List.setIfInBounds_toArray, List.set_cons_zero, List.set_cons_succ]
  refine held_pure (i := 4) (.slice (A2.map (·.add m)) 16 (c2 - m)) rfl (by kernel_rfl) (by kernel_rfl) (by kernel_rfl) (fun _ _ _ h => h) (fun wx _ => by have e := hsl wx; go_simp) (Below.refl _ wr).drew ?_
  simp only [Act.put, List.setIfInBounds_toArray, List.set_cons_zero, List.set_cons_succ]
  refine held_pure (i := 5) (.string (strOf (zs.drop m))) rfl (by kernel_rfl) (by kernel_rfl) (by kernel_rfl) (fun _ _ _ h => h) (fun wx h => by have s1 := run_str26 wx (A2.map (·.add m)) 16 (c2 - m) (zs.drop m) (HRD.out.below h (Nat.le_refl _)) HL16.out; go_simp) (Below.refl _ wr).drew ?_
  simp only [Act.put, List.setIfInBounds_toArray, List.set_cons_zero, List.set_cons_succ]
  refine held_row (i := 6) w.heap.size (K.map Y) _ _ _ rfl (by kernel_rfl) (by kernel_rfl) (by kernel_rfl) (fun _ _ _ h => h) rfl (fun _ h => (HX.out.kept h).rk) Tryd.underlying23 rfl HSK.out (Below.refl _ wr).drew ?_
  simp only [Act.put, List.setIfInBounds_toArray, List.set_cons_zero, List.set_cons_succ]
  refine held_row (i := 7) (w.heap.size + 1) (N.map Y) _ _ _ rfl (by kernel_rfl) (by kernel_rfl) (by kernel_rfl) (fun _ _ _ h => h) rfl (fun _ h => (HX.out.kept h).rn) Tryd.underlying25 rfl HSN.out (Below.refl _ wr).drew ?_
  simp only [Act.put, List.setIfInBounds_toArray, List.set_cons_zero, List.set_cons_succ]
  refine held_pure (i := 8) (.slice A1 n1 c1) rfl (by kernel_rfl) (by kernel_rfl) (by kernel_rfl) (fun _ _ _ h => h) (fun _ _ => rfl) (Below.refl _ wr).drew ?_
  simp only [Act.put, List.setIfInBounds_toArray, List.set_cons_zero, List.set_cons_succ]
  refine held_pure (i := 9) (.slice A2 m c2) rfl (by kernel_rfl) (by kernel_rfl) (by kernel_rfl) (fun _ _ _ h => h) (fun _ _ => rfl) (Below.refl _ wr).drew ?_
  simp only [Act.put, List.setIfInBounds_toArray, List.set_cons_zero, List.set_cons_succ]
  refine held_step (i := 10) rfl (by kernel_rfl) (fun K' hK => ?_)
  go_wp2_with fail
  with_reducible refine HC1.out.mono ?_
  rintro e w1 ⟨v34, rfl, hv34, hb1⟩
  obtain ⟨A34, c34, hve, -, -, hr34, -⟩ := hv34.form
  rw [length_tagS] at hve
  subst hve
  have HB1 := Lib.hid (HBd.out.trans (hb1.mono HBd.out.size))
  have s35 := run_str26 w1 A34 16 c34 _ hr34 (length_tagS _ _ _ _)
  clear hv34 hb1
  refine hK.out _ _ HB1.out ?_
  clear hK K'
  try simp only [Act.put, List.setIfInBounds_toArray, List.set_cons_zero, List.set_cons_succ]
  refine held_step (i := 11) rfl (by kernel_rfl) (fun K' hK => ?_)
  go_wp2
  refine hK.out _ _ HB1.out ?_
  clear hK K'
  try simp only [Act.put, List.setIfInBounds_toArray, List.set_cons_zero, List.set_cons_succ]
  refine held_pure (i := 12) (.bool (!q)) rfl (by kernel_rfl) (by kernel_rfl) (by kernel_rfl) (fun _ _ _ h => h) (fun _ _ => by have e := HQ.out; go_simp) HB1.out ?_
  simp only [Act.put, List.setIfInBounds_toArray, List.set_cons_zero, List.set_cons_succ]
  refine wpAnyH_done (by kernel_rfl) ?_ _
  by_cases hz : zs.drop m = tagS K N xs (zs.take m)
  · obtain rfl : q = true := by rw [HQQ.out]; exact decide_eq_true hz
    have HX1 := Lib.hid (HX.out.kept HB1.out)
    have HC2 := Lib.hid (Stream18 K N HKN.out.1 HKN.out.2 A2 m c2 (zs.take m) w1 (HRT.out.below HB1.out (Nat.le_refl _)) HNN.out.2 hs2)
    have HZ := Lib.hid hz
    have hsz1 := HB1.out.size
    clear hz
    go_wp2_with (first
    | ((with_reducible refine at_load 23 ?_); refine wpList_load_row rfl 23 _ rfl w.heap.size rfl 23 _ (0, 0) _ HX1.out.key Tryd.underlying23 rfl HSK.out ?_)
    | ((with_reducible refine at_load 25 ?_); refine wpList_load_row rfl 25 _ rfl (w.heap.size + 1) rfl 25 _ (0, 0) _ HX1.out.non Tryd.underlying25 rfl HSN.out ?_)
    | (go_at_call 18; (with_reducible refine HC2.out.mono ?_); rintro e w2 ⟨v40, rfl, hv40, hb2⟩; have HV := Lib.hid (hv40.mono (base' := w.heap.size) (by omega)); have HX2 := Lib.hid (HX1.out.kept hb2); clear hv40 hb2))
    go_ret2
    exact ⟨fun _ => ⟨_, rfl, HV.out, HX2.out.old⟩, fun hn => absurd HZ.out hn⟩
  · obtain rfl : q = false := by rw [HQQ.out]; exact decide_eq_false hz
    have HX1 := Lib.hid (HX.out.kept HB1.out)
    have HZ := Lib.hid hz
    clear hz
    go_wp2
    go_ret2
    exact ⟨fun h => absurd h HZ.out, fun _ => ⟨rfl, HX1.out.old⟩⟩
end Go.Proofs.YtbmjjmianhjfiaaDoor
