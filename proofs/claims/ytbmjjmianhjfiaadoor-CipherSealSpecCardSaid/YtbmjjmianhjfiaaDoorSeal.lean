/- What Seal returns. -/
import Derived.Test.YtbmjjmianhjfiaaDoorTag
import Derived.Test.YtbmjjmianhjfiaaDoorStream
namespace Go.Proofs.YtbmjjmianhjfiaaDoor
open Go.RowKit
attribute [local irreducible] sumS tagged

def tagS (K N xs ys : List (BitVec 8)) : List (BitVec 8) := (tagged (tagIn K N xs ys)).take 16
def sealS (K N xs ys : List (BitVec 8)) : List (BitVec 8) := streamS K N ys ++ tagS K N xs (streamS K N ys)
theorem length_tagS (K N xs ys : List (BitVec 8)) : (tagS K N xs ys).length = 16 := by simp [tagS, length_tagged]
theorem length_sealS (K N xs ys : List (BitVec 8)) : (sealS K N xs ys).length = ys.length + 16 := by simp [sealS, length_tagS, length_streamS]

set_option maxRecDepth 100000 in
set_option maxHeartbeats 1000000 in
theorem seal12 (K N : List (BitVec 8)) (hK : K.length = 32) (hN : N.length = 12) (A1 A2 : Option Addr) (n1 n2 c1 c2 : Nat) (xs ys : List (BitVec 8)) (w : World) (hT0 : Lay w 0 startS) (hT1 : Lay w 1 numbersS) (hT2 : Tab w 2 constsS)
    (hr1 : Rd w A1 xs) (hr2 : Rd w A2 ys) (hn1 : xs.length = n1) (hn2 : ys.length = n2) (hs1 : n1 ≤ 35184372088000) (hs2 : n2 ≤ 65536) :
    Calls Tryd.prog 12 #[.agg (K.map Y).toArray, .agg (N.map Y).toArray, .slice A1 n1 c1, .slice A2 n2 c2] w fun e w' => ∃ v, e = .returned (.tuple #[v, .int .i64 0]) ∧ Own w' w.heap.size v (sealS K N xs ys) ∧ Below w.heap.size w w' := by
  have b2 := boxB w K N
  have HC := Lib.hid (Stream15 K N hK hN A2 n2 c2 ys _ (hT2.below b2 (Nat.le_refl _)) (hr2.below b2 (Nat.le_refl _)) hn2 hs2)
  have HK := Lib.hid (boxK w K N)
  have HN := Lib.hid (boxN w K N)
  have HSK := Lib.hid (sz23 hK)
  have HSN := Lib.hid (sz25 hN)
  have HB := Lib.hid b2
  have HA := Lib.hid (⟨hT0, hT1, hr1, hn1, hn2, hK, hN⟩ : _ ∧ _ ∧ _ ∧ _ ∧ _ ∧ _ ∧ _)
  clear hT0 hT1 hT2 hr1 hr2 hn1 hn2 b2 hK hN
  go_enter Tryd.func12, Tryd.ntmps12
  go_wp2_with (first | ((with_reducible refine at_load 23 ?_); refine wpList_load_row rfl 23 _ rfl w.heap.size rfl 23 _ (0, 0) _ HK1.out Tryd.underlying23 rfl HSK.out ?_) | ((with_reducible refine at_load 25 ?_); refine wpList_load_row rfl 25 _ rfl (w.heap.size + 1) rfl 25 _ (0, 0) _ HN1.out Tryd.underlying25 rfl HSN.out ?_) | ((with_reducible refine at_load 23 ?_); refine wpList_load_row rfl 23 _ rfl w.heap.size rfl 23 _ (0, 0) _ HK.out Tryd.underlying23 rfl HSK.out ?_) | ((with_reducible refine at_load 25 ?_); refine wpList_load_row rfl 25 _ rfl (w.heap.size + 1) rfl 25 _ (0, 0) _ HN.out Tryd.underlying25 rfl HSN.out ?_) | (go_at_call 15; with_reducible refine HC.out.mono ?_; rintro e w1 ⟨v, rfl, hv, hb1⟩; obtain ⟨hT0, hT1, hr1, hn1, hn2, hK, hN⟩ := HA.out; have hl : (streamS K N ys).length = n2 := (by rw [length_streamS, hn2]); obtain ⟨Av, cv, hve, hcv, hmv, hrv, -⟩ := hv.form; rw [hl] at hve hcv; subst hve; have hbw : Below w.heap.size w w1 := HB.out.trans (hb1.mono HB.out.size); have HK1 := Lib.hid (HK.out.kept hb1); have HN1 := Lib.hid (HN.out.kept hb1); have HT := Lib.hid (tag21 K N hK hN A1 Av n1 n2 c1 cv xs (streamS K N ys) w1 (hT0.below hbw (Nat.le_refl _)) (hT1.below hbw (Nat.le_refl _)) (hr1.below hbw (Nat.le_refl _)) hrv hn1 hl hs1 (by omega)); have HV := Lib.hid hv; have HL := Lib.hid hl; have HBW := Lib.hid hbw; have hsz1 : w.heap.size + 2 ≤ w1.heap.size := (by have := hb1.size; simpa using this); clear hT0 hT1 hr1 hn1 hn2 hK hN hl hv hrv hbw hmv hcv hb1) | (go_at_call 21; with_reducible refine HT.out.mono ?_; rintro e w2 ⟨bt, ct, rfl, hbt, hct, hblk, hb2⟩) | ((with_reducible refine at_append 26 26 ?_); refine wpList_app26 rfl (.tmp 20) (.tmp 25) rfl (w.heap.size + 2) _ (streamS K N ys) (some ⟨bt, 0, none⟩) 16 ct (tagS K N xs (streamS K N ys)) rfl rfl ((HV.out.mono (base' := w.heap.size + 2) (by simp)).below hb2) ((Rd.block hblk).take 16) (length_tagS _ _ _ _) (by rw [HL.out]; omega) (by have := hb2.size; omega) ?_; intro v' w' hown' hg' hat'))
  go_ret2
  refine ⟨_, rfl, hown'.mono (by omega), below_app (HBW.out.trans (hb2.mono HBW.out.size)) (by have := hb2.size; omega) ((HV.out.mono (base' := w.heap.size + 2) (by simp)).below hb2) (by omega) hg'⟩

set_option maxHeartbeats 1000000 in
theorem seal12_no (K N : List (BitVec 8)) (hK : K.length = 32) (hN : N.length = 12) (A1 A2 : Option Addr) (n1 n2 c1 c2 : Nat) (w : World) (hs2 : 65536 < n2) (hs3 : n2 ≤ 70368744177664) :
    Calls Tryd.prog 12 #[.agg (K.map Y).toArray, .agg (N.map Y).toArray, .slice A1 n1 c1, .slice A2 n2 c2] w fun e w' => e = .returned (.tuple #[.slice none 0 0, .int .i64 60]) ∧ Below w.heap.size w w' := by
  have b2 := boxB w K N
  have HC := Lib.hid (Stream15_no K N A2 n2 c2 ((w.alloc (.cells (K.map Y).toArray 23)).alloc (.cells (N.map Y).toArray 25)) hs2 hs3)
  have HK := Lib.hid (boxK w K N)
  have HN := Lib.hid (boxN w K N)
  have HSK := Lib.hid (sz23 hK)
  have HSN := Lib.hid (sz25 hN)
  have HB := Lib.hid b2
  clear b2 hK hN
  go_enter Tryd.func12, Tryd.ntmps12
  go_wp2_with (first | ((with_reducible refine at_load 23 ?_); refine wpList_load_row rfl 23 _ rfl w.heap.size rfl 23 _ (0, 0) _ HK.out Tryd.underlying23 rfl HSK.out ?_) | ((with_reducible refine at_load 25 ?_); refine wpList_load_row rfl 25 _ rfl (w.heap.size + 1) rfl 25 _ (0, 0) _ HN.out Tryd.underlying25 rfl HSN.out ?_) | (go_at_call 15; with_reducible refine HC.out.mono ?_; rintro e w1 ⟨rfl, hb1⟩))
  go_ret2
  exact ⟨rfl, HB.out.trans (hb1.mono HB.out.size)⟩
end Go.Proofs.YtbmjjmianhjfiaaDoor
