/- The law CipherBlockSpec, walked: Block answers as the reference's Block does. -/
import Derived.Test.YtbmjjmianhjfiaaDoorRefBlock
import Derived.Test.YtbmjjmianhjfiaaDoorLawIn
import Derived.Test.YtbmjjmianhjfiaaDoorEqual
namespace Go.Proofs.YtbmjjmianhjfiaaDoor
open Go.RowKit
attribute [local irreducible] sumS tagged

def ctrs (c : Int) (m : Nat) : List Int := [c, (m : Int), 0, 4294967295, 4294967296]
def Iv (n : Int) : Value := .int .i64 n

set_option maxRecDepth 100000 in
set_option maxHeartbeats 4000000 in
theorem blockSpec5 (K N : List (BitVec 8)) (hK : K.length = 32) (hN : N.length = 12) (ctr : Int) (w : World) (ht : Tabs w) :
    Calls Tryd.prog 5 #[.agg (K.map Y).toArray, .agg (N.map Y).toArray, .int .i64 ctr] w fun e w' => e = .returned (.bool true) ∧ Below w.heap.size w w' := by
  obtain ⟨m, hm, hand⟩ := and_mask ctr 65535 (by omega)
  rw [show ((65535 : Nat) : Int) = 65535 from rfl] at hand
  have HL := Lib.hid (LIn.start w K N ht)
  have HS := Lib.hid (sane11 _ HL.out.tabs.t0 HL.out.tabs.t1 HL.out.tabs.t2)
  have HSK := Lib.hid (sz23 hK)
  have HSN := Lib.hid (sz25 hN)
  have HKN := Lib.hid (⟨hK, hN⟩ : _ ∧ _)
  clear hK hN ht hm
  go_enter Tryd.func5, Tryd.ntmps5
  go_wp2_with (go_at_call 11; with_reducible refine HS.out.mono ?_; rintro e w1 ⟨rfl, hb1⟩; have HL1 := Lib.hid (HL.out.kept hb1); clear hb1)
  clear hand
  refine forget_wp (fun w2 => LIn w K N w2 ∧ Blk w2 w1.heap.size 3 ((ctrs ctr m).map Iv)) ⟨HL1.out.alloc _, Blk.new w1 3 ((ctrs ctr m).map Iv)⟩ ?_
  rintro w2 ⟨hl2, hk2⟩
  have HL2 := Lib.hid hl2
  have HK2 := Lib.hid hk2
  clear hl2 hk2
  go_loopw [20] (fun i wr => ∃ k : Nat, k ≤ 5 ∧ i = .int .i64 k ∧ Below w2.heap.size w2 wr) (fun i _ => 5 - (intOf i).toNat)
  case atStart => exact ⟨0, by omega, rfl, Below.refl _ _⟩
  case round =>
    obtain ⟨k, hk, rfl, hbel⟩ := hrel
    have HLr := Lib.hid (HL2.out.kept hbel)
    by_cases hlt : k < 5
    · have k6 : (k : Int) < 5 := by omega
      have cc : wr.cell? ⟨w1.heap.size, k, none⟩ = some (.int .i64 ((ctrs ctr m).getD k 0)) := by
        rw [(HK2.out.kept hbel).at k]
        have : k < (ctrs ctr m).length := hlt
        simp [Iv, this]
      generalize (ctrs ctr m).getD k 0 = c at cc
      have HB := Lib.hid hbel
      have hsz := hbel.size
      clear hbel
      by_cases hc : 0 ≤ c ∧ c ≤ 4294967295
      · have HC1 := Lib.hid (Block16 K N HKN.out.1 HKN.out.2 c hc.1 hc.2 wr HLr.out.tabs.t2)
        have HCC := Lib.hid hc
        clear hc
        go_wp2_with (first
    | ((with_reducible refine at_load 23 ?_); refine wpList_load_row rfl 23 _ rfl w.heap.size rfl 23 _ (0, 0) _ HL4.out.key Tryd.underlying23 rfl HSK.out ?_)
    | ((with_reducible refine at_load 25 ?_); refine wpList_load_row rfl 25 _ rfl (w.heap.size + 1) rfl 25 _ (0, 0) _ HL4.out.non Tryd.underlying25 rfl HSN.out ?_)
    | ((with_reducible refine at_load 23 ?_); refine wpList_load_row rfl 23 _ rfl w.heap.size rfl 23 _ (0, 0) _ HLr.out.key Tryd.underlying23 rfl HSK.out ?_)
    | ((with_reducible refine at_load 25 ?_); refine wpList_load_row rfl 25 _ rfl (w.heap.size + 1) rfl 25 _ (0, 0) _ HLr.out.non Tryd.underlying25 rfl HSN.out ?_)
          | (go_at_call 16; (with_reducible refine HC1.out.mono ?_); rintro e w4 ⟨v4, rfl, hv4, hb4⟩; obtain ⟨A4, c4, hve, -, -, hr4, -⟩ := hv4.form; rw [length_blockS] at hve; subst hve; have HR4 := Lib.hid hr4; have HL4 := Lib.hid (HLr.out.kept hb4); have HB4 := Lib.hid (HB.out.trans (hb4.mono hsz)); have HC2 := Lib.hid (Block17 K N HKN.out.1 HKN.out.2 c HCC.out.1 HCC.out.2 w4); clear hv4 hr4 hb4)
          | (go_at_call 17; (with_reducible refine HC2.out.mono ?_); rintro e w5 ⟨v5, rfl, hv5, hb5⟩; obtain ⟨A5, c5, hve, -, -, hr5, -⟩ := hv5.form; rw [length_blockS] at hve; subst hve; have HB5 := Lib.hid (HB4.out.trans (hb5.mono HB4.out.size)); have s1 := run_str26 w5 A4 64 c4 _ (HR4.out.kept hb5) (length_blockS _ _ _); have s2 := run_str26 w5 A5 64 c5 _ hr5 (length_blockS _ _ _); clear hv5 hr5 hb5))
        exact ⟨⟨k + 1, by omega, by go_num, HB5.out⟩, by simp [intOf]; omega⟩
      · have HC1 := Lib.hid (Block16_no K N c (by omega) wr)
        have HC2 := fun w4 => Block17_no K N c (by omega) w4
        have HC2 := Lib.hid HC2
        clear hc
        go_wp2_with (first
    | ((with_reducible refine at_load 23 ?_); refine wpList_load_row rfl 23 _ rfl w.heap.size rfl 23 _ (0, 0) _ HL4.out.key Tryd.underlying23 rfl HSK.out ?_)
    | ((with_reducible refine at_load 25 ?_); refine wpList_load_row rfl 25 _ rfl (w.heap.size + 1) rfl 25 _ (0, 0) _ HL4.out.non Tryd.underlying25 rfl HSN.out ?_)
    | ((with_reducible refine at_load 23 ?_); refine wpList_load_row rfl 23 _ rfl w.heap.size rfl 23 _ (0, 0) _ HLr.out.key Tryd.underlying23 rfl HSK.out ?_)
    | ((with_reducible refine at_load 25 ?_); refine wpList_load_row rfl 25 _ rfl (w.heap.size + 1) rfl 25 _ (0, 0) _ HLr.out.non Tryd.underlying25 rfl HSN.out ?_)
          | (go_at_call 16; (with_reducible refine HC1.out.mono ?_); rintro e w4 ⟨rfl, hb4⟩; have HL4 := Lib.hid (HLr.out.kept hb4); have HB4 := Lib.hid (HB.out.trans (hb4.mono hsz)); clear hb4)
          | (go_at_call 17; (with_reducible refine (HC2.out w4).mono ?_); rintro e w5 ⟨rfl, hb5⟩; have HB5 := Lib.hid (HB4.out.trans (hb5.mono HB4.out.size)); have s1 := run_str26 w5 none 0 0 [] (Rd.nil _ _) rfl; clear hb5))
        exact ⟨⟨k + 1, by omega, by go_num, HB5.out⟩, by simp [intOf]; omega⟩
    · obtain rfl : k = 5 := by omega
      rw [show ((5 : Nat) : Int) = 5 from rfl]
      go_wp2
      go_ret
      exact ⟨rfl, HLr.out.old⟩
end Go.Proofs.YtbmjjmianhjfiaaDoor
