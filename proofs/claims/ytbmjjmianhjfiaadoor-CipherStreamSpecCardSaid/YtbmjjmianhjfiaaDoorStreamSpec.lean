/- The law CipherStreamSpec, walked: Stream answers as the reference's Stream does. -/
import Derived.Test.YtbmjjmianhjfiaaDoorRefStream
import Derived.Test.YtbmjjmianhjfiaaDoorStream
namespace Go.Proofs.YtbmjjmianhjfiaaDoor
open Go.RowKit
attribute [local irreducible] sumS tagged

set_option maxRecDepth 100000 in
set_option maxHeartbeats 4000000 in
theorem streamSpec6_out (K N : List (BitVec 8)) (A : Option Addr) (n c : Nat) (w : World) (ht : Tabs w) (h : 400 < n ∧ n ≤ 65536 ∨ 70000 < n) :
    Calls Tryd.prog 6 #[.agg (K.map Y).toArray, .agg (N.map Y).toArray, .slice A n c] w fun e w' => e = .returned (.bool true) ∧ Below w.heap.size w w' := by
  have HL := Lib.hid (LIn.start w K N ht)
  have HS := Lib.hid (sane11 _ HL.out.tabs.t0 HL.out.tabs.t1 HL.out.tabs.t2)
  rcases h with ⟨h1, h2⟩ | h
  · have b0 : decide ((400 : Int) < (n : Int)) = true := decide_eq_true (by omega)
    have b1 : decide ((n : Int) ≤ 65536) = true := decide_eq_true (by omega)
    clear h1 h2
    go_enter Tryd.func6, Tryd.ntmps6
    go_wp2_with (go_at_call 11; with_reducible refine HS.out.mono ?_; rintro e w1 ⟨rfl, hb1⟩; have HL1 := Lib.hid (HL.out.kept hb1))
    go_ret
    exact ⟨rfl, HL1.out.old⟩
  · have b0 : decide ((400 : Int) < (n : Int)) = true := decide_eq_true (by omega)
    have b1 : decide ((n : Int) ≤ 65536) = false := decide_eq_false (by omega)
    have b2 : decide ((70000 : Int) < (n : Int)) = true := decide_eq_true (by omega)
    clear h
    go_enter Tryd.func6, Tryd.ntmps6
    go_wp2_with (go_at_call 11; with_reducible refine HS.out.mono ?_; rintro e w1 ⟨rfl, hb1⟩; have HL1 := Lib.hid (HL.out.kept hb1))
    go_ret
    exact ⟨rfl, HL1.out.old⟩

set_option maxRecDepth 100000 in
set_option maxHeartbeats 4000000 in
theorem streamSpec6_in (K N : List (BitVec 8)) (hK : K.length = 32) (hN : N.length = 12) (A : Option Addr) (n c : Nat) (xs : List (BitVec 8)) (w : World) (ht : Tabs w) (hr : Rd w A xs) (hn : xs.length = n) (h : n ≤ 400) :
    Calls Tryd.prog 6 #[.agg (K.map Y).toArray, .agg (N.map Y).toArray, .slice A n c] w fun e w' => e = .returned (.bool true) ∧ Below w.heap.size w w' := by
  have HL := Lib.hid (LIn.start w K N ht)
  have HS := Lib.hid (sane11 _ HL.out.tabs.t0 HL.out.tabs.t1 HL.out.tabs.t2)
  have HSK := Lib.hid (sz23 hK)
  have HSN := Lib.hid (sz25 hN)
  have HKN := Lib.hid (⟨hK, hN⟩ : _ ∧ _)
  have HR := Lib.hid (⟨hr, hn⟩ : _ ∧ _)
  have b0 : decide ((400 : Int) < (n : Int)) = false := decide_eq_false (by omega)
  have b2 : decide ((70000 : Int) < (n : Int)) = false := decide_eq_false (by omega)
  clear hK hN hr hn ht
  go_enter Tryd.func6, Tryd.ntmps6
  go_wp2_with (first
    | ((with_reducible refine at_load 23 ?_); refine wpList_load_row rfl 23 _ rfl w.heap.size rfl 23 _ (0, 0) _ HL2.out.key Tryd.underlying23 rfl HSK.out ?_)
    | ((with_reducible refine at_load 25 ?_); refine wpList_load_row rfl 25 _ rfl (w.heap.size + 1) rfl 25 _ (0, 0) _ HL2.out.non Tryd.underlying25 rfl HSN.out ?_)
    | ((with_reducible refine at_load 23 ?_); refine wpList_load_row rfl 23 _ rfl w.heap.size rfl 23 _ (0, 0) _ HL1.out.key Tryd.underlying23 rfl HSK.out ?_)
    | ((with_reducible refine at_load 25 ?_); refine wpList_load_row rfl 25 _ rfl (w.heap.size + 1) rfl 25 _ (0, 0) _ HL1.out.non Tryd.underlying25 rfl HSN.out ?_)
    | (go_at_call 11; with_reducible refine HS.out.mono ?_; rintro e w1 ⟨rfl, hb1⟩; have HL1 := Lib.hid (HL.out.kept hb1); have HC1 := Lib.hid (Stream15 K N HKN.out.1 HKN.out.2 A n c xs w1 HL1.out.tabs.t2 (HR.out.1.below HL1.out.old (Nat.le_refl _)) HR.out.2 (by omega)); clear hb1)
    | (go_at_call 15; (with_reducible refine HC1.out.mono ?_); rintro e w2 ⟨v7, rfl, hv7, hb2⟩; obtain ⟨A7, c7, hve, -, -, hr7, -⟩ := hv7.form; rw [length_streamS, HR.out.2] at hve; subst hve; have HX2 := Lib.hid hr7; have HL2 := Lib.hid (HL1.out.kept hb2); have HC2 := Lib.hid (Stream18 K N HKN.out.1 HKN.out.2 A n c xs w2 (HR.out.1.below HL2.out.old (Nat.le_refl _)) HR.out.2 (by omega)); clear hv7 hb2 hr7)
    | (go_at_call 18; (with_reducible refine HC2.out.mono ?_); rintro e w3 ⟨v9, rfl, hv9, hb3⟩; obtain ⟨A9, c9, hve, -, -, hr9, -⟩ := hv9.form; rw [length_streamS, HR.out.2] at hve; subst hve; have HL3 := Lib.hid (HL2.out.kept hb3); have s1 := run_str26 w3 A7 n c7 _ (HX2.out.kept hb3) (by rw [length_streamS, HR.out.2]); have s2 := run_str26 w3 A9 n c9 _ hr9 (by rw [length_streamS, HR.out.2]); clear hv9 hb3 hr9))
  go_ret
  exact ⟨rfl, HL3.out.old⟩

set_option maxRecDepth 100000 in
set_option maxHeartbeats 4000000 in
theorem streamSpec6_no (K N : List (BitVec 8)) (hK : K.length = 32) (hN : N.length = 12) (A : Option Addr) (n c : Nat) (w : World) (ht : Tabs w) (h : 65536 < n) (h2 : n ≤ 70000) :
    Calls Tryd.prog 6 #[.agg (K.map Y).toArray, .agg (N.map Y).toArray, .slice A n c] w fun e w' => e = .returned (.bool true) ∧ Below w.heap.size w w' := by
  have HL := Lib.hid (LIn.start w K N ht)
  have HS := Lib.hid (sane11 _ HL.out.tabs.t0 HL.out.tabs.t1 HL.out.tabs.t2)
  have HSK := Lib.hid (sz23 hK)
  have HSN := Lib.hid (sz25 hN)
  have b0 : decide ((400 : Int) < (n : Int)) = true := decide_eq_true (by omega)
  have b1 : decide ((n : Int) ≤ 65536) = false := decide_eq_false (by omega)
  have b2 : decide ((70000 : Int) < (n : Int)) = false := decide_eq_false (by omega)
  have HN2 := Lib.hid (⟨h, h2⟩ : _ ∧ _)
  clear hK hN ht h h2
  go_enter Tryd.func6, Tryd.ntmps6
  go_wp2_with (first
    | ((with_reducible refine at_load 23 ?_); refine wpList_load_row rfl 23 _ rfl w.heap.size rfl 23 _ (0, 0) _ HL2.out.key Tryd.underlying23 rfl HSK.out ?_)
    | ((with_reducible refine at_load 25 ?_); refine wpList_load_row rfl 25 _ rfl (w.heap.size + 1) rfl 25 _ (0, 0) _ HL2.out.non Tryd.underlying25 rfl HSN.out ?_)
    | ((with_reducible refine at_load 23 ?_); refine wpList_load_row rfl 23 _ rfl w.heap.size rfl 23 _ (0, 0) _ HL1.out.key Tryd.underlying23 rfl HSK.out ?_)
    | ((with_reducible refine at_load 25 ?_); refine wpList_load_row rfl 25 _ rfl (w.heap.size + 1) rfl 25 _ (0, 0) _ HL1.out.non Tryd.underlying25 rfl HSN.out ?_)
    | (go_at_call 11; with_reducible refine HS.out.mono ?_; rintro e w1 ⟨rfl, hb1⟩; have HL1 := Lib.hid (HL.out.kept hb1); have HC1 := Lib.hid (Stream15_no K N A n c w1 HN2.out.1 (by have := HN2.out.2; omega)); clear hb1)
    | (go_at_call 15; (with_reducible refine HC1.out.mono ?_); rintro e w2 ⟨rfl, hb2⟩; have HL2 := Lib.hid (HL1.out.kept hb2); have HC2 := Lib.hid (Stream18_no K N A n c w2 HN2.out.1); clear hb2)
    | (go_at_call 18; (with_reducible refine HC2.out.mono ?_); rintro e w3 ⟨rfl, hb3⟩; have HL3 := Lib.hid (HL2.out.kept hb3); have s1 := run_str26 w3 none 0 0 [] (Rd.nil _ _) rfl; clear hb3))
  go_ret
  exact ⟨rfl, HL3.out.old⟩
end Go.Proofs.YtbmjjmianhjfiaaDoor
