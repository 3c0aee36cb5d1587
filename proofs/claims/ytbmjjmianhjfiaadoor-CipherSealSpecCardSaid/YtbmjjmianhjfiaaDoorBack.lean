/- The law CipherBack, walked: what is sealed is opened; the head turns the last 16 bytes alone. -/
import Derived.Test.YtbmjjmianhjfiaaDoorPlaces
namespace Go.Proofs.YtbmjjmianhjfiaaDoor
open Go.RowKit
attribute [local irreducible] sumS tagged tagS

set_option maxRecDepth 100000 in
set_option maxHeartbeats 4000000 in
theorem back8_out (K N : List (BitVec 8)) (A2 A3 A4 : Option Addr) (n2 n3 n4 c2 c3 c4 : Nat) (w : World) (ht : Tabs w) (h : 400 < n4 ∨ 400 < n2 ∨ 400 < n3) :
    Calls Tryd.prog 8 #[.agg (K.map Y).toArray, .agg (N.map Y).toArray, .slice A2 n2 c2, .slice A3 n3 c3, .slice A4 n4 c4] w fun e w' => e = .returned (.bool true) ∧ Below w.heap.size w w' := by
  have HL := Lib.hid (LIn.start w K N ht)
  have HS := Lib.hid (sane11 _ HL.out.tabs.t0 HL.out.tabs.t1 HL.out.tabs.t2)
  by_cases h4 : 400 < n4
  · have i0 : (400 : Int) < (n4 : Int) := by omega
    clear h h4
    go_enter Tryd.func8, Tryd.ntmps8
    go_wp2_with (go_at_call 11; with_reducible refine HS.out.mono ?_; rintro e w1 ⟨rfl, hb1⟩; have HL1 := Lib.hid (HL.out.kept hb1))
    go_ret
    exact ⟨rfl, HL1.out.old⟩
  · have i0 : ¬ (400 : Int) < (n4 : Int) := by omega
    by_cases h2 : 400 < n2
    · have i1 : (400 : Int) < (n2 : Int) := by omega
      clear h h4 h2
      go_enter Tryd.func8, Tryd.ntmps8
      go_wp2_with (go_at_call 11; with_reducible refine HS.out.mono ?_; rintro e w1 ⟨rfl, hb1⟩; have HL1 := Lib.hid (HL.out.kept hb1))
      go_ret
      exact ⟨rfl, HL1.out.old⟩
    · have i1 : ¬ (400 : Int) < (n2 : Int) := by omega
      have i2 : (400 : Int) < (n3 : Int) := by omega
      clear h h4 h2
      go_enter Tryd.func8, Tryd.ntmps8
      go_wp2_with (go_at_call 11; with_reducible refine HS.out.mono ?_; rintro e w1 ⟨rfl, hb1⟩; have HL1 := Lib.hid (HL.out.kept hb1))
      go_ret
      exact ⟨rfl, HL1.out.old⟩

theorem open_back (K N : List (BitVec 8)) (hK : K.length = 32) (hN : N.length = 12) (A1 A : Option Addr) (n1 c1 m c : Nat) (xs ys : List (BitVec 8)) (w : World) (ht : Tabs w) (hr1 : Rd w A1 xs) (hn1 : xs.length = n1) (hs1 : n1 ≤ 35184372088000)
    (hm : ys.length = m) (hs : m ≤ 65536) (hr : Rd w A (sealS K N xs ys)) (hc : m + 16 ≤ c) (hcm : c ≤ maxLen) :
    Calls Tryd.prog 14 #[.agg (K.map Y).toArray, .agg (N.map Y).toArray, .slice A1 n1 c1, .slice A (m + 16) c] w fun e w' => ∃ A' c', e = .returned (.tuple #[.slice A' m c', .int .i64 0]) ∧ m ≤ c' ∧ Rd w' A' ys ∧ Below w.heap.size w w' := by
  refine (open14_main K N hK hN A1 A n1 (m + 16) m c1 c xs (sealS K N xs ys) w ht.t0 ht.t1 ht.t2 hr1 hr hn1 (by rw [length_sealS, hm]) hs1 rfl hs hc hcm).mono fun e w' h' => ?_
  obtain ⟨v, rfl, hv, hb'⟩ := h'.1 (by rw [sealS_take _ _ _ _ m hm, sealS_drop _ _ _ _ m hm])
  rw [sealS_take _ _ _ _ m hm, streamS_twice] at hv
  obtain ⟨A', c', rfl, hcl, -, hr', -⟩ := hv.form
  rw [hm] at hcl
  exact ⟨A', c', by rw [hm], hcl, hr', hb'⟩

set_option maxRecDepth 100000 in
set_option maxHeartbeats 4000000 in
theorem back8_in (K N : List (BitVec 8)) (hK : K.length = 32) (hN : N.length = 12) (A2 A3 A4 : Option Addr) (n2 n3 n4 c2 c3 c4 : Nat) (hs os bs : List (BitVec 8)) (w : World) (ht : Tabs w)
    (hr2 : Rd w A2 hs) (hr3 : Rd w A3 os) (hr4 : Rd w A4 bs) (hn2 : hs.length = n2) (hn3 : os.length = n3) (hn4 : bs.length = n4) (h2 : n2 ≤ 400) (h3 : n3 ≤ 400) (h4 : n4 ≤ 400) :
    Calls Tryd.prog 8 #[.agg (K.map Y).toArray, .agg (N.map Y).toArray, .slice A2 n2 c2, .slice A3 n3 c3, .slice A4 n4 c4] w fun e w' => e = .returned (.bool true) ∧ Below w.heap.size w w' := by
  have HL := Lib.hid (LIn.start w K N ht)
  have HS := Lib.hid (sane11 _ HL.out.tabs.t0 HL.out.tabs.t1 HL.out.tabs.t2)
  have HSK := Lib.hid (sz23 hK)
  have HSN := Lib.hid (sz25 hN)
  have HKN := Lib.hid (⟨hK, hN⟩ : _ ∧ _)
  have HR := Lib.hid (⟨hr2, hr3, hr4⟩ : _ ∧ _ ∧ _)
  have HN := Lib.hid (⟨hn2, hn3, hn4⟩ : _ ∧ _ ∧ _)
  have i0 : ¬ (400 : Int) < (n4 : Int) := by omega
  have i1 : ¬ (400 : Int) < (n2 : Int) := by omega
  have i2 : ¬ (400 : Int) < (n3 : Int) := by omega
  have i3 : (n4 : Int) ≤ 400 := by omega
  have b0 : decide ((400 : Int) < (n4 : Int)) = false := decide_eq_false i0
  have b1 : decide ((400 : Int) < (n2 : Int)) = false := decide_eq_false i1
  have b2 : decide ((400 : Int) < (n3 : Int)) = false := decide_eq_false i2
  clear hK hN hr2 hr3 hr4 hn2 hn3 hn4 ht
  go_enter Tryd.func8, Tryd.ntmps8
  go_wp2_with (first
    | ((with_reducible refine at_load 23 ?_); refine wpList_load_row rfl 23 _ rfl w.heap.size rfl 23 _ (0, 0) _ HL4.out.key Tryd.underlying23 rfl HSK.out ?_)
    | ((with_reducible refine at_load 25 ?_); refine wpList_load_row rfl 25 _ rfl (w.heap.size + 1) rfl 25 _ (0, 0) _ HL4.out.non Tryd.underlying25 rfl HSN.out ?_)
    | ((with_reducible refine at_load 23 ?_); refine wpList_load_row rfl 23 _ rfl w.heap.size rfl 23 _ (0, 0) _ HL3.out.key Tryd.underlying23 rfl HSK.out ?_)
    | ((with_reducible refine at_load 25 ?_); refine wpList_load_row rfl 25 _ rfl (w.heap.size + 1) rfl 25 _ (0, 0) _ HL3.out.non Tryd.underlying25 rfl HSN.out ?_)
    | ((with_reducible refine at_load 23 ?_); refine wpList_load_row rfl 23 _ rfl w.heap.size rfl 23 _ (0, 0) _ HL2.out.key Tryd.underlying23 rfl HSK.out ?_)
    | ((with_reducible refine at_load 25 ?_); refine wpList_load_row rfl 25 _ rfl (w.heap.size + 1) rfl 25 _ (0, 0) _ HL2.out.non Tryd.underlying25 rfl HSN.out ?_)
    | ((with_reducible refine at_load 23 ?_); refine wpList_load_row rfl 23 _ rfl w.heap.size rfl 23 _ (0, 0) _ HL1.out.key Tryd.underlying23 rfl HSK.out ?_)
    | ((with_reducible refine at_load 25 ?_); refine wpList_load_row rfl 25 _ rfl (w.heap.size + 1) rfl 25 _ (0, 0) _ HL1.out.non Tryd.underlying25 rfl HSN.out ?_)
    | (go_at_call 11; with_reducible refine HS.out.mono ?_; rintro e w1 ⟨rfl, hb1⟩; have HL1 := Lib.hid (HL.out.kept hb1); have HC1 := Lib.hid (seal12 K N HKN.out.1 HKN.out.2 A2 A4 n2 n4 c2 c4 hs bs w1 HL1.out.tabs.t0 HL1.out.tabs.t1 HL1.out.tabs.t2 (HR.out.1.below HL1.out.old (Nat.le_refl _)) (HR.out.2.2.below HL1.out.old (Nat.le_refl _)) HN.out.1 HN.out.2.2 (by omega) (by omega)); clear hb1)
    | (go_at_call 12; (with_reducible refine HC1.out.mono ?_); rintro e w2 ⟨v11, rfl, hv11, hb2⟩; obtain ⟨A11, c11, hve, hc11, hm11, hr11, -⟩ := hv11.form; rw [length_sealS, HN.out.2.2] at hve hc11; subst hve; have HX2 := Lib.hid hr11; have HL2 := Lib.hid (HL1.out.kept hb2); have HC2 := Lib.hid (open_back K N HKN.out.1 HKN.out.2 A2 A11 n2 c2 n4 c11 hs bs w2 HL2.out.tabs (HR.out.1.below HL2.out.old (Nat.le_refl _)) HN.out.1 (by omega) HN.out.2.2 (by omega) HX2.out hc11 hm11); clear hv11 hb2 hr11)
    | (go_at_call 14; (with_reducible refine HC2.out.mono ?_); rintro e w3 ⟨A13, c13, rfl, hc13, hr13, hb3⟩; have HX3 := Lib.hid (HX2.out.kept hb3); have HL3 := Lib.hid (HL2.out.kept hb3); have HY3 := Lib.hid hr13; have HC3 := Lib.hid (seal12 K N HKN.out.1 HKN.out.2 A3 A4 n3 n4 c3 c4 os bs w3 HL3.out.tabs.t0 HL3.out.tabs.t1 HL3.out.tabs.t2 (HR.out.2.1.below HL3.out.old (Nat.le_refl _)) (HR.out.2.2.below HL3.out.old (Nat.le_refl _)) HN.out.2.1 HN.out.2.2 (by omega) (by omega)); clear hr13 hb3)
    | (go_at_call 12; (with_reducible refine HC3.out.mono ?_); rintro e w4 ⟨v15, rfl, hv15, hb4⟩; obtain ⟨A15, c15, hve, hc15, hm15, hr15, -⟩ := hv15.form; rw [length_sealS, HN.out.2.2] at hve hc15; subst hve; have HX4 := Lib.hid (HX3.out.kept hb4); have HY4 := Lib.hid (HY3.out.kept hb4); have HZ4 := Lib.hid hr15; have HL4 := Lib.hid (HL3.out.kept hb4); have HC4 := Lib.hid (Stream15 K N HKN.out.1 HKN.out.2 A4 n4 c4 bs w4 HL4.out.tabs.t2 (HR.out.2.2.below HL4.out.old (Nat.le_refl _)) HN.out.2.2 (by omega)); clear hv15 hb4 hr15)
    | (go_at_call 15; (with_reducible refine HC4.out.mono ?_); rintro e w5 ⟨v17, rfl, hv17, hb5⟩; obtain ⟨A17, c17, hve, hc17, hm17, hr17, -⟩ := hv17.form; rw [length_streamS, HN.out.2.2] at hve hc17; subst hve; have HX5 := Lib.hid (HX4.out.kept hb5); have HZ5 := Lib.hid (HZ4.out.kept hb5); have HL5 := Lib.hid (HL4.out.kept hb5); have s1 := run_str26 w5 A13 n4 c13 bs (HY4.out.kept hb5) HN.out.2.2; have s2 := run_str26 w5 A4 n4 c4 bs (HR.out.2.2.below HL5.out.old (Nat.le_refl _)) HN.out.2.2; have HS5 := Lib.hid hr17; clear hv17 hb5 hr17))
  clear s1 s2
  have hn4 := HN.out.2.2
  have t1 : ∀ k, (convert 26 9 (.slice A11 n4 c11)).run Tryd.prog (w5.drewN k) = .ok (.string (strOf (streamS K N bs))) (w5.drewN k) := fun k => run_str26 (w5.drewN k) A11 n4 c11 _ (by rw [← sealS_take K N hs bs n4 hn4]; exact (HX5.out.take n4).drewN k) (by rw [length_streamS, hn4])
  have t2 : ∀ k, (convert 26 9 (.slice A15 n4 c15)).run Tryd.prog (w5.drewN k) = .ok (.string (strOf (streamS K N bs))) (w5.drewN k) := fun k => run_str26 (w5.drewN k) A15 n4 c15 _ (by rw [← sealS_take K N os bs n4 hn4]; exact (HZ5.out.take n4).drewN k) (by rw [length_streamS, hn4])
  have t3 : ∀ k, (convert 26 9 (.slice A17 n4 c17)).run Tryd.prog (w5.drewN k) = .ok (.string (strOf (streamS K N bs))) (w5.drewN k) := fun k => run_str26 (w5.drewN k) A17 n4 c17 _ (HS5.out.drewN k) (by rw [length_streamS, hn4])
  have j0 : (0 : Int) ≤ (n4 : Int) := by omega
  have j1 : (n4 : Int) ≤ (c11 : Int) := by omega
  have j2 : (n4 : Int) ≤ (c15 : Int) := by omega
  clear hn4
  go_quiet (fail)
  go_wp2
  go_ret
  exact ⟨rfl, below_drewN HL5.out.old nq⟩
end Go.Proofs.YtbmjjmianhjfiaaDoor
