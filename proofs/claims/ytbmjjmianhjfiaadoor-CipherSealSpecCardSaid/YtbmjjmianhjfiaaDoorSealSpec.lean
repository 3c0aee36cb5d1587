/- The law CipherSealSpec, walked: Seal and Open answer as the reference's Seal and Open do. -/
import Derived.Test.YtbmjjmianhjfiaaDoorRefSO
namespace Go.Proofs.YtbmjjmianhjfiaaDoor
open Go.RowKit
attribute [local irreducible] sumS tagged tagS

theorem seal_alike (K N : List (BitVec 8)) (hK : K.length = 32) (hN : N.length = 12) (A1 : Option Addr) (n1 c1 : Nat) (xs : List (BitVec 8)) (hn1 : xs.length = n1) (hs1 : n1 ≤ 400) (A2 : Option Addr) (n2 c2 : Nat) (ys : List (BitVec 8)) (hn2 : ys.length = n2) (h : n2 ≤ 400 ∨ 65536 < n2 ∧ n2 ≤ 70000) :
    ∃ (z : Int) (S : List (BitVec 8)) (n : Nat), S.length = n ∧ n ≤ 70000 ∧
      (∀ w, Tabs w → Rd w A1 xs → Rd w A2 ys → Calls Tryd.prog 12 #[.agg (K.map Y).toArray, .agg (N.map Y).toArray, .slice A1 n1 c1, .slice A2 n2 c2] w fun e w' => ∃ A c, e = .returned (.tuple #[.slice A n c, .int .i64 z]) ∧ Rd w' A S ∧ Below w.heap.size w w') ∧
      (∀ w, Rd w A1 xs → Rd w A2 ys → Calls Tryd.prog 19 #[.agg (K.map Y).toArray, .agg (N.map Y).toArray, .slice A1 n1 c1, .slice A2 n2 c2] w fun e w' => ∃ A c, e = .returned (.tuple #[.slice A n c, .int .i64 z]) ∧ Rd w' A S ∧ n ≤ c ∧ c ≤ maxLen ∧ Below w.heap.size w w') := by
  rcases h with h | ⟨h, h'⟩
  · refine ⟨0, sealS K N xs ys, n2 + 16, by rw [length_sealS, hn2], by omega, ?_, ?_⟩
    · intro w ht hr1 hr2
      refine (seal12 K N hK hN A1 A2 n1 n2 c1 c2 xs ys w ht.t0 ht.t1 ht.t2 hr1 hr2 hn1 hn2 (by omega) (by omega)).mono ?_
      rintro e w' ⟨v, rfl, hv, hb⟩
      obtain ⟨A', c', rfl, -, -, hr, -⟩ := hv.form
      exact ⟨A', c', by rw [length_sealS, hn2], hr, hb⟩
    · intro w hr1 hr2
      refine (seal19 K N hK hN A1 A2 n1 n2 c1 c2 xs ys w hr1 hr2 hn1 hn2 (by omega) (by omega)).mono ?_
      rintro e w' ⟨v, rfl, hv, hb⟩
      obtain ⟨A', c', rfl, hc, hm, hr, -⟩ := hv.form
      rw [length_sealS, hn2] at hc
      exact ⟨A', c', by rw [length_sealS, hn2], hr, hc, hm, hb⟩
  · refine ⟨60, [], 0, rfl, by omega, ?_, ?_⟩
    · intro w _ _ _
      refine (seal12_no K N hK hN A1 A2 n1 n2 c1 c2 w h (by omega)).mono ?_
      rintro e w' ⟨rfl, hb⟩
      exact ⟨none, 0, rfl, Rd.nil _ _, hb⟩
    · intro w _ _
      refine (seal19_no K N hK hN A1 A2 n1 n2 c1 c2 w h).mono ?_
      rintro e w' ⟨rfl, hb⟩
      exact ⟨none, 0, rfl, Rd.nil _ _, Nat.le_refl _, by simp [maxLen], hb⟩

theorem open_alike (K N : List (BitVec 8)) (hK : K.length = 32) (hN : N.length = 12) (A1 : Option Addr) (n1 c1 : Nat) (xs : List (BitVec 8)) (hn1 : xs.length = n1) (hs1 : n1 ≤ 400) (A2 : Option Addr) (n2 c2 : Nat) (zs : List (BitVec 8)) (hn2 : zs.length = n2) (hs2 : n2 ≤ 70000) (hnc : n2 ≤ c2) (hcm : c2 ≤ maxLen) :
    ∃ (z : Int) (S : List (BitVec 8)) (n : Nat), S.length = n ∧
      (∀ w, Tabs w → Rd w A1 xs → Rd w A2 zs → Calls Tryd.prog 14 #[.agg (K.map Y).toArray, .agg (N.map Y).toArray, .slice A1 n1 c1, .slice A2 n2 c2] w fun e w' => ∃ A c, e = .returned (.tuple #[.slice A n c, .int .i64 z]) ∧ Rd w' A S ∧ Below w.heap.size w w') ∧
      (∀ w, Rd w A1 xs → Rd w A2 zs → Calls Tryd.prog 20 #[.agg (K.map Y).toArray, .agg (N.map Y).toArray, .slice A1 n1 c1, .slice A2 n2 c2] w fun e w' => ∃ A c, e = .returned (.tuple #[.slice A n c, .int .i64 z]) ∧ Rd w' A S ∧ Below w.heap.size w w') := by
  by_cases h : n2 < 16 ∨ 65552 < n2
  · refine ⟨60, [], 0, rfl, ?_, ?_⟩
    · intro w _ _ _
      refine (open14_len K N A1 A2 n1 n2 c1 c2 w h (by omega)).mono ?_
      rintro e w' ⟨rfl, hb⟩
      exact ⟨none, 0, rfl, Rd.nil _ _, hb⟩
    · intro w _ _
      refine (open20_len K N A1 A2 n1 n2 c1 c2 w h).mono ?_
      rintro e w' ⟨rfl, hb⟩
      exact ⟨none, 0, rfl, Rd.nil _ _, hb⟩
  · obtain ⟨m, hm⟩ : ∃ m, m = n2 - 16 := ⟨_, rfl⟩
    have hm' : n2 = m + 16 := by omega
    by_cases hz : zs.drop m = tagS K N xs (zs.take m)
    · have hl : (streamS K N (zs.take m)).length = m := by rw [length_streamS, List.length_take]; omega
      refine ⟨0, streamS K N (zs.take m), m, hl, ?_, ?_⟩
      · intro w ht hr1 hr2
        refine (open14_main K N hK hN A1 A2 n1 n2 m c1 c2 xs zs w ht.t0 ht.t1 ht.t2 hr1 hr2 hn1 hn2 (by omega) hm' (by omega) hnc hcm).mono fun e w' h' => ?_
        obtain ⟨v, rfl, hv, hb⟩ := h'.1 hz
        obtain ⟨A', c', rfl, -, -, hr, -⟩ := hv.form
        exact ⟨A', c', by rw [hl], hr, hb⟩
      · intro w hr1 hr2
        refine (open20_main K N hK hN A1 A2 n1 n2 m c1 c2 xs zs w hr1 hr2 hn1 hn2 hs1 hm' (by omega) hnc hcm).mono fun e w' h' => ?_
        obtain ⟨v, rfl, hv, hb⟩ := h'.1 hz
        obtain ⟨A', c', rfl, -, -, hr, -⟩ := hv.form
        exact ⟨A', c', by rw [hl], hr, hb⟩
    · refine ⟨60, [], 0, rfl, ?_, ?_⟩
      · intro w ht hr1 hr2
        refine (open14_main K N hK hN A1 A2 n1 n2 m c1 c2 xs zs w ht.t0 ht.t1 ht.t2 hr1 hr2 hn1 hn2 (by omega) hm' (by omega) hnc hcm).mono fun e w' h' => ?_
        obtain ⟨rfl, hb⟩ := h'.2 hz
        exact ⟨none, 0, rfl, Rd.nil _ _, hb⟩
      · intro w hr1 hr2
        refine (open20_main K N hK hN A1 A2 n1 n2 m c1 c2 xs zs w hr1 hr2 hn1 hn2 hs1 hm' (by omega) hnc hcm).mono fun e w' h' => ?_
        obtain ⟨rfl, hb⟩ := h'.2 hz
        exact ⟨none, 0, rfl, Rd.nil _ _, hb⟩

theorem pick2 {wr : World} {gL n3 nS c3 c11 k : Nat} {A3 A11 : Option Addr} {bs S : List (BitVec 8)} (hk : k < 2)
    (hm : Blk wr gL 26 [.slice A3 n3 c3, .slice A11 nS c11])
    (h3 : Rd wr A3 bs) (hx : Rd wr A11 S) (l3 : bs.length = n3) (lx : S.length = nS) (hc3 : n3 ≤ c3) (hm3 : c3 ≤ maxLen) (hc11 : nS ≤ c11) (hm11 : c11 ≤ maxLen) (b3 : n3 ≤ 70000) (bx : nS ≤ 70000) :
    ∃ Ay ny cyy ys, wr.cell? ⟨gL, k, none⟩ = some (.slice Ay ny cyy) ∧ Rd wr Ay ys ∧ ys.length = ny ∧ ny ≤ cyy ∧ cyy ≤ maxLen ∧ ny ≤ 70000 := by
  have hl := hm.at k
  rcases k with _ | _ | k
  · exact ⟨A3, n3, c3, bs, hl, h3, l3, hc3, hm3, b3⟩
  · exact ⟨A11, nS, c11, S, hl, hx, lx, hc11, hm11, bx⟩
  · omega

set_option maxRecDepth 100000 in
set_option maxHeartbeats 4000000 in
theorem sealSpec7_out (K N : List (BitVec 8)) (A2 A3 : Option Addr) (n2 n3 c2 c3 : Nat) (w : World) (ht : Tabs w) (h : 400 < n3 ∧ n3 ≤ 65536 ∨ 70000 < n3 ∨ 400 < n2) :
    Calls Tryd.prog 7 #[.agg (K.map Y).toArray, .agg (N.map Y).toArray, .slice A2 n2 c2, .slice A3 n3 c3] w fun e w' => e = .returned (.bool true) ∧ Below w.heap.size w w' := by
  have HL := Lib.hid (LIn.start w K N ht)
  have HS := Lib.hid (sane11 _ HL.out.tabs.t0 HL.out.tabs.t1 HL.out.tabs.t2)
  by_cases h1 : 400 < n3
  · have b0 : decide ((400 : Int) < (n3 : Int)) = true := decide_eq_true (by omega)
    by_cases h2 : n3 ≤ 65536
    · have b1 : decide ((n3 : Int) ≤ 65536) = true := decide_eq_true (by omega)
      clear h h1 h2
      go_enter Tryd.func7, Tryd.ntmps7
      go_wp2_with (go_at_call 11; with_reducible refine HS.out.mono ?_; rintro e w1 ⟨rfl, hb1⟩; have HL1 := Lib.hid (HL.out.kept hb1))
      go_ret
      exact ⟨rfl, HL1.out.old⟩
    · have b1 : decide ((n3 : Int) ≤ 65536) = false := decide_eq_false (by omega)
      by_cases h4 : 70000 < n3
      · have b2 : decide ((70000 : Int) < (n3 : Int)) = true := decide_eq_true (by omega)
        clear h h1 h2 h4
        go_enter Tryd.func7, Tryd.ntmps7
        go_wp2_with (go_at_call 11; with_reducible refine HS.out.mono ?_; rintro e w1 ⟨rfl, hb1⟩; have HL1 := Lib.hid (HL.out.kept hb1))
        go_ret
        exact ⟨rfl, HL1.out.old⟩
      · have b2 : decide ((70000 : Int) < (n3 : Int)) = false := decide_eq_false (by omega)
        have b3 : decide ((400 : Int) < (n2 : Int)) = true := decide_eq_true (by omega)
        clear h h1 h2 h4
        go_enter Tryd.func7, Tryd.ntmps7
        go_wp2_with (go_at_call 11; with_reducible refine HS.out.mono ?_; rintro e w1 ⟨rfl, hb1⟩; have HL1 := Lib.hid (HL.out.kept hb1))
        go_ret
        exact ⟨rfl, HL1.out.old⟩
  · have b0 : decide ((400 : Int) < (n3 : Int)) = false := decide_eq_false (by omega)
    have b2 : decide ((70000 : Int) < (n3 : Int)) = false := decide_eq_false (by omega)
    have b3 : decide ((400 : Int) < (n2 : Int)) = true := decide_eq_true (by omega)
    clear h h1
    go_enter Tryd.func7, Tryd.ntmps7
    go_wp2_with (go_at_call 11; with_reducible refine HS.out.mono ?_; rintro e w1 ⟨rfl, hb1⟩; have HL1 := Lib.hid (HL.out.kept hb1))
    go_ret
    exact ⟨rfl, HL1.out.old⟩

set_option maxRecDepth 100000 in
set_option maxHeartbeats 8000000 in
theorem sealSpec7_in (K N : List (BitVec 8)) (hK : K.length = 32) (hN : N.length = 12) (A2 A3 : Option Addr) (n2 n3 c2 c3 : Nat) (hs bs : List (BitVec 8)) (w : World) (ht : Tabs w)
    (hr2 : Rd w A2 hs) (hr3 : Rd w A3 bs) (hn2 : hs.length = n2) (hn3 : bs.length = n3) (h2 : n2 ≤ 400) (h3 : n3 ≤ 400) (hc3 : n3 ≤ c3) (hm3 : c3 ≤ maxLen) :
    Calls Tryd.prog 7 #[.agg (K.map Y).toArray, .agg (N.map Y).toArray, .slice A2 n2 c2, .slice A3 n3 c3] w fun e w' => e = .returned (.bool true) ∧ Below w.heap.size w w' := by
  have HL := Lib.hid (LIn.start w K N ht)
  have HS := Lib.hid (sane11 _ HL.out.tabs.t0 HL.out.tabs.t1 HL.out.tabs.t2)
  have HSK := Lib.hid (sz23 hK)
  have HSN := Lib.hid (sz25 hN)
  have HR := Lib.hid (⟨hr2, hr3⟩ : _ ∧ _)
  obtain ⟨z, S, nS, hlS, hnS, hs12, hs19⟩ := seal_alike K N hK hN A2 n2 c2 hs hn2 h2 A3 n3 c3 bs hn3 (by omega)
  have HSA := Lib.hid (⟨hs12, hs19⟩ : _ ∧ _)
  have HO := Lib.hid (fun (A : Option Addr) (n c : Nat) (zs : List (BitVec 8)) (hn : zs.length = n) (hl : n ≤ 70000) (hc : n ≤ c) (hm : c ≤ maxLen) => open_alike K N hK hN A2 n2 c2 hs hn2 h2 A n c zs hn hl hc hm)
  have HN := Lib.hid (⟨hn2, hn3, hlS, hnS⟩ : _ ∧ _ ∧ _ ∧ _)
  have b0 : decide ((400 : Int) < (n3 : Int)) = false := decide_eq_false (by omega)
  have b2 : decide ((70000 : Int) < (n3 : Int)) = false := decide_eq_false (by omega)
  have b3 : decide ((400 : Int) < (n2 : Int)) = false := decide_eq_false (by omega)
  have H3 := Lib.hid (show n3 ≤ 70000 by omega)
  clear hK hN hr2 hr3 hn2 hn3 ht hs12 hs19 hlS hnS
  go_enter Tryd.func7, Tryd.ntmps7
  go_wp2_with (first
    | ((with_reducible refine at_load 23 ?_); refine wpList_load_row rfl 23 _ rfl w.heap.size rfl 23 _ (0, 0) _ HL2.out.key Tryd.underlying23 rfl HSK.out ?_)
    | ((with_reducible refine at_load 25 ?_); refine wpList_load_row rfl 25 _ rfl (w.heap.size + 1) rfl 25 _ (0, 0) _ HL2.out.non Tryd.underlying25 rfl HSN.out ?_)
    | ((with_reducible refine at_load 23 ?_); refine wpList_load_row rfl 23 _ rfl w.heap.size rfl 23 _ (0, 0) _ HL1.out.key Tryd.underlying23 rfl HSK.out ?_)
    | ((with_reducible refine at_load 25 ?_); refine wpList_load_row rfl 25 _ rfl (w.heap.size + 1) rfl 25 _ (0, 0) _ HL1.out.non Tryd.underlying25 rfl HSN.out ?_)
    | (go_at_call 11; with_reducible refine HS.out.mono ?_; rintro e w1 ⟨rfl, hb1⟩; have HL1 := Lib.hid (HL.out.kept hb1); have HC1 := Lib.hid (HSA.out.1 w1 HL1.out.tabs (HR.out.1.below HL1.out.old (Nat.le_refl _)) (HR.out.2.below HL1.out.old (Nat.le_refl _))); clear hb1)
    | (go_at_call 12; (with_reducible refine HC1.out.mono ?_); rintro e w2 ⟨A9, c9, rfl, hr9, hb2⟩; have HX2 := Lib.hid hr9; have HL2 := Lib.hid (HL1.out.kept hb2); have HC2 := Lib.hid (HSA.out.2 w2 (HR.out.1.below HL2.out.old (Nat.le_refl _)) (HR.out.2.below HL2.out.old (Nat.le_refl _))); clear hb2 hr9)
    | (go_at_call 19; (with_reducible refine HC2.out.mono ?_); rintro e w3 ⟨A11, c11, rfl, hr11, hc11, hm11, hb3⟩; have HL3 := Lib.hid (HL2.out.kept hb3); have s1 := run_str26 w3 A9 nS c9 S (HX2.out.below hb3 (Nat.le_refl _)) HN.out.2.2.1; have s2 := run_str26 w3 A11 nS c11 S hr11 HN.out.2.2.1; have HX3 := Lib.hid hr11; clear hb3 hr11))
  refine forget_wp (fun w4 => Below w3.heap.size w3 w4 ∧ Blk w4 w3.heap.size 26 [.slice A3 n3 c3, .slice A11 nS c11]) ⟨(Below.refl _ w3).alloc (Nat.le_refl _) _, Blk.new w3 26 [.slice A3 n3 c3, .slice A11 nS c11]⟩ ?_
  rintro w4 ⟨hb4, hl4⟩
  have HL4 := Lib.hid (HL3.out.kept hb4)
  have HB4 := Lib.hid hl4
  have HX4 := Lib.hid (HX3.out.below hb4 (Nat.le_refl _))
  clear hb4 hl4 HC1 HC2 HL1 HL2 HL s1 s2
  generalize w3.heap.size = gL at *
  go_loopw [69] (fun i wr => ∃ k : Nat, k ≤ 2 ∧ i = .int .i64 k ∧ Below w4.heap.size w4 wr) (fun i _ => 2 - (intOf i).toNat)
  case atStart => exact ⟨0, by omega, rfl, Below.refl _ w4⟩
  case round =>
    obtain ⟨k, hk, rfl, hm⟩ := hrel
    by_cases hlt : k < 2
    · have k6 : (k : Int) < 2 := by omega
      have HM := Lib.hid hm
      have HLr := Lib.hid (HL4.out.kept hm)
      obtain ⟨Ay, ny, cyy, ys, hcell, hY, hyl, hyc, hym, hyn⟩ := pick2 hlt (HB4.out.kept hm) (HR.out.2.below HLr.out.old (Nat.le_refl _)) (HX4.out.below hm (Nat.le_refl _)) HN.out.2.1 HN.out.2.2.1 hc3 hm3 hc11 hm11 H3.out HN.out.2.2.2
      obtain ⟨z5, T, nT, hlT, ho14, ho20⟩ := HO.out Ay ny cyy ys hyl hyn hyc hym
      have HC5 := Lib.hid (ho14 wr HLr.out.tabs (HR.out.1.below HLr.out.old (Nat.le_refl _)) hY)
      have HY := Lib.hid hY
      have HC6 := Lib.hid (⟨ho20, hlT⟩ : _ ∧ _)
      clear hm hY hyl hyc hym hyn ho14 ho20 hlT hk hlt
      go_wp2_with (first
        | ((with_reducible refine at_load 23 ?_); refine wpList_load_row rfl 23 _ rfl w.heap.size rfl 23 _ (0, 0) _ HL5.out.key Tryd.underlying23 rfl HSK.out ?_)
        | ((with_reducible refine at_load 25 ?_); refine wpList_load_row rfl 25 _ rfl (w.heap.size + 1) rfl 25 _ (0, 0) _ HL5.out.non Tryd.underlying25 rfl HSN.out ?_)
        | ((with_reducible refine at_load 23 ?_); refine wpList_load_row rfl 23 _ rfl w.heap.size rfl 23 _ (0, 0) _ HLr.out.key Tryd.underlying23 rfl HSK.out ?_)
        | ((with_reducible refine at_load 25 ?_); refine wpList_load_row rfl 25 _ rfl (w.heap.size + 1) rfl 25 _ (0, 0) _ HLr.out.non Tryd.underlying25 rfl HSN.out ?_)
        | (go_at_call 14; (with_reducible refine HC5.out.mono ?_); rintro e w5 ⟨A15, c15, rfl, hr15, hb5⟩; have HM5 := Lib.hid (HM.out.trans (hb5.mono HM.out.size)); have HL5 := Lib.hid (HL4.out.kept HM5.out); have HX5 := Lib.hid hr15; have HC7 := Lib.hid (HC6.out.1 w5 (HR.out.1.below HL5.out.old (Nat.le_refl _)) (HY.out.below hb5 (Nat.le_refl _))); clear hb5 hr15)
        | (go_at_call 20; (with_reducible refine HC7.out.mono ?_); rintro e w6 ⟨A17, c17, rfl, hr17, hb6⟩; have HM6 := Lib.hid (HM5.out.trans (hb6.mono HM5.out.size)); have s5 := run_str26 w6 A15 nT c15 T (HX5.out.below hb6 (Nat.le_refl _)) HC6.out.2; have s6 := run_str26 w6 A17 nT c17 T hr17 HC6.out.2; clear hb6 hr17))
      go_roundw
      case rel => exact ⟨k + 1, by omega, by go_num, HM6.out⟩
      case measure => simp [intOf]; omega
    · obtain rfl : k = 2 := by omega
      rw [show ((2 : Nat) : Int) = 2 from rfl]
      have HE := Lib.hid (HL4.out.kept hm)
      clear hm
      go_wp2
      go_ret
      exact ⟨rfl, HE.out.old⟩

set_option maxRecDepth 100000 in
set_option maxHeartbeats 8000000 in
theorem sealSpec7_no (K N : List (BitVec 8)) (hK : K.length = 32) (hN : N.length = 12) (A2 A3 : Option Addr) (n2 n3 c2 c3 : Nat) (hs bs : List (BitVec 8)) (w : World) (ht : Tabs w)
    (hr2 : Rd w A2 hs) (hr3 : Rd w A3 bs) (hn2 : hs.length = n2) (hn3 : bs.length = n3) (h2 : n2 ≤ 400) (h3 : 65536 < n3) (h4 : n3 ≤ 70000) (hc3 : n3 ≤ c3) (hm3 : c3 ≤ maxLen) :
    Calls Tryd.prog 7 #[.agg (K.map Y).toArray, .agg (N.map Y).toArray, .slice A2 n2 c2, .slice A3 n3 c3] w fun e w' => e = .returned (.bool true) ∧ Below w.heap.size w w' := by
  have HL := Lib.hid (LIn.start w K N ht)
  have HS := Lib.hid (sane11 _ HL.out.tabs.t0 HL.out.tabs.t1 HL.out.tabs.t2)
  have HSK := Lib.hid (sz23 hK)
  have HSN := Lib.hid (sz25 hN)
  have HR := Lib.hid (⟨hr2, hr3⟩ : _ ∧ _)
  obtain ⟨z, S, nS, hlS, hnS, hs12, hs19⟩ := seal_alike K N hK hN A2 n2 c2 hs hn2 h2 A3 n3 c3 bs hn3 (by omega)
  have HSA := Lib.hid (⟨hs12, hs19⟩ : _ ∧ _)
  have HO := Lib.hid (fun (A : Option Addr) (n c : Nat) (zs : List (BitVec 8)) (hn : zs.length = n) (hl : n ≤ 70000) (hc : n ≤ c) (hm : c ≤ maxLen) => open_alike K N hK hN A2 n2 c2 hs hn2 h2 A n c zs hn hl hc hm)
  have HN := Lib.hid (⟨hn2, hn3, hlS, hnS⟩ : _ ∧ _ ∧ _ ∧ _)
  have b0 : decide ((400 : Int) < (n3 : Int)) = true := decide_eq_true (by omega)
  have b1 : decide ((n3 : Int) ≤ 65536) = false := decide_eq_false (by omega)
  have b2 : decide ((70000 : Int) < (n3 : Int)) = false := decide_eq_false (by omega)
  have b3 : decide ((400 : Int) < (n2 : Int)) = false := decide_eq_false (by omega)
  have H3 := Lib.hid (show n3 ≤ 70000 by omega)
  clear hK hN hr2 hr3 hn2 hn3 ht hs12 hs19 hlS hnS
  go_enter Tryd.func7, Tryd.ntmps7
  go_wp2_with (first
    | ((with_reducible refine at_load 23 ?_); refine wpList_load_row rfl 23 _ rfl w.heap.size rfl 23 _ (0, 0) _ HL2.out.key Tryd.underlying23 rfl HSK.out ?_)
    | ((with_reducible refine at_load 25 ?_); refine wpList_load_row rfl 25 _ rfl (w.heap.size + 1) rfl 25 _ (0, 0) _ HL2.out.non Tryd.underlying25 rfl HSN.out ?_)
    | ((with_reducible refine at_load 23 ?_); refine wpList_load_row rfl 23 _ rfl w.heap.size rfl 23 _ (0, 0) _ HL1.out.key Tryd.underlying23 rfl HSK.out ?_)
    | ((with_reducible refine at_load 25 ?_); refine wpList_load_row rfl 25 _ rfl (w.heap.size + 1) rfl 25 _ (0, 0) _ HL1.out.non Tryd.underlying25 rfl HSN.out ?_)
    | (go_at_call 11; with_reducible refine HS.out.mono ?_; rintro e w1 ⟨rfl, hb1⟩; have HL1 := Lib.hid (HL.out.kept hb1); have HC1 := Lib.hid (HSA.out.1 w1 HL1.out.tabs (HR.out.1.below HL1.out.old (Nat.le_refl _)) (HR.out.2.below HL1.out.old (Nat.le_refl _))); clear hb1)
    | (go_at_call 12; (with_reducible refine HC1.out.mono ?_); rintro e w2 ⟨A9, c9, rfl, hr9, hb2⟩; have HX2 := Lib.hid hr9; have HL2 := Lib.hid (HL1.out.kept hb2); have HC2 := Lib.hid (HSA.out.2 w2 (HR.out.1.below HL2.out.old (Nat.le_refl _)) (HR.out.2.below HL2.out.old (Nat.le_refl _))); clear hb2 hr9)
    | (go_at_call 19; (with_reducible refine HC2.out.mono ?_); rintro e w3 ⟨A11, c11, rfl, hr11, hc11, hm11, hb3⟩; have HL3 := Lib.hid (HL2.out.kept hb3); have s1 := run_str26 w3 A9 nS c9 S (HX2.out.below hb3 (Nat.le_refl _)) HN.out.2.2.1; have s2 := run_str26 w3 A11 nS c11 S hr11 HN.out.2.2.1; have HX3 := Lib.hid hr11; clear hb3 hr11))
  refine forget_wp (fun w4 => Below w3.heap.size w3 w4 ∧ Blk w4 w3.heap.size 26 [.slice A3 n3 c3, .slice A11 nS c11]) ⟨(Below.refl _ w3).alloc (Nat.le_refl _) _, Blk.new w3 26 [.slice A3 n3 c3, .slice A11 nS c11]⟩ ?_
  rintro w4 ⟨hb4, hl4⟩
  have HL4 := Lib.hid (HL3.out.kept hb4)
  have HB4 := Lib.hid hl4
  have HX4 := Lib.hid (HX3.out.below hb4 (Nat.le_refl _))
  clear hb4 hl4 HC1 HC2 HL1 HL2 HL s1 s2
  generalize w3.heap.size = gL at *
  go_loopw [69] (fun i wr => ∃ k : Nat, k ≤ 2 ∧ i = .int .i64 k ∧ Below w4.heap.size w4 wr) (fun i _ => 2 - (intOf i).toNat)
  case atStart => exact ⟨0, by omega, rfl, Below.refl _ w4⟩
  case round =>
    obtain ⟨k, hk, rfl, hm⟩ := hrel
    by_cases hlt : k < 2
    · have k6 : (k : Int) < 2 := by omega
      have HM := Lib.hid hm
      have HLr := Lib.hid (HL4.out.kept hm)
      obtain ⟨Ay, ny, cyy, ys, hcell, hY, hyl, hyc, hym, hyn⟩ := pick2 hlt (HB4.out.kept hm) (HR.out.2.below HLr.out.old (Nat.le_refl _)) (HX4.out.below hm (Nat.le_refl _)) HN.out.2.1 HN.out.2.2.1 hc3 hm3 hc11 hm11 H3.out HN.out.2.2.2
      obtain ⟨z5, T, nT, hlT, ho14, ho20⟩ := HO.out Ay ny cyy ys hyl hyn hyc hym
      have HC5 := Lib.hid (ho14 wr HLr.out.tabs (HR.out.1.below HLr.out.old (Nat.le_refl _)) hY)
      have HY := Lib.hid hY
      have HC6 := Lib.hid (⟨ho20, hlT⟩ : _ ∧ _)
      clear hm hY hyl hyc hym hyn ho14 ho20 hlT hk hlt
      go_wp2_with (first
        | ((with_reducible refine at_load 23 ?_); refine wpList_load_row rfl 23 _ rfl w.heap.size rfl 23 _ (0, 0) _ HL5.out.key Tryd.underlying23 rfl HSK.out ?_)
        | ((with_reducible refine at_load 25 ?_); refine wpList_load_row rfl 25 _ rfl (w.heap.size + 1) rfl 25 _ (0, 0) _ HL5.out.non Tryd.underlying25 rfl HSN.out ?_)
        | ((with_reducible refine at_load 23 ?_); refine wpList_load_row rfl 23 _ rfl w.heap.size rfl 23 _ (0, 0) _ HLr.out.key Tryd.underlying23 rfl HSK.out ?_)
        | ((with_reducible refine at_load 25 ?_); refine wpList_load_row rfl 25 _ rfl (w.heap.size + 1) rfl 25 _ (0, 0) _ HLr.out.non Tryd.underlying25 rfl HSN.out ?_)
        | (go_at_call 14; (with_reducible refine HC5.out.mono ?_); rintro e w5 ⟨A15, c15, rfl, hr15, hb5⟩; have HM5 := Lib.hid (HM.out.trans (hb5.mono HM.out.size)); have HL5 := Lib.hid (HL4.out.kept HM5.out); have HX5 := Lib.hid hr15; have HC7 := Lib.hid (HC6.out.1 w5 (HR.out.1.below HL5.out.old (Nat.le_refl _)) (HY.out.below hb5 (Nat.le_refl _))); clear hb5 hr15)
        | (go_at_call 20; (with_reducible refine HC7.out.mono ?_); rintro e w6 ⟨A17, c17, rfl, hr17, hb6⟩; have HM6 := Lib.hid (HM5.out.trans (hb6.mono HM5.out.size)); have s5 := run_str26 w6 A15 nT c15 T (HX5.out.below hb6 (Nat.le_refl _)) HC6.out.2; have s6 := run_str26 w6 A17 nT c17 T hr17 HC6.out.2; clear hb6 hr17))
      go_roundw
      case rel => exact ⟨k + 1, by omega, by go_num, HM6.out⟩
      case measure => simp [intOf]; omega
    · obtain rfl : k = 2 := by omega
      rw [show ((2 : Nat) : Int) = 2 from rfl]
      have HE := Lib.hid (HL4.out.kept hm)
      clear hm
      go_wp2
      go_ret
      exact ⟨rfl, HE.out.old⟩
end Go.Proofs.YtbmjjmianhjfiaaDoor
