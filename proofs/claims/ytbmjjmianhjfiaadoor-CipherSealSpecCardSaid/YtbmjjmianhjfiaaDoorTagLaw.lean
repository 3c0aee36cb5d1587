/- The law CipherTag, walked: exactly what ends with its tag is opened. -/
import Derived.Test.YtbmjjmianhjfiaaDoorBack
import Derived.Deep.CutRange
import Derived.Deep.CutBlock
import Derived.Deep.DeepCutAuto
namespace Go.Proofs.YtbmjjmianhjfiaaDoor
open Go.RowKit
theorem tagged13t (A : Option Addr) (n c : Nat) (xs : List (BitVec 8)) (w : World) (hT0 : Lay w 0 startS) (hT1 : Lay w 1 numbersS) (hr : Rd w A xs) (hn : xs.length = n) (hsz : n ≤ 70368744177600) :
    Calls Tryd.prog 13 #[.string { data := #[116, 97, 103] }, .slice A n c] w fun e w' => e = .returned (.agg ((tagged xs).map Y).toArray) ∧ Below w.heap.size w w' := tagged13 A n c xs w hT0 hT1 hr hn hsz
theorem tagS_take (K N xs ys : List (BitVec 8)) : tagS K N xs ys = (tagged (tagIn K N xs ys)).take 16 := rfl
attribute [local irreducible] sumS tagged tagS

set_option maxRecDepth 100000 in
set_option maxHeartbeats 4000000 in
theorem tag3_out (K N : List (BitVec 8)) (A2 A3 : Option Addr) (n2 n3 c2 c3 : Nat) (z4 z5 : Int) (w : World) (ht : Tabs w) (h : 400 < n3 ∨ 400 < n2) :
    Calls Tryd.prog 3 #[.agg (K.map Y).toArray, .agg (N.map Y).toArray, .slice A2 n2 c2, .slice A3 n3 c3, .int .i64 z4, .int .u8 z5] w fun e w' => e = .returned (.bool true) ∧ Below w.heap.size w w' := by
  have HL := Lib.hid (LIn.start w K N ht)
  have HS := Lib.hid (sane11 _ HL.out.tabs.t0 HL.out.tabs.t1 HL.out.tabs.t2)
  by_cases h4 : 400 < n3
  · have b0 : decide ((400 : Int) < (n3 : Int)) = true := decide_eq_true (by omega)
    clear h h4
    go_enter Tryd.func3, Tryd.ntmps3
    go_wp2_with (go_at_call 11; with_reducible refine HS.out.mono ?_; rintro e w1 ⟨rfl, hb1⟩; have HL1 := Lib.hid (HL.out.kept hb1))
    go_ret
    exact ⟨rfl, HL1.out.old⟩
  · have b0 : decide ((400 : Int) < (n3 : Int)) = false := decide_eq_false (by omega)
    have b1 : decide ((400 : Int) < (n2 : Int)) = true := decide_eq_true (by omega)
    clear h h4
    go_enter Tryd.func3, Tryd.ntmps3
    go_wp2_with (go_at_call 11; with_reducible refine HS.out.mono ?_; rintro e w1 ⟨rfl, hb1⟩; have HL1 := Lib.hid (HL.out.kept hb1))
    go_ret
    exact ⟨rfl, HL1.out.old⟩

/-- Memory at the head of the law's loop: below base nothing has turned since w2; the list of three slices; the third one's bytes till it is turned. -/
structure In3 (w2 : World) (gL : Nat) (L : List Value) (y2 : Value) (X : List (BitVec 8)) (k : Nat) (w : World) : Prop where
  old : Below w2.heap.size w2 w
  list : Blk w gL 26 L
  y2 : k ≤ 2 → Own w w2.heap.size y2 X

theorem In3.pick {w2 wr : World} {gL n3 c3 c13 gy cy k : Nat} {A3 A13 : Option Addr} {cs X : List (BitVec 8)}
    (hm : In3 w2 gL [.slice A3 n3 c3, .slice A13 (n3 + 16) c13, .slice (some ⟨gy, 0, none⟩) (n3 + 16) cy] (.slice (some ⟨gy, 0, none⟩) (n3 + 16) cy) X k wr) (hk : k < 3)
    (h3 : Rd w2 A3 cs) (hx : Rd w2 A13 X) (l3 : cs.length = n3) (lx : X.length = n3 + 16) (hc3 : n3 ≤ c3) (hm3 : c3 ≤ maxLen) (hc13 : n3 + 16 ≤ c13) (hm13 : c13 ≤ maxLen) (hcy : n3 + 16 ≤ cy) (hmy : cy ≤ maxLen) :
    ∃ Ay ny cyy ys, wr.cell? ⟨gL, k, none⟩ = some (.slice Ay ny cyy) ∧ Rd wr Ay ys ∧ ys.length = ny ∧ ny ≤ cyy ∧ cyy ≤ maxLen ∧ ny ≤ n3 + 16 ∧ (k = 2 → Ay = some ⟨gy, 0, none⟩ ∧ ny = n3 + 16 ∧ cyy = cy ∧ ys = X) := by
  have hl := hm.list.at k
  rcases k with _ | _ | _ | k
  · exact ⟨A3, n3, c3, cs, hl, h3.below hm.old (Nat.le_refl _), l3, hc3, hm3, by omega, by omega⟩
  · exact ⟨A13, n3 + 16, c13, X, hl, hx.below hm.old (Nat.le_refl _), lx, hc13, hm13, by omega, by omega⟩
  · have ho := hm.y2 (by omega)
    refine ⟨some ⟨gy, 0, none⟩, n3 + 16, cy, X, hl, ?_, lx, hcy, hmy, by omega, fun _ => ⟨rfl, rfl, rfl, rfl⟩⟩
    refine Rd.of_own (base := w2.heap.size) (e := 5) (c := cy) (n := n3 + 16) ?_
    have := ho
    unfold Own at this
    rw [lx] at this
    exact this
  · omega

theorem eight_cells (n : Nat) (h : n ≤ 400) : (eightS n 8).map Y = [.int .u8 0, .int .u8 0, .int .u8 0, .int .u8 0, .int .u8 0, .int .u8 0, .int .u8 ((n : Int) / 256), .int .u8 ((n : Int) % 256)] := by
  have e : ∀ v : Int, Y (byteOf v) = .int .u8 (v % 256) := fun v => by unfold Y; rw [← byteOf_spec]
  have r : eightS n 8 = [byteOf ((n : Int) / 72057594037927936), byteOf ((n : Int) / 281474976710656), byteOf ((n : Int) / 1099511627776), byteOf ((n : Int) / 4294967296), byteOf ((n : Int) / 16777216), byteOf ((n : Int) / 65536), byteOf ((n : Int) / 256), byteOf ((n : Int) / 1)] := rfl
  rw [r]
  simp only [List.map_cons, List.map_nil, e]
  rw [show (n : Int) / 72057594037927936 % 256 = 0 by omega, show (n : Int) / 281474976710656 % 256 = 0 by omega, show (n : Int) / 1099511627776 % 256 = 0 by omega, show (n : Int) / 4294967296 % 256 = 0 by omega, show (n : Int) / 16777216 % 256 = 0 by omega, show (n : Int) / 65536 % 256 = 0 by omega, show (n : Int) / 256 % 256 = (n : Int) / 256 by omega, show (n : Int) / 1 % 256 = (n : Int) % 256 by omega]
theorem rd_eight (w : World) (n : Nat) (h : n ≤ 400) : Rd (w.alloc (.cells #[.int .u8 0, .int .u8 0, .int .u8 0, .int .u8 0, .int .u8 0, .int .u8 0, .int .u8 ((n : Int) / 256), .int .u8 ((n : Int) % 256)] 5)) (some ⟨w.heap.size, 0, none⟩) (eightS n 8) := by
  have := Rd.block (xs := eightS n 8) (Blk.new w 5 ((eightS n 8).map Y))
  rw [eight_cells n h] at this
  exact this
theorem forget_any {P : Program} {ops : Array Oper} {Q : Exit → Act → World → Prop} {S : World → Prop} {fuel : Nat} {listed : Array Bool} {a : Act} {w : World} (R : World → Prop) (h : R w) (k : ∀ w', R w' → wpAnyH P .any ops Q S fuel listed a w') : wpAnyH P .any ops Q S fuel listed a w := k w h

theorem slice_low (A : Option Addr) (n c l : Nat) (hl : l ≤ n) (hc : ¬ c = l) (li : Int) (el : li = (l : Int)) (w : World) :
    (Instr.slice 26 (.slice A n c) (some (.int .i64 li)) none none).run Tryd.prog w = .ok (.slice (A.map (·.add l)) (n - l) (c - l)) w := by
  have e2 : Tryd.prog.elem 26 = 5 := by simp [Program.elem, Tryd.underlying26]
  have h1 := run_slice_l (P := Tryd.prog) w 26 A n c (by rw [e2]; exact Tryd.underlying26) .i64 li (by omega) (by omega)
  rw [h1, e2]
  obtain ⟨i, hi', hz, hs, hb⟩ := info_parts info5
  subst el
  simp [sizeOf, typeInfo, hi', hs, sliced, hc]

theorem open_q (K N : List (BitVec 8)) (hK : K.length = 32) (hN : N.length = 12) (A1 A2 : Option Addr) (n1 n2 c1 c2 : Nat) (xs zs : List (BitVec 8)) (w : World) (ht : Tabs w) (hr1 : Rd w A1 xs) (hr2 : Rd w A2 zs) (hn1 : xs.length = n1) (hn2 : zs.length = n2) (hs1 : n1 ≤ 400) (hs2 : n2 ≤ 416) (hnc : n2 ≤ c2) (hcm : c2 ≤ maxLen) :
    (decide (16 ≤ n2 ∧ zs.drop (n2 - 16) = tagS K N xs (zs.take (n2 - 16))) = true → Calls Tryd.prog 14 #[.agg (K.map Y).toArray, .agg (N.map Y).toArray, .slice A1 n1 c1, .slice A2 n2 c2] w fun e w' => ∃ Ab nb cb, e = .returned (.tuple #[.slice Ab nb cb, .int .i64 0]) ∧ Below w.heap.size w w') ∧
    (decide (16 ≤ n2 ∧ zs.drop (n2 - 16) = tagS K N xs (zs.take (n2 - 16))) = false → Calls Tryd.prog 14 #[.agg (K.map Y).toArray, .agg (N.map Y).toArray, .slice A1 n1 c1, .slice A2 n2 c2] w fun e w' => e = .returned (.tuple #[.slice none 0 0, .int .i64 60]) ∧ Below w.heap.size w w') := by
  by_cases h16 : 16 ≤ n2
  · have h := open14_main K N hK hN A1 A2 n1 n2 (n2 - 16) c1 c2 xs zs w ht.t0 ht.t1 ht.t2 hr1 hr2 hn1 hn2 (by omega) (by omega) (by omega) hnc hcm
    constructor
    · intro hq
      have hq := (of_decide_eq_true hq).2
      refine h.mono fun e w' h' => ?_
      obtain ⟨v, rfl, hv, hb⟩ := h'.1 hq
      obtain ⟨A', c', rfl, -, -, -, -⟩ := hv.form
      exact ⟨_, _, _, rfl, hb⟩
    · intro hq
      have hq := of_decide_eq_false hq
      exact h.mono fun e w' h' => h'.2 fun h3 => hq ⟨h16, h3⟩
  · constructor
    · intro hq; exact absurd (of_decide_eq_true hq).1 h16
    · intro _
      exact open14_len K N A1 A2 n1 n2 c1 c2 w (by omega) (by omega)

/-- What one turned byte of the tag does. -/
theorem tag_turn (S T : List (BitVec 8)) (n m : Nat) (hS : S.length = n) (hT : T.length = 16) (hm : m < 16) (b : BitVec 8) :
    ((S ++ T).set (n + m) ((S ++ T).getD (n + m) 0 ^^^ b)).take n = S ∧ (((S ++ T).set (n + m) ((S ++ T).getD (n + m) 0 ^^^ b)).drop n = T ↔ b = 0#8) := by
  subst hS
  have e1 : (S ++ T).getD (S.length + m) 0 = T.getD m 0 := by simp [List.getD, List.getElem?_append_right]
  have e2 : ∀ v, (S ++ T).set (S.length + m) v = S ++ T.set m v := fun v => by rw [List.set_append_right _ _ (by omega)]; simp
  rw [e1, e2]
  refine ⟨by simp, ?_⟩
  rw [List.drop_left]
  have hml : m < T.length := by omega
  constructor
  · intro h
    have h2 := congrArg (·.getD m 0) h
    simp [hml] at h2
    have : T[m] ^^^ (T[m] ^^^ b) = T[m] ^^^ T[m] := by rw [h2]
    simpa [← BitVec.xor_assoc] using this
  · rintro rfl
    rw [BitVec.xor_zero]
    apply List.ext_getElem? 
    intro i
    by_cases hi : i = m
    · subst hi; simp [hml]
    · rw [List.getElem?_set_ne (Ne.symm hi)]

set_option maxRecDepth 100000 in
set_option maxHeartbeats 8000000 in
theorem tag3_in (K N : List (BitVec 8)) (hK : K.length = 32) (hN : N.length = 12) (A2 A3 : Option Addr) (n2 n3 c2 c3 : Nat) (hs cs : List (BitVec 8)) (z4 : Int) (by_ : BitVec 8) (w : World) (ht : Tabs w)
    (hr2 : Rd w A2 hs) (hr3 : Rd w A3 cs) (hn2 : hs.length = n2) (hn3 : cs.length = n3) (h2 : n2 ≤ 400) (h3 : n3 ≤ 400) (hc3 : n3 ≤ c3) (hm3 : c3 ≤ maxLen) :
    Calls Tryd.prog 3 #[.agg (K.map Y).toArray, .agg (N.map Y).toArray, .slice A2 n2 c2, .slice A3 n3 c3, .int .i64 z4, .int .u8 (B by_)] w fun e w' => e = .returned (.bool true) ∧ Below w.heap.size w w' := by
  obtain ⟨m15, hm15, hand⟩ := and_mask z4 15 (by omega)
  rw [show ((15 : Nat) : Int) = 15 from rfl] at hand
  have HL := Lib.hid (LIn.start w K N ht)
  have HS := Lib.hid (sane11 _ HL.out.tabs.t0 HL.out.tabs.t1 HL.out.tabs.t2)
  have HSK := Lib.hid (sz23 hK)
  have HSN := Lib.hid (sz25 hN)
  have HKN := Lib.hid (⟨hK, hN⟩ : _ ∧ _)
  have HR := Lib.hid (⟨hr2, hr3⟩ : _ ∧ _)
  have HN := Lib.hid (⟨hn2, hn3⟩ : _ ∧ _)
  have HA := Lib.hid hand
  have b0 : decide ((400 : Int) < (n3 : Int)) = false := decide_eq_false (by omega)
  have b1 : decide ((400 : Int) < (n2 : Int)) = false := decide_eq_false (by omega)
  have i0 : (n3 : Int) ≤ 400 := by omega
  have i1 : (n2 : Int) ≤ 400 := by omega
  clear hK hN hr2 hr3 hn2 hn3 ht hand
  go_enter Tryd.func3, Tryd.ntmps3
  have hbl := slice_lit0
  go_wp2_with (first
    | ((with_reducible refine at_load 23 ?_); refine wpList_load_row rfl 23 _ rfl w.heap.size rfl 23 _ (0, 0) _ HL1.out.key Tryd.underlying23 rfl HSK.out ?_)
    | ((with_reducible refine at_load 25 ?_); refine wpList_load_row rfl 25 _ rfl (w.heap.size + 1) rfl 25 _ (0, 0) _ HL1.out.non Tryd.underlying25 rfl HSN.out ?_)
    | (go_at_call 11; with_reducible refine HS.out.mono ?_; rintro e w1 ⟨rfl, hb1⟩; have HL1 := Lib.hid (HL.out.kept hb1); have HC1 := Lib.hid (seal12 K N HKN.out.1 HKN.out.2 A2 A3 n2 n3 c2 c3 hs cs w1 HL1.out.tabs.t0 HL1.out.tabs.t1 HL1.out.tabs.t2 (HR.out.1.below HL1.out.old (Nat.le_refl _)) (HR.out.2.below HL1.out.old (Nat.le_refl _)) HN.out.1 HN.out.2 (by omega) (by omega)); clear hb1)
    | (go_at_call 12; (with_reducible refine HC1.out.mono ?_); rintro e w2 ⟨v13, rfl, hv13, hb2⟩; obtain ⟨A13, c13, hve, hc13, hm13, hr13, -⟩ := hv13.form; rw [length_sealS, HN.out.2] at hve hc13; subst hve; have HX2 := Lib.hid hr13; have HL2 := Lib.hid (HL1.out.kept hb2); clear hv13 hb2 hr13)
    | ((with_reducible refine at_append 26 26 ?_); refine wpList_app26 rfl (.tmp 53) (.tmp 54) rfl w2.heap.size (.slice (some ⟨w2.heap.size, 0, none⟩) 0 0) [] A13 (n3 + 16) c13 (sealS K N hs cs) rfl rfl (Own.make w2 w2.heap.size 0 (Nat.le_refl _) (by simp [maxLen])) (HX2.out.alloc _) (by rw [length_sealS, HN.out.2]) (by simp only [List.length_nil]; omega) (by simp) ?_; intro v55 w3 hown hg hat; rw [List.nil_append] at hown; obtain ⟨gy, cy, hve, hcy, hmy, hgy, hly, -⟩ := own_shape hown (by rw [length_sealS]; omega); rw [length_sealS, HN.out.2] at hve hcy; subst hve; have HO3 := Lib.hid hown; have HB3 := Lib.hid (below_app (B := w2.heap.size) (((Below.refl _ w2).alloc (Nat.le_refl _) (.cells #[] 5))) (by simp) (Own.make w2 w2.heap.size 0 (Nat.le_refl _) (by simp [maxLen])) (Nat.le_refl _) hg); clear hown hg hat))
  refine forget_wp (fun w4 => In3 w2 w3.heap.size [.slice A3 n3 c3, .slice A13 (n3 + 16) c13, .slice (some ⟨gy, 0, none⟩) (n3 + 16) cy] (.slice (some ⟨gy, 0, none⟩) (n3 + 16) cy) (sealS K N hs cs) 0 w4) ⟨HB3.out.alloc HB3.out.size _, Blk.new w3 26 [.slice A3 n3 c3, .slice A13 (n3 + 16) c13, .slice (some ⟨gy, 0, none⟩) (n3 + 16) cy], fun _ => HO3.out.alloc _⟩ ?_
  intro w4 h4
  have H4 := Lib.hid h4
  have hB3 := HB3.out.size
  clear h4 HO3 HB3 HC1 HL1 HL hbl
  generalize w3.heap.size = gL at *
  go_loopw [58] (fun i wr => ∃ k : Nat, k ≤ 3 ∧ i = .int .i64 k ∧ In3 w2 gL [.slice A3 n3 c3, .slice A13 (n3 + 16) c13, .slice (some ⟨gy, 0, none⟩) (n3 + 16) cy] (.slice (some ⟨gy, 0, none⟩) (n3 + 16) cy) (sealS K N hs cs) k wr) (fun i _ => 3 - (intOf i).toNat)
  case atStart => exact ⟨0, by omega, rfl, H4.out⟩
  case round =>
    obtain ⟨k, hk, rfl, hm⟩ := hrel
    by_cases hlt : k < 3
    · have k6 : (k : Int) < 3 := by omega
      obtain ⟨Ay, ny, cyy, ys, hcell, hY, hyl, hyc, hym, hyn, hk2⟩ := hm.pick hlt (HR.out.2.below HL2.out.old (Nat.le_refl _)) HX2.out HN.out.2 (by rw [length_sealS, HN.out.2]) hc3 hm3 hc13 hm13 hcy hmy
      have HM := Lib.hid hm
      have HY := Lib.hid (⟨hY, hyl, hk2⟩ : _ ∧ _ ∧ _)
      clear hm hY hyl hk2 hk
      go_upto_if 64 with (fail)
      go_cut [] (fun wx => ∃ zs, Below w2.heap.size w2 wx ∧ Blk wx gL 26 [.slice A3 n3 c3, .slice A13 (n3 + 16) c13, .slice (some ⟨gy, 0, none⟩) (n3 + 16) cy] ∧ (k + 1 ≤ 2 → Own wx w2.heap.size (.slice (some ⟨gy, 0, none⟩) (n3 + 16) cy) (sealS K N hs cs)) ∧ Rd wx Ay zs ∧ zs.length = ny ∧ (k = 2 → zs = (sealS K N hs cs).set (n3 + m15) ((sealS K N hs cs).getD (n3 + m15) 0 ^^^ by_)))
      case first =>
        by_cases hk : k = 2
        · subst hk
          have h0 : n3 + m15 < (sealS K N hs cs).length := by rw [length_sealS, HN.out.2]; omega
          have hlX : (sealS K N hs cs).length = n3 + 16 := by rw [length_sealS, HN.out.2]
          have ho := HM.out.y2 (by omega)
          have ho' : Own wr w2.heap.size (.slice (some ⟨gy, 0, none⟩) (sealS K N hs cs).length cy) (sealS K N hs cs) := by rw [hlX]; exact ho
          obtain ⟨rfl, rfl, rfl, rfl⟩ := HY.out.2.2 rfl
          obtain ⟨xv, hxv⟩ : ∃ xv, xv = (sealS K N hs cs).getD (n3 + m15) 0 := ⟨_, rfl⟩
          have cc : wr.cell? ⟨gy, n3 + m15, none⟩ = some (.int .u8 (B xv)) := by rw [hxv]; exact ho'.cell (n3 + m15) h0
          have cf := ho'.free (n3 + m15)
          have HP := Lib.hid (ho'.put (n3 + m15) (xv ^^^ by_))
          have HXV := Lib.hid hxv
          clear hxv
          have j0 : (0 : Int) ≤ (m15 : Int) := by omega
          have j1 : (m15 : Int) ≤ 15 := by omega
          have j2 : (n3 : Int) + (m15 : Int) < (n3 : Int) + 16 := by omega
          have j3 : ((n3 : Int) + (m15 : Int)).toNat = n3 + m15 := by omega
          have hand := HA.out
          have hxor := B_xor
          have HLX := Lib.hid hlX
          clear ho ho' h0 hlX
          go_wp2
          go_meet
          refine ⟨(sealS K N hs cs).set (n3 + m15) (xv ^^^ by_), HM.out.old.setCell (p := ⟨gy, n3 + m15, none⟩) hgy _, HM.out.list.far (p := ⟨gy, n3 + m15, none⟩) (by simp; omega) _, fun h => absurd h (by omega), ?_, by rw [List.length_set, HLX.out], fun _ => by rw [HXV.out]⟩
          have hp := HP.out
          unfold Own at hp
          rw [List.length_set] at hp
          exact Rd.of_own hp
        · have t2 : ((k : Int) == 2) = false := by
            have : ¬ (k : Int) = 2 := by omega
            simpa using this
          have HK := Lib.hid hk
          clear hk
          go_wp2
          go_meet
          exact ⟨ys, HM.out.old, HM.out.list, fun h => HM.out.y2 (by omega), HY.out.1, HY.out.2.1, fun h => absurd h HK.out⟩
      case rest =>
        rename World => w5
        obtain ⟨zs, hold, hlist, hown, hz, hzl, hz2⟩ := hcut
        have HW := Lib.hid (⟨hold, hlist, hown⟩ : _ ∧ _ ∧ _)
        have HZ := Lib.hid (⟨hz, hzl, hz2⟩ : _ ∧ _ ∧ _)
        have HLW := Lib.hid (HL2.out.kept hold)
        have hnn : (0 : Int) ≤ (ny : Int) := by omega
        have hnm : (ny : Int) ≤ 416 := by omega
        have hwm : IntKind.i64.wrap ((ny : Int) - 16) = (ny : Int) - 16 := by rw [IntKind.wrap_i64]; omega
        clear hold hlist hown hz hzl hz2
        go_upto_if 80 with (fail)
        go_cut [17, 18, 19, 20] (fun s17 s18 s19 s20 wx => ∃ q : Bool, s17 = .bool q ∧ q = decide (16 ≤ ny ∧ zs.drop (ny - 16) = tagS K N hs (zs.take (ny - 16))) ∧ Below w5.heap.size w5 wx)
        case first =>
          by_cases hny : 16 ≤ ny
          · have q0 : decide ((16 : Int) ≤ (ny : Int)) = true := decide_eq_true (by omega)
            have q1 : (16 : Int) ≤ (ny : Int) := by omega
            have HNY := Lib.hid hny
            have hbl := slice_lit0
            clear hny
            go_wp2
            refine wp_region_held_drew (S := (fun w' => Below w5.heap.size w5 w')) (by kernel_rfl) (Below.refl _ w5).drew (fun _ => ?_)
            refine held_pure (i := 1) (.slice (some ⟨w.heap.size, 0, none⟩) 32 32) rfl (by kernel_rfl) (by kernel_rfl) (by kernel_rfl) (fun _ _ _ h => h) (fun _ _ => by go_simp) (Below.refl _ w5).drew ?_
            simp only [Act.put, List.setIfInBounds_toArray, List.set_cons_zero, List.set_cons_succ]
            refine held_pure (i := 3) (.slice (some ⟨w.heap.size + 1, 0, none⟩) 12 12) rfl (by kernel_rfl) (by kernel_rfl) (by kernel_rfl) (fun _ _ _ h => h) (fun _ _ => by go_simp) (Below.refl _ w5).drew ?_
            simp only [Act.put, List.setIfInBounds_toArray, List.set_cons_zero, List.set_cons_succ]
            refine held_step (i := 0) rfl (by kernel_rfl) (fun K' hK => ?_)
            go_wp2
            have HB1 := Lib.hid (((Below.refl _ w5).alloc (Nat.le_refl _) (.cells #[] 5)).drew : Below w5.heap.size w5 (w5.alloc (.cells #[] 5)).drew)
            have HO1 := Lib.hid (show Own (w5.alloc (.cells #[] 5)).drew w5.heap.size (.slice (some ⟨w5.heap.size, 0, none⟩) 0 0) [] from Own.make w5 w5.heap.size 0 (Nat.le_refl _) (by simp [maxLen]))
            refine hK.out _ _ HB1.out ?_
            clear hK K'
            try simp only [Act.put, List.setIfInBounds_toArray, List.set_cons_zero, List.set_cons_succ]
            refine held_step (i := 2) rfl (by kernel_rfl) (fun K' hK => ?_)
            refine wp_app26 (.tmp 81) (.tmp 82) rfl w5.heap.size (.slice (some ⟨w5.heap.size, 0, none⟩) 0 0) [] (some ⟨w.heap.size, 0, none⟩) 32 32 K rfl rfl HO1.out ((Rd.block HLW.out.key).below HB1.out (Nat.le_refl _)) HKN.out.1 (by simp) HB1.out.size ?_
            intro v83 wa ho2 hg2 _
            rw [List.nil_append] at ho2
            have HB2 := Lib.hid (below_app HB1.out HB1.out.size HO1.out (Nat.le_refl _) hg2)
            have HO2 := Lib.hid ho2
            clear ho2 hg2
            refine hK.out _ _ HB2.out ?_
            clear hK K'
            try simp only [Act.put, List.setIfInBounds_toArray, List.set_cons_zero, List.set_cons_succ]
            refine held_step (i := 4) rfl (by kernel_rfl) (fun K' hK => ?_)
            refine wp_app26 (.tmp 83) (.tmp 84) rfl w5.heap.size v83 K (some ⟨w.heap.size + 1, 0, none⟩) 12 12 N rfl rfl HO2.out ((Rd.block HLW.out.non).below HB2.out (Nat.le_refl _)) HKN.out.2 (by rw [HKN.out.1]; omega) HB2.out.size ?_
            intro v85 wb ho3 hg3 _
            have HB3 := Lib.hid (below_app HB2.out HB2.out.size HO2.out (Nat.le_refl _) hg3)
            have HO3 := Lib.hid ho3
            clear ho3 hg3
            refine hK.out _ _ HB3.out ?_
            clear hK K'
            try simp only [Act.put, List.setIfInBounds_toArray, List.set_cons_zero, List.set_cons_succ]
            refine held_pure (i := 5) v85 rfl (by kernel_rfl) (by kernel_rfl) (by kernel_rfl) (fun _ _ _ h => h) (fun _ _ => rfl) HB3.out ?_
            simp only [Act.put, List.setIfInBounds_toArray, List.set_cons_zero, List.set_cons_succ]
            refine wpAnyH_done (by kernel_rfl) ?_ _
            have HR8 := Lib.hid (rd_eight wb n2 (by omega))
            have HO3b := Lib.hid (HO3.out.alloc (.cells #[.int .u8 0, .int .u8 0, .int .u8 0, .int .u8 0, .int .u8 0, .int .u8 0, .int .u8 ((n2 : Int) / 256), .int .u8 ((n2 : Int) % 256)] 5))
            have HB3b := Lib.hid (HB3.out.alloc HB3.out.size (.cells #[.int .u8 0, .int .u8 0, .int .u8 0, .int .u8 0, .int .u8 0, .int .u8 0, .int .u8 ((n2 : Int) / 256), .int .u8 ((n2 : Int) % 256)] 5))
            go_wp2_with ((with_reducible refine at_append 26 26 ?_); refine wpList_app26 rfl (.tmp 86) (.tmp 94) rfl w5.heap.size v85 (K ++ N) (some ⟨wb.heap.size, 0, none⟩) 8 8 (eightS n2 8) rfl rfl HO3b.out HR8.out (length_eightS _ _) (by simp only [List.length_append, HKN.out.1, HKN.out.2]; omega) HB3b.out.size ?_; intro v95 wd ho4 hg4 _; have HB4 := Lib.hid (below_app HB3b.out HB3b.out.size HO3b.out (Nat.le_refl _) hg4); have HO4 := Lib.hid ho4; clear ho4 hg4)
            have HS33 := Lib.hid (show (Tryd.prog.info? 33).map (·.size) = some ((tagged (tagIn K N hs (zs.take (ny - 16)))).map Y).toArray.size by rw [size33]; simp [length_tagged])
            have HSA := Lib.hid (Y_all (tagged (tagIn K N hs (zs.take (ny - 16)))))
            have HLZ := Lib.hid (show ((zeroB 32).map Y).toArray.size = ((tagged (tagIn K N hs (zs.take (ny - 16)))).map Y).toArray.size by simp [length_tagged, length_zeroB])
            have HRW := Lib.hid (⟨HR.out.1.below HLW.out.old (Nat.le_refl _), HZ.out.1.take (ny - 16)⟩ : Rd w5 A2 hs ∧ Rd w5 Ay (zs.take (ny - 16)))
            have HTI := Lib.hid (show K ++ N ++ eightS n2 8 ++ hs ++ zs.take (ny - 16) = tagIn K N hs (zs.take (ny - 16)) by rw [tagIn, HN.out.1])
            have q2 : ((ny : Int) - 16).toNat = ny - 16 := by omega
            have q3 : (0 : Int) ≤ (ny : Int) - 16 := by omega
            have q4 : (ny : Int) - 16 ≤ (cyy : Int) := by omega
            go_cut [20] (fun s20 wx => ∃ g, s20 = .pointer (some ⟨g, 0, none⟩) ∧ Blk wx g 33 ((tagged (tagIn K N hs (zs.take (ny - 16)))).map Y) ∧ Below w5.heap.size w5 wx)
            case first =>
              refine wp_region_held_drew (S := fun w' => Below w5.heap.size w5 w') (by kernel_rfl) (HB4.out.drew) (fun _ => ?_)
              have hb5 : Below w5.heap.size w5 wd.drew := HB4.out.drew
              have ho5 : Own wd.drew w5.heap.size v95 (K ++ N ++ eightS n2 8) := HO4.out
              generalize wd.drew = we at hb5 ho5 ⊢
              have HBe := Lib.hid hb5
              have HOe := Lib.hid ho5
              clear hb5 ho5
              refine held_pure (i := 0) v95 rfl (by kernel_rfl) (by kernel_rfl) (by kernel_rfl) (fun _ _ _ h => h) (fun _ _ => rfl) HBe.out ?_
              simp only [Act.put, List.setIfInBounds_toArray, List.set_cons_zero, List.set_cons_succ]
              refine held_pure (i := 1) (.slice A2 n2 c2) rfl (by kernel_rfl) (by kernel_rfl) (by kernel_rfl) (fun _ _ _ h => h) (fun _ _ => rfl) HBe.out ?_
              simp only [Act.put, List.setIfInBounds_toArray, List.set_cons_zero, List.set_cons_succ]
              refine held_pure (i := 3) (.slice Ay ny cyy) rfl (by kernel_rfl) (by kernel_rfl) (by kernel_rfl) (fun _ _ _ h => h) (fun _ _ => rfl) HBe.out ?_
              simp only [Act.put, List.setIfInBounds_toArray, List.set_cons_zero, List.set_cons_succ]
              refine held_pure (i := 4) (.int .i64 ((ny : Int) - 16)) rfl (by kernel_rfl) (by kernel_rfl) (by kernel_rfl) (fun _ _ _ h => h) (fun _ _ => rfl) HBe.out ?_
              simp only [Act.put, List.setIfInBounds_toArray, List.set_cons_zero, List.set_cons_succ]
              refine held_pure (i := 5) (.slice Ay (ny - 16) cyy) rfl (by kernel_rfl) (by kernel_rfl) (by kernel_rfl) (fun _ _ _ h => h) (fun _ _ => by go_simp) HBe.out ?_
              simp only [Act.put, List.setIfInBounds_toArray, List.set_cons_zero, List.set_cons_succ]
              refine wpAnyH_ready (rs := [2, 8]) (by kernel_rfl) (by simp) (AllReadyH.cons rfl (fun K' hK => ?_) (AllReadyH.cons rfl (fun K' hK => ?_) AllReadyH.nil))
              · rw [if_pos (by rfl)]
                refine wp_app26 (.tmp 96) (.tmp 97) rfl w5.heap.size v95 (K ++ N ++ eightS n2 8) A2 n2 c2 hs rfl rfl HOe.out (HRW.out.1.below HBe.out (Nat.le_refl _)) HN.out.1 (by simp only [List.length_append, length_eightS, HKN.out.1, HKN.out.2]; omega) HBe.out.size ?_
                intro vx2 wx1 how7 hg5 hat6
                have HB3 := Lib.hid (below_app HBe.out HBe.out.size HOe.out (Nat.le_refl _) hg5)
                have HO4 := Lib.hid how7
                clear how7 hg5 hat6
                refine hK.out _ _ HB3.out (fun _ => ?_)
                clear hK K'
                try simp only [Act.put, List.setIfInBounds_toArray]
                refine wpAnyH_ready (rs := [6, 8]) (by kernel_rfl) (by simp) (AllReadyH.cons rfl (fun K' hK => ?_) (AllReadyH.cons rfl (fun K' hK => ?_) AllReadyH.nil))
                · rw [if_pos (by rfl)]
                  refine wp_app26 (.tmp 98) (.tmp 101) rfl w5.heap.size vx2 (K ++ N ++ eightS n2 8 ++ hs) Ay (ny - 16) cyy (zs.take (ny - 16)) rfl rfl HO4.out (HRW.out.2.below HB3.out (Nat.le_refl _)) (by rw [List.length_take, HZ.out.2.1]; omega) (by simp only [List.length_append, length_eightS, HKN.out.1, HKN.out.2, HN.out.1]; omega) HB3.out.size ?_
                  intro vx9 wx8 how14 hg12 hat13
                  have HB10 := Lib.hid (below_app HB3.out HB3.out.size HO4.out (Nat.le_refl _) hg12)
                  rw [HTI.out] at how14
                  have HO11 := Lib.hid how14
                  clear how14 hg12 hat13
                  refine hK.out _ _ HB10.out (fun _ => ?_)
                  clear hK K'
                  try simp only [Act.put]
                  refine wpAnyH_ready (rs := [7, 8]) (by kernel_rfl) (by simp) (AllReadyH.cons rfl (fun K' hK => ?_) (AllReadyH.cons rfl (fun K' hK => ?_) AllReadyH.nil))
                  · rw [if_pos (by rfl)]
                    have hform := Own.form HO11.out
                    obtain ⟨A102, c102, hve, hcl, hcm, hrd, -⟩ := hform
                    have hli : (tagIn K N hs (zs.take (ny - 16))).length = 52 + n2 + (ny - 16) := (by simp only [tagIn, List.length_append, List.length_take, length_eightS, HKN.out.1, HKN.out.2, HN.out.1, HZ.out.2.1]; omega)
                    rw [hli] at hve
                    subst hve
                    have HT := Lib.hid (tagged13t A102 (52 + n2 + (ny - 16)) c102 (tagIn K N hs (zs.take (ny - 16))) wx8 ((HLW.out.kept HB10.out).tabs.t0) ((HLW.out.kept HB10.out).tabs.t1) hrd hli (by omega))
                    clear hcl hcm hrd hli
                    go_wp2_with fail
                    (with_reducible refine HT.out.mono ?_)
                    rintro e wx15 ⟨rfl, hbx17⟩
                    have HB16 := Lib.hid (HB10.out.trans (hbx17.mono HB10.out.size))
                    clear HT hbx17
                    refine hK.out _ _ HB16.out (fun _ => ?_)
                    clear hK K'
                    try simp only [Act.put, List.setIfInBounds_toArray, List.set_cons_zero, List.set_cons_succ]
                    refine held_step (i := 8) rfl (by kernel_rfl) (fun K' hK => ?_)
                    go_wp2
                    refine hK.out _ _ (HB16.out.alloc HB16.out.size _) ?_
                    clear hK K'
                    try simp only [Act.put, List.setIfInBounds_toArray, List.set_cons_zero, List.set_cons_succ]
                    have glt23 : w5.heap.size ≤ wx15.heap.size := HB16.out.size
                    refine forget_any (fun w' => Below w5.heap.size w5 w' ∧ Blk w' wx15.heap.size 33 ((zeroB 32).map Y)) ⟨HB16.out.alloc HB16.out.size _, Blk.new wx15 33 ((zeroB 32).map Y)⟩ ?_
                    rintro wx18 ⟨hb_, hg_⟩
                    have HB19 := Lib.hid hb_
                    have HG21 := Lib.hid hg_
                    clear hb_ hg_
                    refine held_step (i := 9) rfl (by kernel_rfl) (fun K' hK => ?_)
                    refine wp_store_row 33 _ _ rfl wx15.heap.size _ rfl rfl 33 _ HG21.out HS33.out HLZ.out HSA.out ?_
                    refine hK.out _ _ (below_setRow HB19.out glt23 _) ?_
                    clear hK K'
                    try simp only [Act.put]
                    refine wpAnyH_done (by kernel_rfl) ?_ _
                    go_wp2_with (fail)
                    go_meet
                    exact ⟨_, rfl, setRow_heap _ _ _ _ 33 _ HG21.out, below_setRow HB19.out glt23 _⟩
                  · rw [if_pos (by rfl)]
                    go_wp2
                    refine hK.out _ _ (HB10.out.alloc HB10.out.size _) (fun _ => ?_)
                    clear hK K'
                    try simp only [Act.put, List.setIfInBounds_toArray, List.set_cons_zero, List.set_cons_succ]
                    have glt29 : w5.heap.size ≤ wx8.heap.size := HB10.out.size
                    have hne28 := Lib.hid (show some wx8.heap.size ≠ vx9.ownBlock from fun e => by have h3 := (World.ownsRow.lt HO11.out _ e.symm).2; omega)
                    refine forget_any (fun w' => Below w5.heap.size w5 w' ∧ Blk w' wx8.heap.size 33 ((zeroB 32).map Y) ∧ Own w' w5.heap.size vx9 (tagIn K N hs (zs.take (ny - 16)))) ⟨HB10.out.alloc HB10.out.size _, Blk.new wx8 33 ((zeroB 32).map Y), HO11.out.alloc _⟩ ?_
                    rintro wx24 ⟨hb_, hg_, ho_⟩
                    have HB25 := Lib.hid hb_
                    have HG27 := Lib.hid hg_
                    have HO26 := Lib.hid ho_
                    clear hb_ hg_ ho_
                    refine held_step (i := 7) rfl (by kernel_rfl) (fun K' hK => ?_)
                    have hform := Own.form HO26.out
                    obtain ⟨A102, c102, hve, hcl, hcm, hrd, -⟩ := hform
                    have hli : (tagIn K N hs (zs.take (ny - 16))).length = 52 + n2 + (ny - 16) := (by simp only [tagIn, List.length_append, List.length_take, length_eightS, HKN.out.1, HKN.out.2, HN.out.1, HZ.out.2.1]; omega)
                    rw [hli] at hve
                    subst hve
                    have HT := Lib.hid (tagged13t A102 (52 + n2 + (ny - 16)) c102 (tagIn K N hs (zs.take (ny - 16))) wx24 ((HLW.out.kept HB25.out).tabs.t0) ((HLW.out.kept HB25.out).tabs.t1) hrd hli (by omega))
                    clear hcl hcm hrd hli
                    go_wp2_with fail
                    (with_reducible refine HT.out.mono ?_)
                    rintro e wx30 ⟨rfl, hbx32⟩
                    have HB31 := Lib.hid (HB25.out.trans (hbx32.mono HB25.out.size))
                    have HG33 := Lib.hid (HG27.out.kept hbx32)
                    clear HT hbx32
                    refine hK.out _ _ HB31.out ?_
                    clear hK K'
                    try simp only [Act.put, List.setIfInBounds_toArray, List.set_cons_zero, List.set_cons_succ]
                    refine held_step (i := 9) rfl (by kernel_rfl) (fun K' hK => ?_)
                    refine wp_store_row 33 _ _ rfl wx8.heap.size _ rfl rfl 33 _ HG33.out HS33.out HLZ.out HSA.out ?_
                    refine hK.out _ _ (below_setRow HB31.out glt29 _) ?_
                    clear hK K'
                    try simp only [Act.put]
                    refine wpAnyH_done (by kernel_rfl) ?_ _
                    go_wp2_with (fail)
                    go_meet
                    exact ⟨_, rfl, setRow_heap _ _ _ _ 33 _ HG33.out, below_setRow HB31.out glt29 _⟩
                · rw [if_pos (by rfl)]
                  go_wp2
                  refine hK.out _ _ (HB3.out.alloc HB3.out.size _) (fun _ => ?_)
                  clear hK K'
                  try simp only [Act.put, List.setIfInBounds_toArray, List.set_cons_zero, List.set_cons_succ]
                  have glt39 : w5.heap.size ≤ wx1.heap.size := HB3.out.size
                  have hne38 := Lib.hid (show some wx1.heap.size ≠ vx2.ownBlock from fun e => by have h3 := (World.ownsRow.lt HO4.out _ e.symm).2; omega)
                  refine forget_any (fun w' => Below w5.heap.size w5 w' ∧ Blk w' wx1.heap.size 33 ((zeroB 32).map Y) ∧ Own w' w5.heap.size vx2 (K ++ N ++ eightS n2 8 ++ hs)) ⟨HB3.out.alloc HB3.out.size _, Blk.new wx1 33 ((zeroB 32).map Y), HO4.out.alloc _⟩ ?_
                  rintro wx34 ⟨hb_, hg_, ho_⟩
                  have HB35 := Lib.hid hb_
                  have HG37 := Lib.hid hg_
                  have HO36 := Lib.hid ho_
                  clear hb_ hg_ ho_
                  refine held_step (i := 6) rfl (by kernel_rfl) (fun K' hK => ?_)
                  refine wp_app26 (.tmp 98) (.tmp 101) rfl w5.heap.size vx2 (K ++ N ++ eightS n2 8 ++ hs) Ay (ny - 16) cyy (zs.take (ny - 16)) rfl rfl HO36.out (HRW.out.2.below HB35.out (Nat.le_refl _)) (by rw [List.length_take, HZ.out.2.1]; omega) (by simp only [List.length_append, length_eightS, HKN.out.1, HKN.out.2, HN.out.1]; omega) HB35.out.size ?_
                  intro vx41 wx40 how46 hg44 hat45
                  have HB42 := Lib.hid (below_app HB35.out HB35.out.size HO36.out (Nat.le_refl _) hg44)
                  have HG47 := Lib.hid (HG37.out.grown hg44 hne38.out)
                  have hne48 := Lib.hid (show some wx1.heap.size ≠ vx41.ownBlock from fun e => by rcases hat45 with h | h; exact hne38.out (e.trans h); have h3 := HG37.out.lt; rw [h] at e; injection e with e; omega)
                  rw [HTI.out] at how46
                  have HO43 := Lib.hid how46
                  clear how46 hg44 hat45
                  refine hK.out _ _ HB42.out ?_
                  clear hK K'
                  try simp only [Act.put, List.setIfInBounds_toArray, List.set_cons_zero, List.set_cons_succ]
                  refine held_step (i := 7) rfl (by kernel_rfl) (fun K' hK => ?_)
                  have hform := Own.form HO43.out
                  obtain ⟨A102, c102, hve, hcl, hcm, hrd, -⟩ := hform
                  have hli : (tagIn K N hs (zs.take (ny - 16))).length = 52 + n2 + (ny - 16) := (by simp only [tagIn, List.length_append, List.length_take, length_eightS, HKN.out.1, HKN.out.2, HN.out.1, HZ.out.2.1]; omega)
                  rw [hli] at hve
                  subst hve
                  have HT := Lib.hid (tagged13t A102 (52 + n2 + (ny - 16)) c102 (tagIn K N hs (zs.take (ny - 16))) wx40 ((HLW.out.kept HB42.out).tabs.t0) ((HLW.out.kept HB42.out).tabs.t1) hrd hli (by omega))
                  clear hcl hcm hrd hli
                  go_wp2_with fail
                  (with_reducible refine HT.out.mono ?_)
                  rintro e wx50 ⟨rfl, hbx52⟩
                  have HB51 := Lib.hid (HB42.out.trans (hbx52.mono HB42.out.size))
                  have HG53 := Lib.hid (HG47.out.kept hbx52)
                  clear HT hbx52
                  refine hK.out _ _ HB51.out ?_
                  clear hK K'
                  try simp only [Act.put, List.setIfInBounds_toArray, List.set_cons_zero, List.set_cons_succ]
                  refine held_step (i := 9) rfl (by kernel_rfl) (fun K' hK => ?_)
                  refine wp_store_row 33 _ _ rfl wx1.heap.size _ rfl rfl 33 _ HG53.out HS33.out HLZ.out HSA.out ?_
                  refine hK.out _ _ (below_setRow HB51.out glt39 _) ?_
                  clear hK K'
                  try simp only [Act.put]
                  refine wpAnyH_done (by kernel_rfl) ?_ _
                  go_wp2_with (fail)
                  go_meet
                  exact ⟨_, rfl, setRow_heap _ _ _ _ 33 _ HG53.out, below_setRow HB51.out glt39 _⟩
              · rw [if_pos (by rfl)]
                go_wp2
                refine hK.out _ _ (HBe.out.alloc HBe.out.size _) (fun _ => ?_)
                clear hK K'
                try simp only [Act.put, List.setIfInBounds_toArray, List.set_cons_zero, List.set_cons_succ]
                have glt59 : w5.heap.size ≤ we.heap.size := HBe.out.size
                have hne58 := Lib.hid (show some we.heap.size ≠ v95.ownBlock from fun e => by have h3 := (World.ownsRow.lt HOe.out _ e.symm).2; omega)
                refine forget_any (fun w' => Below w5.heap.size w5 w' ∧ Blk w' we.heap.size 33 ((zeroB 32).map Y) ∧ Own w' w5.heap.size v95 (K ++ N ++ eightS n2 8)) ⟨HBe.out.alloc HBe.out.size _, Blk.new we 33 ((zeroB 32).map Y), HOe.out.alloc _⟩ ?_
                rintro wx54 ⟨hb_, hg_, ho_⟩
                have HB55 := Lib.hid hb_
                have HG57 := Lib.hid hg_
                have HO56 := Lib.hid ho_
                clear hb_ hg_ ho_
                refine held_step (i := 2) rfl (by kernel_rfl) (fun K' hK => ?_)
                refine wp_app26 (.tmp 96) (.tmp 97) rfl w5.heap.size v95 (K ++ N ++ eightS n2 8) A2 n2 c2 hs rfl rfl HO56.out (HRW.out.1.below HB55.out (Nat.le_refl _)) HN.out.1 (by simp only [List.length_append, length_eightS, HKN.out.1, HKN.out.2]; omega) HB55.out.size ?_
                intro vx61 wx60 how66 hg64 hat65
                have HB62 := Lib.hid (below_app HB55.out HB55.out.size HO56.out (Nat.le_refl _) hg64)
                have HG67 := Lib.hid (HG57.out.grown hg64 hne58.out)
                have hne68 := Lib.hid (show some we.heap.size ≠ vx61.ownBlock from fun e => by rcases hat65 with h | h; exact hne58.out (e.trans h); have h3 := HG57.out.lt; rw [h] at e; injection e with e; omega)
                have HO63 := Lib.hid how66
                clear how66 hg64 hat65
                refine hK.out _ _ HB62.out ?_
                clear hK K'
                try simp only [Act.put, List.setIfInBounds_toArray, List.set_cons_zero, List.set_cons_succ]
                refine held_step (i := 6) rfl (by kernel_rfl) (fun K' hK => ?_)
                refine wp_app26 (.tmp 98) (.tmp 101) rfl w5.heap.size vx61 (K ++ N ++ eightS n2 8 ++ hs) Ay (ny - 16) cyy (zs.take (ny - 16)) rfl rfl HO63.out (HRW.out.2.below HB62.out (Nat.le_refl _)) (by rw [List.length_take, HZ.out.2.1]; omega) (by simp only [List.length_append, length_eightS, HKN.out.1, HKN.out.2, HN.out.1]; omega) HB62.out.size ?_
                intro vx71 wx70 how76 hg74 hat75
                have HB72 := Lib.hid (below_app HB62.out HB62.out.size HO63.out (Nat.le_refl _) hg74)
                have HG77 := Lib.hid (HG67.out.grown hg74 hne68.out)
                have hne78 := Lib.hid (show some we.heap.size ≠ vx71.ownBlock from fun e => by rcases hat75 with h | h; exact hne68.out (e.trans h); have h3 := HG67.out.lt; rw [h] at e; injection e with e; omega)
                rw [HTI.out] at how76
                have HO73 := Lib.hid how76
                clear how76 hg74 hat75
                refine hK.out _ _ HB72.out ?_
                clear hK K'
                try simp only [Act.put, List.setIfInBounds_toArray, List.set_cons_zero, List.set_cons_succ]
                refine held_step (i := 7) rfl (by kernel_rfl) (fun K' hK => ?_)
                have hform := Own.form HO73.out
                obtain ⟨A102, c102, hve, hcl, hcm, hrd, -⟩ := hform
                have hli : (tagIn K N hs (zs.take (ny - 16))).length = 52 + n2 + (ny - 16) := (by simp only [tagIn, List.length_append, List.length_take, length_eightS, HKN.out.1, HKN.out.2, HN.out.1, HZ.out.2.1]; omega)
                rw [hli] at hve
                subst hve
                have HT := Lib.hid (tagged13t A102 (52 + n2 + (ny - 16)) c102 (tagIn K N hs (zs.take (ny - 16))) wx70 ((HLW.out.kept HB72.out).tabs.t0) ((HLW.out.kept HB72.out).tabs.t1) hrd hli (by omega))
                clear hcl hcm hrd hli
                go_wp2_with fail
                (with_reducible refine HT.out.mono ?_)
                rintro e wx80 ⟨rfl, hbx82⟩
                have HB81 := Lib.hid (HB72.out.trans (hbx82.mono HB72.out.size))
                have HG83 := Lib.hid (HG77.out.kept hbx82)
                clear HT hbx82
                refine hK.out _ _ HB81.out ?_
                clear hK K'
                try simp only [Act.put, List.setIfInBounds_toArray, List.set_cons_zero, List.set_cons_succ]
                refine held_step (i := 9) rfl (by kernel_rfl) (fun K' hK => ?_)
                refine wp_store_row 33 _ _ rfl we.heap.size _ rfl rfl 33 _ HG83.out HS33.out HLZ.out HSA.out ?_
                refine hK.out _ _ (below_setRow HB81.out glt59 _) ?_
                clear hK K'
                try simp only [Act.put]
                refine wpAnyH_done (by kernel_rfl) ?_ _
                go_wp2_with (fail)
                go_meet
                exact ⟨_, rfl, setRow_heap _ _ _ _ 33 _ HG83.out, below_setRow HB81.out glt59 _⟩
            case rest =>
              rename World => w7
              obtain ⟨g, rfl, hg, hb⟩ := hcut
              have HB7 := Lib.hid hb
              have t1 : ∀ j, (convert 26 9 (.slice (Ay.map (·.add (ny - 16))) 16 (cyy - (ny - 16)))).run Tryd.prog (w7.drewN j) = .ok (.string (strOf (zs.drop (ny - 16)))) (w7.drewN j) := fun j => run_str26 (w7.drewN j) _ 16 _ _ (by
                have h := (HZ.out.1.below HB7.out (Nat.le_refl _)).drop (ny - 16) cyy (by rw [HZ.out.2.1]; omega)
                rw [if_neg (by have := HNY.out; omega)] at h
                exact h.drewN j) (by rw [List.length_drop, HZ.out.2.1]; have := HNY.out; omega)
              have hsl := slice_low Ay ny cyy (ny - 16) (by omega) (by have := HNY.out; omega) ((ny : Int) - 16) (by have := HNY.out; omega)
              rw [show ny - (ny - 16) = 16 by have := HNY.out; omega] at hsl
              have t2 : ∀ j, (convert 26 9 (.slice (some ⟨g, 0, none⟩) 16 32)).run Tryd.prog (w7.drewN j) = .ok (.string (strOf (tagS K N hs (zs.take (ny - 16))))) (w7.drewN j) := fun j => run_str26 (w7.drewN j) _ 16 32 _ (by rw [tagS_take]; exact ((Rd.block hg).take 16).drewN j) (length_tagS _ _ _ _)
              clear hg hb
              go_wp2
              go_quiet (fail)
              go_wp2_with (fail)
              go_meet
              exact ⟨_, rfl, by rw [str_eq]; simp [HNY.out], below_drewN HB7.out nq⟩
          · have q0 : decide ((16 : Int) ≤ (ny : Int)) = false := decide_eq_false (by omega)
            have q1 : ¬ (16 : Int) ≤ (ny : Int) := by omega
            have q2 : (ny : Int) < 16 := by omega
            have HNY := Lib.hid hny
            clear hny
            go_wp2
            go_meet
            exact ⟨false, rfl, (decide_eq_false (fun h => HNY.out h.1)).symm, Below.refl _ _⟩
        case rest =>
          rename World => w6
          obtain ⟨q, rfl, hq, hb⟩ := hcut
          have HB6 := Lib.hid hb
          have HL6 := Lib.hid (HLW.out.kept hb)
          have HQ := Lib.hid hq
          clear hb hq
          have HO := Lib.hid (open_q K N HKN.out.1 HKN.out.2 A2 Ay n2 ny c2 cyy hs zs w6 HL6.out.tabs (HR.out.1.below HL6.out.old (Nat.le_refl _)) (HZ.out.1.below HB6.out (Nat.le_refl _)) HN.out.1 HZ.out.2.1 (by omega) (by omega) hyc hym)
          have HBY := Lib.hid (show k = 2 → ((B by_) == (0 : Int)) = q from fun h2 => by
            rw [HQ.out]
            have e := HZ.out.2.2 h2
            obtain ⟨-, hny3, -, -⟩ := HY.out.2.2 h2
            have tt := tag_turn (streamS K N cs) (tagS K N hs (streamS K N cs)) n3 m15 (by rw [length_streamS, HN.out.2]) (length_tagS _ _ _ _) (by omega) by_
            rw [show streamS K N cs ++ tagS K N hs (streamS K N cs) = sealS K N hs cs from rfl, ← e] at tt
            rw [show ny - 16 = n3 by omega, tt.1]
            have hbb : ((B by_) == (0 : Int)) = decide (by_ = 0#8) := by
              by_cases h : by_ = 0#8
              · subst h; rfl
              · rw [decide_eq_false h]
                have : ¬ B by_ = 0 := fun h3 => h (B_inj (h3.trans (by rfl)))
                simpa using this
            rw [hbb]
            congr 1
            apply propext
            constructor
            · intro h; exact ⟨by omega, tt.2.2 h⟩
            · intro h; exact tt.2.1 h.2)
          cases q
          · have HC := Lib.hid (HO.out.2 HQ.out.symm)
            by_cases h2 : k = 2
            · have t2 : ((k : Int) == 2) = true := by subst h2; rfl
              have hby := HBY.out h2
              clear h2
              go_wp2_with (first
                | ((with_reducible refine at_load 23 ?_); refine wpList_load_row rfl 23 _ rfl w.heap.size rfl 23 _ (0, 0) _ HL6.out.key Tryd.underlying23 rfl HSK.out ?_)
                | ((with_reducible refine at_load 25 ?_); refine wpList_load_row rfl 25 _ rfl (w.heap.size + 1) rfl 25 _ (0, 0) _ HL6.out.non Tryd.underlying25 rfl HSN.out ?_)
                | (go_at_call 14; (with_reducible refine HC.out.mono ?_); rintro e w8 ⟨rfl, hb8⟩; have HB8 := Lib.hid (HB6.out.trans (hb8.mono HB6.out.size)); clear hb8))
              go_roundw
              case rel => exact ⟨k + 1, by omega, by go_num, HW.out.1.trans (HB8.out.mono HW.out.1.size), HW.out.2.1.kept HB8.out, fun h => (HW.out.2.2 h).below HB8.out⟩
              case measure => simp [intOf]; omega
            · have t2 : ((k : Int) == 2) = false := by
                have : ¬ (k : Int) = 2 := by omega
                simpa using this
              clear h2
              go_wp2_with (first
                | ((with_reducible refine at_load 23 ?_); refine wpList_load_row rfl 23 _ rfl w.heap.size rfl 23 _ (0, 0) _ HL6.out.key Tryd.underlying23 rfl HSK.out ?_)
                | ((with_reducible refine at_load 25 ?_); refine wpList_load_row rfl 25 _ rfl (w.heap.size + 1) rfl 25 _ (0, 0) _ HL6.out.non Tryd.underlying25 rfl HSN.out ?_)
                | (go_at_call 14; (with_reducible refine HC.out.mono ?_); rintro e w8 ⟨rfl, hb8⟩; have HB8 := Lib.hid (HB6.out.trans (hb8.mono HB6.out.size)); clear hb8))
              go_roundw
              case rel => exact ⟨k + 1, by omega, by go_num, HW.out.1.trans (HB8.out.mono HW.out.1.size), HW.out.2.1.kept HB8.out, fun h => (HW.out.2.2 h).below HB8.out⟩
              case measure => simp [intOf]; omega
          · have HC := Lib.hid (HO.out.1 HQ.out.symm)
            by_cases h2 : k = 2
            · have t2 : ((k : Int) == 2) = true := by subst h2; rfl
              have hby := HBY.out h2
              clear h2
              go_wp2_with (first
                | ((with_reducible refine at_load 23 ?_); refine wpList_load_row rfl 23 _ rfl w.heap.size rfl 23 _ (0, 0) _ HL6.out.key Tryd.underlying23 rfl HSK.out ?_)
                | ((with_reducible refine at_load 25 ?_); refine wpList_load_row rfl 25 _ rfl (w.heap.size + 1) rfl 25 _ (0, 0) _ HL6.out.non Tryd.underlying25 rfl HSN.out ?_)
                | (go_at_call 14; (with_reducible refine HC.out.mono ?_); rintro e w8 ⟨Ab, nb, cb, rfl, hb8⟩; have HB8 := Lib.hid (HB6.out.trans (hb8.mono HB6.out.size)); clear hb8))
              go_roundw
              case rel => exact ⟨k + 1, by omega, by go_num, HW.out.1.trans (HB8.out.mono HW.out.1.size), HW.out.2.1.kept HB8.out, fun h => (HW.out.2.2 h).below HB8.out⟩
              case measure => simp [intOf]; omega
            · have t2 : ((k : Int) == 2) = false := by
                have : ¬ (k : Int) = 2 := by omega
                simpa using this
              clear h2
              go_wp2_with (first
                | ((with_reducible refine at_load 23 ?_); refine wpList_load_row rfl 23 _ rfl w.heap.size rfl 23 _ (0, 0) _ HL6.out.key Tryd.underlying23 rfl HSK.out ?_)
                | ((with_reducible refine at_load 25 ?_); refine wpList_load_row rfl 25 _ rfl (w.heap.size + 1) rfl 25 _ (0, 0) _ HL6.out.non Tryd.underlying25 rfl HSN.out ?_)
                | (go_at_call 14; (with_reducible refine HC.out.mono ?_); rintro e w8 ⟨Ab, nb, cb, rfl, hb8⟩; have HB8 := Lib.hid (HB6.out.trans (hb8.mono HB6.out.size)); clear hb8))
              go_roundw
              case rel => exact ⟨k + 1, by omega, by go_num, HW.out.1.trans (HB8.out.mono HW.out.1.size), HW.out.2.1.kept HB8.out, fun h => (HW.out.2.2 h).below HB8.out⟩
              case measure => simp [intOf]; omega
    · obtain rfl : k = 3 := by omega
      rw [show ((3 : Nat) : Int) = 3 from rfl]
      have HO := Lib.hid (HL2.out.old.trans (hm.old.mono HL2.out.old.size))
      clear hm
      go_wp2
      go_ret
      exact ⟨rfl, HO.out⟩
end Go.Proofs.YtbmjjmianhjfiaaDoor
