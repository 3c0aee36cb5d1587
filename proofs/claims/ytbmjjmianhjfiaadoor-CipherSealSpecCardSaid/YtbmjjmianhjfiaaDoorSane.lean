/- What sane returns: true; the chapter's examples, walked. -/
import Derived.Test.YtbmjjmianhjfiaaDoorOpenNo
import Derived.Test.YtbmjjmianhjfiaaDoorBox
import Derived.Deep.RegionHeld3
import Derived.Lib.SlBytesConst
namespace Go.Proofs.YtbmjjmianhjfiaaDoor
open Go.RowKit
attribute [local irreducible] sumS tagged

def keyTo : Nat → List (BitVec 8)
  | 0 => zeroB 32
  | k + 1 => (keyTo k).set k (BitVec.ofNat 8 k)
theorem length_keyTo (k : Nat) : (keyTo k).length = 32 := by
  induction k with
  | zero => rfl
  | succ k ih => simp [keyTo, ih]
theorem keyTo_all : keyTo 32 = keyEx := by decide +kernel
theorem length_keyEx : keyEx.length = 32 := by simp [keyEx]
def nonEx : List (BitVec 8) := [0,0,0,9,0,0,0,0x4a,0,0,0,0]
theorem length_nonEx : nonEx.length = 12 := rfl
theorem nonEx_val : (nonEx.map Y).toArray = #[.int .u8 0, .int .u8 0, .int .u8 0, .int .u8 9, .int .u8 0, .int .u8 0, .int .u8 0, .int .u8 74, .int .u8 0, .int .u8 0, .int .u8 0, .int .u8 0] := by kernel_rfl
theorem nonZ_val : ((zeroB 12).map Y).toArray = #[.int .u8 0, .int .u8 0, .int .u8 0, .int .u8 0, .int .u8 0, .int .u8 0, .int .u8 0, .int .u8 0, .int .u8 0, .int .u8 0, .int .u8 0, .int .u8 0] := by kernel_rfl


theorem streamS_twice (K N xs : List (BitVec 8)) : streamS K N (streamS K N xs) = xs := by
  apply ext_getD
  · simp only [length_streamS]
  · intro j hj
    simp only [length_streamS] at hj
    rw [getD_streamS _ _ _ _ (by rw [length_streamS]; exact hj), getD_streamS _ _ _ _ hj, BitVec.xor_assoc, BitVec.xor_self, BitVec.xor_zero]
theorem sealS_take (K N xs ys : List (BitVec 8)) (m : Nat) (hm : ys.length = m) : (sealS K N xs ys).take m = streamS K N ys := by
  unfold sealS; rw [List.take_append_of_le_length (by rw [length_streamS]; omega), List.take_of_length_le (by rw [length_streamS]; omega)]
theorem sealS_drop (K N xs ys : List (BitVec 8)) (m : Nat) (hm : ys.length = m) : (sealS K N xs ys).drop m = tagS K N xs (streamS K N ys) := by
  unfold sealS; rw [List.drop_append_of_le_length (by rw [length_streamS]; omega), List.drop_of_length_le (by rw [length_streamS]; omega), List.nil_append]
def hdB : List (BitVec 8) := [104, 101, 97, 100]
def bdB : List (BitVec 8) := [98, 111, 100, 121]
/-- Cells of a block with a marked place behind them. -/
theorem Rd.row {w : World} {g : Nat} {t : TypeId} {fr : Nat × Nat} {xs : List (BitVec 8)} (h : w.heap[g]? = some (.cells (xs.map Y).toArray t fr)) : Rd w (some ⟨g, 0, none⟩) xs := fun _ =>
  ⟨g, 0, rfl, fun i hi => by rw [Nat.zero_add, cell_of_row w g i _ t fr h]; simp [Y, hi]⟩
theorem conv_const (w : World) (C : Array Value) (n c : Nat) : (convert 26 26 (.slice (some ⟨w.heap.size, 0, none⟩) n c)).run Tryd.prog (w.alloc (.cells C 5)) = .ok (.slice (some ⟨w.heap.size, 0, none⟩) n c) (w.alloc (.cells C 5 (C.size, C.size + 1))) :=
  Lib.run_convert_bytes_const w 26 5 C n c Tryd.underlying26 Tryd.underlying5
theorem conv_const2 (w : World) (o : Obj) (C : Array Value) (n c : Nat) : (convert 26 26 (.slice (some ⟨w.heap.size + 1, 0, none⟩) n c)).run Tryd.prog ((w.alloc o).alloc (.cells C 5)) = .ok (.slice (some ⟨w.heap.size + 1, 0, none⟩) n c) ((w.alloc o).alloc (.cells C 5 (C.size, C.size + 1))) := by
  have := conv_const (w.alloc o) C n c
  simpa using this
theorem rd_two {w : World} {xs ys : List (BitVec 8)} {f1 f2 : Nat × Nat} :
    Rd ((w.alloc (.cells (xs.map Y).toArray 5 f1)).alloc (.cells (ys.map Y).toArray 5 f2)) (some ⟨w.heap.size, 0, none⟩) xs ∧
    Rd ((w.alloc (.cells (xs.map Y).toArray 5 f1)).alloc (.cells (ys.map Y).toArray 5 f2)) (some ⟨w.heap.size + 1, 0, none⟩) ys := by
  refine ⟨(Rd.row (heap_alloc_new w _)).alloc _, ?_⟩
  have := Rd.row (heap_alloc_new (w.alloc (.cells (xs.map Y).toArray 5 f1)) (.cells (ys.map Y).toArray 5 f2))
  simpa using this

theorem open_ex (A : Option Addr) (c : Nat) (w : World) (hT0 : Lay w 0 startS) (hT1 : Lay w 1 numbersS) (hT2 : Tab w 2 constsS) (hr : Rd w A (sealS keyEx (zeroB 12) hdB bdB)) (hc : 20 ≤ c) (hm : c ≤ maxLen) :
    Calls Tryd.prog 14 #[.agg (keyEx.map Y).toArray, .agg #[.int .u8 0, .int .u8 0, .int .u8 0, .int .u8 0, .int .u8 0, .int .u8 0, .int .u8 0, .int .u8 0, .int .u8 0, .int .u8 0, .int .u8 0, .int .u8 0], .slice (some ⟨w.heap.size, 0, none⟩) 4 4, .slice A 20 c]
      (w.alloc (.cells #[.int .u8 104, .int .u8 101, .int .u8 97, .int .u8 100] 5 (4, 5)))
      fun e w' => ∃ A' c', e = .returned (.tuple #[.slice A' 4 c', .int .i64 0]) ∧ Rd w' A' bdB ∧ Below w.heap.size w w' := by
  have hb : Below w.heap.size w (w.alloc (.cells #[.int .u8 104, .int .u8 101, .int .u8 97, .int .u8 100] 5 (4, 5))) := (Below.refl _ w).alloc (Nat.le_refl _) _
  have ehead : (hdB.map Y).toArray = #[.int .u8 104, .int .u8 101, .int .u8 97, .int .u8 100] := by kernel_rfl
  have hh : Rd (w.alloc (.cells #[.int .u8 104, .int .u8 101, .int .u8 97, .int .u8 100] 5 (4, 5))) (some ⟨w.heap.size, 0, none⟩) hdB := by
    rw [← ehead]; exact Rd.row (heap_alloc_new w _)
  have h := open14_main keyEx (zeroB 12) length_keyEx (length_zeroB 12) _ A 4 20 4 4 c hdB (sealS keyEx (zeroB 12) hdB bdB) _ (hT0.below hb (Nat.le_refl _)) (hT1.below hb (Nat.le_refl _)) (hT2.below hb (Nat.le_refl _)) hh (hr.below hb (Nat.le_refl _)) rfl (length_sealS _ _ _ _) (by omega) rfl (by omega) hc hm
  rw [nonZ_val] at h
  refine h.mono fun e w' h' => ?_
  obtain ⟨v, rfl, hv, hb'⟩ := h'.1 (by rw [sealS_take _ _ _ _ 4 rfl, sealS_drop _ _ _ _ 4 rfl])
  rw [sealS_take _ _ _ _ 4 rfl, streamS_twice] at hv
  obtain ⟨A', c', rfl, -, -, hr', -⟩ := hv.form
  exact ⟨A', c', rfl, hr', hb.trans (hb'.mono (by simp))⟩
theorem str_bd : strOf bdB = { data := #[98, 111, 100, 121] } := by kernel_rfl
theorem ex_at : (blockS keyEx nonEx (BitVec.ofInt 32 1)).getD 0 0 = 16#8 ∧ (blockS keyEx nonEx (BitVec.ofInt 32 1)).getD 1 0 = 241#8 ∧ (blockS keyEx nonEx (BitVec.ofInt 32 1)).getD 2 0 = 231#8 ∧ (blockS keyEx nonEx (BitVec.ofInt 32 1)).getD 3 0 = 228#8 := by decide +kernel
/-- The four first bytes of the example's block. -/
def Ex4 (w : World) (g : Nat) : Prop := w.cell? ⟨g, 0, none⟩ = some (.int .u8 16) ∧ w.cell? ⟨g, 1, none⟩ = some (.int .u8 241) ∧ w.cell? ⟨g, 2, none⟩ = some (.int .u8 231) ∧ w.cell? ⟨g, 3, none⟩ = some (.int .u8 228)
theorem Ex4.kept {w w' : World} {g : Nat} (h : Ex4 w g) (hb : Below w.heap.size w w') : Ex4 w' g := by
  obtain ⟨h0, h1, h2, h3⟩ := h
  have hlt : g < w.heap.size := block_lt_of_cell h0
  have hk := fun (i : Nat) => hb.cell (p := ⟨g, i, none⟩) hlt
  exact ⟨(hk 0).trans h0, (hk 1).trans h1, (hk 2).trans h2, (hk 3).trans h3⟩
theorem cells_ex {w : World} {base g cap : Nat} (h : Own w base (.slice (some ⟨g, 0, none⟩) (blockS keyEx nonEx (BitVec.ofInt 32 1)).length cap) (blockS keyEx nonEx (BitVec.ofInt 32 1))) :
    Ex4 w g := by
  have hl := length_blockS keyEx nonEx (BitVec.ofInt 32 1)
  obtain ⟨e0, e1, e2, e3⟩ := ex_at
  have c0 := h.cell 0 (by omega)
  have c1 := h.cell 1 (by omega)
  have c2 := h.cell 2 (by omega)
  have c3 := h.cell 3 (by omega)
  rw [e0] at c0; rw [e1] at c1; rw [e2] at c2; rw [e3] at c3
  exact ⟨c0, c1, c2, c3⟩

set_option maxRecDepth 100000 in
set_option maxHeartbeats 2000000 in
theorem sane11 (w : World) (hT0 : Lay w 0 startS) (hT1 : Lay w 1 numbersS) (hT2 : Tab w 2 constsS) :
    Calls Tryd.prog 11 #[] w fun e w' => e = .returned (.bool true) ∧ Below w.heap.size w w' := by
  have HT := Lib.hid (⟨hT0, hT1, hT2⟩ : _ ∧ _ ∧ _)
  clear hT0 hT1 hT2
  go_enter Tryd.func11, Tryd.ntmps11
  go_wp2
  go_loopw [15] (fun i wr => ∃ k : Nat, k ≤ 32 ∧ i = .int .i64 k ∧ Blk wr w.heap.size 23 ((keyTo k).map Y) ∧ Below w.heap.size w wr) (fun i _ => 32 - (intOf i).toNat)
  case atStart => exact ⟨0, by omega, rfl, Blk.new w 23 _, (Below.refl _ w).alloc (Nat.le_refl _) _⟩
  case round =>
    obtain ⟨k, hk, rfl, hb, ho⟩ := hrel
    by_cases hlt : k < 32
    · have a0 : (k : Int) < 32 := by omega
      have cc := hb.byte k (by rw [length_keyTo]; omega)
      have cf := hb.free k
      have hy : (k : Int) % 256 = B (BitVec.ofNat 8 k) := by simp [B]
      have H := Lib.hid (⟨hb, ho⟩ : _ ∧ _)
      clear hb ho
      go_wp2
      refine ⟨⟨k + 1, by omega, by go_num, ?_, H.out.2.setCell (p := ⟨w.heap.size, k, none⟩) (Nat.le_refl _) _⟩, by simp [intOf]; omega⟩
      simp only [keyTo]
      rw [List.map_set]
      have hy2 : Value.int .u8 (k : Int) = Y (BitVec.ofNat 8 k) := by
        show _ = Value.int .u8 (B _)
        rw [← hy]; congr 1; omega
      rw [hy2]
      exact H.out.1.put k _
    · obtain rfl : k = 32 := by omega
      rw [show ((32 : Nat) : Int) = 32 from rfl]
      rw [keyTo_all] at hb
      have HS := Lib.hid (sz23 length_keyEx)
      have hlt0 := hb.lt
      have HT1 := Lib.hid (⟨HT.out.1.below ho (Nat.le_refl _), HT.out.2.1.below ho (Nat.le_refl _), HT.out.2.2.below ho (Nat.le_refl _)⟩ : Lay wr 0 startS ∧ Lay wr 1 numbersS ∧ Tab wr 2 constsS)
      have HK := Lib.hid hb
      have HO := Lib.hid ho
      have HC := Lib.hid (Block16 keyEx nonEx length_keyEx length_nonEx 1 (by omega) (by omega) wr HT1.out.2.2)
      rw [nonEx_val] at HC
      clear hk hlt hb ho
      go_wp2_with (first
        | ((with_reducible refine at_load 23 ?_); refine wpList_load_row rfl 23 _ rfl w.heap.size rfl 23 _ (0, 0) _ HK3.out Tryd.underlying23 rfl HS.out ?_)
        | ((with_reducible refine at_load 23 ?_); refine wpList_load_row rfl 23 _ rfl w.heap.size rfl 23 _ (0, 0) _ HK2.out Tryd.underlying23 rfl HS.out ?_)
        | ((with_reducible refine at_load 23 ?_); refine wpList_load_row rfl 23 _ rfl w.heap.size rfl 23 _ (0, 0) _ HK1.out Tryd.underlying23 rfl HS.out ?_)
        | ((with_reducible refine at_load 23 ?_); refine wpList_load_row rfl 23 _ rfl w.heap.size rfl 23 _ (0, 0) _ HK.out Tryd.underlying23 rfl HS.out ?_)
        | (go_at_call 16; with_reducible refine HC.out.mono ?_; rintro e w1 ⟨v1, rfl, hv1, hb1⟩; obtain ⟨g1, k1, hve, hk1, -, -, hg1⟩ := hv1.some (by rw [length_blockS]; omega); have HX1 := Lib.hid (cells_ex (hve ▸ hv1)); rw [length_blockS] at hve hk1; subst hve; have HK1 := Lib.hid (HK.out.kept hb1); have HB1 := Lib.hid hb1; have HC2 := Lib.hid (Block16_no keyEx (zeroB 12) (-1) (by omega) w1); rw [nonZ_val] at HC2; clear hv1 hb1)
        | (go_at_call 16; with_reducible refine HC2.out.mono ?_; rintro e w2 ⟨rfl, hb2⟩; have HK2 := Lib.hid (HK1.out.kept hb2); have HX2 := Lib.hid (HX1.out.kept hb2); have HB2 := Lib.hid (HB1.out.trans (hb2.mono HB1.out.size)); have HC3 := Lib.hid (Stream15 keyEx (zeroB 12) length_keyEx (length_zeroB 12) none 0 0 [] w2 (HT1.out.2.2.below HB2.out (Nat.le_refl _)) (Rd.nil _ _) rfl (by omega)); rw [nonZ_val] at HC3; clear hb2)
        | (go_at_call 15; with_reducible refine HC3.out.mono ?_; rintro e w3 ⟨v3, rfl, hv3, hb3⟩; have HK3 := Lib.hid (HK2.out.kept hb3); have HX3 := Lib.hid (HX2.out.kept hb3); have HB3 := Lib.hid (HB2.out.trans (hb3.mono HB2.out.size)); obtain ⟨A3, c3, hve, -, -, -, -⟩ := hv3.form; rw [length_streamS, List.length_nil] at hve; subst hve; clear hb3 hv3))
      have HU := Lib.hid Tryd.underlying23
      have HR3 := Lib.hid (show w3.rangeAt w.heap.size 0 (keyEx.map Y) from fun j v hj => by rw [Nat.zero_add, HK3.out.at]; exact hj)
      have hmk : ∀ w : World, (Instr.makeSlice 26 (.int .i64 15) (.int .i64 15)).run Tryd.prog w = .ok (.slice (some ⟨w.heap.size, 0, none⟩) 15 15) (w.alloc (.cells ((zeroB 15).map Y).toArray 5)) := fun w => make26 15 15 (by omega) (by omega) .i64 .i64 w
      have hu := Tryd.underlying23
      have hi : (Tryd.prog.info? 23).map (·.size) = some (keyEx.map Y).length := by rw [size23]; simp [length_keyEx]
      have hr3 := HR3.out
      go_region_held3 (fun w' => w'.rangeAt w.heap.size 0 (keyEx.map Y)) (first | go_keep_ranges | exact HR4.out)
        (first | (go_at_call 14; refine (open14_len keyEx (zeroB 12) none _ 0 15 0 15 _ (by omega) (by omega)).mono ?_; rintro e w4 ⟨rfl, hb4⟩; have HB34 := Lib.hid (show Below w3.heap.size w3 w4 from (((Below.refl _ w3).drew).alloc (Nat.le_refl _) _).trans (hb4.mono (by simp))); have HK4 := Lib.hid (HK3.out.kept HB34.out); have HX4 := Lib.hid (HX3.out.kept HB34.out); have HR4 := Lib.hid (show w4.rangeAt w.heap.size 0 (keyEx.map Y) from fun j v hj => by rw [Nat.zero_add, HK4.out.at]; exact hj); clear hb4))
      clear hmk hu hi hr3
      have HB4 := Lib.hid (HB3.out.trans (HB34.out.mono HB3.out.size))
      have HTT := Lib.hid (⟨HT1.out.1.below HB4.out (Nat.le_refl _), HT1.out.2.1.below HB4.out (Nat.le_refl _), HT1.out.2.2.below HB4.out (Nat.le_refl _)⟩ : Lay w4 0 startS ∧ Lay w4 1 numbersS ∧ Tab w4 2 constsS)
      have HRH := Lib.hid (rd_two (w := w4) (xs := hdB) (ys := bdB) (f1 := (4, 5)) (f2 := (4, 5)))
      have HC5 := Lib.hid (seal12 keyEx (zeroB 12) length_keyEx (length_zeroB 12) _ _ 4 4 4 4 hdB bdB _ (HTT.out.1.below ((((Below.refl _ w4).alloc (Nat.le_refl _) _).alloc (by simp) _)) (Nat.le_refl _)) (HTT.out.2.1.below ((((Below.refl _ w4).alloc (Nat.le_refl _) _).alloc (by simp) _)) (Nat.le_refl _)) (HTT.out.2.2.below ((((Below.refl _ w4).alloc (Nat.le_refl _) _).alloc (by simp) _)) (Nat.le_refl _)) HRH.out.1 HRH.out.2 rfl rfl (by omega) (by omega))
      have ehead : (hdB.map Y).toArray = #[.int .u8 104, .int .u8 101, .int .u8 97, .int .u8 100] := by kernel_rfl
      have ebody : (bdB.map Y).toArray = #[.int .u8 98, .int .u8 111, .int .u8 100, .int .u8 121] := by kernel_rfl
      rw [nonZ_val, ehead, ebody] at HC5
      clear ehead ebody
      have kc := conv_const
      have kc2 := conv_const2
      go_wp2_with (first
        | ((with_reducible refine at_load 23 ?_); refine wpList_load_row rfl 23 _ rfl w.heap.size rfl 23 _ (0, 0) _ HK4.out Tryd.underlying23 rfl HS.out ?_)
        | ((with_reducible refine at_load 23 ?_); refine wpList_load_row rfl 23 _ rfl w.heap.size rfl 23 _ (0, 0) _ HK5.out Tryd.underlying23 rfl HS.out ?_)
        | (go_at_call 12; (with_reducible refine HC5.out.mono ?_); rintro e w5 ⟨v5, rfl, hv5, hb5⟩; have HB45 := Lib.hid (show Below w4.heap.size w4 w5 from ((((Below.refl _ w4).alloc (Nat.le_refl _) _).alloc (by simp) _)).trans (hb5.mono (by simp; omega))); have HK5 := Lib.hid (HK4.out.kept HB45.out); have HX5 := Lib.hid (HX4.out.kept HB45.out); obtain ⟨A5, c5, hve, hc5, hm5, hr5, -⟩ := hv5.form; rw [length_sealS, show bdB.length + 16 = 20 from rfl] at hve hc5; subst hve; have HC6 := Lib.hid (open_ex A5 c5 w5 (HTT.out.1.below HB45.out (Nat.le_refl _)) (HTT.out.2.1.below HB45.out (Nat.le_refl _)) (HTT.out.2.2.below HB45.out (Nat.le_refl _)) hr5 hc5 hm5); clear hv5 hb5 hr5 hc5 hm5)
        | (go_at_call 14; (with_reducible refine HC6.out.mono ?_); rintro e w6 ⟨A6, c6, rfl, hr6, hb6⟩; have HB6 := Lib.hid (HO.out.trans ((HB4.out.trans ((HB45.out.trans (hb6.mono HB45.out.size)).mono HB4.out.size)).mono HO.out.size)); obtain ⟨x0, x1, x2, x3⟩ := HX5.out.kept hb6; have hstr := run_str26 w6 A6 4 c6 bdB hr6 rfl; rw [str_bd] at hstr; clear hr6 hb6))
      go_ret
      exact ⟨rfl, HB6.out⟩
end Go.Proofs.YtbmjjmianhjfiaaDoor
