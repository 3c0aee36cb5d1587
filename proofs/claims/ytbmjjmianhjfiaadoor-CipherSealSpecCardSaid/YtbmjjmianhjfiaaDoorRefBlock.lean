/- What the reference's block and Block return: the same block of the key stream. -/
import Derived.Test.YtbmjjmianhjfiaaDoorBox
import Derived.Test.YtbmjjmianhjfiaaDoorMixRef
import Derived.Test.YtbmjjmianhjfiaaDoorBlocks
namespace Go.Proofs.YtbmjjmianhjfiaaDoor
open Go.RowKit

/-- Memory in the reference's block while the numbers are laid. -/
structure In28 (w0 : World) (K N : List (BitVec 8)) (L : List (BitVec 32)) (w : World) : Prop where
  key : Blk w w0.heap.size 23 (K.map Y)
  non : Blk w (w0.heap.size + 1) 25 (N.map Y)
  s : Words w (w0.heap.size + 2) 64 L
  old : Below w0.heap.size w0 w
section
variable {w0 w : World} {K N : List (BitVec 8)} {L : List (BitVec 32)}
theorem In28.set (h : In28 w0 K N L w) (i : Nat) (x : BitVec 32) : In28 w0 K N (L.set i x) (w.setCell ⟨w0.heap.size + 2, i, none⟩ (.int .u32 (U x))) :=
  ⟨h.key.far (by simp) _, h.non.far (by simp) _, by unfold Words; rw [List.map_set]; exact Blk.put h.s i (W x), h.old.setCell (p := ⟨w0.heap.size + 2, i, none⟩) (by simp) _⟩
theorem In28.drewN (h : In28 w0 K N L w) (n : Nat) : In28 w0 K N L (w.drewN n) := ⟨h.key, h.non, h.s, below_drewN h.old n⟩
end
/-- Memory in its rounds. -/
structure In28v (w0 : World) (gv : Nat) (S V : List (BitVec 32)) (w : World) : Prop where
  s : Words w (w0.heap.size + 2) 64 S
  v : Words w gv 64 V
  lt : w0.heap.size + 3 ≤ gv
  old : Below w0.heap.size w0 w
theorem In28v.turn {w0 w w1 : World} {gv : Nat} {S V V' : List (BitVec 32)} (h : In28v w0 gv S V w) (hb : Below w.heap.size w w1) : In28v w0 gv S V' (w1.setRow gv (V'.map W).toArray) := by
  have := h.lt
  exact ⟨(setRow_other _ _ _ _ (by omega)).trans (h.s.kept hb), setRow_heap _ gv _ (V'.map W).toArray 64 _ (h.v.kept hb), h.lt, below_setRow (h.old.trans (hb.mono h.old.size)) (by omega) _⟩

def firstL : List (BitVec 32) := constsS ++ List.replicate 12 0#32
theorem firstL_val : (firstL.map W).toArray = #[.int .u32 1634760805, .int .u32 857760878, .int .u32 2036477234, .int .u32 1797285236, .int .u32 0, .int .u32 0, .int .u32 0, .int .u32 0, .int .u32 0, .int .u32 0, .int .u32 0, .int .u32 0, .int .u32 0, .int .u32 0, .int .u32 0, .int .u32 0] := by kernel_rfl

theorem slice_arr (t n : Nat) (hu : Tryd.prog.underlying t = some (.array n 5)) (g l h : Nat) (hl : l < n) (hlh : l ≤ h) (hn : h ≤ n) (li hi : Int) (el : li = (l : Int)) (eh : hi = (h : Int)) (wx : World) :
    (Instr.sliceAt t (.pointer (some ⟨g, 0, none⟩)) (some (.int .i64 li)) (some (.int .i64 hi)) none).run Tryd.prog wx = .ok (.slice (some ⟨g, l, none⟩) (h - l) (n - l)) wx := by
  have e1 : Tryd.prog.arrayLen t = n := by simp [Program.arrayLen, hu]
  have e2 : Tryd.prog.elem t = 5 := by simp [Program.elem, hu]
  have h1 := run_sliceAt_array_lh (P := Tryd.prog) wx t ⟨g, 0, none⟩ (by rw [e1, e2]; exact hu) .i64 .i64 li hi (by omega) (by omega) (by rw [e1]; omega)
  rw [h1, e1, e2]
  obtain ⟨i, hi', hz, hs, hb⟩ := info_parts info5
  have hne : ¬ n = l := by omega
  subst el; subst eh
  simp [sizeOf, typeInfo, hi', hs, slicedAt, hne]
  unfold Addr.add
  split <;> simp_all

set_option maxRecDepth 100000 in
set_option maxHeartbeats 2000000 in
theorem block28 (K N : List (BitVec 8)) (hK : K.length = 32) (hN : N.length = 12) (c : Int) (h0 : 0 ≤ c) (h1 : c ≤ 4294967295) (w : World) :
    Calls Tryd.prog 28 #[.agg (K.map Y).toArray, .agg (N.map Y).toArray, .int .i64 c] w fun e w' => ∃ v, e = .returned v ∧ Own w' w.heap.size v (blockS K N (BitVec.ofInt 32 c)) ∧ Below w.heap.size w w' := by
  have HKN := Lib.hid (⟨hK, hN⟩ : _ ∧ _)
  have HZ := Lib.hid (show Blk (((w.alloc (.cells (K.map Y).toArray 23)).alloc (.cells (N.map Y).toArray 25)).alloc (.cells (List.replicate 16 (Value.int .u32 0)).toArray 64)) (w.heap.size + 2) 64 (List.replicate 16 (Value.int .u32 0)) by
    simpa using Blk.new ((w.alloc (.cells (K.map Y).toArray 23)).alloc (.cells (N.map Y).toArray 25)) 64 (List.replicate 16 (Value.int .u32 0)))
  have HSS := Lib.hid (show (Tryd.prog.info? 64).map (·.size) = some (firstL.map W).toArray.size by kernel_rfl)
  have HLZ := Lib.hid (show (List.replicate 16 (Value.int .u32 0)).toArray.size = (firstL.map W).toArray.size by kernel_rfl)
  have HSA := Lib.hid (W_all firstL)
  rw [firstL_val] at HSS HLZ HSA
  have HS := setRow_heap _ (w.heap.size + 2) _ (firstL.map W).toArray 64 _ HZ.out
  have HI := Lib.hid (show In28 w K N firstL ((((w.alloc (.cells (K.map Y).toArray 23)).alloc (.cells (N.map Y).toArray 25)).alloc (.cells (List.replicate 16 (Value.int .u32 0)).toArray 64)).setRow (w.heap.size + 2) (firstL.map W).toArray) from
    ⟨(setRow_other _ _ _ _ (by omega)).trans ((boxK w K N).alloc _), (setRow_other _ _ _ _ (by omega)).trans ((boxN w K N).alloc _), HS, below_setRow ((boxB w K N).alloc (boxB w K N).size _) (by omega) _⟩)
  rw [firstL_val] at HI
  have HC := Lib.hid (⟨h0, h1⟩ : _ ∧ _)
  clear hK hN HS
  go_enter Tryd.func28, Tryd.ntmps28
  go_wp2_with ((with_reducible refine at_store 64 ?_); (refine wpList_store_row rfl 64 _ _ rfl (w.heap.size + 2) _ rfl rfl 64 _ HZ.out HSS.out HLZ.out HSA.out ?_); refine forget_wpl (In28 w K N firstL) HI.out ?_; intro w1 h28)
  go_loopw [8] (fun i wr => ∃ k : Nat, k ≤ 8 ∧ i = .int .i64 k ∧ In28 w K N (fillW firstL 4 (leW K) k) wr) (fun i _ => 8 - (intOf i).toNat)
  case atStart => exact ⟨0, by omega, rfl, h28⟩
  case round =>
    obtain ⟨k, hk, rfl, hm⟩ := hrel
    have a2 : 4 * (k : Int) ≤ 32 := by omega
    by_cases hlt : k < 8
    · have l0 := length_fillW firstL 4 (leW K) k
      have l1 : firstL.length = 16 := rfl
      have hK := HKN.out.1
      have q0 := hm.key.byte (4 * k) (by omega)
      have q1 := hm.key.byte (4 * k + 1) (by omega)
      have q2 := hm.key.byte (4 * k + 2) (by omega)
      have q3 := hm.key.byte (4 * k + 3) (by omega)
      have t4 := toNat4 k
      have a1 : (0 : Int) ≤ 4 * (k : Int) := by omega
      have a3 : ¬ 32 = 4 * k := by omega
      have a4 : 4 + (k : Int) < 16 := by omega
      have a5 : (4 + (k : Int)).toNat = 4 + k := by omega
      have a6 : (k : Int) < 8 := by omega
      have a7 : 4 * (k : Int) + 4 ≤ 32 := by omega
      have a8 : (4 * (k : Int) + 4).toNat = 4 * k + 4 := by omega
      have cc := hm.s.at (4 + k) (by omega)
      have cf := hm.s.free (4 + k)
      clear l0 l1 hK
      have HM := Lib.hid hm
      have hsl := slice_arr 23 32 Tryd.underlying23 w.heap.size (4 * k) (4 * k + 4) (by omega) (by omega) (by omega) (4 * (k : Int)) (4 * (k : Int) + 4) (by omega) (by omega)
      rw [show 4 * k + 4 - 4 * k = 4 by omega] at hsl
      clear hm
      go_wp2_with (go_at_call 37; refine (word37 _ _ _ _ _ _ _ _ _ (by omega) q0 q1 q2 q3).mono ?_; rintro e w' ⟨rfl, m, rfl⟩)
      exact ⟨⟨k + 1, by omega, by go_num, (HM.out.drewN m).set (4 + k) _⟩, by simp [intOf]; omega⟩
    · obtain rfl : k = 8 := by omega
      rw [show ((8 : Nat) : Int) = 8 from rfl]
      have c12 := hm.s.at 12 (by rw [length_fillW]; decide)
      have f12 := hm.s.free 12
      have hcu := U_ofInt' c
      have hcu' := U_ofInt c
      have hset := hm.set 12 (BitVec.ofInt 32 c)
      have HSET := Lib.hid hset
      clear a2 hlt hk hset hm
      go_wp2
      clear hcu hcu' c12 f12
      go_loopw [9] (fun i wr => ∃ k : Nat, k ≤ 3 ∧ i = .int .i64 k ∧ In28 w K N (fillW ((fillW firstL 4 (leW K) 8).set 12 (BitVec.ofInt 32 c)) 13 (leW N) k) wr) (fun i _ => 3 - (intOf i).toNat)
      case atStart => exact ⟨0, by omega, rfl, HSET.out⟩
      case round =>
        obtain ⟨k, hk, rfl, hm⟩ := hrel
        have a2 : 4 * (k : Int) ≤ 12 := by omega
        by_cases hlt : k < 3
        · have l0 := length_fillW ((fillW firstL 4 (leW K) 8).set 12 (BitVec.ofInt 32 c)) 13 (leW N) k
          have l1 : ((fillW firstL 4 (leW K) 8).set 12 (BitVec.ofInt 32 c)).length = 16 := by rw [List.length_set, length_fillW]; rfl
          have hN := HKN.out.2
          have q0 := hm.non.byte (4 * k) (by omega)
          have q1 := hm.non.byte (4 * k + 1) (by omega)
          have q2 := hm.non.byte (4 * k + 2) (by omega)
          have q3 := hm.non.byte (4 * k + 3) (by omega)
          have t4 := toNat4 k
          have a1 : (0 : Int) ≤ 4 * (k : Int) := by omega
          have a4 : 13 + (k : Int) < 16 := by omega
          have a5 : (13 + (k : Int)).toNat = 13 + k := by omega
          have a6 : (k : Int) < 3 := by omega
          have a7 : 4 * (k : Int) + 4 ≤ 12 := by omega
          have cc := hm.s.at (13 + k) (by omega)
          have cf := hm.s.free (13 + k)
          have hsl := slice_arr 25 12 Tryd.underlying25 (w.heap.size + 1) (4 * k) (4 * k + 4) (by omega) (by omega) (by omega) (4 * (k : Int)) (4 * (k : Int) + 4) (by omega) (by omega)
          rw [show 4 * k + 4 - 4 * k = 4 by omega] at hsl
          have HM := Lib.hid hm
          clear l0 l1 hN hm
          go_wp2_with (go_at_call 37; refine (word37 _ _ _ _ _ _ _ _ _ (by omega) q0 q1 q2 q3).mono ?_; rintro e w' ⟨rfl, m, rfl⟩)
          exact ⟨⟨k + 1, by omega, by go_num, (HM.out.drewN m).set (13 + k) _⟩, by simp [intOf]; omega⟩
        · obtain rfl : k = 3 := by omega
          rw [show ((3 : Nat) : Int) = 3 from rfl]
          clear a2 hlt hk
          have ll : (firstS K N (BitVec.ofInt 32 c)).length = 16 := length_firstS _ _ _
          have hsz : (Tryd.prog.info? 64).map (·.size) = some ((firstS K N (BitVec.ofInt 32 c)).map W).toArray.size := by rw [size64]; simp [ll]
          have hs : Words wr (w.heap.size + 2) 64 (firstS K N (BitVec.ofInt 32 c)) := hm.s
          have hlw : w.heap.size + 3 ≤ wr.heap.size := by have := hs.lt; omega
          have H1 := Lib.hid hs
          have H2 := Lib.hid hsz
          have H3 := Lib.hid (W_all (firstS K N (BitVec.ofInt 32 c)))
          have HZ2 := Lib.hid (Blk.new wr 64 (List.replicate 16 (Value.int .u32 0)))
          have HLZ2 := Lib.hid (show (List.replicate 16 (Value.int .u32 0)).toArray.size = ((firstS K N (BitVec.ofInt 32 c)).map W).toArray.size by simp [ll])
          have HO := Lib.hid hm.old
          clear hs hsz ll hm
          go_wp2_with (first
            | ((with_reducible refine at_load 64 ?_); refine wpList_load_row rfl 64 _ rfl (w.heap.size + 2) rfl 64 _ (0, 0) _ H1.out Tryd.underlying64 rfl H2.out ?_)
            | ((with_reducible refine at_store 64 ?_); (refine wpList_store_row rfl 64 _ _ rfl wr.heap.size _ rfl rfl 64 _ HZ2.out H2.out HLZ2.out H3.out ?_)))
          refine forget_wp (In28v w wr.heap.size (firstS K N (BitVec.ofInt 32 c)) (firstS K N (BitVec.ofInt 32 c))) ⟨(setRow_other _ _ _ _ (by omega)).trans (Blk.alloc H1.out _), setRow_heap _ wr.heap.size _ _ 64 _ HZ2.out, hlw, below_setRow (HO.out.alloc HO.out.size _) (by omega) _⟩ ?_
          intro wv hv0
          have HV0 := Lib.hid hv0
          have lS := Lib.hid (length_firstS K N (BitVec.ofInt 32 c))
          clear hv0 H1 H2 H3 HZ2 HLZ2 HO
          generalize wr.heap.size = gv at *
          generalize hS : firstS K N (BitVec.ofInt 32 c) = S at *
          have HSE := Lib.hid hS
          clear hS
          go_loopw [11] (fun i wr => ∃ r : Nat, r ≤ 10 ∧ i = .int .i64 r ∧ In28v w gv S (roundsS S r) wr) (fun i _ => 10 - (intOf i).toNat)
          case atStart => exact ⟨0, by omega, rfl, HV0.out⟩
          case round =>
            obtain ⟨r, hr, rfl, hm⟩ := hrel
            by_cases hlt : r < 10
            · have r6 : (r : Int) < 10 := by omega
              obtain ⟨wo, rfl⟩ : ∃ wo : World, wo = wr := ⟨_, rfl⟩
              go_wp2
              go_loopw [12] (fun i wr => ∃ k : Nat, k ≤ 4 ∧ i = .int .i64 k ∧ In28v w gv S (colsS (roundsS S r) k) wr) (fun i _ => 4 - (intOf i).toNat)
              case atStart => exact ⟨0, by omega, rfl, hm⟩
              case round =>
                obtain ⟨k, hk, rfl, hm⟩ := hrel
                by_cases hlt : k < 4
                · have k6 : (k : Int) < 4 := by omega
                  have ll : (colsS (roundsS S r) k).length = 16 := by rw [length_colsS, length_roundsS]; exact lS.out
                  have HCM := Lib.hid (mix38 (colsS (roundsS S r) k) ll k (4 + k) (8 + k) (12 + k) (by omega) (by omega) (by omega) (by omega) (by omega) (by omega) (by omega) (by omega) wr)
                  have HM := Lib.hid hm
                  have H2 := Lib.hid (show (Tryd.prog.info? 64).map (·.size) = some ((colsS (roundsS S r) k).map W).toArray.size by rw [size64]; simp [ll])
                  have H4 := Lib.hid (show (Tryd.prog.info? 64).map (·.size) = some ((colsS (roundsS S r) (k + 1)).map W).toArray.size by rw [size64]; simp [length_colsS, length_roundsS, lS.out])
                  have H5 := Lib.hid (show ((colsS (roundsS S r) k).map W).toArray.size = ((colsS (roundsS S r) (k + 1)).map W).toArray.size by simp [length_colsS])
                  have H3 := Lib.hid (W_all (colsS (roundsS S r) (k + 1)))
                  clear hm ll
                  go_wp2_with (first
                    | ((with_reducible refine at_load 64 ?_); refine wpList_load_row rfl 64 _ rfl gv rfl 64 _ (0, 0) _ HM.out.v Tryd.underlying64 rfl H2.out ?_)
                    | (go_at_call 38; refine HCM.out.mono ?_; rintro e w1 ⟨rfl, hb1⟩)
                    | ((with_reducible refine at_store 64 ?_); (refine wpList_store_row rfl 64 _ _ rfl gv _ rfl rfl 64 _ (HM.out.v.kept hb1) H4.out H5.out H3.out ?_)))
                  go_roundw
                  case rel => exact ⟨k + 1, by omega, by go_num, HM.out.turn hb1⟩
                  case measure => simp [intOf]; omega
                · obtain rfl : k = 4 := by omega
                  rw [show ((4 : Nat) : Int) = 4 from rfl]
                  clear hk hlt
                  go_wp2
                  go_loopw [13] (fun i wr => ∃ k : Nat, k ≤ 4 ∧ i = .int .i64 k ∧ In28v w gv S (diagsS (colsS (roundsS S r) 4) k) wr) (fun i _ => 4 - (intOf i).toNat)
                  case atStart => exact ⟨0, by omega, rfl, hm⟩
                  case round =>
                    obtain ⟨k, hk, rfl, hm⟩ := hrel
                    by_cases hlt : k < 4
                    · have k6 : (k : Int) < 4 := by omega
                      have ll : (diagsS (colsS (roundsS S r) 4) k).length = 16 := by rw [length_diagsS, length_colsS, length_roundsS]; exact lS.out
                      have HCM := Lib.hid (mix38 (diagsS (colsS (roundsS S r) 4) k) ll k (4 + ((k : Int) + 1) % 4) (8 + ((k : Int) + 2) % 4) (12 + ((k : Int) + 3) % 4) (by omega) (by omega) (by omega) (by omega) (by omega) (by omega) (by omega) (by omega) wr)
                      have HM := Lib.hid hm
                      have H2 := Lib.hid (show (Tryd.prog.info? 64).map (·.size) = some ((diagsS (colsS (roundsS S r) 4) k).map W).toArray.size by rw [size64]; simp [ll])
                      have H4 := Lib.hid (show (Tryd.prog.info? 64).map (·.size) = some ((diagsS (colsS (roundsS S r) 4) (k + 1)).map W).toArray.size by rw [size64]; simp [length_diagsS, length_colsS, length_roundsS, lS.out])
                      have H5 := Lib.hid (show ((diagsS (colsS (roundsS S r) 4) k).map W).toArray.size = ((diagsS (colsS (roundsS S r) 4) (k + 1)).map W).toArray.size by simp [length_diagsS])
                      have H3 := Lib.hid (W_all (diagsS (colsS (roundsS S r) 4) (k + 1)))
                      clear hm ll
                      go_wp2_with (first
                        | ((with_reducible refine at_load 64 ?_); refine wpList_load_row rfl 64 _ rfl gv rfl 64 _ (0, 0) _ HM.out.v Tryd.underlying64 rfl H2.out ?_)
                        | (go_at_call 38; refine HCM.out.mono ?_; rintro e w1 ⟨rfl, hb1⟩)
                        | ((with_reducible refine at_store 64 ?_); (refine wpList_store_row rfl 64 _ _ rfl gv _ rfl rfl 64 _ (HM.out.v.kept hb1) H4.out H5.out H3.out ?_)))
                      go_roundw
                      case rel => exact ⟨k + 1, by omega, by go_num, HM.out.turn hb1⟩
                      case measure => simp [intOf]; omega
                    · obtain rfl : k = 4 := by omega
                      rw [show ((4 : Nat) : Int) = 4 from rfl]
                      go_wp2
                      go_roundw
                      case rel => exact ⟨r + 1, by omega, by go_num, hm⟩
                      case measure => simp [intOf]; omega
            · obtain rfl : r = 10 := by omega
              rw [show ((10 : Nat) : Int) = 10 from rfl]
              clear hr hlt
              have HM := Lib.hid hm
              have HSE2 := Lib.hid (show blockS K N (BitVec.ofInt 32 c) = outS (roundsS S 10) S 16 by unfold blockS; rw [HSE.out])
              have lV := Lib.hid (show (roundsS S 10).length = 16 by rw [length_roundsS]; exact lS.out)
              clear hm HSE
              generalize roundsS S 10 = V at *
              have hbl := slice_lit0
              obtain ⟨wb, rfl⟩ : ∃ wb : World, wb = wr := ⟨_, rfl⟩
              go_wp2
              go_loopw [14, 15] (fun b i wr => ∃ k : Nat, k ≤ 16 ∧ i = .int .i64 k ∧ Own wr wb.heap.size b (outS V S k) ∧ Below wb.heap.size wb wr) (fun _ i _ => 16 - (intOf i).toNat)
              case atStart => exact ⟨0, by omega, rfl, Own.make wb wb.heap.size 0 (Nat.le_refl _) (by simp [maxLen]), (Below.refl _ wb).alloc (Nat.le_refl _) _⟩
              case round =>
                obtain ⟨k, hk, rfl, hown, hbel⟩ := hrel
                by_cases hlt : k < 16
                · have k6 : (k : Int) < 16 := by omega
                  have cs := Words.at (show Words wr (w.heap.size + 2) 64 S from Blk.kept HM.out.s hbel) k (by rw [lS.out]; exact hlt)
                  have cv := Words.at (show Words wr gv 64 V from Blk.kept HM.out.v hbel) k (by rw [lV.out]; exact hlt)
                  have hadd := U_add
                  have hbyte := U_byte
                  have hsh8 := U_sh8
                  have hsh16 := U_sh16
                  have hsh24 := U_sh24
                  have hsz := hbel.size
                  have lo := length_outS V S k
                  have HO := Lib.hid (⟨hown, hbel⟩ : _ ∧ _)
                  have HB := Lib.hid (show (outS V S k).length + 4 ≤ 70368744177664 by omega)
                  clear lo hown hbel
                  go_wp2
                  go_quiet (fail)
                  have HO2 := Lib.hid (Own.alloc (HO.out.1.drewN nq) (.cells ((leB (V.getD k 0 + S.getD k 0)).map Y).toArray 5))
                  have HB2 := Lib.hid ((below_drewN HO.out.2 nq).alloc hsz (.cells ((leB (V.getD k 0 + S.getD k 0)).map Y).toArray 5))
                  have HR := Lib.hid (Rd.block (Blk.new (wr.drewN nq) 5 ((leB (V.getD k 0 + S.getD k 0)).map Y)))
                  go_wp2_with ((with_reducible refine at_append 26 26 ?_); refine wpList_app26 rfl (.tmp 98) (.tmp 110) rfl wb.heap.size u14 (outS V S k) (some ⟨wr.heap.size, 0, none⟩) 4 4 (leB (V.getD k 0 + S.getD k 0)) rfl rfl HO2.out HR.out rfl HB.out (by simp; omega) ?_; intro v' w' hown' hg' hat')
                  exact ⟨⟨k + 1, by omega, by go_num, hown', below_app HB2.out HB2.out.size HO2.out (Nat.le_refl _) hg'⟩, by simp [intOf]; omega⟩
                · obtain rfl : k = 16 := by omega
                  rw [show ((16 : Nat) : Int) = 16 from rfl]
                  have HO := Lib.hid (⟨hown, hbel⟩ : _ ∧ _)
                  clear hown hbel
                  go_wp2
                  go_ret
                  refine ⟨_, rfl, ?_, HM.out.old.trans (HO.out.2.mono HM.out.old.size)⟩
                  rw [HSE2.out]
                  exact HO.out.1.mono HM.out.old.size

set_option maxHeartbeats 1000000 in
theorem Block17 (K N : List (BitVec 8)) (hK : K.length = 32) (hN : N.length = 12) (c : Int) (h0 : 0 ≤ c) (h1 : c ≤ 4294967295) (w : World) :
    Calls Tryd.prog 17 #[.agg (K.map Y).toArray, .agg (N.map Y).toArray, .int .i64 c] w fun e w' => ∃ v, e = .returned (.tuple #[v, .int .i64 0]) ∧ Own w' w.heap.size v (blockS K N (BitVec.ofInt 32 c)) ∧ Below w.heap.size w w' := by
  have b2 := boxB w K N
  have HK := Lib.hid (boxK w K N)
  have HN := Lib.hid (boxN w K N)
  have HSK := Lib.hid (sz23 hK)
  have HSN := Lib.hid (sz25 hN)
  have HC := Lib.hid (block28 K N hK hN c h0 h1 ((w.alloc (.cells (K.map Y).toArray 23)).alloc (.cells (N.map Y).toArray 25)))
  have n1 : ¬ c < 0 := by omega
  have n2 : ¬ 4294967295 < c := by omega
  have b1 : decide (c < 0) = false := decide_eq_false n1
  have b3 : decide (4294967295 < c) = false := decide_eq_false n2
  clear hK hN
  go_enter Tryd.func17, Tryd.ntmps17
  go_wp2_with (first | ((with_reducible refine at_load 23 ?_); refine wpList_load_row rfl 23 _ rfl w.heap.size rfl 23 _ (0, 0) _ HK.out Tryd.underlying23 rfl HSK.out ?_) | ((with_reducible refine at_load 25 ?_); refine wpList_load_row rfl 25 _ rfl (w.heap.size + 1) rfl 25 _ (0, 0) _ HN.out Tryd.underlying25 rfl HSN.out ?_) | (go_at_call 28; refine HC.out.mono ?_; rintro e w1 ⟨v, rfl, hv, hb⟩))
  go_ret2
  refine ⟨_, rfl, hv.mono (by simp; omega), b2.trans (hb.mono (by simp; omega))⟩

set_option maxHeartbeats 1000000 in
theorem Block17_no (K N : List (BitVec 8)) (c : Int) (h : c < 0 ∨ 4294967295 < c) (w : World) :
    Calls Tryd.prog 17 #[.agg (K.map Y).toArray, .agg (N.map Y).toArray, .int .i64 c] w fun e w' => e = .returned (.tuple #[.slice none 0 0, .int .i64 1]) ∧ Below w.heap.size w w' := by
  have b2 := boxB w K N
  rcases h with h | h
  · go_enter Tryd.func17, Tryd.ntmps17
    go_wp2
    go_ret2
    exact ⟨rfl, b2⟩
  · have n1 : ¬ c < 0 := by omega
    go_enter Tryd.func17, Tryd.ntmps17
    go_wp2
    go_ret2
    exact ⟨rfl, b2⟩
end Go.Proofs.YtbmjjmianhjfiaaDoor
