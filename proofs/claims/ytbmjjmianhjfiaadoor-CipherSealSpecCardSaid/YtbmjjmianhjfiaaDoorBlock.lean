/- What the program's 'block' returns: the 64 bytes of a block of the key stream, in new memory, where the package's four constants lie in their table. -/
import Derived.Test.YtbmjjmianhjfiaaDoorFirst
import Derived.Test.YtbmjjmianhjfiaaDoorMix
import Derived.Test.YtbmjjmianhjfiaaDoorMem
namespace Go.Proofs.YtbmjjmianhjfiaaDoor
open Go.RowKit

/-- The columns up to k are mixed. -/
def colsS (v : List (BitVec 32)) : Nat → List (BitVec 32)
  | 0 => v
  | k + 1 => mixS (colsS v k) (k : Int) (4 + (k : Int)) (8 + (k : Int)) (12 + (k : Int))
/-- The diagonals up to k are mixed. -/
def diagsS (v : List (BitVec 32)) : Nat → List (BitVec 32)
  | 0 => v
  | k + 1 => mixS (diagsS v k) (k : Int) (4 + ((k : Int) + 1) % 4) (8 + ((k : Int) + 2) % 4) (12 + ((k : Int) + 3) % 4)
def roundsS (v : List (BitVec 32)) : Nat → List (BitVec 32)
  | 0 => v
  | k + 1 => diagsS (colsS (roundsS v k) 4) 4
/-- The four bytes of a word, the least significant one first. -/
def leB (x : BitVec 32) : List (BitVec 8) := [x.setWidth 8, (x >>> 8).setWidth 8, (x >>> 16).setWidth 8, (x >>> 24).setWidth 8]
/-- The bytes of the words v(i) + s(i), i below k. -/
def outS (v s : List (BitVec 32)) : Nat → List (BitVec 8)
  | 0 => []
  | k + 1 => outS v s k ++ leB (v.getD k 0 + s.getD k 0)
def blockS (K N : List (BitVec 8)) (c : BitVec 32) : List (BitVec 8) := outS (roundsS (firstS K N c) 10) (firstS K N c) 16

theorem length_colsS (v : List (BitVec 32)) (k : Nat) : (colsS v k).length = v.length := by
  induction k with
  | zero => rfl
  | succ k ih => rw [colsS, length_mixS, ih]
theorem length_diagsS (v : List (BitVec 32)) (k : Nat) : (diagsS v k).length = v.length := by
  induction k with
  | zero => rfl
  | succ k ih => rw [diagsS, length_mixS, ih]
theorem length_roundsS (v : List (BitVec 32)) (k : Nat) : (roundsS v k).length = v.length := by
  induction k with
  | zero => rfl
  | succ k ih => rw [roundsS, length_diagsS, length_colsS, ih]
theorem length_outS (v s : List (BitVec 32)) (k : Nat) : (outS v s k).length = 4 * k := by
  induction k with
  | zero => rfl
  | succ k ih => rw [outS, List.length_append, ih]; simp [leB]; omega
theorem length_firstS (K N : List (BitVec 8)) (c : BitVec 32) : (firstS K N c).length = 16 := by simp [firstS, length_fillW, constsS]
theorem length_blockS (K N : List (BitVec 8)) (c : BitVec 32) : (blockS K N c).length = 64 := by rw [blockS, length_outS]

-- the chapter's example, by the kernel
def keyEx : List (BitVec 8) := (List.range 32).map fun i => BitVec.ofNat 8 i
theorem ex : (blockS keyEx [0,0,0,9,0,0,0,0x4a,0,0,0,0] 1).take 4 = [0x10, 0xf1, 0xe7, 0xe4] := by decide +kernel

theorem run_index {P : Program} (ty te : TypeId) (n : Nat) (hu : P.underlying ty = some (.array n te)) (hte : P.underlying te = some (.int .u32)) (hs : (P.info? te).map (·.size) = some 1)
   (V : List (BitVec 32)) (hV : V.length = n) (k : Nat) (hk : k < n) (wx : World) :
    (Instr.index ty (.agg (V.map W).toArray) (.int .i64 (k : Int))).run P wx = .ok (.int .u32 (U (V.getD k 0))) wx := by
  have h1 : (k : Int) < (n : Int) := by omega
  have h0 : (0 : Int) ≤ (k : Int) := by omega
  have hk' : k < V.length := by omega
  cases hq : P.info? te with
  | none => simp [hq] at hs
  | some i =>
    have hsz : i.size = 1 := by simpa [hq] using hs
    simp [Instr.index, run_underlying hu, run_underlying hte, asIntOf, part, isAgg, sizeOf, typeInfo, hq, hsz, hk', W]
    intro h; omega

theorem make64 (w : World) : (Instr.makeSlice 26 (.int .i64 0) (.int .i64 64)).run Tryd.prog w = .ok (.slice (some ⟨w.heap.size, 0, none⟩) 0 64) (w.alloc (.cells ((zeroB 64).map Y).toArray 5)) :=
  make26 0 64 (by omega) (by omega) .i64 .i64 w

theorem U_sh8 (x : BitVec 32) : U x / (256 : Int) = U (x >>> 8) := U_shr x 8
theorem U_sh16 (x : BitVec 32) : U x / (65536 : Int) = U (x >>> 16) := U_shr x 16
theorem U_sh24 (x : BitVec 32) : U x / (16777216 : Int) = U (x >>> 24) := U_shr x 24

/-- Memory in 'block'. -/
structure In27 (w0 : World) (g : Nat) (S V : List (BitVec 32)) (w : World) : Prop where
  s : Words w g 65 S
  v : Words w (g + 1) 65 V
  old : Below w0.heap.size w0 w
theorem In27.mix {w0 w w' : World} {g : Nat} {S V V' : List (BitVec 32)} (h : In27 w0 g S V w) (hg : w0.heap.size ≤ g) (hn : Now w (g + 1) 65 V' w') : In27 w0 g S V' w' :=
  ⟨Blk.grown h.s hn.2 (by simp), hn.1, below_only h.old h.old.size hn.2 (by omega)⟩

set_option maxRecDepth 100000 in
set_option maxHeartbeats 1000000 in
theorem block27 (K N : List (BitVec 8)) (hK : K.length = 32) (hN : N.length = 12) (c : BitVec 32) (w : World) (hT : Tab w 2 constsS) :
    Calls Tryd.prog 27 #[.agg (K.map Y).toArray, .agg (N.map Y).toArray, .int .u32 (U c)] w fun e w' => ∃ v, e = .returned v ∧ Own w' w.heap.size v (blockS K N c) ∧ Below w.heap.size w w' := by
  have b2 : Below w.heap.size w ((w.alloc (.cells (K.map Y).toArray 23)).alloc (.cells (N.map Y).toArray 25)) :=
    ((Below.refl _ w).alloc (Nat.le_refl _) _).alloc (by simp) _
  have hT2 := hT.below b2 (Nat.le_refl _)
  have HK := Lib.hid (show Blk ((w.alloc (.cells (K.map Y).toArray 23)).alloc (.cells (N.map Y).toArray 25)) w.heap.size 23 (K.map Y) from (Blk.new w 23 _).alloc _)
  have HN := Lib.hid (show Blk ((w.alloc (.cells (K.map Y).toArray 23)).alloc (.cells (N.map Y).toArray 25)) (w.heap.size + 1) 25 (N.map Y) by
    simpa using Blk.new (w.alloc (.cells (K.map Y).toArray 23)) 25 (N.map Y))
  have HSK := Lib.hid (show (Tryd.prog.info? 23).map (·.size) = some (K.map Y).toArray.size by rw [size23]; simp [hK])
  have HSN := Lib.hid (show (Tryd.prog.info? 25).map (·.size) = some (N.map Y).toArray.size by rw [size25]; simp [hN])
  have lS := length_firstS K N c
  have HSS := Lib.hid (show (Tryd.prog.info? 65).map (·.size) = some ((firstS K N c).map W).toArray.size by rw [size65]; simp [lS])
  have HSA := Lib.hid (W_all (firstS K N c))
  have HLZ := Lib.hid (show (List.replicate 16 (Value.int .u32 0)).toArray.size = ((firstS K N c).map W).toArray.size by simp [lS])
  have HC := Lib.hid (first35 K N hK hN c _ hT2)
  have HT := Lib.hid hT
  clear hT hT2 lS hK hN
  go_enter Tryd.func27, Tryd.ntmps27
  go_wp2_with (first | ((with_reducible refine at_load 23 ?_); refine wpList_load_row rfl 23 _ rfl w.heap.size rfl 23 _ (0, 0) _ HK.out Tryd.underlying23 rfl HSK.out ?_) | ((with_reducible refine at_load 25 ?_); refine wpList_load_row rfl 25 _ rfl (w.heap.size + 1) rfl 25 _ (0, 0) _ HN.out Tryd.underlying25 rfl HSN.out ?_))
  refine HC.out.mono ?_
  rintro e w1 ⟨rfl, hb1⟩
  have HZ := Lib.hid (Blk.new w1 65 (List.replicate 16 (Value.int .u32 0)))
  have HS1 := Lib.hid (Blk.new w1 65 ((firstS K N c).map W))
  have hz2 : Blk ((w1.alloc (.cells ((firstS K N c).map W).toArray 65)).alloc (.cells (List.replicate 16 (Value.int .u32 0)).toArray 65)) (w1.heap.size + 1) 65 (List.replicate 16 (Value.int .u32 0)) := by
    simpa using Blk.new (w1.alloc (.cells ((firstS K N c).map W).toArray 65)) 65 (List.replicate 16 (Value.int .u32 0))
  have h27 : In27 w w1.heap.size (firstS K N c) (firstS K N c) (((w1.alloc (.cells ((firstS K N c).map W).toArray 65)).alloc (.cells (List.replicate 16 (Value.int .u32 0)).toArray 65)).setRow (w1.heap.size + 1) ((firstS K N c).map W).toArray) := by
    refine ⟨?_, setRow_heap _ (w1.heap.size + 1) _ ((firstS K N c).map W).toArray 65 _ hz2, ?_⟩
    · exact (setRow_other _ _ _ _ (by omega)).trans ((Blk.new w1 65 ((firstS K N c).map W)).alloc _)
    · refine below_setRow ?_ (by have := b2.size; have := hb1.size; simp at *; omega) _
      have hw1 : Below w.heap.size w w1 := b2.trans (hb1.mono (by simp; omega))
      exact (hw1.alloc hw1.size _).alloc (by have := hw1.size; simp; omega) _
  have HZ2 := Lib.hid hz2
  have hg : w.heap.size + 2 ≤ w1.heap.size := by have := hb1.size; simp at this; omega
  clear hz2 hb1 b2
  go_wp2_with (first
    | ((with_reducible refine at_store 65 ?_); (refine wpList_store_row rfl 65 _ _ rfl w1.heap.size _ rfl rfl 65 _ HZ.out HSS.out HLZ.out HSA.out ?_); rw [World.setRow_alloc_new])
    | ((with_reducible refine at_store 65 ?_); refine wpList_store_row rfl 65 _ _ rfl (w1.heap.size + 1) _ rfl rfl 65 _ HZ2.out HSS.out HLZ.out HSA.out ?_)
    | ((with_reducible refine at_load 65 ?_); refine wpList_load_row rfl 65 _ rfl w1.heap.size rfl 65 _ (0, 0) _ HS1.out Tryd.underlying65 rfl HSS.out ?_))
  have HM := fun (V : List (BitVec 32)) (hV : V.length = 16) (a b c' d : Int) (ha : 0 ≤ a) (ha' : a < 16) (hb : 0 ≤ b) (hb' : b < 16) (hc : 0 ≤ c') (hc' : c' < 16) (hd : 0 ≤ d) (hd' : d < 16) (wx : World) (h : Words wx (w1.heap.size + 1) 65 V) =>
    mix36 (w1.heap.size + 1) 65 V hV a b c' d ha ha' hb hb' hc hc' hd hd' wx h
  have HMM := Lib.hid HM
  have H27 := Lib.hid h27
  clear HM h27
  have lS := Lib.hid (length_firstS K N c)
  generalize hS : firstS K N c = S at *
  have HSE := Lib.hid hS
  clear hS
  go_loopw [21] (fun i wr => ∃ r : Nat, r ≤ 10 ∧ i = .int .i64 r ∧ In27 w w1.heap.size S (roundsS S r) wr) (fun i _ => 10 - (intOf i).toNat)
  case atStart => exact ⟨0, by omega, rfl, H27.out⟩
  case round =>
    obtain ⟨r, hr, rfl, hm⟩ := hrel
    by_cases hlt : r < 10
    · have r6 : (r : Int) < 10 := by omega
      obtain ⟨wo, rfl⟩ : ∃ wo : World, wo = wr := ⟨_, rfl⟩
      go_wp2
      go_loopw [23] (fun i wr => ∃ k : Nat, k ≤ 4 ∧ i = .int .i64 k ∧ In27 w w1.heap.size S (colsS (roundsS S r) k) wr) (fun i _ => 4 - (intOf i).toNat)
      case atStart => exact ⟨0, by omega, rfl, hm⟩
      case round =>
        obtain ⟨k, hk, rfl, hm⟩ := hrel
        by_cases hlt : k < 4
        · have k6 : (k : Int) < 4 := by omega
          have hc := HMM.out (colsS (roundsS S r) k) (by rw [length_colsS, length_roundsS]; exact lS.out) k (4 + k) (8 + k) (12 + k) (by omega) (by omega) (by omega) (by omega) (by omega) (by omega) (by omega) (by omega) wr hm.v
          have HC1 := Lib.hid hc
          clear hc
          go_wp2_with (go_at_call 36; refine HC1.out.mono ?_; rintro e w' ⟨rfl, hn⟩)
          go_roundw
          case rel => exact ⟨k + 1, by omega, by go_num, hm.mix (by omega) hn⟩
          case measure => simp [intOf]; omega
        · obtain rfl : k = 4 := by omega
          rw [show ((4 : Nat) : Int) = 4 from rfl]
          clear hk hlt
          go_wp2
          go_loopw [36] (fun i wr => ∃ k : Nat, k ≤ 4 ∧ i = .int .i64 k ∧ In27 w w1.heap.size S (diagsS (colsS (roundsS S r) 4) k) wr) (fun i _ => 4 - (intOf i).toNat)
          case atStart => exact ⟨0, by omega, rfl, hm⟩
          case round =>
            obtain ⟨k, hk, rfl, hm⟩ := hrel
            by_cases hlt : k < 4
            · have k6 : (k : Int) < 4 := by omega
              have hc := HMM.out (diagsS (colsS (roundsS S r) 4) k) (by rw [length_diagsS, length_colsS, length_roundsS]; exact lS.out) k (4 + ((k : Int) + 1) % 4) (8 + ((k : Int) + 2) % 4) (12 + ((k : Int) + 3) % 4) (by omega) (by omega) (by omega) (by omega) (by omega) (by omega) (by omega) (by omega) wr hm.v
              have HC1 := Lib.hid hc
              clear hc
              go_wp2_with (go_at_call 36; refine HC1.out.mono ?_; rintro e w' ⟨rfl, hn⟩)
              go_roundw
              case rel => exact ⟨k + 1, by omega, by go_num, hm.mix (by omega) hn⟩
              case measure => simp [intOf]; omega
            · obtain rfl : k = 4 := by omega
              rw [show ((4 : Nat) : Int) = 4 from rfl]
              go_wp2
              go_roundw
              case rel => exact ⟨r + 1, by omega, by go_num, hm⟩
              case measure => simp [intOf]; omega
    · obtain rfl : r = 10 := by omega
      rw [show ((10 : Nat) : Int) = 10 from rfl]
      clear hr hlt
      have hmk := make64
      have lV := Lib.hid (show (roundsS S 10).length = 16 by rw [length_roundsS]; exact lS.out)
      have HSV := Lib.hid (show (Tryd.prog.info? 65).map (·.size) = some ((roundsS S 10).map W).toArray.size by rw [size65]; simp [lV.out])
      have HV := Lib.hid (Blk.alloc hm.v (.cells ((zeroB 64).map Y).toArray 5))
      have hs0 := Blk.alloc hm.s (.cells ((zeroB 64).map Y).toArray 5)
      have hsz := hm.old.size
      have hg2 : w1.heap.size + 2 ≤ wr.heap.size := by have := Blk.lt hm.v; omega
      have ho := Own.make wr (w1.heap.size + 2) 64 hg2 (by simp [maxLen])
      have hold := hm.old.alloc hsz (.cells ((zeroB 64).map Y).toArray 5)
      have HSE2 := Lib.hid (show blockS K N c = outS (roundsS S 10) S 16 by unfold blockS; rw [HSE.out])
      clear HSE hm
      generalize roundsS S 10 = V at *
      go_wp2_with (first
        | ((with_reducible refine at_load 65 ?_); refine wpList_load_row rfl 65 _ rfl (w1.heap.size + 1) rfl 65 _ (0, 0) _ HV.out Tryd.underlying65 rfl HSV.out ?_))
      clear hmk
      go_loopw [12, 58] (fun b i wr => ∃ k : Nat, k ≤ 16 ∧ i = .int .i64 k ∧ Own wr (w1.heap.size + 2) b (outS V S k) ∧ Words wr w1.heap.size 65 S ∧ Below w.heap.size w wr ∧ w1.heap.size + 2 ≤ wr.heap.size) (fun _ i _ => 16 - (intOf i).toNat)
      case atStart => exact ⟨0, by omega, rfl, ho, hs0, hold, by simp; omega⟩
      case round =>
        obtain ⟨k, hk, rfl, hown, hS, hbel, hsz2⟩ := hrel
        by_cases hlt : k < 16
        · have k6 : (k : Int) < 16 := by omega
          have hix := run_index 65 50 16 Tryd.underlying65 Tryd.underlying50 size50 V lV.out k hlt
          have cs := hS.at k (by rw [lS.out]; exact hlt)
          have hadd := U_add
          have hbyte := U_byte
          have hsh8 := U_sh8
          have hsh16 := U_sh16
          have hsh24 := U_sh24
          have lo := length_outS V S k
          have HO := Lib.hid (Own.alloc hown (.cells ((leB (V.getD k 0 + S.getD k 0)).map Y).toArray 5))
          have HR := Lib.hid (Rd.block (Blk.new wr 5 ((leB (V.getD k 0 + S.getD k 0)).map Y)))
          have HB := Lib.hid (show (outS V S k).length + 4 ≤ 70368744177664 by omega)
          clear lo
          go_wp2_with ((with_reducible refine at_append 26 26 ?_); refine wpList_app26 rfl (.tmp 67) (.tmp 79) rfl (w1.heap.size + 2) u12 (outS V S k) (some ⟨wr.heap.size, 0, none⟩) 4 4 (leB (V.getD k 0 + S.getD k 0)) rfl rfl HO.out HR.out rfl HB.out (by simp; omega) ?_; intro v' w' hown' hg' hat')
          have hne : some w1.heap.size ≠ u12.ownBlock := fun e => by
            have := (World.ownsRow.lt hown _ e.symm).1
            omega
          go_roundw
          case rel =>
            exact ⟨k + 1, by omega, by go_num, hown', Blk.grown (Blk.alloc hS _) hg' hne,
              below_app (hbel.alloc (by omega) _) (by simp; omega) (Own.alloc hown _) (by omega) hg', by have := hg'.size; simp at this; omega⟩
          case measure => simp [intOf]; omega
        · obtain rfl : k = 16 := by omega
          clear hk hlt
          go_wp2
          go_ret
          refine ⟨_, rfl, ?_, hbel⟩
          have := hown.mono (base' := w.heap.size) (by omega)
          rw [← HSE2.out] at this
          exact this
end Go.Proofs.YtbmjjmianhjfiaaDoor
