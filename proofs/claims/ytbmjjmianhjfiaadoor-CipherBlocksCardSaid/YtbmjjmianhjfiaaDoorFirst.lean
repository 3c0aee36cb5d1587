/- What the program's 'first' returns: the sixteen numbers at the beginning of a block, where the package's four constants lie in their table. -/
import Derived.Test.YtbmjjmianhjfiaaDoorSmall
namespace Go.Proofs.YtbmjjmianhjfiaaDoor
open Go.RowKit

/-- Word number i of bytes, the least significant one first. -/
def leW (K : List (BitVec 8)) (i : Nat) : BitVec 32 := le4 (K.getD (4 * i) 0) (K.getD (4 * i + 1) 0) (K.getD (4 * i + 2) 0) (K.getD (4 * i + 3) 0)
/-- The words from off on are those of f, as many as k. -/
def fillW (L : List (BitVec 32)) (off : Nat) (f : Nat → BitVec 32) : Nat → List (BitVec 32)
  | 0 => L
  | k + 1 => (fillW L off f k).set (off + k) (f k)
theorem length_fillW (L : List (BitVec 32)) (off : Nat) (f : Nat → BitVec 32) (k : Nat) : (fillW L off f k).length = L.length := by
  induction k with
  | zero => rfl
  | succ k ih => simp [fillW, ih]
def constsS : List (BitVec 32) := [0x61707865#32, 0x3320646e#32, 0x79622d32#32, 0x6b206574#32]
def firstS (K N : List (BitVec 8)) (c : BitVec 32) : List (BitVec 32) :=
  fillW ((fillW (constsS ++ List.replicate 12 0#32) 4 (leW K) 8).set 12 c) 13 (leW N) 3

/-- The package-level table g holds these words. -/
def Tab (w : World) (g : Nat) (L : List (BitVec 32)) : Prop := ∀ i, i < L.length → w.cell? ⟨g, i, none⟩ = some (.int .u32 (U (L.getD i 0)))
theorem Tab.below {w w' : World} {g : Nat} {L : List (BitVec 32)} (h : Tab w g L) {n : Nat} (hb : Below n w w') (hn : w.heap.size ≤ n) : Tab w' g L :=
  fun i hi => (hb.cell (p := ⟨g, i, none⟩) (by have := block_lt_of_cell (h i hi); simp at this ⊢; omega)).trans (h i hi)

/-- Memory in 'first'. -/
structure In35 (w0 : World) (K N : List (BitVec 8)) (L : List (BitVec 32)) (w : World) : Prop where
  key : Blk w w0.heap.size 23 (K.map Y)
  non : Blk w (w0.heap.size + 1) 25 (N.map Y)
  s : Words w (w0.heap.size + 2) 65 L
  old : Below w0.heap.size w0 w

theorem Blk.byte {w : World} {g : Nat} {t : TypeId} {K : List (BitVec 8)} (h : Blk w g t (K.map Y)) (i : Nat) (hi : i < K.length) : w.cell? ⟨g, i, none⟩ = some (.int .u8 (B (K.getD i 0))) := by
  rw [h.at]; simp [Y, hi]

section
variable {w0 w : World} {K N : List (BitVec 8)} {L : List (BitVec 32)}
theorem In35.set (h : In35 w0 K N L w) (i : Nat) (x : BitVec 32) : In35 w0 K N (L.set i x) (w.setCell ⟨w0.heap.size + 2, i, none⟩ (.int .u32 (U x))) :=
  ⟨h.key.far (by simp) _, h.non.far (by simp) _, by unfold Words; rw [List.map_set]; exact Blk.put h.s i (W x), h.old.setCell (p := ⟨w0.heap.size + 2, i, none⟩) (by simp) _⟩
theorem In35.drewN (h : In35 w0 K N L w) (n : Nat) : In35 w0 K N L (w.drewN n) := ⟨h.key, h.non, h.s, below_drewN h.old n⟩
end

/-- ⟨b, off⟩ moved by i. -/
theorem Words.at {w : World} {g : Nat} {t : TypeId} {L : List (BitVec 32)} (h : Words w g t L) (i : Nat) (hi : i < L.length) : w.cell? ⟨g, i, none⟩ = some (.int .u32 (U (L.getD i 0))) := by
  rw [Blk.at h]; simp [W, hi]
theorem toNat4 (k : Nat) : (4 * (k : Int)).toNat = 4 * k := by omega

set_option maxHeartbeats 1000000 in
theorem first35 (K N : List (BitVec 8)) (hK : K.length = 32) (hN : N.length = 12) (c : BitVec 32) (w : World) (hT : Tab w 2 constsS) :
    Calls Tryd.prog 35 #[.agg (K.map Y).toArray, .agg (N.map Y).toArray, .int .u32 (U c)] w fun e w' => e = .returned (.agg ((firstS K N c).map W).toArray) ∧ Below w.heap.size w w' := by
  have b3 : Below w.heap.size w (((w.alloc (.cells (K.map Y).toArray 23)).alloc (.cells (N.map Y).toArray 25)).alloc (.cells (List.replicate 16 (Value.int .u32 0)).toArray 65)) :=
    (((Below.refl _ w).alloc (Nat.le_refl _) _).alloc (by simp) _).alloc (by simp; omega) _
  have hT3 := hT.below b3 (Nat.le_refl _)
  have hb : Blk (((w.alloc (.cells (K.map Y).toArray 23)).alloc (.cells (N.map Y).toArray 25)).alloc (.cells (List.replicate 16 (Value.int .u32 0)).toArray 65)) (w.heap.size + 2) 65 (List.replicate 16 (Value.int .u32 0)) := by
    simpa using Blk.new ((w.alloc (.cells (K.map Y).toArray 23)).alloc (.cells (N.map Y).toArray 25)) 65 (List.replicate 16 (Value.int .u32 0))
  have hk : Blk (((w.alloc (.cells (K.map Y).toArray 23)).alloc (.cells (N.map Y).toArray 25)).alloc (.cells (List.replicate 16 (Value.int .u32 0)).toArray 65)) w.heap.size 23 (K.map Y) :=
    ((Blk.new w 23 _).alloc _).alloc _
  have hn : Blk (((w.alloc (.cells (K.map Y).toArray 23)).alloc (.cells (N.map Y).toArray 25)).alloc (.cells (List.replicate 16 (Value.int .u32 0)).toArray 65)) (w.heap.size + 1) 25 (N.map Y) := by
    refine Blk.alloc ?_ _
    simpa using Blk.new (w.alloc (.cells (K.map Y).toArray 23)) 25 (N.map Y)
  have hlt : 2 < w.heap.size := by
    have := block_lt_of_cell (hT 0 (by decide)); simpa using this
  go_enter Tryd.func35, Tryd.ntmps35
  go_wp2
  refine wp_region_quiet_tail 2 (by kernel_rfl) (by kernel_rfl) ?_
  simp only [List.take_succ_cons, List.take_zero, List.drop_succ_cons, List.drop_zero]
  repeat (quiet_step (fail))
  refine wpQuiet_nil ?_
  rintro _ ⟨nq, rfl⟩
  refine wpList_copy_splice rfl (.tmp 9) (.tmp 10) 74 74 rfl 50 Tryd.underlying74 size50 _ _ 16 16 4 4 rfl rfl (w.heap.size + 2) 0 (List.replicate 16 (Value.int .u32 0)) 65 hb (constsS.map W) rfl
    (fun _ => ⟨rfl, _, rfl, fun j v hj => ?src⟩) (by decide) (by decide) (w.heap.size + 2) _ (Below.refl _ _) (Nat.le_refl _) ?_
  case src =>
    have hj4 : j < 4 := by
      rcases Nat.lt_or_ge j 4 with h | h
      · exact h
      · simp [constsS, h] at hj
    have hadd : (⟨2, 0, none⟩ : Addr).add j = ⟨2, j, none⟩ := by unfold Addr.add; split <;> simp_all
    rw [hadd]
    refine (hT3 j hj4).trans ?_
    rw [← hj]
    have : j < constsS.length := hj4
    simp [this, W]
  intro w1 hw1 hb1
  have h0 : In35 w K N (constsS ++ List.replicate 12 0#32) w1 := by
    refine ⟨Blk.below (B := w.heap.size + 2) (Blk.drewN hk nq) hb1 (by omega), Blk.below (B := w.heap.size + 2) (Blk.drewN hn nq) hb1 (by omega), ?_, (b3.trans (below_drewN (Below.refl _ _) nq)).trans (hb1.mono (by omega))⟩
    exact hw1.out.trans rfl
  clear hw1 hb1 hT3 hb hk hn b3 hT
  go_wp2
  go_loopw [12] (fun i wr => ∃ k : Nat, k ≤ 8 ∧ i = .int .i64 k ∧ In35 w K N (fillW (constsS ++ List.replicate 12 0#32) 4 (leW K) k) wr) (fun i _ => 8 - (intOf i).toNat)
  case atStart => exact ⟨0, by omega, rfl, h0⟩
  case round =>
    obtain ⟨k, hk, rfl, hm⟩ := hrel
    have a2 : 4 * (k : Int) ≤ 32 := by omega
    by_cases hlt : k < 8
    · have l0 := length_fillW (constsS ++ List.replicate 12 0#32) 4 (leW K) k
      have l1 : (constsS ++ List.replicate 12 0#32).length = 16 := by simp [constsS]
      have q0 := hm.key.byte (4 * k) (by omega)
      have q1 := hm.key.byte (4 * k + 1) (by omega)
      have q2 := hm.key.byte (4 * k + 2) (by omega)
      have q3 := hm.key.byte (4 * k + 3) (by omega)
      have t4 := toNat4 k
      have a1 : (0 : Int) ≤ 4 * (k : Int) := by omega
      have a3 : ¬ 32 = 4 * k := by omega
      have a4 : 4 + (k : Int) < 16 := by omega
      have a5 : (4 + (k : Int)).toNat = 4 + k := by omega
      have a6 : (k : Int) < 8 := by omega
      have cc := hm.s.at (4 + k) (by omega)
      have cf := hm.s.free (4 + k)
      clear l0 l1
      go_wp2_with (go_at_call 43; refine (word43 _ _ _ _ _ _ _ _ _ (by omega) q0 q1 q2 q3).mono ?_; rintro e w' ⟨rfl, m, rfl⟩)
      go_roundw
      case rel => exact ⟨k + 1, by omega, by go_num, (hm.drewN m).set (4 + k) _⟩
      case measure => simp [intOf]; omega
    · obtain rfl : k = 8 := by omega
      rw [show ((8 : Nat) : Int) = 8 from rfl]
      have c12 := hm.s.at 12 (by simp [length_fillW, constsS])
      have f12 := hm.s.free 12
      clear a2 hlt hk
      have hset := hm.set 12 c
      go_wp2
      go_loopw [25] (fun i wr => ∃ k : Nat, k ≤ 3 ∧ i = .int .i64 k ∧ In35 w K N (fillW ((fillW (constsS ++ List.replicate 12 0#32) 4 (leW K) 8).set 12 c) 13 (leW N) k) wr) (fun i _ => 3 - (intOf i).toNat)
      case atStart => exact ⟨0, by omega, rfl, hset⟩
      case round =>
        obtain ⟨k, hk, rfl, hm⟩ := hrel
        have a2 : 4 * (k : Int) ≤ 12 := by omega
        by_cases hlt : k < 3
        · have l0 := length_fillW ((fillW (constsS ++ List.replicate 12 0#32) 4 (leW K) 8).set 12 c) 13 (leW N) k
          have l1 : ((fillW (constsS ++ List.replicate 12 0#32) 4 (leW K) 8).set 12 c).length = 16 := by simp [length_fillW, constsS]
          have q0 := hm.non.byte (4 * k) (by omega)
          have q1 := hm.non.byte (4 * k + 1) (by omega)
          have q2 := hm.non.byte (4 * k + 2) (by omega)
          have q3 := hm.non.byte (4 * k + 3) (by omega)
          have t4 := toNat4 k
          have a1 : (0 : Int) ≤ 4 * (k : Int) := by omega
          have a3 : ¬ 12 = 4 * k := by omega
          have a4 : 13 + (k : Int) < 16 := by omega
          have a5 : (13 + (k : Int)).toNat = 13 + k := by omega
          have a6 : (k : Int) < 3 := by omega
          have cc := hm.s.at (13 + k) (by omega)
          have cf := hm.s.free (13 + k)
          clear l0 l1
          go_wp2_with (go_at_call 43; refine (word43 _ _ _ _ _ _ _ _ _ (by omega) q0 q1 q2 q3).mono ?_; rintro e w' ⟨rfl, m, rfl⟩)
          go_roundw
          case rel => exact ⟨k + 1, by omega, by go_num, (hm.drewN m).set (13 + k) _⟩
          case measure => simp [intOf]; omega
        · obtain rfl : k = 3 := by omega
          have ll : (firstS K N c).length = 16 := by simp [firstS, length_fillW, constsS]
          have hsz : (Tryd.prog.info? 65).map (·.size) = some ((firstS K N c).map W).toArray.size := by
            rw [size65]; simp [ll]
          have hs : Words wr (w.heap.size + 2) 65 (firstS K N c) := hm.s
          have H1 := Lib.hid hs
          have H2 := Lib.hid hsz
          have H3 := Lib.hid (W_all (firstS K N c))
          have H4 := Lib.hid (setRow_heap wr (w.heap.size + 2) _ ((firstS K N c).map W).toArray 65 _ hs)
          have old' := below_setRow hm.old (g := w.heap.size + 2) (by omega) ((firstS K N c).map W).toArray
          clear hs hsz ll hm a2 hlt hk hset c12 f12
          go_wp2_with (first | (refine wpList_load_row rfl 65 _ rfl (w.heap.size + 2) rfl 65 _ (0, 0) _ H1.out Tryd.underlying65 rfl H2.out ?_) | (refine wpList_store_row rfl 65 _ _ rfl (w.heap.size + 2) _ rfl rfl 65 _ H1.out H2.out rfl H3.out ?_))
          refine bodyPost_ret (results_cell_row rfl _ _ (w.heap.size + 2) 65 _ (0, 0) _ rfl H4.out Tryd.underlying65 rfl H2.out) rfl ?_
          exact ⟨rfl, old'⟩
end Go.Proofs.YtbmjjmianhjfiaaDoor
