/- What absorb leaves: the state after one more block of SHA-256, in lists. -/
import Derived.Test.YtbmjjmianhjfiaaDoorBlock
import Derived.BigQuiet
import Derived.Laws.CopyOwn
namespace Go.Proofs.YtbmjjmianhjfiaaDoor
open Go.RowKit

/-! ### SHA-256 in lists -/
def ldS (bs : List (BitVec 8)) : Nat → List (BitVec 32)
  | 0 => List.replicate 64 0#32
  | k + 1 => (ldS bs k).set k (be4 (bs.getD (4 * k) 0) (bs.getD (4 * k + 1) 0) (bs.getD (4 * k + 2) 0) (bs.getD (4 * k + 3) 0))
def extW (M : List (BitVec 32)) (t : Nat) : BitVec 32 :=
  M.getD (t - 16) 0 + (rol (M.getD (t - 15) 0) 25 ^^^ rol (M.getD (t - 15) 0) 14 ^^^ M.getD (t - 15) 0 >>> 3) + M.getD (t - 7) 0 + (rol (M.getD (t - 2) 0) 15 ^^^ rol (M.getD (t - 2) 0) 13 ^^^ M.getD (t - 2) 0 >>> 10)
def extS (M : List (BitVec 32)) : Nat → List (BitVec 32)
  | 0 => M
  | k + 1 => (extS M k).set (16 + k) (extW (extS M k) (16 + k))
def pS (kt mt : BitVec 32) (V : List (BitVec 32)) : BitVec 32 :=
  V.getD 7 0 + (rol (V.getD 4 0) 26 ^^^ rol (V.getD 4 0) 21 ^^^ rol (V.getD 4 0) 7) + (V.getD 6 0 ^^^ V.getD 4 0 &&& (V.getD 5 0 ^^^ V.getD 6 0)) + kt + mt
def qS (V : List (BitVec 32)) : BitVec 32 :=
  (rol (V.getD 0 0) 30 ^^^ rol (V.getD 0 0) 19 ^^^ rol (V.getD 0 0) 10) + (V.getD 0 0 &&& V.getD 1 0 ||| V.getD 2 0 &&& (V.getD 0 0 ||| V.getD 1 0))
def shiftS (V : List (BitVec 32)) : List (BitVec 32) := V.getD 0 0 :: V.take 7
def stepS (kt mt : BitVec 32) (V : List (BitVec 32)) : List (BitVec 32) :=
  ((shiftS V).set 4 ((shiftS V).getD 4 0 + pS kt mt V)).set 0 (pS kt mt V + qS V)
def roundsH (Kn M V : List (BitVec 32)) : Nat → List (BitVec 32)
  | 0 => V
  | k + 1 => stepS (Kn.getD k 0) (M.getD k 0) (roundsH Kn M V k)
def sumTo (S V : List (BitVec 32)) : Nat → List (BitVec 32)
  | 0 => S
  | k + 1 => (sumTo S V k).set k ((sumTo S V k).getD k 0 + V.getD k 0)
def numbersS : List (BitVec 32) := [
  0x428a2f98#32, 0x71374491#32, 0xb5c0fbcf#32, 0xe9b5dba5#32, 0x3956c25b#32, 0x59f111f1#32, 0x923f82a4#32, 0xab1c5ed5#32,
  0xd807aa98#32, 0x12835b01#32, 0x243185be#32, 0x550c7dc3#32, 0x72be5d74#32, 0x80deb1fe#32, 0x9bdc06a7#32, 0xc19bf174#32,
  0xe49b69c1#32, 0xefbe4786#32, 0x0fc19dc6#32, 0x240ca1cc#32, 0x2de92c6f#32, 0x4a7484aa#32, 0x5cb0a9dc#32, 0x76f988da#32,
  0x983e5152#32, 0xa831c66d#32, 0xb00327c8#32, 0xbf597fc7#32, 0xc6e00bf3#32, 0xd5a79147#32, 0x06ca6351#32, 0x14292967#32,
  0x27b70a85#32, 0x2e1b2138#32, 0x4d2c6dfc#32, 0x53380d13#32, 0x650a7354#32, 0x766a0abb#32, 0x81c2c92e#32, 0x92722c85#32,
  0xa2bfe8a1#32, 0xa81a664b#32, 0xc24b8b70#32, 0xc76c51a3#32, 0xd192e819#32, 0xd6990624#32, 0xf40e3585#32, 0x106aa070#32,
  0x19a4c116#32, 0x1e376c08#32, 0x2748774c#32, 0x34b0bcb5#32, 0x391c0cb3#32, 0x4ed8aa4a#32, 0x5b9cca4f#32, 0x682e6ff3#32,
  0x748f82ee#32, 0x78a5636f#32, 0x84c87814#32, 0x8cc70208#32, 0x90befffa#32, 0xa4506ceb#32, 0xbef9a3f7#32, 0xc67178f2#32]
def startS : List (BitVec 32) := [0x6a09e667#32, 0xbb67ae85#32, 0x3c6ef372#32, 0xa54ff53a#32, 0x510e527f#32, 0x9b05688c#32, 0x1f83d9ab#32, 0x5be0cd19#32]
def absS (S : List (BitVec 32)) (bs : List (BitVec 8)) : List (BitVec 32) := sumTo S (roundsH numbersS (extS (ldS bs 16) 48) S 64) 8
theorem length_ldS (bs : List (BitVec 8)) (k : Nat) : (ldS bs k).length = 64 := by
  induction k with
  | zero => rfl
  | succ k ih => simp [ldS, ih]
theorem length_extS (M : List (BitVec 32)) (k : Nat) : (extS M k).length = M.length := by
  induction k with
  | zero => rfl
  | succ k ih => simp [extS, ih]
theorem length_stepS (kt mt : BitVec 32) (V : List (BitVec 32)) (h : V.length = 8) : (stepS kt mt V).length = 8 := by simp [stepS, shiftS, h]
theorem length_roundsH (Kn M V : List (BitVec 32)) (k : Nat) (h : V.length = 8) : (roundsH Kn M V k).length = 8 := by
  induction k with
  | zero => exact h
  | succ k ih => exact length_stepS _ _ _ ih
theorem length_sumTo (S V : List (BitVec 32)) (k : Nat) : (sumTo S V k).length = S.length := by
  induction k with
  | zero => rfl
  | succ k ih => simp [sumTo, ih]
theorem length_absS (S : List (BitVec 32)) (bs : List (BitVec 8)) : (absS S bs).length = S.length := length_sumTo _ _ _

theorem Words.set {w : World} {g : Nat} {t : TypeId} {L : List (BitVec 32)} (h : Words w g t L) (i : Nat) (x : BitVec 32) : Words (w.setCell ⟨g, i, none⟩ (.int .u32 (U x))) g t (L.set i x) := by
  unfold Words; rw [List.map_set]; exact Blk.put h _ _

theorem rot41q (x : BitVec 32) (k : Int) (s : Nat) (w : World) (hs : s < 32) (hk : bits .and .u64 (IntKind.u64.wrap k) 31 = (s : Int)) :
    Calls Tryd.prog 41 #[.int .u32 (U x), .int .i64 k] w fun e w' => e = .returned (.int .u32 (U (rol x s))) ∧ ∃ m, w' = w.drewN m :=
  (rot41 x k s w hs hk).mono fun _ _ ⟨h1, h2⟩ => ⟨h1, 0, h2⟩

theorem ext_end (x y z u : BitVec 32) : (U z + bits .xor .u32 (U (rol x 25 ^^^ rol x 14)) (U x / (8 : Int)) + U u + bits .xor .u32 (U (rol y 15 ^^^ rol y 13)) (U y / (1024 : Int))) % (4294967296 : Int) =
    U (z + (rol x 25 ^^^ rol x 14 ^^^ x >>> 3) + u + (rol y 15 ^^^ rol y 13 ^^^ y >>> 10)) := by
  rw [show (8 : Int) = 2 ^ 3 by decide, show (1024 : Int) = 2 ^ 10 by decide, U_shr, U_shr, U_xor, U_xor]
  simp only [← U_add]; omega
theorem p_end (a b c d e : BitVec 32) : (U a + U b + U c + U d + U e) % (4294967296 : Int) = U (a + b + c + d + e) := by
  simp only [← U_add]; omega
theorem shift_splice (V : List (BitVec 32)) (h : V.length = 8) : splice (V.map W) 1 ((V.take 7).map W) = (shiftS V).map W := by
  rcases V with _ | ⟨a, V⟩
  · simp at h
  · simp [splice, shiftS] at h ⊢
    omega

/-- Memory in the rounds of 'absorb'. -/
structure Go31 (w0 : World) (g gv : Nat) (S M V : List (BitVec 32)) (w : World) : Prop where
  s : Words w g 58 S
  m : Words w w0.heap.size 71 M
  v : Words w gv 58 V
  old : Below w0.heap.size w0 w
theorem Go31.drewN {w0 w : World} {g gv : Nat} {S M V : List (BitVec 32)} (h : Go31 w0 g gv S M V w) (n : Nat) : Go31 w0 g gv S M V (w.drewN n) := ⟨h.s, h.m, h.v, below_drewN h.old n⟩
theorem Go31.set {w0 w : World} {g gv : Nat} {S M V : List (BitVec 32)} (h : Go31 w0 g gv S M V w) (hg : g < w0.heap.size) (hv : w0.heap.size < gv) (i : Nat) (x : BitVec 32) : Go31 w0 g gv S M (V.set i x) (w.setCell ⟨gv, i, none⟩ (.int .u32 (U x))) :=
  ⟨Blk.far h.s (p := ⟨gv, i, none⟩) (by show g ≠ gv; omega) _, Blk.far h.m (p := ⟨gv, i, none⟩) (by show w0.heap.size ≠ gv; omega) _, h.v.set i x, h.old.setCell (p := ⟨gv, i, none⟩) (by show w0.heap.size ≤ gv; omega) _⟩

/-- Memory in 'absorb', ahead of its last loop. -/
structure In31 (w0 : World) (g : Nat) (S M : List (BitVec 32)) (w : World) : Prop where
  s : Words w g 58 S
  m : Words w w0.heap.size 71 M
  old : Below w0.heap.size w0 w
theorem In31.set {w0 w : World} {g : Nat} {S M : List (BitVec 32)} (h : In31 w0 g S M w) (hg : g < w0.heap.size) (i : Nat) (x : BitVec 32) : In31 w0 g S (M.set i x) (w.setCell ⟨w0.heap.size, i, none⟩ (.int .u32 (U x))) :=
  ⟨Blk.far h.s (p := ⟨w0.heap.size, i, none⟩) (by show g ≠ w0.heap.size; omega) _, h.m.set i x, h.old.setCell (p := ⟨w0.heap.size, i, none⟩) (Nat.le_refl _) _⟩
theorem In31.drewN {w0 w : World} {g : Nat} {S M : List (BitVec 32)} (h : In31 w0 g S M w) (n : Nat) : In31 w0 g S M (w.drewN n) := ⟨h.s, h.m, below_drewN h.old n⟩

set_option maxRecDepth 100000 in
set_option maxHeartbeats 1000000 in
theorem absorb31 (g : Nat) (S : List (BitVec 32)) (hS : S.length = 8) (b off c : Nat) (bs : List (BitVec 8)) (_hbs : bs.length = 64) (hc : 64 ≤ c) (hcm : c ≤ 9223372036854775807) (w : World) (hT : Tab w 1 numbersS) (hg : Words w g 58 S)
    (hr : ∀ i, i < 64 → w.cell? ⟨b, off + i, none⟩ = some (.int .u8 (B (bs.getD i 0)))) :
    Calls Tryd.prog 31 #[.pointer (some ⟨g, 0, none⟩), .slice (some ⟨b, off, none⟩) 64 c] w fun e w' => e = .returned (.tuple #[]) ∧ Words w' g 58 (absS S bs) ∧ w.grownBy w' (some g) := by
  have hgl : g < w.heap.size := hg.lt
  have hadd := U_add
  have hxor := U_xor
  have h0 : In31 w g S (ldS bs 0) (w.alloc (.cells (List.replicate 64 (Value.int .u32 0)).toArray 71)) :=
    ⟨hg.alloc _, Blk.new w 71 _, (Below.refl _ w).alloc (Nat.le_refl _) _⟩
  have H0 := Lib.hid h0
  have HR := Lib.hid hr
  have HS := Lib.hid hS
  have HG := Lib.hid hg
  have HT := Lib.hid hT
  have c4 : (64 : Int) ≤ (c : Int) := by omega
  have c5 : (c : Int) ≤ 9223372036854775807 := by omega
  clear h0 hr hS hg hT
  go_enter Tryd.func31, Tryd.ntmps31
  go_wp2
  go_loopw [14] (fun i wr => ∃ k : Nat, k ≤ 16 ∧ i = .int .i64 k ∧ In31 w g S (ldS bs k) wr) (fun i _ => 16 - (intOf i).toNat)
  case atStart => exact ⟨0, by omega, rfl, H0.out⟩
  case round =>
    obtain ⟨k, hk, rfl, hm⟩ := hrel
    by_cases hlt : k < 16
    · have l0 := length_ldS bs k
      have q := fun i (hi : i < 64) => (hm.old.cell (p := ⟨b, off + i, none⟩) (block_lt_of_cell (HR.out i hi))).trans (HR.out i hi)
      have q0 := q (4 * k) (by omega)
      have q1 := q (4 * k + 1) (by omega)
      have q2 := q (4 * k + 2) (by omega)
      have q3 := q (4 * k + 3) (by omega)
      have t4 := toNat4 k
      have a1 : (0 : Int) ≤ 4 * (k : Int) := by omega
      have a2 : 4 * (k : Int) ≤ 64 := by omega
      have a3 : ¬ c = 4 * k := by omega
      have a6 : (k : Int) < 16 := by omega
      have a7 : (k : Int) < 64 := by omega
      have cc := hm.m.at k (by omega)
      have cf := hm.m.free k
      clear l0 q
      go_wp2_with (go_at_call 40; refine (word40 _ _ _ _ _ _ _ _ _ (by omega) q0 q1 q2 q3 (by omega)).mono ?_; rintro e w' ⟨rfl, rfl⟩)
      go_roundw
      case rel => exact ⟨k + 1, by omega, by go_num, hm.set hgl k _⟩
      case measure => simp [intOf]; omega
    · obtain rfl : k = 16 := by omega
      clear hk hlt
      rw [show ((16 : Nat) : Int) = 16 from rfl]
      obtain ⟨M0, hM0⟩ : ∃ M0, M0 = ldS bs 16 := ⟨_, rfl⟩
      have lM0 : M0.length = 64 := by rw [hM0, length_ldS]
      rw [← hM0] at hm
      have HM0 := Lib.hid hM0
      have LM0 := Lib.hid lM0
      clear hM0 lM0
      go_wp2
      go_loopw [6] (fun i wr => ∃ k : Nat, k ≤ 48 ∧ i = .int .i64 (16 + (k : Int)) ∧ In31 w g S (extS M0 k) wr) (fun i _ => 64 - (intOf i).toNat)
      case atStart => exact ⟨0, by omega, rfl, hm⟩
      case round =>
        clear hm
        obtain ⟨k, hk, rfl, hm⟩ := hrel
        obtain ⟨t, ht⟩ : ∃ t : Int, t = 16 + (k : Int) := ⟨_, rfl⟩
        rw [← ht]
        by_cases hlt : k < 48
        · have l0 : (extS M0 k).length = 64 := by rw [length_extS, LM0.out]
          obtain ⟨E, hE⟩ : ∃ E, E = extS M0 k := ⟨_, rfl⟩
          rw [← hE] at l0 hm
          have HE := Lib.hid hE
          clear hE
          have b0 : t < 64 := by omega
          have b1 : (0 : Int) ≤ t := by omega
          have b2 : (0 : Int) ≤ t - 15 := by omega
          have b3 : t - 15 < 64 := by omega
          have b4 : (0 : Int) ≤ t - 2 := by omega
          have b5 : t - 2 < 64 := by omega
          have b6 : (0 : Int) ≤ t - 16 := by omega
          have b7 : t - 16 < 64 := by omega
          have b8 : (0 : Int) ≤ t - 7 := by omega
          have b9 : t - 7 < 64 := by omega
          have e0 : t.toNat = 16 + k := by omega
          have e1 : (t - 15).toNat = 16 + k - 15 := by omega
          have e2 : (t - 2).toNat = 16 + k - 2 := by omega
          have e3 : (t - 16).toNat = 16 + k - 16 := by omega
          have e4 : (t - 7).toNat = 16 + k - 7 := by omega
          have cx := hm.m.at (16 + k - 15) (by omega)
          have cy := hm.m.at (16 + k - 2) (by omega)
          have cz := hm.m.at (16 + k - 16) (by omega)
          have cu := hm.m.at (16 + k - 7) (by omega)
          have cw := hm.m.at (16 + k) (by omega)
          rw [← e1] at cx
          rw [← e2] at cy
          rw [← e3] at cz
          rw [← e4] at cu
          rw [← e0] at cw
          have cf := hm.m.free t.toNat
          obtain ⟨x, hx⟩ : ∃ x, x = E.getD (t - 15).toNat 0 := ⟨_, rfl⟩
          obtain ⟨y, hy⟩ : ∃ y, y = E.getD (t - 2).toNat 0 := ⟨_, rfl⟩
          obtain ⟨z, hz⟩ : ∃ z, z = E.getD (t - 16).toNat 0 := ⟨_, rfl⟩
          obtain ⟨u, hu⟩ : ∃ u, u = E.getD (t - 7).toNat 0 := ⟨_, rfl⟩
          rw [← hx] at cx
          rw [← hy] at cy
          rw [← hz] at cz
          rw [← hu] at cu
          have HX := Lib.hid (⟨hx, hy, hz, hu⟩ : _ ∧ _ ∧ _ ∧ _)
          have HEE := Lib.hid (⟨e0, e1, e2, e3, e4⟩ : _ ∧ _ ∧ _ ∧ _ ∧ _)
          have HT2 := Lib.hid ht
          have HM := Lib.hid hm
          clear l0 e0 e1 e2 e3 e4 hx hy hz hu hm ht
          have s6 : 16 ≤ t := by omega
          have s7 : 7 ≤ t := by omega
          have w16 : IntKind.i64.wrap (t - 16) = t - 16 := by rw [IntKind.wrap_i64]; omega
          have w7 : IntKind.i64.wrap (t - 7) = t - 7 := by rw [IntKind.wrap_i64]; omega
          go_wp2
          go_quiet (fail)
          go_wp2
          refine forget_wp (fun w2 => In31 w g S E w2 ∧ w2.cell? ⟨w.heap.size, (t - 16).toNat, none⟩ = some (.int .u32 (U z)) ∧ w2.cell? ⟨w.heap.size, (t - 7).toNat, none⟩ = some (.int .u32 (U u)) ∧
            w2.cell? ⟨w.heap.size, t.toNat, none⟩ = some (.int .u32 (U (E.getD t.toNat 0))) ∧ w2.frozen? ⟨w.heap.size, t.toNat, none⟩ = false) ⟨HM.out.drewN nq, cz, cu, cw, cf⟩ ?_
          clear HM cx cy cz cu cw cf
          rintro w2 ⟨hm, cz, cu, cw, cf⟩
          have HM := Lib.hid hm
          clear hm
          refine wp_region_quiet_tail 28 (by kernel_rfl) (by kernel_rfl) ?_
          simp only [List.take_succ_cons, List.take_zero, List.drop_succ_cons, List.drop_zero]
          have R1 := Lib.hid (fun wx => rot41q x (-7) 25 wx (by decide) (by decide))
          have R2 := Lib.hid (fun wx => rot41q x (-18) 14 wx (by decide) (by decide))
          have R3 := Lib.hid (fun wx => rot41q y (-17) 15 wx (by decide) (by decide))
          have R4 := Lib.hid (fun wx => rot41q y (-19) 13 wx (by decide) (by decide))
          repeat (quiet_step ((go_at_call 41; first | with_reducible exact Calls.quiet_of (R1.out _) | with_reducible exact Calls.quiet_of (R2.out _) | with_reducible exact Calls.quiet_of (R3.out _) | with_reducible exact Calls.quiet_of (R4.out _))))
          refine wpQuiet_nil ?_
          rintro _ ⟨nq2, rfl⟩
          go_wp2
          rw [ext_end]
          refine ⟨⟨k + 1, by omega, by rw [HT2.out]; congr 1, ?_⟩, by simp [intOf]; omega⟩
          have hset := (HM.out.drewN nq2).set hgl t.toNat (z + (rol x 25 ^^^ rol x 14 ^^^ x >>> 3) + u + (rol y 15 ^^^ rol y 13 ^^^ y >>> 10))
          obtain ⟨rfl, rfl, rfl, rfl⟩ := HX.out
          obtain ⟨f0, f1, f2, f3, f4⟩ := HEE.out
          rw [f1, f2, f3, f4] at hset
          rw [f1, f2, f3, f4]
          simp only [extS, extW]
          rw [← HE.out, ← f0]
          rw [← f0] at hset
          exact hset
        · obtain rfl : k = 48 := by omega
          subst ht
          clear hk hlt
          obtain ⟨M, hM⟩ : ∃ M, M = extS M0 48 := ⟨_, rfl⟩
          have lM : M.length = 64 := by rw [hM, length_extS, LM0.out]
          rw [← hM] at hm
          have HM := Lib.hid hM
          have LM := Lib.hid lM
          clear hM lM
          have HB := Lib.hid hm
          clear hm
          have HSS := Lib.hid (show (Tryd.prog.info? 58).map (·.size) = some (S.map W).toArray.size by rw [size58]; simp [HS.out])
          have HSA := Lib.hid (W_all S)
          have HLZ := Lib.hid (show (List.replicate 8 (Value.int .u32 0)).toArray.size = (S.map W).toArray.size by simp [HS.out])
          have HZ := Lib.hid (Blk.new wr 58 (List.replicate 8 (Value.int .u32 0)))
          rw [show (16 : Int) + ((48 : Nat) : Int) = 64 from rfl]
          go_wp2_with (first
            | ((with_reducible refine at_load 58 ?_); refine wpList_load_row rfl 58 _ rfl g rfl 58 _ (0, 0) _ HB.out.s Tryd.underlying58 rfl HSS.out ?_)
            | ((with_reducible refine at_store 58 ?_); (refine wpList_store_row rfl 58 _ _ rfl wr.heap.size _ rfl rfl 58 _ HZ.out HSS.out HLZ.out HSA.out ?_); rw [World.setRow_alloc_new]))
          obtain ⟨gv, hgv⟩ : ∃ gv, gv = wr.heap.size := ⟨_, rfl⟩
          have hgv1 : w.heap.size < gv := by have := HB.out.m.lt; omega
          have h3 : Go31 w g gv S M S (wr.alloc (.cells (S.map W).toArray 58)) := by
            refine ⟨HB.out.s.alloc _, HB.out.m.alloc _, ?_, HB.out.old.alloc HB.out.old.size _⟩
            rw [hgv]
            exact Blk.new wr 58 _
          rw [← hgv]
          have H3 := Lib.hid h3
          clear HB HSS HSA HLZ HZ h3 hgv
          go_wp2
          go_loopw [69] (fun i wr => ∃ k : Nat, k ≤ 64 ∧ i = .int .i64 k ∧ Go31 w g gv S M (roundsH numbersS M S k) wr) (fun i _ => 64 - (intOf i).toNat)
          case atStart => exact ⟨0, by omega, rfl, H3.out⟩
          case round =>
            clear H3
            obtain ⟨k, hk, rfl, hm⟩ := hrel
            by_cases hlt : k < 64
            · have lV : (roundsH numbersS M S k).length = 8 := length_roundsH _ _ _ _ HS.out
              obtain ⟨V, hV⟩ : ∃ V, V = roundsH numbersS M S k := ⟨_, rfl⟩
              rw [← hV] at lV hm
              have HV := Lib.hid hV
              have LV := Lib.hid lV
              clear hV lV
              have a1 : (k : Int) < 64 := by omega
              have v0 := hm.v.at 0 (by rw [LV.out]; omega)
              have v1 := hm.v.at 1 (by rw [LV.out]; omega)
              have v2 := hm.v.at 2 (by rw [LV.out]; omega)
              have v4 := hm.v.at 4 (by rw [LV.out]; omega)
              have v5 := hm.v.at 5 (by rw [LV.out]; omega)
              have v6 := hm.v.at 6 (by rw [LV.out]; omega)
              have v7 := hm.v.at 7 (by rw [LV.out]; omega)
              have cm := hm.m.at k (by rw [LM.out]; omega)
              have hT2 := HT.out.below hm.old (Nat.le_refl _)
              have cn := hT2 k (by show k < 64; omega)
              obtain ⟨x0, hx0⟩ : ∃ x, x = V.getD 0 0 := ⟨_, rfl⟩
              obtain ⟨x1, hx1⟩ : ∃ x, x = V.getD 1 0 := ⟨_, rfl⟩
              obtain ⟨x2, hx2⟩ : ∃ x, x = V.getD 2 0 := ⟨_, rfl⟩
              obtain ⟨x4, hx4⟩ : ∃ x, x = V.getD 4 0 := ⟨_, rfl⟩
              obtain ⟨x5, hx5⟩ : ∃ x, x = V.getD 5 0 := ⟨_, rfl⟩
              obtain ⟨x6, hx6⟩ : ∃ x, x = V.getD 6 0 := ⟨_, rfl⟩
              obtain ⟨x7, hx7⟩ : ∃ x, x = V.getD 7 0 := ⟨_, rfl⟩
              obtain ⟨mt, hmt⟩ : ∃ x, x = M.getD k 0 := ⟨_, rfl⟩
              obtain ⟨kt, hkt⟩ : ∃ x, x = numbersS.getD k 0 := ⟨_, rfl⟩
              rw [← hx0] at v0
              rw [← hx1] at v1
              rw [← hx2] at v2
              rw [← hx4] at v4
              rw [← hx5] at v5
              rw [← hx6] at v6
              rw [← hx7] at v7
              rw [← hmt] at cm
              rw [← hkt] at cn
              have HX := Lib.hid (⟨hx0, hx1, hx2, hx4, hx5, hx6, hx7, hmt, hkt⟩ : _ ∧ _ ∧ _ ∧ _ ∧ _ ∧ _ ∧ _ ∧ _ ∧ _)
              have HM3 := Lib.hid hm
              clear hx0 hx1 hx2 hx4 hx5 hx6 hx7 hmt hkt hm hT2
              have hand := U_and
              have hor := U_or
              have R1 := Lib.hid (fun wx => rotated42 x4 6 11 25 26 21 7 wx (by decide) (by decide) (by decide) (by decide) (by decide) (by decide) (by decide) (by decide) (by decide))
              have R2 := Lib.hid (fun wx => rotated42 x0 2 13 22 30 19 10 wx (by decide) (by decide) (by decide) (by decide) (by decide) (by decide) (by decide) (by decide) (by decide))
              go_wp2
              go_quiet ((go_at_call 42; with_reducible exact Calls.quiet_of_same (R1.out _)))
              go_wp2
              rw [hadd]
              obtain ⟨p, hp⟩ : ∃ p, p = x7 + (rol x4 26 ^^^ rol x4 21 ^^^ rol x4 7) + (x6 ^^^ x4 &&& (x5 ^^^ x6)) + kt + mt := ⟨_, rfl⟩
              rw [← hp]
              have HP := Lib.hid hp
              clear hp v0 v1 v2 v4 v5 v6 v7 cm cn
              refine forget_wp (fun w2 => Go31 w g gv S M V w2 ∧ w2.cell? ⟨gv, 0, none⟩ = some (.int .u32 (U x0)) ∧ w2.cell? ⟨gv, 1, none⟩ = some (.int .u32 (U x1)) ∧ w2.cell? ⟨gv, 2, none⟩ = some (.int .u32 (U x2)))
                ⟨HM3.out.drewN nq, ?_⟩ ?_
              · obtain ⟨rfl, rfl, rfl, -⟩ := HX.out
                have h := HM3.out.v.drewN nq
                exact ⟨Words.at h 0 (by rw [LV.out]; omega), Words.at h 1 (by rw [LV.out]; omega), Words.at h 2 (by rw [LV.out]; omega)⟩
              rintro w2 ⟨hm, v0, v1, v2⟩
              clear HM3
              have HM3 := Lib.hid hm
              clear hm
              go_quiet ((go_at_call 42; with_reducible exact Calls.quiet_of_same (R2.out _)))
              go_wp2
              rw [hadd]
              obtain ⟨q, hq⟩ : ∃ q, q = (rol x0 30 ^^^ rol x0 19 ^^^ rol x0 10) + (x0 &&& x1 ||| x2 &&& (x0 ||| x1)) := ⟨_, rfl⟩
              rw [← hq]
              have HQ := Lib.hid hq
              clear hq v0 v1 v2 R1 R2
              refine forget_wp (fun w3 => Go31 w g gv S M V w3) (HM3.out.drewN nq) ?_
              clear HM3
              intro w3 hm
              have HM3 := Lib.hid hm
              clear hm
              refine wp_region_quiet_tail 2 (by kernel_rfl) (by kernel_rfl) ?_
              simp only [List.take_succ_cons, List.take_zero, List.drop_succ_cons, List.drop_zero]
              repeat (quiet_step (fail))
              refine wpQuiet_nil ?_
              rintro _ ⟨nq2, rfl⟩
              refine wpList_copy_splice rfl (.tmp 116) (.tmp 117) 74 74 rfl 50 Tryd.underlying74 size50 _ _ 7 7 7 8 rfl rfl gv 1 (V.map W) 58 (HM3.out.v.drewN nq2) ((V.take 7).map W) (by simp [LV.out]) (fun _ => ⟨rfl, _, rfl, fun j v hj => ?src⟩)
                (by simp [LV.out]) (fun v hv => ?one) gv _ (Below.refl _ _) (Nat.le_refl _) ?_
              case one =>
                obtain ⟨x, _, rfl⟩ := List.mem_map.1 hv
                rfl
              case src =>
                have hj7 : j < 7 := by
                  rcases Nat.lt_or_ge j 7 with h | h
                  · exact h
                  · rw [List.getElem?_eq_none (by simp; omega)] at hj; cases hj
                have hadd' : (⟨gv, 0, none⟩ : Addr).add j = ⟨gv, j, none⟩ := by unfold Addr.add; split <;> simp_all
                rw [hadd', Blk.at (HM3.out.v.drewN nq2) j, ← hj]
                simp [hj7]
              intro w4 hw4 hb4
              have hm4 : Go31 w g gv S M (shiftS V) w4 := by
                refine ⟨Blk.below (B := gv) (Blk.drewN HM3.out.s nq2) hb4 (by omega), Blk.below (B := gv) (Blk.drewN HM3.out.m nq2) hb4 hgv1, ?_, (below_drewN HM3.out.old nq2).trans (hb4.mono (by omega))⟩
                unfold Words
                rw [← shift_splice V LV.out]
                exact hw4.out
              clear hw4 hb4 HM3
              have lSh : (shiftS V).length = 8 := by simp [shiftS, LV.out]
              have c4 := hm4.v.at 4 (by omega)
              have c0 := hm4.v.at 0 (by omega)
              have f4 := hm4.v.free 4
              have f0 := hm4.v.free 0
              have h5 := (hm4.set hgl hgv1 4 ((shiftS V).getD 4 0 + p)).set hgl hgv1 0 (p + q)
              obtain ⟨z, hz⟩ : ∃ z, z = (shiftS V).getD 4 0 := ⟨_, rfl⟩
              rw [← hz] at c4 h5
              have HZ := Lib.hid hz
              have H5 := Lib.hid h5
              clear hm4 lSh hz h5
              go_wp2
              have e : roundsH numbersS M S (k + 1) = ((shiftS V).set 4 (z + p)).set 0 (p + q) := by
                rw [HZ.out, HP.out, HQ.out]
                obtain ⟨rfl, rfl, rfl, rfl, rfl, rfl, rfl, rfl, rfl⟩ := HX.out
                simp only [roundsH]
                rw [← HV.out]
                rfl
              refine ⟨⟨k + 1, by omega, by go_num, ?_⟩, by simp [intOf]; omega⟩
              rw [e]
              exact H5.out
            · obtain rfl : k = 64 := by omega
              clear hk hlt
              rw [show ((64 : Nat) : Int) = 64 from rfl]
              have lV : (roundsH numbersS M S 64).length = 8 := length_roundsH _ _ _ _ HS.out
              obtain ⟨V, hV⟩ : ∃ V, V = roundsH numbersS M S 64 := ⟨_, rfl⟩
              rw [← hV] at lV hm
              have HV := Lib.hid hV
              have LV := Lib.hid lV
              clear hV lV
              have hf : Words wr g 58 (sumTo S V 0) ∧ Words wr gv 58 V ∧ w.grownBy wr (some g) := ⟨hm.s, hm.v, only_of_below hm.old _⟩
              have HF := Lib.hid hf
              clear hf hm
              go_wp2
              go_loopw [129] (fun i wr => ∃ k : Nat, k ≤ 8 ∧ i = .int .i64 k ∧ Words wr g 58 (sumTo S V k) ∧ Words wr gv 58 V ∧ w.grownBy wr (some g)) (fun i _ => 8 - (intOf i).toNat)
              case atStart => exact ⟨0, by omega, rfl, HF.out⟩
              case round =>
                clear HF
                obtain ⟨k, hk, rfl, hs, hv, hgr⟩ := hrel
                by_cases hlt : k < 8
                · have a1 : (k : Int) < 8 := by omega
                  have cs := hs.at k (by rw [length_sumTo, HS.out]; omega)
                  have cv := hv.at k (by rw [LV.out]; omega)
                  have cf := hs.free k
                  obtain ⟨x, hx⟩ : ∃ x, x = (sumTo S V k).getD k 0 := ⟨_, rfl⟩
                  obtain ⟨y, hy⟩ : ∃ y, y = V.getD k 0 := ⟨_, rfl⟩
                  rw [← hx] at cs
                  rw [← hy] at cv
                  have HXY := Lib.hid (⟨hx, hy⟩ : _ ∧ _)
                  have H := Lib.hid (⟨hs, hv, hgr⟩ : _ ∧ _ ∧ _)
                  clear hx hy hs hv hgr
                  go_wp2
                  refine wp_region_quiet_tail 11 (by kernel_rfl) (by kernel_rfl) ?_
                  simp only [List.take_succ_cons, List.take_zero, List.drop_succ_cons, List.drop_zero]
                  repeat (quiet_step (fail))
                  refine wpQuiet_nil ?_
                  rintro _ ⟨nq, rfl⟩
                  go_wp2
                  refine ⟨⟨k + 1, by omega, by go_num, ?_, ?_, ?_⟩, by simp [intOf]; omega⟩
                  · have := Words.set (Blk.drewN H.out.1 nq) k (x + y)
                    simp only [sumTo]
                    rw [← HXY.out.1, ← HXY.out.2]
                    exact this
                  · exact Blk.far (Blk.drewN H.out.2.1 nq) (p := ⟨g, k, none⟩) (by show gv ≠ g; omega) _
                  · exact only_put (only_drewN H.out.2.2 nq) (.inl rfl) _
                · obtain rfl : k = 8 := by omega
                  go_wp2
                  go_end0
                  refine ⟨rfl, ?_, hgr⟩
                  unfold absS
                  rw [← HM0.out, ← HM.out, ← HV.out]
                  exact hs
end Go.Proofs.YtbmjjmianhjfiaaDoor
