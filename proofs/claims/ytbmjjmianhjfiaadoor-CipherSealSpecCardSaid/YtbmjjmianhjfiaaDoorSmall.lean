/- What the small functions of the program and of the references return: words of four bytes, rotations, the mixing of four numbers; no conditions but the bounds that each states. -/
import Derived.Test.YtbmjjmianhjfiaaDoorProg
import Derived.Test.YtbmjjmianhjfiaaDoorWords
import Derived.Test.YtbmjjmianhjfiaaDoorTail
import Derived.Handy
namespace Go.Proofs.YtbmjjmianhjfiaaDoor
open Go.RowKit

/-! The sizes of the program's types. -/
theorem size64 : (Tryd.prog.info? 64).map (·.size) = some 16 := by kernel_rfl
theorem size65 : (Tryd.prog.info? 65).map (·.size) = some 16 := by kernel_rfl
theorem size57 : (Tryd.prog.info? 57).map (·.size) = some 8 := by kernel_rfl
theorem size58 : (Tryd.prog.info? 58).map (·.size) = some 8 := by kernel_rfl
theorem size71 : (Tryd.prog.info? 71).map (·.size) = some 64 := by kernel_rfl
theorem size33 : (Tryd.prog.info? 33).map (·.size) = some 32 := by kernel_rfl
theorem size23 : (Tryd.prog.info? 23).map (·.size) = some 32 := by kernel_rfl
theorem size25 : (Tryd.prog.info? 25).map (·.size) = some 12 := by kernel_rfl
theorem size50 : (Tryd.prog.info? 50).map (·.size) = some 1 := by kernel_rfl
theorem size5 : (Tryd.prog.info? 5).map (·.size) = some 1 := by kernel_rfl
theorem info5 : (Tryd.prog.info? 5).map (fun i => (i.zero, i.size, i.bytes)) = some (some (.int .u8 0), 1, 1) := by kernel_rfl

/-- 'a += b'. -/
def mA (L : List (BitVec 32)) (a b : Int) : List (BitVec 32) := st L a (wd L a + wd L b)
/-- 'd = rol(d ^ a, s)'. -/
def mR (L : List (BitVec 32)) (d a : Int) (s : Nat) : List (BitVec 32) := st L d (rol (wd L d ^^^ wd L a) s)
def mixS (L : List (BitVec 32)) (a b c d : Int) : List (BitVec 32) :=
  mR (mA (mR (mA (mR (mA (mR (mA L a b) d a 16) c d) b c 12) a b) d a 8) c d) b c 7
theorem length_mA (L : List (BitVec 32)) (a b : Int) : (mA L a b).length = L.length := by simp [mA, st]
theorem length_mR (L : List (BitVec 32)) (a b : Int) (s : Nat) : (mR L a b s).length = L.length := by simp [mR, st]
theorem length_mixS (L : List (BitVec 32)) (a b c d : Int) : (mixS L a b c d).length = L.length := by simp only [mixS, length_mA, length_mR]

/-- What a call that boxed L in its first new block and made one more holds. -/
structure Box2 (w0 : World) (t : TypeId) (Z : List Value) (L : List (BitVec 32)) (w : World) : Prop where
  one : Words w w0.heap.size t L
  two : Blk w (w0.heap.size + 1) t Z
  old : Below w0.heap.size w0 w
section
variable {w0 w : World} {t : TypeId} {Z : List Value} {L : List (BitVec 32)}
theorem Box2.put (h : Box2 w0 t Z L w) (i : Int) (x : BitVec 32) : Box2 w0 t Z (st L i x) (w.setCell ⟨w0.heap.size, i.toNat, none⟩ (.int .u32 (U x))) :=
  ⟨h.one.put i x, h.two.far (by simp) _, h.old.setCell (p := ⟨w0.heap.size, i.toNat, none⟩) (Nat.le_refl _) _⟩
theorem Box2.drew (h : Box2 w0 t Z L w) : Box2 w0 t Z L w.drew := ⟨h.one, h.two, h.old.drew⟩
theorem Box2.drewN (h : Box2 w0 t Z L w) (n : Nat) : Box2 w0 t Z L (w.drewN n) := ⟨h.one, h.two, below_drewN h.old n⟩
theorem Box2.cell (h : Box2 w0 t Z L w) (i : Int) (hi : i.toNat < L.length) : w.cell? ⟨w0.heap.size, i.toNat, none⟩ = some (.int .u32 (U (wd L i))) := h.one.cell i hi
theorem Box2.free (h : Box2 w0 t Z L w) (i : Nat) : w.frozen? ⟨w0.heap.size, i, none⟩ = false := h.one.free i
end

/-- Four bytes, the least significant one first. -/
def le4 (a b c d : BitVec 8) : BitVec 32 := ((a.setWidth 32 ||| b.setWidth 32 <<< 8) ||| c.setWidth 32 <<< 16) ||| d.setWidth 32 <<< 24
/-- Four bytes, the most significant one first. -/
def be4 (a b c d : BitVec 8) : BitVec 32 := ((a.setWidth 32 <<< 24 ||| b.setWidth 32 <<< 16) ||| c.setWidth 32 <<< 8) ||| d.setWidth 32
theorem be4_steps (a b c d : BitVec 8) : ((a.setWidth 32 <<< 8 ||| b.setWidth 32) <<< 8 ||| c.setWidth 32) <<< 8 ||| d.setWidth 32 = be4 a b c d := by
  unfold be4
  simp only [BitVec.shiftLeft_or_distrib, ← BitVec.shiftLeft_add]

theorem U_256 (x : BitVec 32) : U x * (256 : Int) % (4294967296 : Int) = U (x <<< 8) := U_shl x 8
theorem U_zor (x : BitVec 32) : bits .or .u32 0 (U x) = U x := by
  have h := U_or 0#32 x
  rw [BitVec.zero_or] at h; exact h
theorem le4_end (x y z t : BitVec 8) :
    bits .or .u32 (bits .or .u32 (bits .or .u32 (B x % 4294967296) (B y % 4294967296 * 256 % 4294967296)) (B z % 4294967296 * 65536 % 4294967296)) (B t % 4294967296 * 16777216 % 4294967296) = U (le4 x y z t) := by
  rw [B_wide, B_wide, B_wide, B_wide]
  rw [show (256 : Int) = 2 ^ 8 by decide, show (65536 : Int) = 2 ^ 16 by decide, show (16777216 : Int) = 2 ^ 24 by decide]
  simp only [U_shl, U_or]; rfl
theorem be4_end (x y z t : BitVec 8) :
    bits .or .u32 (bits .or .u32 (bits .or .u32 (B x % 4294967296 * 16777216 % 4294967296) (B y % 4294967296 * 65536 % 4294967296)) (B z % 4294967296 * 256 % 4294967296)) (B t % 4294967296) = U (be4 x y z t) := by
  rw [B_wide, B_wide, B_wide, B_wide]
  rw [show (256 : Int) = 2 ^ 8 by decide, show (65536 : Int) = 2 ^ 16 by decide, show (16777216 : Int) = 2 ^ 24 by decide]
  simp only [U_shl, U_or]; rfl
theorem ror_end (x : BitVec 32) (s : Nat) (hs : s ≤ 32) : bits .or .u32 (U x / 2 ^ s) (U x * 2 ^ (32 - s) % 4294967296) = U (rol x (32 - s)) := by
  rw [U_shl, U_shr, U_or]; unfold rol
  rw [show 32 - (32 - s) = s by omega, BitVec.or_comm]

theorem be4_fold (x y z t : BitVec 8) :
    bits .or .u32 (bits .or .u32 (bits .or .u32 (U (x.setWidth 32) * 256 % 4294967296) (U (y.setWidth 32)) * 256 % 4294967296) (U (z.setWidth 32)) * 256 % 4294967296) (U (t.setWidth 32)) = U (be4 x y z t) := by
  rw [← be4_steps]
  simp only [U_256, U_or]

section
variable (b off n c : Nat) (x y z t : BitVec 8) (w : World) (hn : 4 ≤ n)
  (h0 : w.cell? ⟨b, off, none⟩ = some (.int .u8 (B x))) (h1 : w.cell? ⟨b, off + 1, none⟩ = some (.int .u8 (B y)))
  (h2 : w.cell? ⟨b, off + 2, none⟩ = some (.int .u8 (B z))) (h3 : w.cell? ⟨b, off + 3, none⟩ = some (.int .u8 (B t)))
include hn h0 h1 h2 h3
set_option maxHeartbeats 400000 in
theorem word43 : Calls Tryd.prog 43 #[.slice (some ⟨b, off, none⟩) n c] w fun e w' => e = .returned (.int .u32 (U (le4 x y z t))) ∧ ∃ m, w' = w.drewN m := by
  have i0 : (0 : Int) < (n : Int) := by omega
  have i1 : (1 : Int) < (n : Int) := by omega
  have i2 : (2 : Int) < (n : Int) := by omega
  have i3 : (3 : Int) < (n : Int) := by omega
  go_enter Tryd.func43, Tryd.ntmps43
  go_wp2
  go_quiet (fail)
  go_wp2
  go_ret
  exact ⟨ret_int (le4_end x y z t), nq, rfl⟩
set_option maxHeartbeats 400000 in
theorem word37 : Calls Tryd.prog 37 #[.slice (some ⟨b, off, none⟩) n c] w fun e w' => e = .returned (.int .u32 (U (le4 x y z t))) ∧ ∃ m, w' = w.drewN m := by
  have i0 : (0 : Int) < (n : Int) := by omega
  have i1 : (1 : Int) < (n : Int) := by omega
  have i2 : (2 : Int) < (n : Int) := by omega
  have i3 : (3 : Int) < (n : Int) := by omega
  go_enter Tryd.func37, Tryd.ntmps37
  go_wp2
  go_quiet (fail)
  go_wp2
  go_ret
  exact ⟨ret_int (le4_end x y z t), nq, rfl⟩
set_option maxHeartbeats 400000 in
theorem word48 : Calls Tryd.prog 48 #[.slice (some ⟨b, off, none⟩) n c] w fun e w' => e = .returned (.int .u32 (U (be4 x y z t))) ∧ ∃ m, w' = w.drewN m := by
  have i0 : (0 : Int) < (n : Int) := by omega
  have i1 : (1 : Int) < (n : Int) := by omega
  have i2 : (2 : Int) < (n : Int) := by omega
  have i3 : (3 : Int) < (n : Int) := by omega
  go_enter Tryd.func48, Tryd.ntmps48
  go_wp2
  go_quiet (fail)
  go_wp2
  go_ret
  exact ⟨ret_int (be4_end x y z t), nq, rfl⟩
set_option maxHeartbeats 400000 in
theorem word40 (hnc : n ≤ c) : Calls Tryd.prog 40 #[.slice (some ⟨b, off, none⟩) n c] w fun e w' => e = .returned (.int .u32 (U (be4 x y z t))) ∧ w' = w := by
  have hw := B_wide
  have hor := U_or
  have hs := U_256
  have hz := U_zor
  have c0 : ¬ c = 0 := by omega
  have i3 : (4 : Int) ≤ (c : Int) := by omega
  go_enter Tryd.func40, Tryd.ntmps40
  go_wp2
  go_rounds 5
  go_ret
  exact ⟨ret_int (congrArg U (be4_steps x y z t)), rfl⟩
end

/-! ### Rotations -/
set_option maxHeartbeats 400000 in
theorem rot41 (x : BitVec 32) (k : Int) (s : Nat) (w : World) (hs : s < 32) (hk : bits .and .u64 (IntKind.u64.wrap k) 31 = (s : Int)) :
    Calls Tryd.prog 41 #[.int .u32 (U x), .int .i64 k] w fun e w' => e = .returned (.int .u32 (U (rol x s))) ∧ w' = w := by
  have h1 := U_nonneg x
  have h2 := U_lt x
  have s0 : (0 : Int) ≤ (s : Int) := by omega
  have s1 : (0 : Int) ≤ 32 - (s : Int) := by omega
  have s2 : IntKind.u64.wrap (32 - (s : Int)) = 32 - (s : Int) := by simp [IntKind.wrap, IntKind.bits, IntKind.signed]; omega
  have s3 : min s 32 = s := by omega
  have s4 : min (32 - (s : Int)).toNat 32 = 32 - s := by omega
  go_enter Tryd.func41, Tryd.ntmps41
  go_wp2
  go_ret
  exact ⟨ret_int (rol_end x s), rfl⟩
set_option maxHeartbeats 400000 in
theorem rol44 (x : BitVec 32) (k : Int) (s : Nat) (w : World) (hs : s < 32) (hk : k = (s : Int)) :
    Calls Tryd.prog 44 #[.int .u32 (U x), .int .i64 k] w fun e w' => e = .returned (.int .u32 (U (rol x s))) ∧ ∃ m, w' = w.drewN m := by
  subst hk
  have h1 := U_nonneg x
  have h2 := U_lt x
  have s0 : (0 : Int) ≤ (s : Int) := by omega
  have s1 : (0 : Int) ≤ 32 - (s : Int) := by omega
  have s3 : min s 32 = s := by omega
  have s4 : min (32 - (s : Int)).toNat 32 = 32 - s := by omega
  go_enter Tryd.func44, Tryd.ntmps44
  go_wp2
  go_quiet (fail)
  go_wp2
  go_ret
  exact ⟨ret_int (rol_end x s), nq, rfl⟩
set_option maxHeartbeats 400000 in
theorem ror49 (x : BitVec 32) (k : Int) (s : Nat) (w : World) (hs : s < 32) (hk : k = (s : Int)) :
    Calls Tryd.prog 49 #[.int .u32 (U x), .int .i64 k] w fun e w' => e = .returned (.int .u32 (U (rol x (32 - s)))) ∧ ∃ m, w' = w.drewN m := by
  subst hk
  have h1 := U_nonneg x
  have h2 := U_lt x
  have s0 : (0 : Int) ≤ (s : Int) := by omega
  have s1 : (0 : Int) ≤ 32 - (s : Int) := by omega
  have s3 : min s 32 = s := by omega
  have s4 : min (32 - (s : Int)).toNat 32 = 32 - s := by omega
  go_enter Tryd.func49, Tryd.ntmps49
  go_wp2
  go_quiet (fail)
  go_wp2
  go_ret
  exact ⟨ret_int (ror_end x s (by omega)), nq, rfl⟩
set_option maxHeartbeats 400000 in
theorem rotated42 (x : BitVec 32) (a b c : Int) (s t u : Nat) (w : World) (hs : s < 32) (ht : t < 32) (hu : u < 32)
    (ka : bits .and .u64 (IntKind.u64.wrap (-a)) 31 = (s : Int)) (kb : bits .and .u64 (IntKind.u64.wrap (-b)) 31 = (t : Int)) (kc : bits .and .u64 (IntKind.u64.wrap (-c)) 31 = (u : Int))
    (ha : 0 ≤ a ∧ a < 32) (hb : 0 ≤ b ∧ b < 32) (hc : 0 ≤ c ∧ c < 32)  :
    Calls Tryd.prog 42 #[.int .u32 (U x), .int .i64 a, .int .i64 b, .int .i64 c] w fun e w' => e = .returned (.int .u32 (U (rol x s ^^^ rol x t ^^^ rol x u))) ∧ w' = w := by
  have ca := rot41 x (-a) s w hs ka
  have cb := rot41 x (-b) t w ht kb
  have cc := rot41 x (-c) u w hu kc
  have hxor := U_xor
  have Ha := Lib.hid ca
  have Hb := Lib.hid cb
  have Hc := Lib.hid cc
  clear ca cb cc ka kb kc
  go_enter Tryd.func42, Tryd.ntmps42
  go_wp2_with fail
  refine Ha.out.mono ?_; rintro e w1 ⟨rfl, rfl⟩
  go_wp2_with fail
  refine Hb.out.mono ?_; rintro e w1 ⟨rfl, rfl⟩
  go_wp2_with fail
  refine Hc.out.mono ?_; rintro e w1 ⟨rfl, rfl⟩
  go_wp2_with fail
  go_ret
  exact ⟨rfl, rfl⟩
end Go.Proofs.YtbmjjmianhjfiaaDoor
