/- What the reference's padded returns: the bytes with their end. -/
import Derived.Test.YtbmjjmianhjfiaaDoorRefBlk
namespace Go.Proofs.YtbmjjmianhjfiaaDoor
open Go.RowKit

def padZ (n : Nat) : Nat := (119 - n % 64) % 64
def padS (xs : List (BitVec 8)) : List (BitVec 8) := xs ++ [0x80#8] ++ zeroB (padZ xs.length) ++ eightS (8 * (xs.length : Int)) 8
theorem length_padS (xs : List (BitVec 8)) : (padS xs).length = xs.length + 9 + padZ xs.length := by
  simp only [padS, List.length_append, length_zeroB, length_eightS, List.length_singleton]; omega
theorem zeroB_succ (j : Nat) : zeroB (j + 1) = zeroB j ++ [0#8] := by simp only [zeroB, List.replicate_succ']

set_option maxRecDepth 100000 in
set_option maxHeartbeats 2000000 in
theorem padded46 (A : Option Addr) (n c : Nat) (xs : List (BitVec 8)) (w : World) (hr : Rd w A xs) (hn : xs.length = n) (hs : n ≤ 35184372088800) :
    Calls Tryd.prog 46 #[.slice A n c] w fun e w' => ∃ v, e = .returned v ∧ Own w' w.heap.size v (padS xs) ∧ Below w.heap.size w w' := by
  have HR := Lib.hid (⟨hr, hn⟩ : _ ∧ _)
  have hbl := slice_lit0
  have hn1 : (n : Int) ≤ 35184372088800 := by omega
  clear hr hn
  go_enter Tryd.func46, Tryd.ntmps46
  go_wp2_with (first
    | ((with_reducible refine at_append 26 26 ?_); refine wpList_app26 rfl (.tmp 6) (.tmp 7) rfl w.heap.size (.slice (some ⟨w.heap.size, 0, none⟩) 0 0) [] A n c xs rfl rfl (Own.make w w.heap.size 0 (Nat.le_refl _) (by simp [maxLen])) (HR.out.1.alloc _) HR.out.2 (by simp only [List.length_nil]; omega) (by simp) ?_; intro v8 w1 ho1 hg1 _; rw [List.nil_append] at ho1; have HB1 := Lib.hid (below_app (B := w.heap.size) ((Below.refl _ w).alloc (Nat.le_refl _) (.cells #[] 5)) (by simp) (Own.make w w.heap.size 0 (Nat.le_refl _) (by simp [maxLen])) (Nat.le_refl _) hg1); have HO1 := Lib.hid (ho1.alloc (.cells #[.int .u8 128] 5)); have HB1' := Lib.hid (HB1.out.alloc HB1.out.size (.cells #[.int .u8 128] 5)); have HR1 := Lib.hid (Rd.block (xs := [0x80#8]) (Blk.new w1 5 [.int .u8 128])); clear ho1 hg1)
    | ((with_reducible refine at_append 26 26 ?_); refine wpList_app26 rfl (.tmp 8) (.tmp 9) rfl w.heap.size v8 xs (some ⟨w1.heap.size, 0, none⟩) 1 1 [0x80#8] rfl rfl HO1.out HR1.out rfl (by rw [HR.out.2]; omega) HB1'.out.size ?_; intro v10 w2 ho2 hg2 _; have HB2 := Lib.hid (below_app HB1'.out HB1'.out.size HO1.out (Nat.le_refl _) hg2); have HO2 := Lib.hid ho2; clear ho2 hg2))
  have hz64 : padZ n < 64 := Nat.mod_lt _ (by omega)
  have HZD := Lib.hid (show ∀ j, j ≤ padZ n → ((n + 1 + j) % 64 = 56 ↔ j = padZ n) from fun j hj => by unfold padZ at *; omega)
  obtain ⟨Z, hZ⟩ : ∃ Z, Z = padZ n := ⟨_, rfl⟩
  rw [← hZ] at hz64 HZD
  have HZE := Lib.hid hZ
  clear hZ
  go_loopw [3] (fun o wr => ∃ j : Nat, j ≤ Z ∧ (∃ L Ao co, L = n + 1 + j ∧ o = .slice Ao L co) ∧ Own wr w.heap.size o (xs ++ [0x80#8] ++ zeroB j) ∧ Below w.heap.size w wr) (fun o _ => n + 1 + Z - lenV o)
  case atStart =>
    obtain ⟨Ao, co, hve, -⟩ := HO2.out.form
    rw [List.length_append, HR.out.2, List.length_singleton] at hve
    exact ⟨0, by omega, ⟨_, _, _, rfl, hve⟩, HO2.out.eq_of (by simp [zeroB]), HB2.out⟩
  case round =>
    obtain ⟨j, hj, ⟨L, Ao, co, hL, rfl⟩, ho, hb⟩ := hrel
    have HO := Lib.hid (⟨ho, hb⟩ : _ ∧ _)
    have hsz := hb.size
    by_cases hlt : j < Z
    · have t0 : ((L : Int) % 64 != 56) = true := by
        have := (HZD.out j hj)
        have h2 : ¬ (n + 1 + j) % 64 = 56 := by omega
        have h3 : ¬ (L : Int) % 64 = 56 := by omega
        simpa using h3
      have HOa := Lib.hid (ho.alloc (.cells #[.int .u8 0] 5))
      have HBa := Lib.hid (hb.alloc hsz (.cells #[.int .u8 0] 5))
      have HRa := Lib.hid (Rd.block (xs := [0#8]) (Blk.new wr 5 [.int .u8 0]))
      have HLJ := Lib.hid hL
      clear ho hb hL
      go_wp2_with ((with_reducible refine at_append 26 26 ?_); refine wpList_app26 rfl (.tmp 15) (.tmp 16) rfl w.heap.size (.slice Ao L co) (xs ++ [0x80#8] ++ zeroB j) (some ⟨wr.heap.size, 0, none⟩) 1 1 [0#8] rfl rfl HOa.out HRa.out rfl (by simp only [List.length_append, HR.out.2, length_zeroB, List.length_singleton]; omega) HBa.out.size ?_; intro v' w' ho' hg' _)
      obtain ⟨Ao', co', hve, -⟩ := ho'.form
      simp only [List.length_append, HR.out.2, length_zeroB, List.length_singleton] at hve
      refine ⟨⟨j + 1, by omega, ⟨_, _, _, by omega, hve⟩, ho'.eq_of (by rw [zeroB_succ]; simp), below_app HBa.out HBa.out.size HOa.out (Nat.le_refl _) hg'⟩, ?_⟩
      have := HLJ.out
      rw [hve]
      simp only [lenV]
      omega
    · obtain rfl : j = Z := by omega
      have t0 : ((L : Int) % 64 != 56) = false := by
        have := (HZD.out j hj).2 rfl
        have h3 : (L : Int) % 64 = 56 := by omega
        simpa using h3
      have HLJ := Lib.hid hL
      clear ho hb hL hj hlt
      go_wp2
      obtain ⟨P, hP, hPl, hoP⟩ : ∃ P, P ++ eightS (8 * (n : Int)) 8 = padS xs ∧ P.length = L ∧ Own wr w.heap.size (.slice Ao L co) P :=
        ⟨_, by unfold padS; rw [HR.out.2, ← HZE.out], by rw [HLJ.out]; simp only [List.length_append, HR.out.2, length_zeroB, List.length_singleton], HO.out.1⟩
      have HP := Lib.hid (⟨hP, hPl, hoP⟩ : _ ∧ _ ∧ _)
      clear hP hPl hoP t0
      go_loopw [3, 5] (fun o i wx => ∃ k : Nat, k ≤ 8 ∧ i = .int .i64 (7 - (k : Int)) ∧ Own wx w.heap.size o (P ++ eightS (8 * (n : Int)) k) ∧ Below w.heap.size w wx) (fun _ i _ => (intOf i + 1).toNat)
      case atStart => exact ⟨0, by omega, rfl, HP.out.2.2.eq_of (by simp [eightS]), HO.out.2⟩
      case round =>
        obtain ⟨k, hk, hi0, ho, hb⟩ := hrel
        subst hi0
        by_cases hlt : k < 8
        · obtain ⟨q, hq⟩ : ∃ q : Nat, q = 7 - k := ⟨_, rfl⟩
          have hqk : q + k = 7 := by omega
          rw [show 7 - (k : Int) = (q : Int) by omega]
          obtain ⟨y, hy⟩ : ∃ y, y = byteOf (8 * (n : Int) / (2 : Int) ^ (56 - 8 * k)) := ⟨_, rfl⟩
          have hv : (n : Int) * 8 / (2 : Int) ^ (8 * q) % (256 : Int) = B y := by
            rw [hy, ← byteOf_spec, show 56 - 8 * k = 8 * q by omega, Int.mul_comm]
          have s0 : (0 : Int) ≤ 8 * (q : Int) := by omega
          have s1 : 8 * (q : Int) < 64 := by omega
          have s2 : (8 * (q : Int)).toNat = 8 * q := by omega
          have hsz := hb.size
          have HOa := Lib.hid (ho.alloc (.cells #[Y y] 5))
          have HBa := Lib.hid (hb.alloc hsz (.cells #[Y y] 5))
          have HRa := Lib.hid (Rd.block (xs := [y]) (Blk.new wr 5 [Y y]))
          have HYY := Lib.hid (⟨hy, hqk⟩ : _ ∧ _)
          have hlp := HP.out.2.1
          have HLP := Lib.hid hlp
          have HLJ2 := HLJ.out
          have hle := length_eightS (8 * (n : Int)) k
          have HBD := Lib.hid (show (P ++ eightS (8 * (n : Int)) k).length + 1 ≤ 70368744177664 by rw [List.length_append, hlp, hle]; omega)
          clear ho hb hy hq hqk hlp HLJ2 hle hk
          go_wp2_with ((with_reducible refine at_append 26 26 ?_); refine wpList_app26 rfl (.tmp 26) (.tmp 32) rfl w.heap.size u3 (P ++ eightS (8 * (n : Int)) k) (some ⟨wr.heap.size, 0, none⟩) 1 1 [y] rfl rfl HOa.out HRa.out rfl HBD.out HBa.out.size ?_; intro v' w' ho' hg' _)
          have e := HYY.out.2
          refine ⟨⟨k + 1, by omega, by rw [show 7 - ((k + 1 : Nat) : Int) = (q : Int) - 1 by omega], ho'.eq_of (by rw [eightS_succ, ← HYY.out.1, List.append_assoc]), below_app HBa.out HBa.out.size HOa.out (Nat.le_refl _) hg'⟩, by simp [intOf]⟩
        · obtain rfl : k = 8 := by omega
          rw [show 7 - ((8 : Nat) : Int) = -1 from rfl]
          have HF := Lib.hid (⟨ho, hb⟩ : _ ∧ _)
          clear ho hb hk hlt
          go_wp2
          go_ret
          exact ⟨_, rfl, HF.out.1.eq_of HP.out.1, HF.out.2⟩
end Go.Proofs.YtbmjjmianhjfiaaDoor
