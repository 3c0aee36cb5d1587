/- What Sum returns: the hash of the bytes, in lists. -/
import Derived.Test.YtbmjjmianhjfiaaDoorAbsorb
import Derived.Test.YtbmjjmianhjfiaaDoorPut
namespace Go.Proofs.YtbmjjmianhjfiaaDoor
open Go.RowKit

/-- The table in block g, whole. -/
def Lay (w : World) (g : Nat) (L : List (BitVec 32)) : Prop := ∃ t fr, w.heap[g]? = some (.cells (L.map W).toArray t fr)
theorem Lay.lt {w : World} {g : Nat} {L : List (BitVec 32)} (h : Lay w g L) : g < w.heap.size := by
  obtain ⟨t, fr, h⟩ := h
  exact (Array.getElem?_eq_some_iff.1 h).1
theorem Lay.below {w w' : World} {g : Nat} {L : List (BitVec 32)} (h : Lay w g L) {n : Nat} (hb : Below n w w') (hn : w.heap.size ≤ n) : Lay w' g L := by
  have hl := h.lt
  obtain ⟨t, fr, h⟩ := h
  exact ⟨t, fr, (hb.block g (by omega)).trans h⟩
theorem Lay.tab {w : World} {g : Nat} {L : List (BitVec 32)} (h : Lay w g L) : Tab w g L := by
  obtain ⟨t, fr, h⟩ := h
  intro i hi
  rw [cell_of_row w g i _ t fr h]
  simp [W, hi]

/-! ### The hash of bytes in lists -/
def absN (S : List (BitVec 32)) (xs : List (BitVec 8)) : Nat → List (BitVec 32)
  | 0 => S
  | k + 1 => absS (absN S xs k) ((xs.drop (64 * k)).take 64)
theorem length_absN (S : List (BitVec 32)) (xs : List (BitVec 8)) (k : Nat) : (absN S xs k).length = S.length := by
  induction k with
  | zero => rfl
  | succ k ih => simp only [absN, length_absS, ih]
/-- The 128 bytes that hold the rest and its end; and how many of them count. -/
def restS (xs : List (BitVec 8)) : List (BitVec 8) := xs.drop (64 * (xs.length / 64))
def endLen (xs : List (BitVec 8)) : Nat := if 55 < xs.length % 64 then 128 else 64
def endS (xs : List (BitVec 8)) : List (BitVec 8) := putS ((restS xs ++ zeroB (128 - xs.length % 64)).set (xs.length % 64) 0x80#8) (endLen xs - 8) 8 ((xs.length : Int) * 8) 8
def outD (S : List (BitVec 32)) : Nat → List (BitVec 8)
  | 0 => zeroB 32
  | k + 1 => putS (outD S k) (4 * k) 4 (U (S.getD k 0)) 4
def sumS (xs : List (BitVec 8)) : List (BitVec 8) := outD (absN (absN startS xs (xs.length / 64)) ((endS xs).take (endLen xs)) (endLen xs / 64)) 8
theorem length_outD (S : List (BitVec 32)) (k : Nat) : (outD S k).length = 32 := by
  induction k with
  | zero => rfl
  | succ k ih => simp only [outD, length_putS, ih]
theorem length_sumS (xs : List (BitVec 8)) : (sumS xs).length = 32 := length_outD _ _
theorem length_restS (xs : List (BitVec 8)) : (restS xs).length = xs.length % 64 := by simp [restS]; omega
theorem length_endS (xs : List (BitVec 8)) : (endS xs).length = 128 := by simp [endS, length_putS, length_restS, length_zeroB]; omega

/-- Memory in 'Sum'. -/
structure In22 (w0 : World) (S : List (BitVec 32)) (D : List (BitVec 8)) (w : World) : Prop where
  s : Words w (w0.heap.size + 1) 58 S
  d : Blk w w0.heap.size 33 (D.map Y)
  old : Below w0.heap.size w0 w
theorem In22.next {w0 w w' : World} {S S' : List (BitVec 32)} {D : List (BitVec 8)} (h : In22 w0 S D w) (hs : Words w' (w0.heap.size + 1) 58 S') (hg : w.grownBy w' (some (w0.heap.size + 1))) : In22 w0 S' D w' :=
  ⟨hs, h.d.grown hg (by simp), below_only h.old h.old.size hg (by omega)⟩
theorem In22.below {w0 w w' : World} {S : List (BitVec 32)} {D : List (BitVec 8)} (h : In22 w0 S D w) (hb : Below w.heap.size w w') : In22 w0 S D w' :=
  ⟨h.s.kept hb, h.d.kept hb, h.old.trans (hb.mono h.old.size)⟩

theorem make128 (w : World) : (Instr.makeSlice 26 (.int .i64 64) (.int .i64 128)).run Tryd.prog w = .ok (.slice (some ⟨w.heap.size, 0, none⟩) 64 128) (w.alloc (.cells ((zeroB 128).map Y).toArray 5)) :=
  make26 64 128 (by omega) (by omega) .i64 .i64 w
theorem Rd.src {w : World} {A : Option Addr} {xs : List (BitVec 8)} (h : Rd w A xs) (h0 : 0 < (xs.map Y).length) : ∃ ad, A = some ad ∧ ∀ j v, (xs.map Y)[j]? = some v → w.cell? (ad.add j) = some v := by
  obtain ⟨b, off, e, hc⟩ := h (by simpa using h0)
  refine ⟨_, e, fun j v hj => ?_⟩
  have hjl : j < xs.length := by
    rcases Nat.lt_or_ge j xs.length with h | h
    · exact h
    · rw [List.getElem?_eq_none (by simpa using h)] at hj; cases hj
  have hadd : (⟨b, off, none⟩ : Addr).add j = ⟨b, off + j, none⟩ := by unfold Addr.add; split <;> simp_all
  rw [hadd, hc j hjl, ← hj]
  simp [hjl, Y]
theorem drop_zeroB (a b : Nat) : ((zeroB a).map Y).drop b = (zeroB (a - b)).map Y := by simp only [zeroB, List.map_replicate, List.drop_replicate]
theorem splice_zero (rs : List (BitVec 8)) (m : Nat) (h : rs.length = m) : splice ((zeroB 128).map Y) 0 (rs.map Y) = (rs ++ zeroB (128 - m)).map Y := by
  simp only [splice, List.take_zero, List.nil_append, List.length_map, Nat.zero_add, List.map_append, drop_zeroB, h]
theorem In22.far {w0 w w' : World} {S : List (BitVec 32)} {D : List (BitVec 8)} {B : Nat} (h : In22 w0 S D w) (hb : Below B w w') (hB : w0.heap.size + 2 ≤ B) : In22 w0 S D w' :=
  ⟨h.s.below hb (by omega), h.d.below hb (by omega), h.old.trans (hb.mono (by omega))⟩
theorem endS_piece (E : List (BitVec 8)) (L a i : Nat) (hi : i < 64) (ha : a + 64 ≤ L) : (((E.take L).drop a).take 64).getD i 0 = E.getD (a + i) 0 := by
  simp only [List.getD, List.getElem?_take, List.getElem?_drop]
  rw [if_pos hi, if_pos (by omega)]
def lenV : Value → Nat
  | .slice _ n _ => n
  | _ => 0
theorem forget_wpl {P : Program} {ops : Array Oper} {l : List Oper} {Q : Exit → Act → World → Prop} {a : Act} {w : World} (R : World → Prop) (h : R w) (k : ∀ w', R w' → wpList P ops Q l a w') : wpList P ops Q l a w := k w h

set_option maxRecDepth 100000 in
set_option maxHeartbeats 1000000 in
theorem sum22 (A : Option Addr) (n c : Nat) (xs : List (BitVec 8)) (w : World) (hT0 : Lay w 0 startS) (hT1 : Lay w 1 numbersS) (hr : Rd w A xs) (hn : xs.length = n) (hnc : n ≤ c) (hsz : c ≤ 9223372036854775807) (hn46 : n ≤ 70368744177664) :
    Calls Tryd.prog 22 #[.slice A n c] w fun e w' => e = .returned (.agg ((sumS xs).map Y).toArray) ∧ Below w.heap.size w w' := by
  have b1 : Below w.heap.size w (w.alloc (.cells ((zeroB 32).map Y).toArray 33)) := (Below.refl _ w).alloc (Nat.le_refl _) _
  obtain ⟨t0, fr0, h0⟩ := hT0.below b1 (Nat.le_refl _)
  have HT0 := Lib.hid h0
  have HT1 := Lib.hid hT1
  have hz : Blk ((w.alloc (.cells ((zeroB 32).map Y).toArray 33)).alloc (.cells (List.replicate 8 (Value.int .u32 0)).toArray 58)) (w.heap.size + 1) 58 (List.replicate 8 (Value.int .u32 0)) := by
    simpa using Blk.new (w.alloc (.cells ((zeroB 32).map Y).toArray 33)) 58 (List.replicate 8 (Value.int .u32 0))
  have HZ := Lib.hid hz
  have HSA := Lib.hid (W_all startS)
  have h1 : In22 w startS (zeroB 32) (((w.alloc (.cells ((zeroB 32).map Y).toArray 33)).alloc (.cells (List.replicate 8 (Value.int .u32 0)).toArray 58)).setRow (w.heap.size + 1) (startS.map W).toArray) := by
    refine ⟨setRow_heap _ (w.heap.size + 1) _ (startS.map W).toArray 58 _ hz, ?_, below_setRow (b1.alloc (by simp) _) (by omega) _⟩
    exact (setRow_other _ _ _ _ (by omega)).trans ((Blk.new w 33 _).alloc _)
  have H1 := Lib.hid h1
  have HR := Lib.hid hr
  have HN := Lib.hid hn
  clear hT0 hT1 h0 h1 hr hn b1 hz
  go_enter Tryd.func22, Tryd.ntmps22
  go_wp2_with (first
    | ((with_reducible refine at_load 57 ?_); refine wpList_load_row rfl 57 _ rfl 0 rfl _ (startS.map W).toArray _ _ HT0.out Tryd.underlying57 rfl size57 ?_)
    | ((with_reducible refine at_store 58 ?_); (refine wpList_store_row rfl 58 _ _ rfl (w.heap.size + 1) _ rfl rfl 58 _ HZ.out size58 rfl HSA.out ?_); refine forget_wpl (In22 w startS (zeroB 32)) H1.out ?_; clear H1 HZ HT0 HSA; intro w1 hm))
  go_loopw [5] (fun v wr => ∃ k A' c', v = .slice A' (n - 64 * k) c' ∧ 64 * k ≤ n ∧ n - 64 * k ≤ c' ∧ c' ≤ c ∧ Rd w A' (xs.drop (64 * k)) ∧ In22 w (absN startS xs k) (zeroB 32) wr) (fun v _ => lenV v)
  case atStart => exact ⟨0, A, c, rfl, by omega, by omega, by omega, HR.out, hm⟩
  case round =>
    clear hm
    obtain ⟨k, A', c', rfl, hk, hlc, hcc, hr, hm⟩ := hrel
    obtain ⟨m, hmm⟩ : ∃ m, m = n - 64 * k := ⟨_, rfl⟩
    rw [← hmm] at hlc ⊢
    have hrl : (xs.drop (64 * k)).length = m := by rw [List.length_drop, HN.out]; omega
    by_cases hlt : 64 ≤ m
    · obtain ⟨b, off, rfl, hcells⟩ := hr (by omega)
      have a0 : (64 : Int) ≤ (m : Int) := by omega
      have a1 : (64 : Int) ≤ (c' : Int) := by omega
      have a2 : 64 ≤ c' := by omega
      have hbs : ((xs.drop (64 * k)).take 64).length = 64 := by rw [List.length_take, hrl]; omega
      have hS : (absN startS xs k).length = 8 := length_absN _ _ _
      have hcell2 : ∀ i, i < 64 → wr.cell? ⟨b, off + i, none⟩ = some (.int .u8 (B (((xs.drop (64 * k)).take 64).getD i 0))) := fun i hi => by
        have h1 := hcells i (by omega)
        have h2 := (hm.old.cell (p := ⟨b, off + i, none⟩) (block_lt_of_cell h1)).trans h1
        rw [h2]
        simp [List.getD, hi]
      have HC := Lib.hid (absorb31 (w.heap.size + 1) (absN startS xs k) hS b off c' ((xs.drop (64 * k)).take 64) hbs a2 (by omega) wr ((HT1.out.below hm.old (Nat.le_refl _)).tab) hm.s hcell2)
      have HM := Lib.hid hm
      have HRD := Lib.hid hr
      have hnx : 64 * (k + 1) ≤ n := by omega
      have HK := Lib.hid hmm
      clear hcells hcell2 hm hr hS hbs hmm
      go_wp2_with (go_at_call 31; refine HC.out.mono ?_; rintro e w2 ⟨rfl, hs2, hg2⟩)
      have hd := HRD.out.drop 64 c' (by rw [hrl]; exact hlc)
      have had : (⟨b, off, none⟩ : Addr).add 64 = ⟨b, off + 64, none⟩ := by unfold Addr.add; split <;> simp_all
      rw [List.drop_drop, Option.map_some, had] at hd
      have hmk : m - 64 = n - 64 * (k + 1) := by have := HK.out; omega
      refine ⟨⟨k + 1, _, _, by rw [hmk], by omega, by have := HK.out; omega, by omega, ?_, ?_⟩, by simp [lenV]; omega⟩
      · exact hd
      · exact HM.out.next hs2 hg2
    · have a0 : (m : Int) < 64 := by omega
      have a1 : ¬ (64 : Int) ≤ (m : Int) := by omega
      have hkd : k = n / 64 := by omega
      have hrs : xs.drop (64 * k) = restS xs := by rw [hkd, restS, HN.out]
      have hmr : m = n % 64 := by omega
      rw [hrs] at hr
      have hsz2 := hm.old.size
      have hmk := make128
      have hgel : w.heap.size + 2 ≤ wr.heap.size := by have := hm.s.lt; omega
      have hm2 := hm.below ((Below.refl _ wr).alloc (Nat.le_refl _) (.cells ((zeroB 128).map Y).toArray 5))
      have hr2 := hr.below (hm2.old) (Nat.le_refl _)
      have HB := Lib.hid (Blk.new wr 5 ((zeroB 128).map Y))
      have HM := Lib.hid hm2
      have HR2 := Lib.hid hr2
      have HK := Lib.hid (⟨hmm, hkd, hmr, hk⟩ : _ ∧ _ ∧ _ ∧ _)
      have HRL := Lib.hid (show (restS xs).length = m by rw [← hrs]; exact hrl)
      obtain ⟨St, hSt⟩ : ∃ St, St = absN startS xs k := ⟨_, rfl⟩
      rw [← hSt] at HM
      have HST := Lib.hid hSt
      have hm64 : m < 64 := by omega
      clear hm2 hr2 hm hr hrl hrs hkd hmr hk hmm hSt
      have hE0 : splice ((zeroB 128).map Y) 0 ((restS xs).map Y) = (restS xs ++ zeroB (128 - m)).map Y := splice_zero _ m HRL.out
      obtain ⟨E0, hEE⟩ : ∃ E0, E0 = restS xs ++ zeroB (128 - m) := ⟨_, rfl⟩
      rw [← hEE] at hE0
      have lE0 : E0.length = 128 := by rw [hEE, List.length_append, HRL.out, length_zeroB]; omega
      have HE0 := Lib.hid (⟨hE0, hEE, lE0⟩ : _ ∧ _ ∧ _)
      clear hE0 hEE lE0
      have n8 := Lib.hid (show (n : Int) * 8 < 18446744073709551616 by omega)
      have n9 := Lib.hid (show (0 : Int) ≤ (n : Int) * 8 by omega)
      have hEnd : ∀ w3, Blk w3 wr.heap.size 5 (E0.map Y) → w3.cell? ⟨wr.heap.size, m, none⟩ = some (.int .u8 (B (E0.getD m 0))) ∧ w3.frozen? ⟨wr.heap.size, m, none⟩ = false := fun w3 h =>
        ⟨h.byte m (by rw [HE0.out.2.2]; omega), h.free m⟩
      have HEND := Lib.hid hEnd
      have HFIT : Hid (0 + ((restS xs).map Y).length ≤ ((zeroB 128).map Y).length) := by show _ ≤ _; rw [List.length_map, List.length_map, HRL.out, length_zeroB]; omega
      have HMIN : Hid (((restS xs).map Y).length = Nat.min m 64) := by show _ = _; rw [List.length_map, HRL.out]; exact (Nat.min_eq_left (by omega)).symm
      have HPUT : Hid (∀ w3, Blk w3 wr.heap.size 5 (E0.map Y) → Blk (w3.setCell ⟨wr.heap.size, m, none⟩ (.int .u8 128)) wr.heap.size 5 ((E0.set m 0x80#8).map Y)) := fun w3 h => by
        rw [List.map_set]; exact Blk.put h m (Y 0x80#8)
      have HL1 : Hid (120 + 8 ≤ (E0.set m 0x80#8).length) := by show _ ≤ _; rw [List.length_set, HE0.out.2.2]; omega
      have HL2 : Hid (56 + 8 ≤ (E0.set m 0x80#8).length) := by show _ ≤ _; rw [List.length_set, HE0.out.2.2]; omega
      clear hEnd
      rcases (show ((55 : Int) < (m : Int) ∧ Hid (55 < m)) ∨ (¬ (55 : Int) < (m : Int) ∧ Hid (m ≤ 55)) by
        rcases Nat.lt_or_ge 55 m with h | h
        · exact .inl ⟨by omega, h⟩
        · exact .inr ⟨by omega, h⟩) with ⟨h55, H55⟩ | ⟨h55, H55⟩
      case' inl =>
        go_wp2_with (first | ((with_reducible refine at_copy 26 26 ?_); refine wpList_copy_splice rfl (.tmp 22) (.tmp 23) 26 26 rfl 5 Tryd.underlying26 size5 (some ⟨wr.heap.size, 0, none⟩) A' 64 128 m c' rfl rfl wr.heap.size 0 ((zeroB 128).map Y) 5 HB.out ((restS xs).map Y) HMIN.out (fun h => ⟨rfl, HR2.out.src h⟩) HFIT.out (Y_one _) wr.heap.size _ (Below.refl _ _) (Nat.le_refl _) ?_; intro w3 hw3 hb3; rw [HE0.out.1] at hw3; obtain ⟨q1, q2⟩ := HEND.out w3 hw3.out) | (go_at_call 32; refine (put32 wr.heap.size 120 8 8 5 (E0.set m 0x80#8) (by omega) HL1.out _ n9.out n8.out _ (HPUT.out w3 hw3.out)).mono ?_; rintro e w4 ⟨rfl, hE4, hg4⟩))
        have hL : endLen xs = 128 := by
          have h1 := HK.out.2.2.1
          unfold endLen; rw [HN.out, ← h1, if_pos H55.out]
        have hE : Blk w4 wr.heap.size 5 ((endS xs).map Y) := by
          unfold endS; rw [hL, HN.out, ← HK.out.2.2.1, ← HE0.out.2.1]; exact hE4
      case' inr =>
        go_wp2_with (first | ((with_reducible refine at_copy 26 26 ?_); refine wpList_copy_splice rfl (.tmp 22) (.tmp 23) 26 26 rfl 5 Tryd.underlying26 size5 (some ⟨wr.heap.size, 0, none⟩) A' 64 128 m c' rfl rfl wr.heap.size 0 ((zeroB 128).map Y) 5 HB.out ((restS xs).map Y) HMIN.out (fun h => ⟨rfl, HR2.out.src h⟩) HFIT.out (Y_one _) wr.heap.size _ (Below.refl _ _) (Nat.le_refl _) ?_; intro w3 hw3 hb3; rw [HE0.out.1] at hw3; obtain ⟨q1, q2⟩ := HEND.out w3 hw3.out) | (go_at_call 32; refine (put32 wr.heap.size 56 8 72 5 (E0.set m 0x80#8) (by omega) HL2.out _ n9.out n8.out _ (HPUT.out w3 hw3.out)).mono ?_; rintro e w4 ⟨rfl, hE4, hg4⟩))
        have hL : endLen xs = 64 := by
          have h1 := HK.out.2.2.1
          have h2 := H55.out
          unfold endLen; rw [HN.out, ← h1, if_neg (by omega)]
        have hE : Blk w4 wr.heap.size 5 ((endS xs).map Y) := by
          unfold endS; rw [hL, HN.out, ← HK.out.2.2.1, ← HE0.out.2.1]; exact hE4
      all_goals
        have hb4 : Below wr.heap.size _ w4 := (hb3.setCell (p := ⟨wr.heap.size, m, none⟩) (Nat.le_refl _) (.int .u8 128)).grown hg4 (by have := hb3.size; simp [World.setCell] at this ⊢; omega) (fun k e => by cases e; exact Nat.le_refl _)
        have hm4 := HM.out.far hb4 hgel
        obtain ⟨L, hLL⟩ : ∃ L, L = endLen xs := ⟨_, rfl⟩
        rw [← hLL] at hL
        have hL2 : L = 64 ∨ L = 128 := by omega
        have HLL := Lib.hid hLL
        have HL := Lib.hid hL
        have HL2' := Lib.hid hL2
        have HKST : Hid (St = absN startS xs (xs.length / 64)) := by
          have h1 := HST.out
          have h2 := HK.out.2.1
          show _ = _
          rw [HN.out, ← h2]; exact h1
        have HEM := Lib.hid (⟨hE, hm4⟩ : _ ∧ _)
        obtain ⟨ge, hge⟩ : ∃ ge, ge = wr.heap.size := ⟨_, rfl⟩
        rw [← hge] at hgel HEM
        simp only [← hge]
        clear hge
        clear hb4 hE hE4 hg4 q1 q2 hb3 hw3 hL hL2 hLL HL1 HL2 HPUT HEND HE0 HFIT HMIN HB HM HR2 HRL HST HK n8 n9 hm64 hlt hlc hmk hm4 hsz2
        go_loopw [6] (fun v wx => ∃ k o c2, v = .slice (some ⟨ge, o, none⟩) (L - 64 * k) c2 ∧ 64 * k ≤ L ∧ (64 * k < L → o = 64 * k ∧ 64 * k + c2 = 128) ∧ Blk wx ge 5 ((endS xs).map Y) ∧ In22 w (absN St ((endS xs).take L) k) (zeroB 32) wx) (fun v _ => lenV v)
        case atStart => exact ⟨0, 0, 128, by rw [HL.out], by omega, fun _ => ⟨rfl, rfl⟩, HEM.out⟩
        case round =>
          clear HEM HL
          obtain ⟨k, o, c2, rfl, hk, ho, hE, hm⟩ := hrel
          by_cases hlt : 64 * k < L
          · obtain ⟨rfl, hc2⟩ := ho hlt
            have hL3 := HL2'.out
            have z1 : 64 ≤ L - 64 * k := by omega
            have z2 : 64 ≤ c2 := by omega
            have hS : (absN St ((endS xs).take L) k).length = 8 := by rw [length_absN, HKST.out, length_absN]; rfl
            have hbs : ((((endS xs).take L).drop (64 * k)).take 64).length = 64 := by simp [length_endS]; omega
            have hce : ∀ i, i < 64 → wr.cell? ⟨ge, 64 * k + i, none⟩ = some (.int .u8 (B (((((endS xs).take L).drop (64 * k)).take 64).getD i 0))) := fun i hi => by
              rw [endS_piece _ _ _ _ hi (by omega)]
              exact hE.byte _ (by rw [length_endS]; omega)
            have HC := Lib.hid (absorb31 (w.heap.size + 1) (absN St ((endS xs).take L) k) hS ge (64 * k) c2 ((((endS xs).take L).drop (64 * k)).take 64) hbs z2 (by omega) wr ((HT1.out.below hm.old (Nat.le_refl _)).tab) hm.s hce)
            obtain ⟨m2, hm2⟩ : ∃ m2, m2 = L - 64 * k := ⟨_, rfl⟩
            rw [← hm2] at z1 ⊢
            have HM2 := Lib.hid hm2
            have HX := Lib.hid (⟨hE, hm⟩ : _ ∧ _)
            have HH := Lib.hid (⟨hk, hc2, hL3, hlt⟩ : _ ∧ _ ∧ _ ∧ _)
            have y1 : (64 : Int) ≤ (m2 : Int) := by omega
            have y2 : (64 : Int) ≤ (c2 : Int) := by omega
            have y3 : (0 : Int) < (m2 : Int) := by omega
            have y4 : m2 ≤ c2 := by omega
            clear hS hbs hce hm2 hE hm hc2 hk ho hL3 hlt
            go_wp2_with (go_at_call 31; refine HC.out.mono ?_; rintro e w2 ⟨rfl, hs2, hg2⟩)
            have hh := HH.out
            have hm2 := HM2.out
            refine ⟨⟨k + 1, if c2 = 64 then 64 * k else 64 * k + 64, c2 - 64, by rw [show m2 - 64 = L - 64 * (k + 1) by omega]; by_cases h : c2 = 64 <;> simp [h], by omega, fun h => ⟨by split <;> omega, by omega⟩, (HX.out.1).grown hg2 (by simp; omega), HX.out.2.next hs2 hg2⟩, by simp [lenV]; omega⟩
          · have hz : L - 64 * k = 0 := by omega
            rw [hz]
            have hkL : k = L / 64 := by have := HL2'.out; omega
            obtain ⟨Z, hZ⟩ : ∃ Z, Z = absN St ((endS xs).take L) k := ⟨_, rfl⟩
            rw [← hZ] at hm
            have lZ : Z.length = 8 := by rw [hZ, length_absN, HKST.out, length_absN]; rfl
            have HZZ : Hid (sumS xs = outD Z 8) := by
              show _ = _
              unfold sumS
              rw [hZ, hkL, HLL.out, HKST.out]
            have LZ := Lib.hid lZ
            have HSZ := Lib.hid (show (Tryd.prog.info? 58).map (·.size) = some (Z.map W).toArray.size by rw [size58]; simp [lZ])
            have HM3 := Lib.hid hm
            clear hZ lZ hm hE ho hz hkL hk hlt HKST HLL HL2'
            go_wp2_with ((with_reducible refine at_load 58 ?_); refine wpList_load_row rfl 58 _ rfl (w.heap.size + 1) rfl 58 _ (0, 0) _ HM3.out.s Tryd.underlying58 rfl HSZ.out ?_)
            go_loopw [54] (fun i wx => ∃ k : Nat, k ≤ 8 ∧ i = .int .i64 k ∧ Blk wx w.heap.size 33 ((outD Z k).map Y) ∧ Below w.heap.size w wx) (fun i _ => 8 - (intOf i).toNat)
            case atStart => exact ⟨0, by omega, rfl, HM3.out.d, HM3.out.old⟩
            case round =>
              clear HM3
              obtain ⟨k, hk, rfl, hd, hb⟩ := hrel
              by_cases hlt : k < 8
              · have k6 : (k : Int) < 8 := by omega
                have hix := run_index 58 50 8 Tryd.underlying58 Tryd.underlying50 size50 Z LZ.out k hlt
                have t4 := toNat4 k
                have t5 : (4 * (k : Int) + 4).toNat = 4 * k + 4 := by omega
                have a1 : (0 : Int) ≤ 4 * (k : Int) := by omega
                have a2 : 4 * (k : Int) ≤ 4 * (k : Int) + 4 := by omega
                have a3 : 4 * (k : Int) + 4 ≤ 32 := by omega
                have a4 : (0 : Int) ≤ 4 * (k : Int) + 4 := by omega
                have u1 := U_nonneg (Z.getD k 0)
                have u2 := U_lt (Z.getD k 0)
                obtain ⟨z, hz⟩ : ∃ z, z = Z.getD k 0 := ⟨_, rfl⟩
                rw [← hz] at hix u1 u2
                have u3 : IntKind.u64.wrap (U z) = U z := by rw [IntKind.wrap_u64]; omega
                have a7 : ¬ 32 = 4 * k := by omega
                have HC := Lib.hid (put32 w.heap.size (4 * k) 4 (32 - 4 * k) 33 (outD Z k) (by omega) (by rw [length_outD]; omega) (U z) u1 (by omega) wr hd)
                have HB := Lib.hid hb
                have HZ' := Lib.hid hz
                clear hd hb hz
                go_wp2_with (go_at_call 32; refine HC.out.mono ?_; rintro e w2 ⟨rfl, hd2, hg2⟩)
                refine ⟨⟨k + 1, by omega, by go_num, ?_, below_only HB.out HB.out.size hg2 (Nat.le_refl _)⟩, by simp [intOf]; omega⟩
                simp only [outD]
                rw [← HZ'.out]
                exact hd2
              · obtain rfl : k = 8 := by omega
                have HD := Lib.hid hd
                have HB := Lib.hid hb
                have HS33 := Lib.hid (show (Tryd.prog.info? 33).map (·.size) = some ((outD Z 8).map Y).toArray.size by rw [size33]; simp [length_outD])
                have HSA := Lib.hid (Y_all (outD Z 8))
                rw [show ((8 : Nat) : Int) = 8 from rfl]
                clear hd hb hk hlt
                go_wp2_with (first
                  | ((with_reducible refine at_load 33 ?_); refine wpList_load_row rfl 33 _ rfl w.heap.size rfl 33 _ (0, 0) _ HD.out Tryd.underlying33 rfl HS33.out ?_)
                  | ((with_reducible refine at_store 33 ?_); refine wpList_store_row rfl 33 _ _ rfl w.heap.size _ rfl rfl 33 _ HD.out HS33.out rfl HSA.out ?_))
                refine bodyPost_ret (results_cell_row rfl _ _ w.heap.size 33 ((outD Z 8).map Y).toArray (0, 0) _ rfl (setRow_heap _ w.heap.size _ _ 33 _ HD.out) Tryd.underlying33 rfl HS33.out) rfl ?_
                exact ⟨by rw [HZZ.out], below_setRow HB.out (Nat.le_refl _) _⟩
end Go.Proofs.YtbmjjmianhjfiaaDoor
