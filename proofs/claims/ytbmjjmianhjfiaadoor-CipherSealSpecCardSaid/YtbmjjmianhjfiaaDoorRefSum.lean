/- What the reference's Sum and Tagged return: the program's hash. -/
import Derived.Test.YtbmjjmianhjfiaaDoorShaLaw
import Derived.Test.YtbmjjmianhjfiaaDoorLawIn
import Derived.Test.YtbmjjmianhjfiaaDoorPlaces
namespace Go.Proofs.YtbmjjmianhjfiaaDoor
open Go.RowKit
attribute [local irreducible] sumS

theorem Rd.setRow {w : World} {gp o g : Nat} {xs : List (BitVec 8)} {cs : Array Value} (h : Rd w (some ⟨gp, o, none⟩) xs) (hne : gp ≠ g) : Rd (w.setRow g cs) (some ⟨gp, o, none⟩) xs := fun hn => by
  obtain ⟨b, off, e, hc⟩ := h hn
  injection e with e
  injection e with e1 e2
  subst e1; subst e2
  exact ⟨gp, o, rfl, fun i hi => (World.cell?_of_block (setRow_other _ _ _ _ hne)).trans (hc i hi)⟩
/-- Memory in the reference's Sum. -/
structure In45 (w0 : World) (gp : Nat) (ps : List (BitVec 8)) (S : List (BitVec 32)) (w : World) : Prop where
  s : Words w (w0.heap.size + 1) 57 S
  z : Blk w w0.heap.size 33 ((zeroB 32).map Y)
  p : Rd w (some ⟨gp, 0, none⟩) ps
  old : Below w0.heap.size w0 w
section
variable {w0 w w' : World} {gp : Nat} {ps : List (BitVec 8)} {S S' : List (BitVec 32)}
theorem In45.kept (h : In45 w0 gp ps S w) (hb : Below w.heap.size w w') : In45 w0 gp ps S w' := ⟨Blk.kept h.s hb, h.z.kept hb, h.p.kept hb, h.old.trans (hb.mono h.old.size)⟩
theorem In45.drew (h : In45 w0 gp ps S w) : In45 w0 gp ps S w.drew := h.kept (Below.refl _ w).drew
theorem In45.rs (h : In45 w0 gp ps S w) : w.rangeAt (w0.heap.size + 1) 0 (S.map W) := fun j v hj => by rw [Nat.zero_add, Blk.at h.s]; exact hj
theorem In45.turn (h : In45 w0 gp ps S w) (hg : w0.heap.size + 2 ≤ gp) : In45 w0 gp ps S' (w.setRow (w0.heap.size + 1) (S'.map W).toArray) :=
  ⟨setRow_heap _ (w0.heap.size + 1) _ _ 57 _ h.s, (setRow_other _ _ _ _ (by omega)).trans h.z, h.p.setRow (by omega), below_setRow h.old (by omega) _⟩
end
theorem start_val : (startS.map W).toArray = #[.int .u32 1779033703, .int .u32 3144134277, .int .u32 1013904242, .int .u32 2773480762, .int .u32 1359893119, .int .u32 2600822924, .int .u32 528734635, .int .u32 1541459225] := by kernel_rfl

set_option maxRecDepth 100000 in
set_option maxHeartbeats 4000000 in
theorem sum45 (A : Option Addr) (n c : Nat) (xs : List (BitVec 8)) (w : World) (hr : Rd w A xs) (hn : xs.length = n) (hs : n ≤ 35184372088800) :
    Calls Tryd.prog 45 #[.slice A n c] w fun e w' => e = .returned (.agg ((sumS xs).map Y).toArray) ∧ Below w.heap.size w w' := by
  have hz1 : Blk ((w.alloc (.cells ((zeroB 32).map Y).toArray 33)).alloc (.cells (List.replicate 8 (Value.int .u32 0)).toArray 57)) (w.heap.size + 1) 57 (List.replicate 8 (Value.int .u32 0)) := by
    simpa using Blk.new (w.alloc (.cells ((zeroB 32).map Y).toArray 33)) 57 (List.replicate 8 (Value.int .u32 0))
  have HZ1 := Lib.hid hz1
  have HSS := Lib.hid (show (Tryd.prog.info? 57).map (·.size) = some (startS.map W).toArray.size by kernel_rfl)
  have HLZ := Lib.hid (show (List.replicate 8 (Value.int .u32 0)).toArray.size = (startS.map W).toArray.size by kernel_rfl)
  have HSA := Lib.hid (W_all startS)
  have HI := Lib.hid (show Words (((w.alloc (.cells ((zeroB 32).map Y).toArray 33)).alloc (.cells (List.replicate 8 (Value.int .u32 0)).toArray 57)).setRow (w.heap.size + 1) (startS.map W).toArray) (w.heap.size + 1) 57 startS ∧ Blk (((w.alloc (.cells ((zeroB 32).map Y).toArray 33)).alloc (.cells (List.replicate 8 (Value.int .u32 0)).toArray 57)).setRow (w.heap.size + 1) (startS.map W).toArray) w.heap.size 33 ((zeroB 32).map Y) ∧ Below w.heap.size w (((w.alloc (.cells ((zeroB 32).map Y).toArray 33)).alloc (.cells (List.replicate 8 (Value.int .u32 0)).toArray 57)).setRow (w.heap.size + 1) (startS.map W).toArray) from
    ⟨setRow_heap _ (w.heap.size + 1) _ _ 57 _ hz1, (setRow_other _ _ _ _ (by omega)).trans ((Blk.new w 33 _).alloc _), below_setRow (((Below.refl _ w).alloc (Nat.le_refl _) _).alloc (by simp) _) (by omega) _⟩)
  rw [start_val] at HSS HLZ HSA HI
  have HR := Lib.hid (⟨hr, hn⟩ : _ ∧ _)
  obtain ⟨L, hL⟩ : ∃ L, L = (padS xs).length := ⟨_, rfl⟩
  have hLT : L = 64 * (n / 64 + endLen xs / 64) := by rw [hL, pad_len, hn]
  have hLb : L ≤ n + 200 := by rw [hL, length_padS, hn]; unfold padZ; omega
  obtain ⟨T, hT⟩ : ∃ T, T = n / 64 + endLen xs / 64 := ⟨_, rfl⟩
  rw [← hT] at hLT
  have HLL := Lib.hid (⟨hL, hT, hLT⟩ : _ ∧ _ ∧ _)
  have hLi : (L : Int) ≤ 35184372089000 := by omega
  clear hL hT hLT
  clear hz1 hr hn
  go_enter Tryd.func45, Tryd.ntmps45
  go_wp2_with (first
    | ((with_reducible refine at_store 57 ?_); (refine wpList_store_row rfl 57 _ _ rfl (w.heap.size + 1) _ rfl rfl 57 _ HZ1.out HSS.out HLZ.out HSA.out ?_); refine forget_wpl (fun w1 => Words w1 (w.heap.size + 1) 57 startS ∧ Blk w1 w.heap.size 33 ((zeroB 32).map Y) ∧ Below w.heap.size w w1) HI.out ?_; rintro w1 ⟨h1, h2, h3⟩; have H1 := Lib.hid (⟨h1, h2, h3⟩ : _ ∧ _ ∧ _); have HP := Lib.hid (padded46 A n c xs w1 (HR.out.1.below h3 (Nat.le_refl _)) HR.out.2 hs); clear h1 h2 h3)
    | (go_at_call 46; (with_reducible refine HP.out.mono ?_); rintro e w2 ⟨v, rfl, hv, hb2⟩; obtain ⟨gp, cp, hve, hcp, hmp, hgp, -, hrp⟩ := own_shape hv (by rw [length_padS]; omega); rw [← HLL.out.1] at hve hcp; subst hve; have hlt1 := Blk.lt H1.out.1; have HI2 := Lib.hid (show In45 w gp (padS xs) startS w2 from ⟨Blk.kept H1.out.1 hb2, H1.out.2.1.kept hb2, hrp, H1.out.2.2.trans (hb2.mono H1.out.2.2.size)⟩); clear hv hb2 hrp))
  have hgp2 : w.heap.size + 2 ≤ gp := by omega
  have hu57 := Tryd.underlying57
  go_loopw [5] (fun i wr => ∃ k j : Nat, k ≤ T ∧ j = 64 * k ∧ i = .int .i64 j ∧ In45 w gp (padS xs) (absN startS (padS xs) k) wr) (fun i _ => L - (intOf i).toNat)
  case atStart => exact ⟨0, 0, by omega, rfl, rfl, HI2.out⟩
  case round =>
    obtain ⟨k, j, hk, hj, rfl, hm⟩ := hrel
    have HM := Lib.hid hm
    have lS : (absN startS (padS xs) k).length = 8 := by rw [length_absN]; rfl
    have HLS := Lib.hid lS
    clear hm
    by_cases hlt : k < T
    · have hL3 := HLL.out.2.2
      have j1 : (j : Int) < (L : Int) := by omega
      have j2 : (j : Int) + 64 ≤ (L : Int) := by omega
      have j3 : (j : Int) + 64 ≤ (cp : Int) := by omega
      have hsl := slice_mid (some ⟨gp, 0, none⟩) L cp j (j + 64) (by omega) (by omega) hcp (by omega) (j : Int) ((j : Int) + 64) rfl (by omega)
      rw [show j + 64 - j = 64 by omega, show (some (⟨gp, 0, none⟩ : Addr)).map (·.add j) = some ⟨gp, j, none⟩ by simp only [Option.map_some]; unfold Addr.add; split <;> simp_all] at hsl
      have HJ := Lib.hid hj
      obtain ⟨Sk, hSk⟩ : ∃ Sk, Sk = absN startS (padS xs) k := ⟨_, rfl⟩
      rw [← hSk] at lS HM
      have HC := fun nq => block47 Sk lS gp j (cp - j) (((padS xs).drop j).take 64) (by omega) (wr.drewN nq) (fun i hi => by
        have h := HM.out.p.cell (j + i) (by rw [← HLL.out.1]; omega)
        rw [Nat.zero_add] at h
        have e : (((padS xs).drop j).take 64).getD i 0 = (padS xs).getD (j + i) 0 := by
          simp only [List.getD]; rw [List.getElem?_take, if_pos hi, List.getElem?_drop]
        rw [e]; exact h)
      have e8 : (Sk.map W).toArray = #[.int .u32 (U (Sk.getD 0 0)), .int .u32 (U (Sk.getD 1 0)), .int .u32 (U (Sk.getD 2 0)), .int .u32 (U (Sk.getD 3 0)), .int .u32 (U (Sk.getD 4 0)), .int .u32 (U (Sk.getD 5 0)), .int .u32 (U (Sk.getD 6 0)), .int .u32 (U (Sk.getD 7 0))] := by
        conv => lhs; rw [list8 Sk lS]
        rfl
      rw [e8] at HC
      have HC := Lib.hid HC
      have HSK := Lib.hid hSk
      have HS8 := Lib.hid (show (Tryd.prog.info? 57).map (·.size) = some ((absS Sk (((padS xs).drop j).take 64)).map W).toArray.size by rw [size57]; simp [length_absS, lS])
      have HL8 := Lib.hid (show (Sk.map W).toArray.size = ((absS Sk (((padS xs).drop j).take 64)).map W).toArray.size by simp [length_absS])
      have HA8 := Lib.hid (W_all (absS Sk (((padS xs).drop j).take 64)))
      have d0 := Words.at HM.out.s 0 (by omega)
      have d1 := Words.at HM.out.s 1 (by omega)
      have d2 := Words.at HM.out.s 2 (by omega)
      have d3 := Words.at HM.out.s 3 (by omega)
      have d4 := Words.at HM.out.s 4 (by omega)
      have d5 := Words.at HM.out.s 5 (by omega)
      have d6 := Words.at HM.out.s 6 (by omega)
      have d7 := Words.at HM.out.s 7 (by omega)
      have hwrp : IntKind.i64.wrap ((j : Int) + 64) = (j : Int) + 64 := by rw [IntKind.wrap_i64]; omega
      clear lS hL3 hj e8 hSk
      go_wp2
      refine wp_region_quiet_tail 6 (by kernel_rfl) (by kernel_rfl) ?_
      simp only [List.take_succ_cons, List.take_zero, List.drop_succ_cons, List.drop_zero]
      repeat (quiet_step (fail))
      refine wpQuiet_nil ?_
      rintro _ ⟨nq, rfl⟩
      clear d0 d1 d2 d3 d4 d5 d6 d7
      go_wp2_with (first
        | (go_at_call 47; refine (HC.out nq).mono ?_; rintro e w5 ⟨rfl, hb5⟩; have HM5 := Lib.hid (HM.out.kept ((below_drewN (Below.refl _ wr) nq).trans hb5)); clear hb5)
        | ((with_reducible refine at_store 57 ?_); (refine wpList_store_row rfl 57 _ _ rfl (w.heap.size + 1) _ rfl rfl 57 _ HM5.out.s HS8.out HL8.out HA8.out ?_)))
      have hL3 := HLL.out.2.2
      have hJ := HJ.out
      refine ⟨⟨k + 1, j + 64, by omega, by omega, by congr 1, ?_⟩, by simp [intOf]; omega⟩
      rw [show absN startS (padS xs) (k + 1) = absS Sk (((padS xs).drop j).take 64) by
        show absS (absN startS (padS xs) k) (((padS xs).drop (64 * k)).take 64) = _
        rw [← HSK.out, ← HJ.out]]
      exact HM5.out.turn hgp2
    · obtain rfl : k = T := by omega
      have hjL : j = L := by have := HLL.out.2.2; omega
      subst hjL
      obtain ⟨S, hS⟩ : ∃ S, S = absN startS (padS xs) k := ⟨_, rfl⟩
      rw [← hS] at lS HM
      have HFD := Lib.hid (show refD S 32 = sumS xs by
        rw [refD_eq, hS, HLL.out.2.1]
        have h := abs_pad xs
        rw [HR.out.2] at h
        rw [h]
        unfold sumS
        rw [HR.out.2])
      have HLS := Lib.hid lS
      have HZ2 := Lib.hid (Blk.new wr 33 ((zeroB 32).map Y))
      have HS33 := Lib.hid (show (Tryd.prog.info? 33).map (·.size) = some ((zeroB 32).map Y).toArray.size by rw [size33]; simp [length_zeroB])
      have HA33 := Lib.hid (Y_all (zeroB 32))
      clear hS lS hlt hk hj
      obtain ⟨wb, rfl⟩ : ∃ wb : World, wb = wr := ⟨_, rfl⟩
      go_wp2_with ((with_reducible refine at_store 33 ?_); (refine wpList_store_row rfl 33 _ _ rfl wb.heap.size ((zeroB 32).map Y).toArray rfl rfl 33 _ HZ2.out HS33.out rfl HA33.out ?_); refine forget_wpl (fun w3 => Blk w3 wb.heap.size 33 ((zeroB 32).map Y) ∧ Below wb.heap.size wb w3) ⟨setRow_heap _ _ _ _ 33 _ HZ2.out, below_setRow ((Below.refl _ wb).alloc (Nat.le_refl _) _) (Nat.le_refl _) _⟩ ?_; rintro w3 ⟨hz3, hb3⟩)
      have HZ3 := Lib.hid (⟨hz3, hb3⟩ : _ ∧ _)
      clear hz3 hb3
      go_loopw [7] (fun i wx => ∃ k : Nat, k ≤ 32 ∧ i = .int .i64 k ∧ Blk wx wb.heap.size 33 ((refD S k).map Y) ∧ Below wb.heap.size wb wx) (fun i _ => 32 - (intOf i).toNat)
      case atStart => exact ⟨0, by omega, rfl, HZ3.out.1, HZ3.out.2⟩
      case round =>
        obtain ⟨k, hk, rfl, hd, hb⟩ := hrel
        by_cases hlt : k < 32
        · have k1 : (k : Int) < 32 := by omega
          have e0 : (0 : Int) ≤ (k : Int) / 4 := by omega
          have e1 : (k : Int) / 4 < 8 := by omega
          have e2 : ((k : Int) / 4).toNat = k / 4 := by omega
          have f0 : (0 : Int) ≤ 24 - 8 * ((k : Int) % 4) := by omega
          have f1 : 24 - 8 * ((k : Int) % 4) < 32 := by omega
          have f2 : (24 - 8 * ((k : Int) % 4)).toNat = 24 - 8 * (k % 4) := by omega
          have f3 : (0 : Int) ≤ (k : Int) % 4 := by omega
          have f4 : (k : Int) % 4 < 4 := by omega
          have lR := length_refD S k
          obtain ⟨x, hx⟩ : ∃ x, x = S.getD (k / 4) 0 := ⟨_, rfl⟩
          obtain ⟨y, hy⟩ : ∃ y, y = byteOf (U x / (2 : Int) ^ (24 - 8 * (k % 4))) := ⟨_, rfl⟩
          have hv : U x / (2 : Int) ^ (24 - 8 * (k % 4)) % (256 : Int) = B y := by rw [hy, ← byteOf_spec]
          have cx := Words.at (show Words wr (w.heap.size + 1) 57 S from Blk.kept HM.out.s hb) (k / 4) (by rw [HLS.out]; omega)
          rw [← hx] at cx
          have cc := hd.byte k (by omega)
          have cf := hd.free k
          have HD := Lib.hid (⟨hd, hb, hx, hy⟩ : _ ∧ _ ∧ _ ∧ _)
          clear hd hb hx hy lR
          go_wp2
          refine ⟨⟨k + 1, by omega, by go_num, ?_, HD.out.2.1.setCell (p := ⟨wb.heap.size, k, none⟩) (Nat.le_refl _) _⟩, by simp [intOf]; omega⟩
          have h := HD.out.1.put k (Y y)
          rw [← List.map_set] at h
          simp only [refD]
          rw [← HD.out.2.2.1, ← HD.out.2.2.2]
          exact h
        · obtain rfl : k = 32 := by omega
          rw [show ((32 : Nat) : Int) = 32 from rfl]
          rw [HFD.out] at hd
          have HD := Lib.hid hd
          have HG0 := Lib.hid (HM.out.z.kept hb)
          have HO0 := Lib.hid (HM.out.old.trans (hb.mono HM.out.old.size))
          have HSX := Lib.hid (show (Tryd.prog.info? 33).map (·.size) = some ((sumS xs).map Y).toArray.size by rw [size33]; simp [length_sumS])
          have HLX := Lib.hid (show ((zeroB 32).map Y).toArray.size = ((sumS xs).map Y).toArray.size by simp [length_sumS, length_zeroB])
          have HAX := Lib.hid (Y_all (sumS xs))
          clear hd hb hk hlt
          go_wp2_with (first
            | ((with_reducible refine at_load 33 ?_); refine wpList_load_row rfl 33 _ rfl wb.heap.size rfl 33 _ (0, 0) _ HD.out Tryd.underlying33 rfl HSX.out ?_)
            | ((with_reducible refine at_store 33 ?_); (refine wpList_store_row rfl 33 _ _ rfl w.heap.size _ rfl rfl 33 _ HG0.out HSX.out HLX.out HAX.out ?_)))
          refine bodyPost_ret (results_cell_row rfl _ _ w.heap.size 33 _ (0, 0) _ rfl (setRow_heap _ w.heap.size _ _ 33 _ HG0.out) Tryd.underlying33 rfl HSX.out) rfl ?_
          exact ⟨rfl, below_setRow HO0.out (Nat.le_refl _) _⟩
end Go.Proofs.YtbmjjmianhjfiaaDoor
