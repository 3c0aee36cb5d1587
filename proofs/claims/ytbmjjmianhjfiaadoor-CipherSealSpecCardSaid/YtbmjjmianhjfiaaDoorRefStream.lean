/- What the reference's Stream returns: the key stream laid over the bytes, byte by byte. -/
import Derived.Test.YtbmjjmianhjfiaaDoorRefBlock
import Derived.Test.YtbmjjmianhjfiaaDoorLawIn
import Derived.Test.YtbmjjmianhjfiaaDoorStreamS
namespace Go.Proofs.YtbmjjmianhjfiaaDoor
open Go.RowKit
attribute [local irreducible] sumS tagged

/-- What a function that boxes a key and a nonce holds. -/
structure Bx (w0 : World) (K N : List (BitVec 8)) (w : World) : Prop where
  key : Blk w w0.heap.size 23 (K.map Y)
  non : Blk w (w0.heap.size + 1) 25 (N.map Y)
  old : Below w0.heap.size w0 w
theorem Bx.kept {w0 w w' : World} {K N : List (BitVec 8)} (h : Bx w0 K N w) (hb : Below w.heap.size w w') : Bx w0 K N w' := ⟨h.key.kept hb, h.non.kept hb, h.old.trans (hb.mono h.old.size)⟩
theorem Bx.start (w : World) (K N : List (BitVec 8)) : Bx w K N ((w.alloc (.cells (K.map Y).toArray 23)).alloc (.cells (N.map Y).toArray 25)) := ⟨boxK w K N, boxN w K N, boxB w K N⟩

/-- Memory in its loop. -/
structure In18 (K N xs : List (BitVec 8)) (wb : World) (k : Nat) (o x : Value) (w : World) : Prop where
  res : Own w wb.heap.size o ((streamS K N xs).take k)
  blk : k % 64 ≠ 0 → Own w wb.heap.size x (blockS K N (BitVec.ofNat 32 (1 + k / 64))) ∧ x.ownBlock ≠ o.ownBlock
  old : Below wb.heap.size wb w
theorem take_at (S : List (BitVec 8)) (k : Nat) (hk : k < S.length) : S.take (k + 1) = S.take k ++ [S.getD k 0] := by
  rw [List.take_succ_eq_append_getElem hk]; simp [hk]
/-- One round: the byte laid behind. -/
theorem In18.next {K N xs : List (BitVec 8)} {wb w w' : World} {k : Nat} {o o' x : Value} {ob : Obj} (hold : Below wb.heap.size wb w) (hx : Own w wb.heap.size x (blockS K N (BitVec.ofNat 32 (1 + k / 64)))) (hne : x.ownBlock ≠ o.ownBlock) (hout : Own w wb.heap.size o ((streamS K N xs).take k))
    (hk : k < xs.length) (ho : Own w' wb.heap.size o' ((streamS K N xs).take k ++ [(streamS K N xs).getD k 0])) (hg : (w.alloc ob).grownBy w' o.ownBlock) (hat : o'.ownBlock = o.ownBlock ∨ o'.ownBlock = some (w.alloc ob).heap.size) : In18 K N xs wb (k + 1) o' x w' := by
  have hs := hold.size
  refine ⟨by rw [take_at _ _ (by rw [length_streamS]; exact hk)]; exact ho, fun h => ?_, below_app (hold.alloc hs ob) (by simp; omega) (hout.alloc ob) (Nat.le_refl _) hg⟩
  have e : (k + 1) / 64 = k / 64 := by omega
  rw [e]
  refine ⟨(hx.alloc ob).kept hg (.inr hne), ?_⟩
  rcases hat with h1 | h1
  · rw [h1]; exact hne
  · rw [h1]; intro h2
    have := (World.ownsRow.lt hx _ h2).2
    simp at this
    omega
theorem In18.more {K N xs : List (BitVec 8)} {wb w w' : World} {k : Nat} {o x : Value} (h : In18 K N xs wb k o x w) (_hk : k < xs.length) {x' : Value} (hx : Own w' w.heap.size x' (blockS K N (BitVec.ofNat 32 (1 + k / 64)))) (hb : Below w.heap.size w w') :
    Below wb.heap.size wb w' ∧ Own w' wb.heap.size x' (blockS K N (BitVec.ofNat 32 (1 + k / 64))) ∧ x'.ownBlock ≠ o.ownBlock ∧ Own w' wb.heap.size o ((streamS K N xs).take k) := by
  refine ⟨h.old.trans (hb.mono h.old.size), hx.mono h.old.size, fun e => ?_, h.res.below hb⟩
  obtain ⟨g, cap, rfl, -, -, hg, -⟩ := hx.some (by rw [length_blockS]; omega)
  have := (World.ownsRow.lt h.res g (by rw [← e]; rfl)).2
  omega

set_option maxRecDepth 100000 in
set_option maxHeartbeats 2000000 in
theorem Stream18 (K N : List (BitVec 8)) (hK : K.length = 32) (hN : N.length = 12) (A : Option Addr) (n c : Nat) (xs : List (BitVec 8)) (w : World) (hr : Rd w A xs) (hn : xs.length = n) (hsz : n ≤ 65536) :
    Calls Tryd.prog 18 #[.agg (K.map Y).toArray, .agg (N.map Y).toArray, .slice A n c] w fun e w' => ∃ v, e = .returned (.tuple #[v, .int .i64 0]) ∧ Own w' w.heap.size v (streamS K N xs) ∧ Below w.heap.size w w' := by
  have HX := Lib.hid (Bx.start w K N)
  have HSK := Lib.hid (sz23 hK)
  have HSN := Lib.hid (sz25 hN)
  have HKN := Lib.hid (⟨hK, hN⟩ : _ ∧ _)
  have HR := Lib.hid (⟨hr, hn⟩ : _ ∧ _)
  have i0 : ¬ (65536 : Int) < (n : Int) := by omega
  have i1 : (n : Int) ≤ 65536 := by omega
  clear hK hN hr hn
  go_enter Tryd.func18, Tryd.ntmps18
  have hbl := slice_lit0
  go_wp2
  obtain ⟨wb, hwb⟩ : ∃ wb, wb = (w.alloc (.cells (K.map Y).toArray 23)).alloc (.cells (N.map Y).toArray 25) := ⟨_, rfl⟩
  rw [← hwb] at HX ⊢
  have hws : wb.heap.size = w.heap.size + 1 + 1 := by rw [hwb]; simp
  have hsw : w.heap.size ≤ wb.heap.size := by omega
  rw [← hws]
  have HWS := Lib.hid (⟨hwb, hws⟩ : _ ∧ _)
  clear hwb hws hbl
  go_loopw [8, 9, 10] (fun o x i wr => ∃ k : Nat, k ≤ n ∧ i = .int .i64 k ∧ In18 K N xs wb k o x wr) (fun _ _ i _ => n - (intOf i).toNat)
  case atStart => exact ⟨0, by omega, rfl, (Own.make wb wb.heap.size 0 (Nat.le_refl _) (by simp [maxLen])).alloc _, fun h => absurd rfl h, ((Below.refl _ wb).alloc (Nat.le_refl _) _).alloc (by simp) _⟩
  case round =>
    obtain ⟨k, hk, rfl, hm⟩ := hrel
    by_cases hlt : k < n
    · have k1 : (k : Int) < (n : Int) := by omega
      have m0 : (0 : Int) ≤ (k : Int) % 64 := by omega
      have m1 : (k : Int) % 64 < 64 := by omega
      have m2 : ((k : Int) % 64).toNat = k % 64 := by omega
      have mt : Int.tmod (k : Int) 64 = (k : Int) % 64 := Int.tmod_eq_emod_of_nonneg (by omega)
      have hn := HR.out.2
      obtain ⟨b, off, rfl, hcell⟩ := HR.out.1 (by omega)
      obtain ⟨xa, hxa⟩ : ∃ xa, xa = xs.getD k 0 := ⟨_, rfl⟩
      obtain ⟨xb, hxb⟩ : ∃ xb, xb = (blockS K N (BitVec.ofNat 32 (1 + k / 64))).getD (k % 64) 0 := ⟨_, rfl⟩
      obtain ⟨y, hy⟩ : ∃ y, y = (streamS K N xs).getD k 0 := ⟨_, rfl⟩
      have hxr : bits .xor .u8 (B xa) (B xb) = B y := by rw [B_xor, hy, hxa, hxb]; exact congrArg B (getD_streamS K N xs k (by omega)).symm
      have HYY := Lib.hid hy
      have HXB := Lib.hid hxb
      have hc := hcell k (by omega)
      rw [← hxa] at hc
      clear hxa hxb hy
      have hab : b < w.heap.size := block_lt_of_cell hc
      have CA := Lib.hid (show ∀ w', Below wb.heap.size wb w' → w'.cell? ⟨b, off + k, none⟩ = some (.int .u8 (B xa)) from fun w' h => (h.cell (p := ⟨b, off + k, none⟩) (Nat.lt_of_lt_of_le hab hsw)).trans ((HX.out.old.cell (p := ⟨b, off + k, none⟩) hab).trans hc))
      have hsz := hm.old.size
      clear hcell hn hc
      have BX := Lib.hid (HX.out.kept hm.old)
      by_cases hq : k % 64 = 0
      · have t0 : ((k : Int) % 64 == 0) = true := by
          have : (k : Int) % 64 = 0 := by omega
          rw [this]; rfl
        have HCB := Lib.hid (block28 K N HKN.out.1 HKN.out.2 (1 + (k : Int) / 64) (by omega) (by omega) wr)
        have HI := Lib.hid hm
        clear hm hq
        go_wp2_with (first
          | ((with_reducible refine at_load 23 ?_); refine wpList_load_row rfl 23 _ rfl w.heap.size rfl 23 _ (0, 0) _ BX.out.key Tryd.underlying23 rfl HSK.out ?_)
          | ((with_reducible refine at_load 25 ?_); refine wpList_load_row rfl 25 _ rfl (w.heap.size + 1) rfl 25 _ (0, 0) _ BX.out.non Tryd.underlying25 rfl HSN.out ?_)
          | (go_at_call 28; (with_reducible refine HCB.out.mono ?_); rintro e w5 ⟨v5, rfl, hv5, hb5⟩))
        rw [show BitVec.ofInt 32 (1 + (k : Int) / 64) = BitVec.ofNat 32 (1 + k / 64) by rw [show 1 + (k : Int) / 64 = ((1 + k / 64 : Nat) : Int) by omega]; exact BitVec.ofInt_natCast ..] at hv5
        have HM := Lib.hid (HI.out.more (by have := HR.out.2; omega) hv5 hb5)
        obtain ⟨gx, cx, rfl, -, -, -, -⟩ := hv5.some (by rw [length_blockS]; omega)
        have lb := length_blockS K N (BitVec.ofNat 32 (1 + k / 64))
        rw [lb] at HM ⊢
        have CX := Lib.hid (show ∀ w', Own w' wb.heap.size (.slice (some ⟨gx, 0, none⟩) 64 cx) (blockS K N (BitVec.ofNat 32 (1 + k / 64))) → w'.cell? ⟨gx, k % 64, none⟩ = some (.int .u8 (B xb)) from fun w' h => by
          rw [HXB.out]
          exact Own.cell (by rw [lb]; exact h) (k % 64) (by rw [lb]; omega))
        clear hv5 hb5 lb t0
        go_wp2
        refine wp_region_held_drew (S := (fun w' => Below wb.heap.size wb w' ∧ Own w' wb.heap.size (.slice (some ⟨gx, 0, none⟩) 64 cx) (blockS K N (BitVec.ofNat 32 (1 + k / 64))))) (by kernel_rfl) ⟨HM.out.1.drew, HM.out.2.1.drew⟩ (fun _ => ?_)
        refine held_pure (i := 0) u8 rfl (by kernel_rfl) (by kernel_rfl) (by kernel_rfl) (fun _ _ _ h => h) (fun _ _ => rfl) ⟨HM.out.1.drew, HM.out.2.1.drew⟩ ?_
        simp only [Act.put, List.setIfInBounds_toArray, List.set_cons_zero, List.set_cons_succ]
        refine held_pure (i := 1) (.slice (some ⟨b, off, none⟩) n c) rfl (by kernel_rfl) (by kernel_rfl) (by kernel_rfl) (fun _ _ _ h => h) (fun _ _ => rfl) ⟨HM.out.1.drew, HM.out.2.1.drew⟩ ?_
        simp only [Act.put, List.setIfInBounds_toArray, List.set_cons_zero, List.set_cons_succ]
        refine held_pure (i := 2) (.int .i64 k) rfl (by kernel_rfl) (by kernel_rfl) (by kernel_rfl) (fun _ _ _ h => h) (fun _ _ => rfl) ⟨HM.out.1.drew, HM.out.2.1.drew⟩ ?_
        simp only [Act.put, List.setIfInBounds_toArray, List.set_cons_zero, List.set_cons_succ]
        refine held_pure (i := 3) (.pointer (some ⟨b, off + k, none⟩)) rfl (by kernel_rfl) (by kernel_rfl) (by kernel_rfl) (fun _ _ _ h => h) (fun _ _ => by go_simp) ⟨HM.out.1.drew, HM.out.2.1.drew⟩ ?_
        simp only [Act.put, List.setIfInBounds_toArray, List.set_cons_zero, List.set_cons_succ]
        refine held_pure (i := 4) (.int .u8 (B xa)) rfl (by kernel_rfl) (by kernel_rfl) (by kernel_rfl) (fun _ _ _ h => h) (fun w' h => by have c1 := CA.out w' h.1; go_simp) ⟨HM.out.1.drew, HM.out.2.1.drew⟩ ?_
        simp only [Act.put, List.setIfInBounds_toArray, List.set_cons_zero, List.set_cons_succ]
        refine held_pure (i := 5) (.slice (some ⟨gx, 0, none⟩) 64 cx) rfl (by kernel_rfl) (by kernel_rfl) (by kernel_rfl) (fun _ _ _ h => h) (fun _ _ => rfl) ⟨HM.out.1.drew, HM.out.2.1.drew⟩ ?_
        simp only [Act.put, List.setIfInBounds_toArray, List.set_cons_zero, List.set_cons_succ]
        refine held_pure (i := 6) (.int .i64 k) rfl (by kernel_rfl) (by kernel_rfl) (by kernel_rfl) (fun _ _ _ h => h) (fun _ _ => rfl) ⟨HM.out.1.drew, HM.out.2.1.drew⟩ ?_
        simp only [Act.put, List.setIfInBounds_toArray, List.set_cons_zero, List.set_cons_succ]
        refine held_pure (i := 7) (.int .i64 ((k : Int) % 64)) rfl (by kernel_rfl) (by kernel_rfl) (by kernel_rfl) (fun _ _ _ h => h) (fun _ _ => by go_simp) ⟨HM.out.1.drew, HM.out.2.1.drew⟩ ?_
        simp only [Act.put, List.setIfInBounds_toArray, List.set_cons_zero, List.set_cons_succ]
        refine held_pure (i := 8) (.pointer (some ⟨gx, k % 64, none⟩)) rfl (by kernel_rfl) (by kernel_rfl) (by kernel_rfl) (fun _ _ _ h => h) (fun _ _ => by go_simp) ⟨HM.out.1.drew, HM.out.2.1.drew⟩ ?_
        simp only [Act.put, List.setIfInBounds_toArray, List.set_cons_zero, List.set_cons_succ]
        refine held_pure (i := 9) (.int .u8 (B xb)) rfl (by kernel_rfl) (by kernel_rfl) (by kernel_rfl) (fun _ _ _ h => h) (fun w' h => by have c2 := CX.out w' h.2; go_simp) ⟨HM.out.1.drew, HM.out.2.1.drew⟩ ?_
        simp only [Act.put, List.setIfInBounds_toArray, List.set_cons_zero, List.set_cons_succ]
        refine held_pure (i := 10) (.int .u8 (B y)) rfl (by kernel_rfl) (by kernel_rfl) (by kernel_rfl) (fun _ _ _ h => h) (fun _ _ => by go_simp) ⟨HM.out.1.drew, HM.out.2.1.drew⟩ ?_
        simp only [Act.put, List.setIfInBounds_toArray, List.set_cons_zero, List.set_cons_succ]
        refine held_step (i := 11) rfl (by kernel_rfl) (fun K' hK => ?_)
        go_wp2
        have HO2 := Lib.hid (⟨(HM.out.1.alloc HM.out.1.size (.cells #[Y y] 5)).drew, (HM.out.2.1.alloc (.cells #[Y y] 5)).drew, (HM.out.2.2.2.alloc (.cells #[Y y] 5)).drew⟩ : _ ∧ _ ∧ _)
        have HR2 := Lib.hid (show Rd (w5.alloc (.cells #[Y y] 5)).drew (some ⟨w5.heap.size, 0, none⟩) [y] from (Rd.block (xs := [y]) (Blk.new w5 5 [Y y])).drew)
        refine hK.out _ _ ⟨HO2.out.1, HO2.out.2.1⟩ ?_
        clear hK K'
        try simp only [Act.put, List.setIfInBounds_toArray, List.set_cons_zero, List.set_cons_succ]
        refine held_step (i := 12) rfl (by kernel_rfl) (fun K' hK => ?_)
        refine wp_app26 (.tmp 31) (.tmp 42) rfl wb.heap.size u8 ((streamS K N xs).take k) (some ⟨w5.heap.size, 0, none⟩) 1 1 [y] rfl rfl HO2.out.2.2 HR2.out rfl (by rw [List.length_take]; omega) HO2.out.1.size ?_
        intro v' w' hown' hg' hat'
        rw [HYY.out] at hown'
        refine hK.out _ _ ⟨below_app HO2.out.1 HO2.out.1.size HO2.out.2.2 (Nat.le_refl _) hg', HO2.out.2.1.kept hg' (.inr HM.out.2.2.1)⟩ ?_
        clear hK K'
        try simp only [Act.put, List.setIfInBounds_toArray, List.set_cons_zero, List.set_cons_succ]
        refine held_pure (i := 13) v' rfl (by kernel_rfl) (by kernel_rfl) (by kernel_rfl) (fun _ _ _ h => h) (fun _ _ => rfl) ⟨below_app HO2.out.1 HO2.out.1.size HO2.out.2.2 (Nat.le_refl _) hg', HO2.out.2.1.kept hg' (.inr HM.out.2.2.1)⟩ ?_
        simp only [Act.put, List.setIfInBounds_toArray, List.set_cons_zero, List.set_cons_succ]
        refine wpAnyH_done (by kernel_rfl) ?_ _
        go_wp2
        exact ⟨⟨k + 1, by omega, by go_num, In18.next (w := w5) HM.out.1 HM.out.2.1 HM.out.2.2.1 HM.out.2.2.2 (by have := HR.out.2; omega) hown' ⟨hg'.os, hg'.tape, hg'.output, hg'.size, hg'.block⟩ hat'⟩, by simp [intOf]; omega⟩

      · have t0 : ((k : Int) % 64 == 0) = false := by
          have : ¬ (k : Int) % 64 = 0 := by omega
          simpa using this
        have hx9 := (hm.blk hq).1
        obtain ⟨gx, cx, hve, -, -, -, -⟩ := hx9.some (by rw [length_blockS]; omega)
        rw [length_blockS] at hve
        subst hve
        have HM := Lib.hid (⟨hm.old, (hm.blk hq).1, (hm.blk hq).2, hm.res⟩ : _ ∧ _ ∧ _ ∧ _)
        have lb := length_blockS K N (BitVec.ofNat 32 (1 + k / 64))
        have CX := Lib.hid (show ∀ w', Own w' wb.heap.size (.slice (some ⟨gx, 0, none⟩) 64 cx) (blockS K N (BitVec.ofNat 32 (1 + k / 64))) → w'.cell? ⟨gx, k % 64, none⟩ = some (.int .u8 (B xb)) from fun w' h => by
          rw [HXB.out]
          exact Own.cell (by rw [lb]; exact h) (k % 64) (by rw [lb]; omega))
        clear hm hx9 lb hq
        go_wp2
        refine wp_region_held_drew (S := (fun w' => Below wb.heap.size wb w' ∧ Own w' wb.heap.size (.slice (some ⟨gx, 0, none⟩) 64 cx) (blockS K N (BitVec.ofNat 32 (1 + k / 64))))) (by kernel_rfl) ⟨HM.out.1.drew, HM.out.2.1.drew⟩ (fun _ => ?_)
        refine held_pure (i := 0) u8 rfl (by kernel_rfl) (by kernel_rfl) (by kernel_rfl) (fun _ _ _ h => h) (fun _ _ => rfl) ⟨HM.out.1.drew, HM.out.2.1.drew⟩ ?_
        simp only [Act.put, List.setIfInBounds_toArray, List.set_cons_zero, List.set_cons_succ]
        refine held_pure (i := 1) (.slice (some ⟨b, off, none⟩) n c) rfl (by kernel_rfl) (by kernel_rfl) (by kernel_rfl) (fun _ _ _ h => h) (fun _ _ => rfl) ⟨HM.out.1.drew, HM.out.2.1.drew⟩ ?_
        simp only [Act.put, List.setIfInBounds_toArray, List.set_cons_zero, List.set_cons_succ]
        refine held_pure (i := 2) (.int .i64 k) rfl (by kernel_rfl) (by kernel_rfl) (by kernel_rfl) (fun _ _ _ h => h) (fun _ _ => rfl) ⟨HM.out.1.drew, HM.out.2.1.drew⟩ ?_
        simp only [Act.put, List.setIfInBounds_toArray, List.set_cons_zero, List.set_cons_succ]
        refine held_pure (i := 3) (.pointer (some ⟨b, off + k, none⟩)) rfl (by kernel_rfl) (by kernel_rfl) (by kernel_rfl) (fun _ _ _ h => h) (fun _ _ => by go_simp) ⟨HM.out.1.drew, HM.out.2.1.drew⟩ ?_
        simp only [Act.put, List.setIfInBounds_toArray, List.set_cons_zero, List.set_cons_succ]
        refine held_pure (i := 4) (.int .u8 (B xa)) rfl (by kernel_rfl) (by kernel_rfl) (by kernel_rfl) (fun _ _ _ h => h) (fun w' h => by have c1 := CA.out w' h.1; go_simp) ⟨HM.out.1.drew, HM.out.2.1.drew⟩ ?_
        simp only [Act.put, List.setIfInBounds_toArray, List.set_cons_zero, List.set_cons_succ]
        refine held_pure (i := 5) (.slice (some ⟨gx, 0, none⟩) 64 cx) rfl (by kernel_rfl) (by kernel_rfl) (by kernel_rfl) (fun _ _ _ h => h) (fun _ _ => rfl) ⟨HM.out.1.drew, HM.out.2.1.drew⟩ ?_
        simp only [Act.put, List.setIfInBounds_toArray, List.set_cons_zero, List.set_cons_succ]
        refine held_pure (i := 6) (.int .i64 k) rfl (by kernel_rfl) (by kernel_rfl) (by kernel_rfl) (fun _ _ _ h => h) (fun _ _ => rfl) ⟨HM.out.1.drew, HM.out.2.1.drew⟩ ?_
        simp only [Act.put, List.setIfInBounds_toArray, List.set_cons_zero, List.set_cons_succ]
        refine held_pure (i := 7) (.int .i64 ((k : Int) % 64)) rfl (by kernel_rfl) (by kernel_rfl) (by kernel_rfl) (fun _ _ _ h => h) (fun _ _ => by go_simp) ⟨HM.out.1.drew, HM.out.2.1.drew⟩ ?_
        simp only [Act.put, List.setIfInBounds_toArray, List.set_cons_zero, List.set_cons_succ]
        refine held_pure (i := 8) (.pointer (some ⟨gx, k % 64, none⟩)) rfl (by kernel_rfl) (by kernel_rfl) (by kernel_rfl) (fun _ _ _ h => h) (fun _ _ => by go_simp) ⟨HM.out.1.drew, HM.out.2.1.drew⟩ ?_
        simp only [Act.put, List.setIfInBounds_toArray, List.set_cons_zero, List.set_cons_succ]
        refine held_pure (i := 9) (.int .u8 (B xb)) rfl (by kernel_rfl) (by kernel_rfl) (by kernel_rfl) (fun _ _ _ h => h) (fun w' h => by have c2 := CX.out w' h.2; go_simp) ⟨HM.out.1.drew, HM.out.2.1.drew⟩ ?_
        simp only [Act.put, List.setIfInBounds_toArray, List.set_cons_zero, List.set_cons_succ]
        refine held_pure (i := 10) (.int .u8 (B y)) rfl (by kernel_rfl) (by kernel_rfl) (by kernel_rfl) (fun _ _ _ h => h) (fun _ _ => by go_simp) ⟨HM.out.1.drew, HM.out.2.1.drew⟩ ?_
        simp only [Act.put, List.setIfInBounds_toArray, List.set_cons_zero, List.set_cons_succ]
        refine held_step (i := 11) rfl (by kernel_rfl) (fun K' hK => ?_)
        go_wp2
        have HO2 := Lib.hid (⟨(HM.out.1.alloc HM.out.1.size (.cells #[Y y] 5)).drew, (HM.out.2.1.alloc (.cells #[Y y] 5)).drew, (HM.out.2.2.2.alloc (.cells #[Y y] 5)).drew⟩ : _ ∧ _ ∧ _)
        have HR2 := Lib.hid (show Rd (wr.alloc (.cells #[Y y] 5)).drew (some ⟨wr.heap.size, 0, none⟩) [y] from (Rd.block (xs := [y]) (Blk.new wr 5 [Y y])).drew)
        refine hK.out _ _ ⟨HO2.out.1, HO2.out.2.1⟩ ?_
        clear hK K'
        try simp only [Act.put, List.setIfInBounds_toArray, List.set_cons_zero, List.set_cons_succ]
        refine held_step (i := 12) rfl (by kernel_rfl) (fun K' hK => ?_)
        refine wp_app26 (.tmp 31) (.tmp 42) rfl wb.heap.size u8 ((streamS K N xs).take k) (some ⟨wr.heap.size, 0, none⟩) 1 1 [y] rfl rfl HO2.out.2.2 HR2.out rfl (by rw [List.length_take]; omega) HO2.out.1.size ?_
        intro v' w' hown' hg' hat'
        rw [HYY.out] at hown'
        refine hK.out _ _ ⟨below_app HO2.out.1 HO2.out.1.size HO2.out.2.2 (Nat.le_refl _) hg', HO2.out.2.1.kept hg' (.inr HM.out.2.2.1)⟩ ?_
        clear hK K'
        try simp only [Act.put, List.setIfInBounds_toArray, List.set_cons_zero, List.set_cons_succ]
        refine held_pure (i := 13) v' rfl (by kernel_rfl) (by kernel_rfl) (by kernel_rfl) (fun _ _ _ h => h) (fun _ _ => rfl) ⟨below_app HO2.out.1 HO2.out.1.size HO2.out.2.2 (Nat.le_refl _) hg', HO2.out.2.1.kept hg' (.inr HM.out.2.2.1)⟩ ?_
        simp only [Act.put, List.setIfInBounds_toArray, List.set_cons_zero, List.set_cons_succ]
        refine wpAnyH_done (by kernel_rfl) ?_ _
        go_wp2
        exact ⟨⟨k + 1, by omega, by go_num, In18.next (w := wr) HM.out.1 HM.out.2.1 HM.out.2.2.1 HM.out.2.2.2 (by have := HR.out.2; omega) hown' ⟨hg'.os, hg'.tape, hg'.output, hg'.size, hg'.block⟩ hat'⟩, by simp [intOf]; omega⟩

    · obtain rfl : k = n := by omega
      have HI := Lib.hid hm
      have HX2 := Lib.hid (HX.out.kept hm.old)
      clear hm
      go_wp2
      go_ret2
      refine ⟨_, rfl, ?_, HX2.out.old⟩
      have := HI.out.res
      rw [List.take_of_length_le (by rw [length_streamS, HR.out.2]; omega)] at this
      exact this.mono hsw

set_option maxHeartbeats 1000000 in
theorem Stream18_no (K N : List (BitVec 8)) (A : Option Addr) (n c : Nat) (w : World) (hsz : 65536 < n) :
    Calls Tryd.prog 18 #[.agg (K.map Y).toArray, .agg (N.map Y).toArray, .slice A n c] w fun e w' => e = .returned (.tuple #[.slice none 0 0, .int .i64 60]) ∧ Below w.heap.size w w' := by
  have b2 := boxB w K N
  have i1 : (65536 : Int) < (n : Int) := by omega
  go_enter Tryd.func18, Tryd.ntmps18
  go_wp2
  go_ret2
  exact ⟨rfl, b2⟩
end Go.Proofs.YtbmjjmianhjfiaaDoor
